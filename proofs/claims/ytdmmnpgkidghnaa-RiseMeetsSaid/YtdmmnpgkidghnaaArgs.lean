/-
  Slices of plain structs that come in as arguments: their elements, as the evaluator sees them. No condition.
-/
import Derived.Test.YtdmmnpgkidghnaaBase
import Derived.ChangeArms
import Derived.ChangeShapes
namespace Go.Ev
open Go Go.RowKit

/-- The kinds of the cells of a plain type. -/
def kindFs (g : TypeId → Option (List D)) (sz : TypeId → Nat) : List Field → Nat → Option (List D)
  | [], _ => some []
  | f :: r, o => match g f.type, kindFs g sz r (o + sz f.type) with
    | some a, some b => bif (f.offset == o) && (a.length == sz f.type) then some (a ++ b) else none
    | _, _ => none

def kindD (P : Program) : Nat → TypeId → Option (List D)
  | 0, _ => none
  | n + 1, t => match P.underlying t with
    | some (.int k) => some [.int k 0]
    | some .bool => some [.bool false]
    | some .string => some [.str ByteArray.empty]
    | some (.struct fs) => kindFs (kindD P n) P.cellsOf fs.toList 0
    | _ => none

theorem FitsR.append : ∀ {ks l ks' l' : List D}, FitsR ks l → FitsR ks' l' → FitsR (ks ++ ks') (l ++ l')
  | [], [], _, _, _, h => h
  | _ :: _, _ :: _, _, _, ⟨h1, h2⟩, h => ⟨h1, h2.append h⟩
  | [], _ :: _, _, _, h, _ => h.elim
  | _ :: _, [], _, _, h, _ => h.elim

theorem FitsR.length : ∀ {ks l : List D}, FitsR ks l → l.length = ks.length
  | [], [], _ => rfl
  | _ :: _, _ :: _, ⟨_, h2⟩ => by simp [h2.length]
  | [], _ :: _, h => h.elim
  | _ :: _, [], h => h.elim

section
variable {H : Type} {enc : TypeId × Value → H} {P : Program} {w : World} {base : Nat} {spare : Nat → Bool} {held : Bool}

theorem fields_fit {g : TypeId → Option (List D)} {cs : List Value} {tr : TypeId → List Value → Prop} (hg : ∀ t ks cs, g t = some ks → ks.length = P.cellsOf t → tr t cs → ∃ l, cs = l.map D.val ∧ FitsR ks l) :
    ∀ {fs : List Field} {o : Nat} {ks : List D}, kindFs g P.cellsOf fs o = some ks → cs.length = o + ks.length → (∀ f ∈ fs, tr f.type ((cs.drop f.offset).take (P.cellsOf f.type))) → ∃ l, cs.drop o = l.map D.val ∧ FitsR ks l
  | [], o, ks, h, hl, _ => by
    simp only [kindFs, Option.some.injEq] at h
    subst h
    exact ⟨[], List.drop_eq_nil_of_le (by simp at hl; omega), trivial⟩
  | f :: r, o, ks, h, hl, hf => by
    simp only [kindFs] at h
    split at h
    · rename_i a b ha hb
      simp only [cond_eq_ite, Bool.and_eq_true, beq_iff_eq] at h
      split at h
      · rename_i hc
        cases h
        rw [List.length_append] at hl
        obtain ⟨l1, e1, f1⟩ := hg _ _ _ ha hc.2 (hf f (by simp))
        obtain ⟨l2, e2, f2⟩ := fields_fit hg hb (by omega) fun f' hf' => hf f' (by simp [hf'])
        refine ⟨l1 ++ l2, ?_, f1.append f2⟩
        rw [List.map_append, ← e1, ← e2, hc.1, ← List.drop_drop, List.take_append_drop]
      · cases h
    · cases h

theorem trod_fits : ∀ {n : Nat} {t : TypeId} {ks : List D} {m : Nat} {cs : List Value} {x : DataW H × List MemPlace}, kindD P n t = some ks → ks.length = P.cellsOf t → DataW.trod enc P w base spare held m t cs = some x → ∃ l, cs = l.map D.val ∧ FitsR ks l
  | 0, _, _, _, _, _, h, _, _ => by cases h
  | n + 1, t, ks, m, cs, x, h, hks, hx => by
    simp only [kindD] at h
    split at h
    · rename_i k hu
      cases h
      obtain ⟨v, rfl, _, hv⟩ := DataW.trod_int hu hx
      exact ⟨[.int k v], rfl, ⟨rfl, by simpa [Lit.wf, IntKind.has] using hv⟩, trivial⟩
    · rename_i hu
      cases h
      obtain ⟨b, rfl, _⟩ := DataW.trod_bool hu hx
      exact ⟨[.bool b], rfl, trivial, trivial⟩
    · rename_i hu
      cases h
      obtain ⟨s, rfl, _, hs⟩ := DataW.trod_string hu hx
      exact ⟨[.str s], rfl, hs, trivial⟩
    · rename_i fs hu
      obtain ⟨xs, m', _, _, hlen, hsz, hf⟩ := DataW.trod_struct hu hx
      have hall : ∀ f ∈ fs.toList, ∃ x, DataW.trod enc P w base spare held m' f.type ((cs.drop f.offset).take (P.cellsOf f.type)) = some x := by
        intro f hf'
        obtain ⟨i, hi, he⟩ := List.mem_iff_getElem.1 hf'
        have h1 := hf i f (by rw [← Array.getElem?_toList, List.getElem?_eq_getElem hi, he])
        have h2 : i < xs.length := by rw [hsz]; simpa using hi
        exact ⟨xs[i], by rw [h1, List.getElem?_eq_getElem h2]⟩
      obtain ⟨l, e, f⟩ := fields_fit (P := P) (cs := cs) (tr := fun t cs => ∃ x, DataW.trod enc P w base spare held m' t cs = some x)
        (fun t ks cs hk hlt ⟨x, hx⟩ => trod_fits hk hlt hx) h (by omega) hall
      exact ⟨l, by simpa using e, f⟩
    · cases h

/-- The elements of kind τ from fitting cells. -/
def ET.zc (τ : ET) : List D := τ.cells τ.z

theorem fits_cell {z : D} {zs l : List D} (h : FitsR (z :: zs) l) : ∃ x r, l = x :: r ∧ DR z x ∧ FitsR zs r := by
  cases l with
  | nil => exact h.elim
  | cons x r => exact ⟨x, r, rfl, h.1, h.2⟩

theorem fits_int' {k : IntKind} {z : Int} {x : D} (h : DR (.int k z) x) : ∃ n, x = .int k n := by
  cases x with
  | int k' n => exact ⟨n, by rw [h.1]⟩
  | bool _ => exact h.elim
  | str _ => exact h.elim

theorem fits_str' {z : ByteArray} {x : D} (h : DR (.str z) x) : ∃ n, x = .str n := by
  cases x with
  | int _ _ => exact h.elim
  | bool _ => exact h.elim
  | str n => exact ⟨n, rfl⟩

theorem fitsR_nil {l : List D} (h : FitsR [] l) : l = [] := by cases l with | nil => rfl | cons _ _ => exact h.elim

theorem of_win_fits {l : List D} (h : FitsR (ET.zc .win) l) : ∃ x, ET.cells .win x = l := by
  obtain ⟨_, _, rfl, h0, g0⟩ := fits_cell h
  obtain ⟨_, _, rfl, h1, g1⟩ := fits_cell g0
  obtain ⟨a, rfl⟩ := fits_int' h0
  obtain ⟨b, rfl⟩ := fits_int' h1
  obtain rfl := fitsR_nil g1
  exact ⟨(⟨a, b⟩ : Window), rfl⟩

theorem of_frac_fits {l : List D} (h : FitsR (ET.zc .frac) l) : ∃ x, ET.cells .frac x = l := by
  obtain ⟨_, _, rfl, h0, g0⟩ := fits_cell h
  obtain ⟨_, _, rfl, h1, g1⟩ := fits_cell g0
  obtain ⟨a, rfl⟩ := fits_int' h0
  obtain ⟨b, rfl⟩ := fits_int' h1
  obtain rfl := fitsR_nil g1
  exact ⟨(⟨a, b⟩ : Frac), rfl⟩

theorem of_site_fits {l : List D} (h : FitsR (ET.zc .site) l) : ∃ x, ET.cells .site x = l := by
  obtain ⟨_, _, rfl, h0, g0⟩ := fits_cell h
  obtain ⟨_, _, rfl, h1, g1⟩ := fits_cell g0
  obtain ⟨_, _, rfl, h2, g2⟩ := fits_cell g1
  obtain ⟨_, _, rfl, h3, g3⟩ := fits_cell g2
  obtain ⟨_, _, rfl, h4, g4⟩ := fits_cell g3
  obtain ⟨a, rfl⟩ := fits_str' h0
  obtain ⟨b, rfl⟩ := fits_int' h1
  obtain ⟨c, rfl⟩ := fits_int' h2
  obtain ⟨d, rfl⟩ := fits_int' h3
  obtain ⟨e, rfl⟩ := fits_int' h4
  obtain rfl := fitsR_nil g4
  exact ⟨(⟨a, ⟨b, c⟩, ⟨d, e⟩⟩ : Site), rfl⟩

theorem flat_cells {τ : ET} {b : Nat} : ∀ {xs : List τ.T} {o : Nat}, (∀ i j d, i < xs.length → (τ.cells (xs.getD i τ.z))[j]? = some d → w.cell? ⟨b, o + i * τ.len + j, none⟩ = some d.val) →
    ∀ j d, (τ.flat xs)[j]? = some d → w.cell? ⟨b, o + j, none⟩ = some d.val
  | [], _, _, j, d, h => by simp [ET.flat] at h
  | x :: r, o, hx, j, d, h => by
    rw [ET.flat] at h
    by_cases hj : j < (τ.cells x).length
    · rw [List.getElem?_append_left hj] at h
      have := hx 0 j d (by simp) h
      simpa using this
    · rw [List.getElem?_append_right (by omega)] at h
      rw [cells_len] at h hj
      have step : ∀ i j d, i < r.length → (τ.cells (r.getD i τ.z))[j]? = some d → w.cell? ⟨b, o + τ.len + i * τ.len + j, none⟩ = some d.val := by
        intro i j d hi hd
        have := hx (i + 1) j d (by simpa using hi) hd
        rw [Nat.succ_mul] at this
        rw [← this]
        congr 2
        omega
      have := flat_cells step (j - τ.len) d h
      rw [show o + j = o + τ.len + (j - τ.len) by omega]
      exact this

/-- What an array of elements that came in says: it is nothing, or it lies somewhere; its cells. -/
structure InArr (w : World) (τ : ET) (v : Value) (xs : List τ.T) (L : Loc) : Prop where
  own : L.own = false
  n : L.n = xs.length
  es : L.es = τ.len
  val : (xs.length = 0 ∧ v = .slice none 0 0) ∨ ∃ cap, v = .slice (some ⟨L.blk, L.off, none⟩) xs.length cap ∧ xs.length ≤ cap ∧ xs.length ≤ maxLen
  ok : ∀ d ∈ τ.flat xs, d.ok
  cell : ∀ j d, (τ.flat xs)[j]? = some d → w.cell? ⟨L.blk, L.off + j, none⟩ = some d.val

theorem arg_slice {τ : ET} {t e : TypeId} {v : Value} {d : DataW H} {p : List MemPlace} {b' : Nat} (hu : P.underlying t = some (.slice e)) (hsz : P.cellsOf e = τ.len) (hsh : kindD P 5 e = some τ.zc) (hof : ∀ {l : List D}, FitsR τ.zc l → ∃ x, τ.cells x = l)
    (hv : Value.okWide P w .any b' t v) (h : DataW.Trod enc P w base spare held t v d p) : ∃ xs L, InArr w τ v xs L := by
  obtain ⟨m, hm⟩ := h
  have hone : v.cells.toList = [v] := by
    have : Cell.okWide P w .any b' t v := arg_cell (by unfold aggD; rw [hu]) hv
    unfold Cell.okWide at this
    rw [hu] at this
    simp only at this
    unfold Cell.ok at this
    rw [hu] at this
    cases v <;> first | rfl | exact this.elim
  rw [hone] at hm
  rcases DataW.trod_slice hu hm with ⟨e1, _⟩ | ⟨a, len, cap, elems, rest, n, _, e1, _, _, hle, hcap, hel, helem, _⟩
  · cases e1
    exact ⟨[], ⟨0, 0, 0, false, 0, τ.len⟩, ⟨rfl, rfl, rfl, .inl ⟨rfl, rfl⟩, by simp [ET.flat], fun j d hj => by simp [ET.flat] at hj⟩⟩
  · cases e1
    have hspot : a.spot = none := by
      have : Cell.okWide P w .any b' t (.slice (some a) len cap) := arg_cell (by unfold aggD; rw [hu]) hv
      unfold Cell.okWide at this
      rw [hu] at this
      simp only at this
      unfold Cell.ok at this
      rw [hu] at this
      exact this.2.2.2.1
    obtain ⟨blk, off, spot⟩ := a
    cases hspot
    -- element by element
    have one : ∀ i, i < len → ∃ x : τ.T, (∀ dd ∈ τ.cells x, dd.ok) ∧ ∀ j dd, (τ.cells x)[j]? = some dd → w.cell? ⟨blk, off + i * τ.len + j, none⟩ = some dd.val := by
      intro i hi
      have h1 := helem i hi
      rw [List.getElem?_eq_getElem (by omega : i < elems.length)] at h1
      obtain ⟨cs, h2, h3⟩ := Option.bind_eq_some_iff.1 h1
      obtain ⟨l, rfl, hf⟩ := trod_fits hsh (by rw [hsz]; exact cells_len τ _) h3
      obtain ⟨x, rfl⟩ := hof hf
      refine ⟨x, hf.ok, fun j dd hj => ?_⟩
      unfold World.cells? at h2
      split at h2
      · have hjl : j < P.cellsOf e := by rw [hsz, ← cells_len τ x]; exact (List.getElem?_eq_some_iff.1 hj).1
        have := mapM_some_get h2 j j (by simp [hjl])
        rw [List.getElem?_map, hj] at this
        simp only [Option.map_some] at this
        rw [← this]
        rw [hsz]
        congr 1
        unfold Addr.add
        split <;> split <;> simp_all <;> omega
      · cases h2
    have all : ∀ k, k ≤ len → ∃ xs : List τ.T, xs.length = k ∧ (∀ dd ∈ τ.flat xs, dd.ok) ∧ ∀ i j dd, i < k → (τ.cells (xs.getD i τ.z))[j]? = some dd → w.cell? ⟨blk, off + i * τ.len + j, none⟩ = some dd.val := by
      intro k
      induction k with
      | zero => intro _; exact ⟨[], rfl, by simp [ET.flat], fun i _ _ hi => by omega⟩
      | succ k ih =>
        intro hk
        obtain ⟨xs, h1, h2, h3⟩ := ih (by omega)
        obtain ⟨x, h4, h5⟩ := one k (by omega)
        have hfa : ∀ ys : List τ.T, τ.flat (ys ++ [x]) = τ.flat ys ++ τ.cells x := by
          intro ys
          induction ys with
          | nil => simp [ET.flat]
          | cons y r ih => simp only [List.cons_append, ET.flat, ih, List.append_assoc]
        refine ⟨xs ++ [x], by simp [h1], ?_, fun i j dd hi hd => ?_⟩
        · rw [hfa]
          intro dd hd
          rcases List.mem_append.1 hd with hd | hd
          · exact h2 dd hd
          · exact h4 dd hd
        · by_cases hik : i < k
          · refine h3 i j dd hik ?_
            rw [List.getD_eq_getElem?_getD] at hd ⊢
            rw [List.getElem?_append_left (by omega)] at hd
            exact hd
          · obtain rfl : i = k := by omega
            rw [List.getD_eq_getElem?_getD, List.getElem?_append_right (by omega), h1, Nat.sub_self] at hd
            exact h5 j dd hd
    obtain ⟨xs, h1, h2, h3⟩ := all len (Nat.le_refl _)
    refine ⟨xs, ⟨blk, off, 0, false, xs.length, τ.len⟩, ⟨rfl, rfl, rfl, .inr ⟨cap, by rw [h1], by omega, by omega⟩, h2, ?_⟩⟩
    exact flat_cells fun i j dd hi => h3 i j dd (by omega)

end

/-! ### The blocks of a law's arguments -/

def sgOf (Ls : List Loc) : Sg := fun b => Ls[b]?

def Ros (w : World) : List Loc → List Blk → Prop
  | [], [] => True
  | L :: r, .arr none τ xs :: s => (L.own = false ∧ L.n = xs.length ∧ L.es = τ.len ∧ (∀ d ∈ τ.flat xs, d.ok) ∧ ∀ j d, (τ.flat xs)[j]? = some d → w.cell? ⟨L.blk, L.off + j, none⟩ = some d.val) ∧ Ros w r s
  | _, _ => False

theorem Ros.get {w : World} : ∀ {Ls : List Loc} {bs : List Blk}, Ros w Ls bs → ∀ b, mget bs b = .dead ∨ ∃ (L : Loc) (τ : ET) (xs : List τ.T), Ls[b]? = some L ∧ mget bs b = .arr none τ xs ∧ L.own = false ∧ L.n = xs.length ∧ L.es = τ.len ∧ (∀ d ∈ τ.flat xs, d.ok) ∧ ∀ j d, (τ.flat xs)[j]? = some d → w.cell? ⟨L.blk, L.off + j, none⟩ = some d.val
  | [], [], _, b => .inl rfl
  | L :: r, .arr none τ xs :: s, h, 0 => .inr ⟨L, τ, xs, rfl, rfl, h.1⟩
  | L :: r, .arr none τ xs :: s, h, b + 1 => Ros.get h.2 b
  | [], _ :: _, h, _ => h.elim
  | _ :: _, [], h, _ => h.elim
  | _ :: _, .dead :: _, h, _ => h.elim
  | _ :: _, .ro _ :: _, h, _ => h.elim
  | _ :: _, .rw _ _ :: _, h, _ => h.elim
  | _ :: _, .arr (some _) _ _ :: _, h, _ => h.elim
  | _ :: _, .cell _ _ :: _, h, _ => h.elim

theorem Ros.still {w : World} {Ls : List Loc} {bs : List Blk} (h : Ros w Ls bs) (b : Nat) : (mget bs b).wr = false := by
  rcases h.get b with e | ⟨L, τ, xs, _, e, _⟩ <;> rw [e]
  · rfl
  · cases xs <;> rfl

theorem MRel.ros {w : World} {Ls : List Loc} {bs : List Blk} (h : Ros w Ls bs) : MRel w (Wof (sgOf Ls) bs) (sgOf Ls) bs w := by
  refine ⟨fun b => ?_, fun b _ _ _ _ hb => ?_, fun b _ hb => ?_, Kept.refl _ _⟩
  · rcases h.get b with e | ⟨L, τ, xs, h1, e, h2, h3, h4, h5, h6⟩
    · rw [e]; trivial
    · rw [e]; exact ⟨L, h1, h3, h4, h5, h2, h6⟩
  · rw [h.still b] at hb; cases hb
  · rw [h.still b] at hb; cases hb

theorem InArr.rel {w : World} {τ : ET} {v : Value} {xs : List τ.T} {L : Loc} (h : InArr w τ v xs L) {Ls : List Loc} {b : Nat} (hb : Ls[b]? = some L) : AVRel (sgOf Ls) (.v (.c (.aslice b none))) v := by
  refine ⟨L, hb, ?_⟩
  rcases h.val with ⟨h1, h2⟩ | ⟨cap, h1, h2, h3⟩
  · exact .inl ⟨h.n.trans h1, h2⟩
  · refine .inr ⟨cap, by rw [h.n]; exact h1, by rw [h.n]; exact h2, by rw [h.n]; exact h3, fun ho => by rw [h.own] at ho; cases ho⟩

theorem InArr.len {w : World} {τ : ET} {v : Value} {xs : List τ.T} {L : Loc} (h : InArr w τ v xs L) : xs.length ≤ maxLen := by
  rcases h.val with ⟨h1, _⟩ | ⟨_, _, _, h3⟩
  · omega
  · exact h3

theorem InArr.ro {w : World} {τ : ET} {v : Value} {xs : List τ.T} {L : Loc} (h : InArr w τ v xs L) {Ls : List Loc} {bs : List Blk} (hr : Ros w Ls bs) : Ros w (L :: Ls) (.arr none τ xs :: bs) :=
  ⟨⟨h.own, h.n, h.es, h.ok, h.cell⟩, hr⟩

end Go.Ev
