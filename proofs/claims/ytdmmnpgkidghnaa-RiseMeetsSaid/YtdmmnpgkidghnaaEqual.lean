/-
  Equality of structs and arrays of plain data is equality of all cells, by the type's shape. No condition.
-/
import Derived.Test.YtdmmnpgkidghnaaBase
namespace Go.Ev
open Go

section
variable (P : Program)

mutual
/-- The cells of a type of plain data whose parts lie one behind the other. -/
def shapeD : Nat → TypeId → Option (List D)
  | 0, _ => none
  | d + 1, t => match P.underlying t with
    | some .bool => some [.bool false]
    | some (.int k) => some [.int k 0]
    | some .string => some [.str ByteArray.empty]
    | some (.struct fs) => bif P.stoodInHeld t then none else shapeFs d fs.toList 0
    | some (.array n e) => match shapeD d e, sizeD P e, aggD P e with
      | some l, some s, some g => bif (l.length == s) && (g || s == 1) then some (List.replicate n l).flatten else none
      | _, _, _ => none
    | _ => none
def shapeFs : Nat → List Field → Nat → Option (List D)
  | _, [], _ => some []
  | 0, _ :: _, _ => none
  | d + 1, f :: r, off => match shapeD d f.type, sizeD P f.type, aggD P f.type, shapeFs d r (off + (match sizeD P f.type with | some s => s | none => 0)) with
    | some l, some s, some g, some l' => bif decide (f.name ≠ "_") && ((f.offset == off) && ((l.length == s) && (g || s == 1))) then some (l ++ l') else none
    | _, _, _, _ => none
end
end

def valT (P : Program) (t : TypeId) (a : List D) : Value :=
  match aggD P t with
  | some true => .agg (a.map D.val).toArray
  | _ => match a with
    | x :: _ => x.val
    | [] => .bool false

theorem eqAll_append : ∀ {a a' b b' : List D}, a.length = a'.length → eqAll (a ++ b) (a' ++ b') = (eqAll a a' && eqAll b b')
  | [], [], _, _, _ => by simp [eqAll]
  | [], _ :: _, _, _, h => by cases h
  | _ :: _, [], _, _, h => by cases h
  | x :: a, y :: a', b, b', h => by
    simp only [List.cons_append, eqAll]
    rw [eqAll_append (by simpa using h), Bool.and_assoc]

theorem fitsTo_len : ∀ {z a : List D}, fitsTo z a = true → a.length = z.length
  | [], [], _ => rfl
  | [], _ :: _, h => by cases h
  | _ :: _, [], h => by cases h
  | _ :: z, _ :: a, h => by
    simp only [fitsTo, Bool.and_eq_true] at h
    simp [fitsTo_len h.2]

theorem fitsTo_append : ∀ {z z' a : List D}, fitsTo (z ++ z') a = true → fitsTo z (a.take z.length) = true ∧ fitsTo z' (a.drop z.length) = true
  | [], _, a, h => by simpa [fitsTo] using h
  | _ :: z, z', [], h => by cases h
  | x :: z, z', y :: a, h => by
    simp only [List.cons_append, fitsTo, Bool.and_eq_true] at h
    have := fitsTo_append h.2
    simp only [List.length_cons, List.take_succ_cons, List.drop_succ_cons, fitsTo, Bool.and_eq_true]
    exact ⟨⟨h.1, this.1⟩, this.2⟩

section
variable {P : Program}

theorem part_valT {t : TypeId} {s : Nat} {g : Bool} (hs : sizeD P t = some s) (hg : aggD P t = some g) (h1 : (g || s == 1) = true) {a : List D} {off : Nat} (hl : off + s ≤ a.length) (w : World) :
    (part t (a.map D.val).toArray off).run P w = .ok (valT P t ((a.drop off).take s)) w := by
  cases g with
  | true =>
    simp only [part, Sem.run_bind, isAgg_run hg, Result.andThen_ok, sizeOf_run hs, if_true, Sem.run_pure, valT, hg]
    congr 2
    apply Array.ext'
    simp only [Array.toList_extract, List.map_take, List.map_drop]
    simp
  | false =>
    simp only [Bool.false_or, beq_iff_eq] at h1
    subst h1
    have hlt : off < a.length := by omega
    have hd : a.drop off = a[off] :: a.drop (off + 1) := List.drop_eq_getElem_cons hlt
    simp only [part, Sem.run_bind, isAgg_run hg, Result.andThen_ok, valT, hg, hd, List.take_succ_cons]
    simp [List.getElem?_eq_getElem hlt]

theorem run_forIn_all {α : Type} (w : World) (f : α → Option Bool × Unit → Sem (ForInStep (Option Bool × Unit))) (q : α → Bool) : ∀ (L : List α), (∀ x ∈ L, (f x (none, ())).run P w = .ok (bif q x then .yield (none, ()) else .done (some false, ())) w) →
    (forIn L (none, ()) f).run P w = .ok (bif L.all q then (none, ()) else (some false, ())) w
  | [], _ => by simp
  | x :: L, h => by
    rw [List.forIn_cons, Sem.run_bind, h x (by simp), Result.andThen_ok]
    cases hq : q x with
    | true =>
      simp only [cond_true, List.all_cons, hq, Bool.true_and]
      exact run_forIn_all w f q L fun y hy => h y (by simp [hy])
    | false => simp [hq]

theorem all_fields {d : Nat} : ∀ {fs : List Field} {off : Nat} {z : List D}, shapeFs P d fs off = some z → ∀ {a b : List D}, fitsTo z (a.drop off) = true → fitsTo z (b.drop off) = true →
    (fs.all fun f => eqAll ((a.drop f.offset).take (match sizeD P f.type with | some s => s | none => 0)) ((b.drop f.offset).take (match sizeD P f.type with | some s => s | none => 0))) = eqAll (a.drop off) (b.drop off)
  | [], off, z, h, a, b, ha, hb => by
    simp only [shapeFs, Option.some.injEq] at h
    subst h
    rw [fits_nil ha, fits_nil hb]
    rfl
  | f :: r, off, z, h, a, b, ha, hb => by
    cases d with
    | zero => simp [shapeFs] at h
    | succ d =>
      rw [shapeFs] at h
      split at h
      · rename_i l s g l' hl hs hg hl'
        simp only [cond_eq_ite, Bool.and_eq_true, decide_eq_true_eq, beq_iff_eq] at h
        split at h
        · rename_i hc
          cases h
          obtain ⟨_, ho, hls, _⟩ := hc
          rw [hs] at hl'
          simp only at hl'
          obtain ⟨ha1, ha2⟩ := fitsTo_append ha
          obtain ⟨hb1, hb2⟩ := fitsTo_append hb
          rw [List.drop_drop, hls] at ha2 hb2
          have ih := all_fields hl' ha2 hb2
          rw [List.all_cons, ih]
          simp only [hs, ho]
          have e1 := fitsTo_len ha1
          have e2 := fitsTo_len hb1
          rw [hls] at e1 e2
          conv => rhs; rw [← List.take_append_drop s (a.drop off), ← List.take_append_drop s (b.drop off)]
          rw [eqAll_append (by omega), List.drop_drop, List.drop_drop]
        · cases h
      · cases h

theorem all_parts {l : List D} {s : Nat} (hl : l.length = s) : ∀ {n k : Nat} {a b : List D}, fitsTo (List.replicate n l).flatten (a.drop (k * s)) = true → fitsTo (List.replicate n l).flatten (b.drop (k * s)) = true →
    ((List.range' k n).all fun i => eqAll ((a.drop (i * s)).take s) ((b.drop (i * s)).take s)) = eqAll (a.drop (k * s)) (b.drop (k * s))
  | 0, k, a, b, ha, hb => by
    rw [fits_nil ha, fits_nil hb]
    rfl
  | n + 1, k, a, b, ha, hb => by
    rw [List.replicate_succ, List.flatten_cons] at ha hb
    obtain ⟨ha1, ha2⟩ := fitsTo_append ha
    obtain ⟨hb1, hb2⟩ := fitsTo_append hb
    rw [List.drop_drop, hl, show k * s + s = (k + 1) * s by rw [Nat.add_mul]; omega] at ha2 hb2
    have ih := all_parts hl ha2 hb2
    rw [List.range'_succ, List.all_cons, ih]
    have e1 := fitsTo_len ha1
    have e2 := fitsTo_len hb1
    rw [hl] at e1 e2
    conv => rhs; rw [← List.take_append_drop s (a.drop (k * s)), ← List.take_append_drop s (b.drop (k * s))]
    rw [eqAll_append (by omega), List.drop_drop, List.drop_drop, show k * s + s = (k + 1) * s by rw [Nat.add_mul]; omega]

theorem field_shape {d : Nat} : ∀ {fs : List Field} {off : Nat} {z : List D}, shapeFs P d fs off = some z → ∀ f ∈ fs, f.name ≠ "_" ∧ ∃ l s g d', d' < d ∧ shapeD P d' f.type = some l ∧ sizeD P f.type = some s ∧ aggD P f.type = some g ∧ (g || s == 1) = true ∧ l.length = s ∧
    (∀ a : List D, off ≤ a.length → fitsTo z (a.drop off) = true → f.offset + s ≤ a.length ∧ fitsTo l ((a.drop f.offset).take s) = true)
  | [], _, _, _, _, hf => by cases hf
  | f :: r, off, z, h, f', hf => by
    cases d with
    | zero => simp [shapeFs] at h
    | succ d =>
      rw [shapeFs] at h
      split at h
      · rename_i l s g l' hl hs hg hl'
        simp only [cond_eq_ite, Bool.and_eq_true, decide_eq_true_eq, beq_iff_eq] at h
        split at h
        · rename_i hc
          cases h
          obtain ⟨hn, ho, hls, hg1⟩ := hc
          rw [hs] at hl'
          simp only at hl'
          rcases List.mem_cons.1 hf with rfl | hf
          · refine ⟨hn, l, s, g, d, by omega, hl, hs, hg, hg1, hls, fun a hle ha => ?_⟩
            obtain ⟨ha1, ha2⟩ := fitsTo_append ha
            have e1 := fitsTo_len ha
            rw [hls] at ha1
            rw [List.length_append, List.length_drop] at e1
            exact ⟨by omega, by rw [ho]; exact ha1⟩
          · obtain ⟨h1, l2, s2, g2, d2, h2, h3, h4, h5, h6, h7, h8⟩ := field_shape hl' f' hf
            refine ⟨h1, l2, s2, g2, d2, by omega, h3, h4, h5, h6, h7, fun a hle ha => h8 a ?_ ?_⟩
            · have e1 := fitsTo_len ha
              rw [List.length_append, List.length_drop] at e1
              omega
            · have := (fitsTo_append ha).2
              rw [List.drop_drop, hls] at this
              exact this
        · cases h
      · cases h

theorem valT_agg {t : TypeId} (h : aggD P t = some true) (a : List D) : valT P t a = .agg (a.map D.val).toArray := by simp [valT, h]
theorem valT_one {t : TypeId} (h : aggD P t = some false) (x : D) : valT P t [x] = x.val := by simp [valT, h]

theorem same_bool {m : Bool} {x : D} (h : D.same (.bool m) x = true) : ∃ n, x = .bool n := by
  cases x with
  | bool n => exact ⟨n, rfl⟩
  | int _ _ => cases h
  | str _ => cases h

theorem same_str {m : ByteArray} {x : D} (h : D.same (.str m) x = true) : ∃ n, x = .str n := by
  cases x with
  | str n => exact ⟨n, rfl⟩
  | int _ _ => cases h
  | bool _ => cases h

theorem bytes_beq (a b : ByteArray) : (a == b) = (a.data.toList == b.data.toList) := by
  cases a with | mk x => cases b with | mk y =>
  cases x with | mk x => cases y with | mk y =>
  show (Array.mk x == Array.mk y) = (x == y)
  simp

theorem equalIn_shape : ∀ (d : Nat) {t : TypeId} {z : List D}, shapeD P d t = some z → ∀ {n : Nat}, d ≤ n → ∀ {a b : List D}, fitsTo z a = true → fitsTo z b = true → ∀ w : World, (Op.equalIn n t (valT P t a) (valT P t b)).run P w = .ok (eqAll a b) w := by
  intro d
  induction d using Nat.strongRecOn with
  | ind d ih =>
    intro t z h n hn a b ha hb w
    cases d with
    | zero => simp [shapeD] at h
    | succ d =>
      obtain ⟨n, rfl⟩ : ∃ m, n = m + 1 := ⟨n - 1, by omega⟩
      rw [shapeD] at h
      split at h
      · rename_i hu
        cases h
        have hg : aggD P t = some false := by simp [aggD, hu]
        obtain ⟨x, r, rfl, hx, hr⟩ := fits_cons ha
        obtain ⟨y, r', rfl, hy, hr'⟩ := fits_cons hb
        cases fits_nil hr
        cases fits_nil hr'
        obtain ⟨x, rfl⟩ := same_bool hx
        obtain ⟨y, rfl⟩ := same_bool hy
        rw [valT_one hg, valT_one hg, Op.equalIn]
        simp [underlying_run hu, D.val, eqAll, D.eq]
      · rename_i k hu
        cases h
        have hg : aggD P t = some false := by simp [aggD, hu]
        obtain ⟨x, r, rfl, hx, hr⟩ := fits_cons ha
        obtain ⟨y, r', rfl, hy, hr'⟩ := fits_cons hb
        cases fits_nil hr
        cases fits_nil hr'
        obtain ⟨x, rfl⟩ := same_int hx
        obtain ⟨y, rfl⟩ := same_int hy
        rw [valT_one hg, valT_one hg, Op.equalIn]
        simp [underlying_run hu, D.val, eqAll, D.eq]
      · rename_i hu
        cases h
        have hg : aggD P t = some false := by simp [aggD, hu]
        obtain ⟨x, r, rfl, hx, hr⟩ := fits_cons ha
        obtain ⟨y, r', rfl, hy, hr'⟩ := fits_cons hb
        cases fits_nil hr
        cases fits_nil hr'
        obtain ⟨x, rfl⟩ := same_str hx
        obtain ⟨y, rfl⟩ := same_str hy
        rw [valT_one hg, valT_one hg, Op.equalIn]
        simp only [Sem.run_bind, underlying_run hu, Result.andThen_ok, D.val, eqAll, D.eq, Bool.and_true, Sem.run_pure, bytes_beq]
      · rename_i fs hu
        simp only [cond_eq_ite] at h
        split at h
        · cases h
        rename_i hst
        have hg : aggD P t = some true := by simp [aggD, hu]
        rw [valT_agg hg, valT_agg hg, Op.equalIn]
        have hst' : P.stoodInHeld t = false := by simpa using hst
        simp only [Sem.run_bind, underlying_run hu, Result.andThen_ok, run_program, hst', Bool.false_eq_true, if_false]
        rw [← Array.forIn_toList]
        rw [run_forIn_all w _ (fun f => eqAll ((a.drop f.offset).take (match sizeD P f.type with | some s => s | none => 0)) ((b.drop f.offset).take (match sizeD P f.type with | some s => s | none => 0))) fs.toList ?_]
        · rw [all_fields h (a := a) (b := b) (by simpa using ha) (by simpa using hb)]
          simp only [List.drop_zero, Result.andThen_ok]
          cases eqAll a b <;> simp
        · intro f hf
          obtain ⟨hn1, l, s, g, d', hd', hl, hs, hgf, hg1, hls, hfit⟩ := field_shape h f hf
          obtain ⟨fa, ga⟩ := hfit a (Nat.zero_le _) (by simpa using ha)
          obtain ⟨fb, gb⟩ := hfit b (Nat.zero_le _) (by simpa using hb)
          have := ih d' (by omega) hl (n := n) (by omega) ga gb w
          simp only [ne_eq, hn1, not_false_eq_true, if_true, Sem.run_bind, part_valT hs hgf hg1 fa, part_valT hs hgf hg1 fb, Result.andThen_ok, this, hs]
          cases eqAll ((a.drop f.offset).take s) ((b.drop f.offset).take s) <;> simp
      · rename_i m e hu
        split at h
        · rename_i l s g hl hs hge
          simp only [cond_eq_ite, Bool.and_eq_true, beq_iff_eq] at h
          split at h
          · rename_i hc
            cases h
            have hg : aggD P t = some true := by simp [aggD, hu]
            rw [valT_agg hg, valT_agg hg, Op.equalIn]
            simp only [Sem.run_bind, underlying_run hu, Result.andThen_ok, sizeOf_run hs, Std.Legacy.Range.forIn_eq_forIn_range', Std.Legacy.Range.size, Nat.sub_zero, Nat.add_one_sub_one, Nat.div_one]
            have e0 : ∀ x : List D, x.drop (0 * s) = x := fun x => by simp
            have la := fitsTo_len ha
            have lb := fitsTo_len hb
            rw [run_forIn_all w _ (fun i => eqAll ((a.drop (i * s)).take s) ((b.drop (i * s)).take s)) (List.range' 0 m) ?_]
            · rw [all_parts hc.1 (k := 0) (a := a) (b := b) (by rw [e0]; exact ha) (by rw [e0]; exact hb)]
              simp only [e0, Result.andThen_ok]
              cases eqAll a b <;> simp
            · intro i hi
              have him : i < m := by simpa using hi
              have key : ∀ x : List D, fitsTo (List.replicate m l).flatten x = true → i * s + s ≤ x.length ∧ fitsTo l ((x.drop (i * s)).take s) = true := by
                intro x hx
                have e : List.replicate m l = List.replicate i l ++ (l :: List.replicate (m - i - 1) l) := by
                  rw [← List.replicate_succ, List.replicate_append_replicate]
                  congr 1
                  omega
                rw [e, List.flatten_append, List.flatten_cons] at hx
                have h1 := (fitsTo_append hx).2
                have h2 := (fitsTo_append h1).1
                have e2 : (List.replicate i l).flatten.length = i * s := by simp [hc.1]
                rw [e2, hc.1] at h2
                have e3 := fitsTo_len hx
                simp only [List.length_append, e2, hc.1] at e3
                exact ⟨by omega, h2⟩
              obtain ⟨fa, ga⟩ := key a ha
              obtain ⟨fb, gb⟩ := key b hb
              have := ih d (by omega) hl (n := n) (by omega) ga gb w
              simp only [Sem.run_bind, part_valT hs hge (by simpa using hc.2) fa, part_valT hs hge (by simpa using hc.2) fb, Result.andThen_ok, this]
              cases eqAll ((a.drop (i * s)).take s) ((b.drop (i * s)).take s) <;> simp
          · cases h
        · cases h
      · cases h

theorem EqOK.ofShape {t : TypeId} {d : Nat} {z : List D} (hs : shapeD P d t = some z) (hz : zeroD P t = some z) (hd : d ≤ 10000) (ha : aggD P t = some true) (hg : P.eqGuardType P.depth t = false) : EqOK P t := by
  refine eqok_of hg fun z' a b w hz' hfa hfb => ?_
  rw [hz] at hz'
  cases hz'
  have := equalIn_shape d hs hd hfa hfb w
  rwa [valT_agg ha, valT_agg ha] at this
end
end Go.Ev
