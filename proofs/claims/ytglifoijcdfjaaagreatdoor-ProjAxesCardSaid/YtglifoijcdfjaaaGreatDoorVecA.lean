/-
  Vectors of fractions: checks, sums, products. No program here.
-/
import Derived.Test.YtglifoijcdfjaaaGreatDoorFracRef
namespace Go.Ev
open Go

def vecOkB (v : Vec) : Bool := fracOkB v.x && (fracOkB v.y && fracOkB v.z)
def checkV (v : Vec) : Int := bif vecOkB v then 0 else 8
def checkVRaw (v : Vec) : Int := bif checkF v.x != 0 then 8 else bif checkF v.y != 0 then 8 else bif checkF v.z != 0 then 8 else 0
def checkVRef (v : Vec) : Int := bif bothE v.x v.y != 0 then 8 else bif checkF v.z != 0 then 8 else 0
def bothV (v w : Vec) : Int := bif checkV v != 0 then 8 else checkV w

theorem checkVRaw_ok (v : Vec) : checkVRaw v = checkV v := by
  unfold checkVRaw checkV vecOkB checkF
  cases fracOkB v.x <;> cases fracOkB v.y <;> cases fracOkB v.z <;> rfl
theorem checkVRef_ok (v : Vec) : checkVRef v = checkV v := by
  unfold checkVRef checkV vecOkB bothE checkF
  cases fracOkB v.x <;> cases fracOkB v.y <;> cases fracOkB v.z <;> rfl

structure VecOk (v : Vec) : Prop where
  x : FracOk v.x
  y : FracOk v.y
  z : FracOk v.z

theorem vecOkB_iff {v : Vec} : vecOkB v = true ↔ VecOk v := by
  unfold vecOkB
  simp only [Bool.and_eq_true, fracOkB_iff]
  exact ⟨fun h => ⟨h.1, h.2.1, h.2.2⟩, fun h => ⟨h.x, h.y, h.z⟩⟩

/-- Three coordinates, each with an error. -/
def eachV (x y z : Frac × Int) : Vec × Int := bif x.2 != 0 then (vecZ, x.2) else bif y.2 != 0 then (vecZ, y.2) else bif z.2 != 0 then (vecZ, z.2) else (⟨x.1, y.1, z.1⟩, 0)
def eachAns (K : AV → List Blk → Ans) (x y z : Frac × Int) : Ans := bif x.2 != 0 then K (rVecE (vecZ, x.2)) [] else bif y.2 != 0 then K (rVecE (vecZ, y.2)) [] else bif z.2 != 0 then K (rVecE (vecZ, z.2)) [] else K (rVecE (⟨x.1, y.1, z.1⟩, 0)) []
theorem eachAns_ok {K : AV → List Blk → Ans} {x y z : Frac × Int} : eachAns K x y z = K (rVecE (eachV x y z)) [] := by
  unfold eachAns eachV
  cases x.2 != 0 <;> cases y.2 != 0 <;> cases z.2 != 0 <;> rfl

def addV (v w : Vec) : Vec × Int := bif vecOkB v && vecOkB w then eachV (addF v.x w.x) (addF v.y w.y) (addF v.z w.z) else (vecZ, 8)
def twiceAns (e : Int) (bad ok : Ans) (more : Ans) : Ans := bif e != 0 then (bif e != 0 then bad else ok) else more
def addVAns (K : AV → List Blk → Ans) (v w : Vec) : Ans :=
  twiceAns (checkV v) (K (rVecE (vecZ, checkV v)) []) (eachAns K (addF v.x w.x) (addF v.y w.y) (addF v.z w.z))
    (twiceAns (checkV w) (K (rVecE (vecZ, checkV w)) []) (eachAns K (addF v.x w.x) (addF v.y w.y) (addF v.z w.z)) (eachAns K (addF v.x w.x) (addF v.y w.y) (addF v.z w.z)))
theorem addVAns_ok {K : AV → List Blk → Ans} {v w : Vec} : addVAns K v w = K (rVecE (addV v w)) [] := by
  unfold addVAns addV checkV twiceAns
  cases vecOkB v with
  | false => rfl
  | true =>
    cases vecOkB w with
    | false => rfl
    | true => rw [eachAns_ok]; rfl

def addAns (K : AV → List Blk → Ans) (a b : Frac) : Ans := bif bothE a b != 0 then K (rFracE (fracZ, bothE a b)) [] else bif fracOkB a && fracOkB b then K (rFracE (fracOf (a.num * b.den + b.num * a.den) (a.den * b.den))) [] else none
theorem addAns_ok {K : AV → List Blk → Ans} {a b : Frac} : addAns K a b = K (rFracE (addF a b)) [] := by
  unfold addAns addF
  rw [bothE_eq]
  cases fracOkB a && fracOkB b <;> rfl

theorem frac_val {n d : Int} (hd : 0 < d) {x : Frac} (h : fracOf n d = (x, 0)) : FracOk x ∧ x.num * d = n * x.den := by
  have hg : 0 < gcdI n d := gcdI_pos (by omega)
  obtain ⟨n', hn⟩ : gcdI n d ∣ n := gcdI_dvd_left ..
  obtain ⟨d', hd'⟩ : gcdI n d ∣ d := gcdI_dvd_right ..
  have hc : Int.gcd n' d' = 1 := by
    have e : gcdI (gcdI n d * n') (gcdI n d * d') = gcdI n d := by rw [← hn, ← hd']
    generalize gcdI n d = k at *
    rw [gcdI_eq] at e
    rw [Int.gcd_mul_left, Int.natCast_mul, show ((k.natAbs : Nat) : Int) = k by omega] at e
    have : ((Int.gcd n' d' : Nat) : Int) = 1 := Int.eq_of_mul_eq_mul_left (a := k) (by omega) (by omega)
    omega
  rw [fracOf_red hg hn hd' hc] at h
  generalize gcdI n d = k at *
  have hd0 : 0 < d' := by
    rcases Int.lt_or_le 0 d' with q | q
    · exact q
    · have := Int.mul_le_mul_of_nonneg_left q (show 0 ≤ k by omega)
      omega
  unfold cutF at h
  cases hb : decide (absI n' ≤ 1000000000000000000) && decide (d' ≤ 1000000000000000000) with
  | false => rw [hb] at h; simp at h
  | true =>
    rw [hb] at h
    simp only [cond_true, Prod.mk.injEq, and_true] at h
    subst h
    simp only [Bool.and_eq_true, decide_eq_true_eq] at hb
    unfold absI at hb
    refine ⟨⟨by simp only; omega, hb.2, by simp only; omega, by simp only; omega, hc⟩, ?_⟩
    simp only
    rw [hn, hd']
    grind

theorem fst_of {α : Type} {x : α × Int} (h : x.2 = 0) : x = (x.1, 0) := by cases x; simp only at h; rw [h]

/-! ### Fractions: what the program does -/

def divF (a b : Frac) : Frac × Int := bif fracOkB a && fracOkB b then (bif b.num == 0 then (fracZ, 18) else bif decide (b.num < 0) then fracOf (a.num * -b.den) (a.den * -b.num) else fracOf (a.num * b.den) (a.den * b.num)) else (fracZ, 8)

theorem FracOk.over {a : Frac} (h : FracOk a) (h0 : 0 < a.num) : FracOk ⟨a.den, a.num⟩ :=
  ⟨by simp only; omega, h.numhi, by have := h.denlo; simp only; omega, h.denhi, by rw [Int.gcd_comm]; exact h.gcd⟩
theorem FracOk.over' {a : Frac} (h : FracOk a) (h0 : a.num < 0) : FracOk ⟨-a.den, -a.num⟩ :=
  ⟨by simp only; omega, by have := h.numlo; simp only; omega, by have := h.denhi; simp only; omega, by have := h.denlo; simp only; omega,
   by simp only; rw [Int.gcd_comm, Int.gcd_neg, Int.neg_gcd]; exact h.gcd⟩

def subAns (K : AV → List Blk → Ans) (a b : Frac) : Ans := bif bothE a b != 0 then K (rFracE (fracZ, bothE a b)) [] else bif fracOkB a && fracOkB ⟨w64 (0 - b.num), b.den⟩ then K (rFracE (fracOf (a.num * b.den + w64 (0 - b.num) * a.den) (a.den * b.den))) [] else none
theorem subAns_ok {K : AV → List Blk → Ans} {a b : Frac} : subAns K a b = K (rFracE (subF a b)) [] := by
  unfold subAns subF
  rw [bothE_eq]
  cases ha : fracOkB a with
  | false => rfl
  | true =>
    cases hb : fracOkB b with
    | false => rfl
    | true =>
      have kb := fracOkB_iff.1 hb
      have e : w64 (0 - b.num) = -b.num := by rw [w64_id (n := 0 - b.num) (by have := kb.numhi; have := kb.numlo; omega)]; omega
      rw [e, fracOkB_iff.2 kb.neg]
      simp only [Bool.and_self, cond_true, bne_self_eq_false, cond_false]
      rw [show a.num * b.den + -b.num * a.den = a.num * b.den - b.num * a.den by rw [Int.neg_mul]; omega]

def mulAns (K : AV → List Blk → Ans) (a b : Frac) : Ans := bif bothE a b != 0 then K (rFracE (fracZ, bothE a b)) [] else bif fracOkB a && fracOkB b then K (rFracE (fracOf (a.num * b.num) (a.den * b.den))) [] else none
theorem mulAns_ok {K : AV → List Blk → Ans} {a b : Frac} : mulAns K a b = K (rFracE (mulF a b)) [] := by
  unfold mulAns mulF
  rw [bothE_eq]
  cases fracOkB a && fracOkB b <;> rfl

def divFAns (K : AV → List Blk → Ans) (a b : Frac) : Ans := bif bothE a b != 0 then K (rFracE (fracZ, bothE a b)) [] else bif b.num == 0 then K (rFracE (fracZ, 18)) [] else
  bif decide (b.num < 0) then (bif fracOkB a && fracOkB ⟨w64 (0 - b.den), w64 (0 - b.num)⟩ then K (rFracE (fracOf (a.num * w64 (0 - b.den)) (a.den * w64 (0 - b.num)))) [] else none)
  else bif fracOkB a && fracOkB ⟨b.den, b.num⟩ then K (rFracE (fracOf (a.num * b.den) (a.den * b.num))) [] else none
theorem divFAns_ok {K : AV → List Blk → Ans} {a b : Frac} : divFAns K a b = K (rFracE (divF a b)) [] := by
  unfold divFAns divF
  rw [bothE_eq]
  cases ha : fracOkB a with
  | false => rfl
  | true =>
    cases hb : fracOkB b with
    | false => rfl
    | true =>
      have kb := fracOkB_iff.1 hb
      have h1 := kb.numlo; have h2 := kb.numhi; have h3 := kb.denlo; have h4 := kb.denhi
      simp only [Bool.and_self, cond_true, bne_self_eq_false, cond_false]
      cases h0 : b.num == 0 with
      | true => rfl
      | false =>
        have h0' : b.num ≠ 0 := by simpa using h0
        simp only [cond_false]
        rw [w64_id (n := 0 - b.den) (by omega), w64_id (n := 0 - b.num) (by omega), Int.zero_sub, Int.zero_sub]
        by_cases hn : b.num < 0
        · rw [decide_eq_true hn, fracOkB_iff.2 (kb.over' hn)]; rfl
        · rw [decide_eq_false hn, fracOkB_iff.2 (kb.over (by omega))]; rfl

def divRefAns (K : AV → List Blk → Ans) (a b : Frac) : Ans := bif bothE a b != 0 then K (rFracE (fracZ, bothE a b)) [] else bif b.num == 0 then K (rFracE (fracZ, 18)) [] else
  bif decide (b.num < 0) then K (rFracE (mulF a ⟨w64 (0 - b.den), w64 (0 - b.num)⟩)) [] else K (rFracE (mulF a ⟨b.den, b.num⟩)) []
theorem divRefAns_ok {K : AV → List Blk → Ans} {a b : Frac} : divRefAns K a b = K (rFracE (divF a b)) [] := by
  unfold divRefAns divF
  rw [bothE_eq]
  cases ha : fracOkB a with
  | false => rfl
  | true =>
    cases hb : fracOkB b with
    | false => rfl
    | true =>
      have kb := fracOkB_iff.1 hb
      have h1 := kb.numlo; have h2 := kb.numhi; have h3 := kb.denlo; have h4 := kb.denhi
      simp only [Bool.and_self, cond_true, bne_self_eq_false, cond_false]
      cases h0 : b.num == 0 with
      | true => rfl
      | false =>
        have h0' : b.num ≠ 0 := by simpa using h0
        simp only [cond_false]
        rw [w64_id (n := 0 - b.den) (by omega), w64_id (n := 0 - b.num) (by omega), Int.zero_sub, Int.zero_sub]
        unfold mulF
        by_cases hn : b.num < 0
        · rw [decide_eq_true hn, ha, fracOkB_iff.2 (kb.over' hn)]; rfl
        · rw [decide_eq_false hn, ha, fracOkB_iff.2 (kb.over (by omega))]; rfl

end Go.Ev
