/-
  Vectors of fractions: differences, products, cross products, as the program and the reference find them. No program here.
-/
import Derived.Test.YtglifoijcdfjaaaGreatDoorVecA
namespace Go.Ev
open Go

/-! ### Errors of valid fractions -/

theorem fracOf_err (n d : Int) : (fracOf n d).2 = 0 ∨ fracOf n d = (fracZ, 16) := by
  unfold fracOf
  cases decide (absI n / gcdI n d ≤ 1000000000000000000) && decide (d / gcdI n d ≤ 1000000000000000000)
  · exact .inr rfl
  · exact .inl rfl

theorem addF_ok {a b : Frac} (ha : FracOk a) (hb : FracOk b) : addF a b = fracOf (a.num * b.den + b.num * a.den) (a.den * b.den) := by unfold addF; rw [fracOkB_iff.2 ha, fracOkB_iff.2 hb]; rfl
theorem subF_ok {a b : Frac} (ha : FracOk a) (hb : FracOk b) : subF a b = fracOf (a.num * b.den - b.num * a.den) (a.den * b.den) := by unfold subF; rw [fracOkB_iff.2 ha, fracOkB_iff.2 hb]; rfl
theorem mulF_ok {a b : Frac} (ha : FracOk a) (hb : FracOk b) : mulF a b = fracOf (a.num * b.num) (a.den * b.den) := by unfold mulF; rw [fracOkB_iff.2 ha, fracOkB_iff.2 hb]; rfl

theorem den_pos {a b : Frac} (ha : FracOk a) (hb : FracOk b) : 0 < a.den * b.den := Int.mul_pos (by have := ha.denlo; omega) (by have := hb.denlo; omega)

theorem addF_cases {a b : Frac} (ha : FracOk a) (hb : FracOk b) : (∃ c, addF a b = (c, 0) ∧ FracOk c) ∨ addF a b = (fracZ, 16) := by
  rw [addF_ok ha hb]
  rcases fracOf_err (a.num * b.den + b.num * a.den) (a.den * b.den) with h | h
  · exact .inl ⟨_, fst_of h, (frac_val (den_pos ha hb) (fst_of h)).1⟩
  · exact .inr h
theorem subF_cases {a b : Frac} (ha : FracOk a) (hb : FracOk b) : (∃ c, subF a b = (c, 0) ∧ FracOk c) ∨ subF a b = (fracZ, 16) := by
  rw [subF_ok ha hb]
  rcases fracOf_err (a.num * b.den - b.num * a.den) (a.den * b.den) with h | h
  · exact .inl ⟨_, fst_of h, (frac_val (den_pos ha hb) (fst_of h)).1⟩
  · exact .inr h
theorem mulF_cases {a b : Frac} (ha : FracOk a) (hb : FracOk b) : (∃ c, mulF a b = (c, 0) ∧ FracOk c) ∨ mulF a b = (fracZ, 16) := by
  rw [mulF_ok ha hb]
  rcases fracOf_err (a.num * b.num) (a.den * b.den) with h | h
  · exact .inl ⟨_, fst_of h, (frac_val (den_pos ha hb) (fst_of h)).1⟩
  · exact .inr h

theorem gcdI_neg (n d : Int) : gcdI (-n) d = gcdI n d := by rw [gcdI_eq, gcdI_eq, Int.neg_gcd]
theorem absI_neg (n : Int) : absI (-n) = absI n := by rw [absI_eq, absI_eq, Int.natAbs_neg]

/-- The opposite of a result. -/
def negE (x : Frac × Int) : Frac × Int := (⟨-x.1.num, x.1.den⟩, x.2)

theorem fracOf_neg (n d : Int) : fracOf (-n) d = negE (fracOf n d) := by
  unfold fracOf negE
  rw [gcdI_neg, absI_neg, Int.neg_ediv_of_dvd (gcdI_dvd_left ..)]
  cases decide (absI n / gcdI n d ≤ 1000000000000000000) && decide (d / gcdI n d ≤ 1000000000000000000) <;> rfl

theorem negN {b : Frac} (hb : FracOk b) : w64 (0 - b.num) = -b.num := by rw [w64_id (n := 0 - b.num) (by have := hb.numhi; have := hb.numlo; omega)]; omega

def negR (a : Frac) : Frac := ⟨w64 (0 - a.num), a.den⟩
def negV (v : Vec) : Vec := ⟨negR v.x, negR v.y, negR v.z⟩

theorem negR_ok {b : Frac} (hb : FracOk b) : FracOk (negR b) := by unfold negR; rw [negN hb]; exact hb.neg

theorem addF_neg {a b : Frac} (ha : FracOk a) (hb : FracOk b) : addF a (negR b) = subF a b := by
  rw [addF_ok ha (negR_ok hb), subF_ok ha hb]
  unfold negR
  rw [negN hb]
  simp only
  rw [show a.num * b.den + -b.num * a.den = a.num * b.den - b.num * a.den by rw [Int.neg_mul]; omega]

theorem mulF_negl {a b : Frac} (ha : FracOk a) (hb : FracOk b) : mulF (negR a) b = negE (mulF a b) := by
  rw [mulF_ok (negR_ok ha) hb, mulF_ok ha hb, ← fracOf_neg]
  unfold negR
  rw [negN ha]
  simp only
  rw [Int.neg_mul]

/-- Nought added. -/
theorem addF_nought {p : Frac} (hp : FracOk p) : addF ⟨0, 1⟩ p = (p, 0) := by
  have h0 : FracOk ⟨0, 1⟩ := fracOkB_iff.1 (by decide)
  rw [addF_ok h0 hp, fracOf_red (c := 1) (n' := p.num) (d' := p.den) (by omega) (by simp) (by simp) hp.gcd]
  unfold cutF
  have := hp.numlo; have := hp.numhi; have := hp.denhi
  rw [decide_eq_true (show absI p.num ≤ 1000000000000000000 by unfold absI; omega), decide_eq_true (by omega)]
  rfl

/-! ### The program -/

def bothAns (bad : Int → Ans) (v w : Vec) (more : Ans) : Ans := twiceAns (checkV v) (bad (checkV v)) more (twiceAns (checkV w) (bad (checkV w)) more more)
theorem bothAns_ok {bad : Int → Ans} {v w : Vec} {more : Ans} : bothAns bad v w more = bif vecOkB v && vecOkB w then more else bad 8 := by
  unfold bothAns checkV twiceAns
  cases vecOkB v <;> cases vecOkB w <;> rfl

def subV (v w : Vec) : Vec × Int := bif vecOkB v && vecOkB w then eachV (subF v.x w.x) (subF v.y w.y) (subF v.z w.z) else (vecZ, 8)
def subVAns (K : AV → List Blk → Ans) (v w : Vec) : Ans := bothAns (fun e => K (rVecE (vecZ, e)) []) v w (eachAns K (subF v.x w.x) (subF v.y w.y) (subF v.z w.z))
theorem subVAns_ok {K : AV → List Blk → Ans} {v w : Vec} : subVAns K v w = K (rVecE (subV v w)) [] := by
  unfold subVAns subV
  rw [bothAns_ok, eachAns_ok]
  cases vecOkB v && vecOkB w <;> rfl

def scaleV (v : Vec) (f : Frac) : Vec × Int := bif vecOkB v && fracOkB f then eachV (mulF v.x f) (mulF v.y f) (mulF v.z f) else (vecZ, 8)
def scaleAns (K : AV → List Blk → Ans) (v : Vec) (f : Frac) : Ans := bif checkF v.x != 0 then K (rVecE (vecZ, 8)) [] else bif checkF v.y != 0 then K (rVecE (vecZ, 8)) [] else bif checkF v.z != 0 then K (rVecE (vecZ, 8)) [] else bif checkF f != 0 then K (rVecE (vecZ, 8)) [] else
  eachAns K (mulF v.x f) (mulF v.y f) (mulF v.z f)
theorem scaleAns_ok {K : AV → List Blk → Ans} {v : Vec} {f : Frac} : scaleAns K v f = K (rVecE (scaleV v f)) [] := by
  unfold scaleAns scaleV checkF vecOkB
  rw [eachAns_ok]
  cases fracOkB v.x <;> cases fracOkB v.y <;> cases fracOkB v.z <;> cases fracOkB f <;> rfl

/-- A result, and what is done with it if there is one. -/
def andF (x : Frac × Int) (k : Frac → Frac × Int) : Frac × Int := bif x.2 == 0 then k x.1 else (fracZ, x.2)

def dotStep (K : AV → List Blk → Ans) (sum a b : Frac) (more : Frac → Ans) : Ans :=
  bif (mulF a b).2 == 0 then (bif (addF sum (mulF a b).1).2 != 0 then K (rFracE (fracZ, (addF sum (mulF a b).1).2)) [] else more (addF sum (mulF a b).1).1) else (bif (mulF a b).2 != 0 then K (rFracE (fracZ, (mulF a b).2)) [] else more sum)
theorem dotStep_ok {K : AV → List Blk → Ans} {sum a b : Frac} {more : Frac → Ans} {m : Frac → Frac × Int} (h : ∀ s, more s = K (rFracE (m s)) []) : dotStep K sum a b more = K (rFracE (andF (mulF a b) fun p => andF (addF sum p) m)) [] := by
  unfold dotStep andF
  simp only [h]
  cases h1 : (mulF a b).2 == 0 with
  | true =>
    simp only [cond_true]
    cases h2 : (addF sum (mulF a b).1).2 == 0 <;> simp [bne, h2]
  | false => simp [bne, h1]

def dotF (v w : Vec) : Frac × Int := andF (mulF v.x w.x) fun p => andF (addF ⟨0, 1⟩ p) fun s => andF (mulF v.y w.y) fun p => andF (addF s p) fun s => andF (mulF v.z w.z) fun p => andF (addF s p) fun s => (s, 0)
def dotFAns (K : AV → List Blk → Ans) (v w : Vec) : Ans := dotStep K ⟨0, 1⟩ v.x w.x fun s => dotStep K s v.y w.y fun s => dotStep K s v.z w.z fun s => K (rFracE (s, 0)) []
theorem dotFAns_ok {K : AV → List Blk → Ans} {v w : Vec} : dotFAns K v w = K (rFracE (dotF v w)) [] := by
  unfold dotFAns dotF
  exact dotStep_ok fun s => dotStep_ok fun s => dotStep_ok fun s => rfl

def dotV (v w : Vec) : Frac × Int := bif vecOkB v && vecOkB w then dotF v w else (fracZ, 8)
def dotVAns (K : AV → List Blk → Ans) (v w : Vec) : Ans := bothAns (fun e => K (rFracE (fracZ, e)) []) v w (K (rFracE (dotF v w)) [])
theorem dotVAns_ok {K : AV → List Blk → Ans} {v w : Vec} : dotVAns K v w = K (rFracE (dotV v w)) [] := by
  unfold dotVAns dotV
  rw [bothAns_ok]
  cases vecOkB v && vecOkB w <;> rfl

def crossC (a b c d : Frac) : Frac × Int := andF (mulF a b) fun p => andF (mulF c d) fun q => subF p q
def crossStep (K : AV → List Blk → Ans) (a b c d : Frac) (more : Frac → Ans) : Ans :=
  bif (mulF a b).2 != 0 then (bif (mulF a b).2 != 0 then K (rVecE (vecZ, (mulF a b).2)) [] else more fracZ) else
  bif (mulF c d).2 != 0 then (bif (mulF c d).2 != 0 then K (rVecE (vecZ, (mulF c d).2)) [] else more fracZ) else
  bif (subF (mulF a b).1 (mulF c d).1).2 != 0 then K (rVecE (vecZ, (subF (mulF a b).1 (mulF c d).1).2)) [] else more (subF (mulF a b).1 (mulF c d).1).1
theorem crossStep_ok {K : AV → List Blk → Ans} {a b c d : Frac} {more : Frac → Ans} : crossStep K a b c d more = bif (crossC a b c d).2 != 0 then K (rVecE (vecZ, (crossC a b c d).2)) [] else more (crossC a b c d).1 := by
  unfold crossStep crossC andF
  cases h1 : (mulF a b).2 == 0 with
  | false => simp [bne, h1]
  | true =>
    cases h2 : (mulF c d).2 == 0 with
    | false => simp [bne, h1, h2]
    | true => simp [bne, h1, h2]

def crossF (v w : Vec) : Vec × Int := eachV (crossC v.y w.z v.z w.y) (crossC v.z w.x v.x w.z) (crossC v.x w.y v.y w.x)
def crossAns (K : AV → List Blk → Ans) (v w : Vec) : Ans := crossStep K v.y w.z v.z w.y fun x => crossStep K v.z w.x v.x w.z fun y => crossStep K v.x w.y v.y w.x fun z => K (rVecE (⟨x, y, z⟩, 0)) []
theorem crossAns_ok {K : AV → List Blk → Ans} {v w : Vec} : crossAns K v w = K (rVecE (crossF v w)) [] := by
  unfold crossAns crossF
  simp only [crossStep_ok]
  exact eachAns_ok

def crossV (v w : Vec) : Vec × Int := bif vecOkB v && vecOkB w then crossF v w else (vecZ, 8)
def crossVAns (K : AV → List Blk → Ans) (v w : Vec) : Ans := bothAns (fun e => K (rVecE (vecZ, e)) []) v w (K (rVecE (crossF v w)) [])
theorem crossVAns_ok {K : AV → List Blk → Ans} {v w : Vec} : crossVAns K v w = K (rVecE (crossV v w)) [] := by
  unfold crossVAns crossV
  rw [bothAns_ok]
  cases vecOkB v && vecOkB w <;> rfl

/-! ### The reference -/

def firstI (a b c : Int) : Int := bif a != 0 then a else bif b != 0 then b else c
def vecR (x y z : Frac) (e : Int) : Vec × Int := bif e != 0 then (vecZ, e) else (⟨x, y, z⟩, 0)
theorem vecR_each (x y z : Frac × Int) : vecR x.1 y.1 z.1 (firstI x.2 y.2 z.2) = eachV x y z := by
  unfold vecR firstI eachV
  cases hx : x.2 != 0 <;> cases hy : y.2 != 0 <;> cases hz : z.2 != 0 <;> simp [hx, hy, hz]

theorem bothV_eq (v w : Vec) : bothV v w = bif vecOkB v && vecOkB w then 0 else 8 := by
  unfold bothV checkV
  cases vecOkB v <;> cases vecOkB w <;> rfl

def addVRef (K : AV → List Blk → Ans) (v w : Vec) : Ans := bif bothV v w != 0 then K (rVecE (vecZ, 8)) [] else K (rVecE (vecR (addF v.x w.x).1 (addF v.y w.y).1 (addF v.z w.z).1 (firstI (addF v.x w.x).2 (addF v.y w.y).2 (addF v.z w.z).2))) []
theorem addVRef_ok {K : AV → List Blk → Ans} {v w : Vec} : addVRef K v w = K (rVecE (addV v w)) [] := by
  unfold addVRef addV
  rw [bothV_eq, vecR_each]
  cases vecOkB v && vecOkB w <;> rfl

theorem negV_ok {w : Vec} (h : VecOk w) : VecOk (negV w) := ⟨negR_ok h.x, negR_ok h.y, negR_ok h.z⟩

def subVRef (K : AV → List Blk → Ans) (v w : Vec) : Ans := bif bothV v w != 0 then K (rVecE (vecZ, 8)) [] else K (rVecE (addV v (negV w))) []
theorem subVRef_ok {K : AV → List Blk → Ans} {v w : Vec} : subVRef K v w = K (rVecE (subV v w)) [] := by
  unfold subVRef subV
  rw [bothV_eq]
  cases hv : vecOkB v with
  | false => rfl
  | true =>
    cases hw : vecOkB w with
    | false => rfl
    | true =>
      have kv := vecOkB_iff.1 hv
      have kw := vecOkB_iff.1 hw
      unfold addV
      rw [hv, vecOkB_iff.2 (negV_ok kw)]
      simp only [Bool.and_self, cond_true, bne_self_eq_false, cond_false, negV]
      rw [addF_neg kv.x kw.x, addF_neg kv.y kw.y, addF_neg kv.z kw.z]

def scaleRef (K : AV → List Blk → Ans) (v : Vec) (f : Frac) : Ans := bif checkV v != 0 then K (rVecE (vecZ, 8)) [] else bif checkF f != 0 then K (rVecE (vecZ, 8)) [] else
  K (rVecE (vecR (mulF v.x f).1 (mulF v.y f).1 (mulF v.z f).1 (firstI (mulF v.x f).2 (mulF v.y f).2 (mulF v.z f).2))) []
theorem scaleRef_ok {K : AV → List Blk → Ans} {v : Vec} {f : Frac} : scaleRef K v f = K (rVecE (scaleV v f)) [] := by
  unfold scaleRef scaleV checkF checkV
  rw [vecR_each]
  cases vecOkB v <;> cases fracOkB f <;> rfl

def twoF (a b c d : Frac) : Frac × Int := bif firstI (mulF a b).2 (mulF c d).2 0 != 0 then (fracZ, firstI (mulF a b).2 (mulF c d).2 0) else addF (mulF a b).1 (mulF c d).1
def twoAns (K : AV → List Blk → Ans) (a b c d : Frac) : Ans := bif firstI (mulF a b).2 (mulF c d).2 0 != 0 then K (rFracE (fracZ, firstI (mulF a b).2 (mulF c d).2 0)) [] else K (rFracE (addF (mulF a b).1 (mulF c d).1)) []
theorem twoAns_ok {K : AV → List Blk → Ans} {a b c d : Frac} : twoAns K a b c d = K (rFracE (twoF a b c d)) [] := by
  unfold twoAns twoF
  cases firstI (mulF a b).2 (mulF c d).2 0 != 0 <;> rfl

def dotR (v w : Vec) : Frac × Int := bif firstI (twoF v.x w.x v.y w.y).2 (mulF v.z w.z).2 0 != 0 then (fracZ, firstI (twoF v.x w.x v.y w.y).2 (mulF v.z w.z).2 0) else addF (twoF v.x w.x v.y w.y).1 (mulF v.z w.z).1
theorem dotR_eq {v w : Vec} (hv : VecOk v) (hw : VecOk w) : dotR v w = dotF v w := by
  unfold dotR dotF twoF firstI andF
  rcases mulF_cases hv.x hw.x with ⟨p, e1, k1⟩ | e1
  · rcases mulF_cases hv.y hw.y with ⟨q, e2, k2⟩ | e2
    · simp only [e1, e2, addF_nought k1]
      rcases addF_cases k1 k2 with ⟨s, e3, k3⟩ | e3
      · rcases mulF_cases hv.z hw.z with ⟨r, e4, k4⟩ | e4
        · rcases addF_cases k3 k4 with ⟨t, e5, k5⟩ | e5
          · simp [e3, e4, e5]
          · simp [e3, e4, e5]
        · simp [e3, e4]
      · simp [e3]
    · simp [e1, e2, addF_nought k1]
  · simp [e1]

def dotVRef (K : AV → List Blk → Ans) (v w : Vec) : Ans := bif bothV v w != 0 then K (rFracE (fracZ, 8)) [] else bif firstI (twoF v.x w.x v.y w.y).2 (mulF v.z w.z).2 0 != 0 then K (rFracE (fracZ, firstI (twoF v.x w.x v.y w.y).2 (mulF v.z w.z).2 0)) [] else K (rFracE (addF (twoF v.x w.x v.y w.y).1 (mulF v.z w.z).1)) []
theorem dotVRef_ok {K : AV → List Blk → Ans} {v w : Vec} : dotVRef K v w = K (rFracE (dotV v w)) [] := by
  unfold dotVRef dotV
  rw [bothV_eq]
  cases hv : vecOkB v with
  | false => rfl
  | true =>
    cases hw : vecOkB w with
    | false => rfl
    | true =>
      rw [← dotR_eq (vecOkB_iff.1 hv) (vecOkB_iff.1 hw)]
      unfold dotR
      cases firstI (twoF v.x w.x v.y w.y).2 (mulF v.z w.z).2 0 != 0 <;> rfl

theorem negE_ok {a b : Frac} (ha : FracOk a) (hb : FracOk b) {c : Frac} (h : mulF a b = (c, 0)) : mulF (negR a) b = (negR c, 0) := by
  have hc : FracOk c := by
    rcases mulF_cases ha hb with ⟨c', e, k⟩ | e
    · rw [h] at e; cases e; exact k
    · rw [h] at e; cases e
  rw [mulF_negl ha hb, h]
  unfold negE negR
  rw [negN hc]

theorem two_cross {a b c d : Frac} (ha : FracOk a) (hb : FracOk b) (hc : FracOk c) (hd : FracOk d) : twoF a b (negR c) d = crossC a b c d := by
  unfold twoF crossC firstI andF
  rcases mulF_cases ha hb with ⟨p, e1, k1⟩ | e1
  · rcases mulF_cases hc hd with ⟨q, e2, k2⟩ | e2
    · simp [e1, e2, negE_ok hc hd e2, addF_neg k1 k2]
    · have : mulF (negR c) d = (fracZ, 16) := by rw [mulF_negl hc hd, e2]; rfl
      simp [e1, e2, this]
  · simp [e1]

def crossVRef (K : AV → List Blk → Ans) (v w : Vec) : Ans := bif bothV v w != 0 then K (rVecE (vecZ, 8)) [] else
  K (rVecE (vecR (twoF v.y w.z (negR v.z) w.y).1 (twoF v.z w.x (negR v.x) w.z).1 (twoF v.x w.y (negR v.y) w.x).1 (firstI (twoF v.y w.z (negR v.z) w.y).2 (twoF v.z w.x (negR v.x) w.z).2 (twoF v.x w.y (negR v.y) w.x).2))) []
theorem crossVRef_ok {K : AV → List Blk → Ans} {v w : Vec} : crossVRef K v w = K (rVecE (crossV v w)) [] := by
  unfold crossVRef crossV
  rw [bothV_eq, vecR_each]
  cases hv : vecOkB v with
  | false => rfl
  | true =>
    cases hw : vecOkB w with
    | false => rfl
    | true =>
      have kv := vecOkB_iff.1 hv
      have kw := vecOkB_iff.1 hw
      rw [two_cross kv.y kw.z kv.z kw.y, two_cross kv.z kw.x kv.x kw.z, two_cross kv.x kw.y kv.y kw.x]
      rfl

/-- Tests one after the other. -/
def chain (K : AV → List Blk → Ans) : List Bool → Ans
  | [] => K (rB true) []
  | [c] => K (rB c) []
  | c :: r => bif c then chain K r else K (rB false) []
theorem chain_true {K : AV → List Blk → Ans} : ∀ {l : List Bool}, (∀ c ∈ l, c = true) → chain K l = K (rB true) []
  | [], _ => rfl
  | [c], h => by rw [chain, h c (by simp)]
  | c :: d :: r, h => by rw [chain, h c (by simp), cond_true, chain_true fun x hx => h x (List.mem_cons_of_mem _ hx)]; simp

def lawVecWorks (K : AV → List Blk → Ans) (v w : Vec) (f : Frac) : Ans :=
  chain K [checkV v == checkV v, eqAll (addV v w).1.cells (addV v w).1.cells, (addV v w).2 == (addV v w).2, eqAll (subV v w).1.cells (subV v w).1.cells, (subV v w).2 == (subV v w).2,
    eqAll (scaleV v f).1.cells (scaleV v f).1.cells, (scaleV v f).2 == (scaleV v f).2, eqAll (dotV v w).1.cells (dotV v w).1.cells, (dotV v w).2 == (dotV v w).2, eqAll (crossV v w).1.cells (crossV v w).1.cells, (crossV v w).2 == (crossV v w).2]
theorem lawVecWorks_ok {K : AV → List Blk → Ans} {v w : Vec} {f : Frac} : lawVecWorks K v w f = K (rB true) [] := by
  unfold lawVecWorks
  refine chain_true fun c hc => ?_
  simp only [eqAll_self, beq_self_eq_true, List.mem_cons, List.not_mem_nil, or_false, or_self] at hc
  exact hc

end Go.Ev
