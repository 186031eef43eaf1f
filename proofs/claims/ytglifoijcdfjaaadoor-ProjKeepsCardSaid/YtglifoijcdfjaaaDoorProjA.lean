/-
  Enclosures of rational numbers: sums, products, dot products; the axes of a source. No program here.
-/
import Derived.Test.YtglifoijcdfjaaaDoorUnit2
import Derived.Test.YtglifoijcdfjaaaDoorPyth
import Derived.Test.YtglifoijcdfjaaaDoorVec
import Derived.Test.YtglifoijcdfjaaaDoorVecL
namespace Go.Ev
open Go

def EncQ (a : Span) (x : Rat) : Prop := (a.lo : Rat) ≤ x * 1000000 ∧ x * 1000000 ≤ (a.hi : Rat)

theorem EncQ.of {a : Span} {X d : Int} (hd : 0 < d) (h : Enc a X d) {x : Rat} (hx : x * 1000000 * (d : Rat) = X) : EncQ a x := by
  have hp : (0 : Rat) < (d : Rat) := by exact_mod_cast hd
  have h1 : ((a.lo * d : Int) : Rat) ≤ (X : Rat) := by exact_mod_cast h.1
  have h2 : (X : Rat) ≤ ((a.hi * d : Int) : Rat) := by exact_mod_cast h.2
  rw [Rat.intCast_mul, ← hx] at h1 h2
  exact ⟨Rat.le_of_mul_le_mul_right h1 hp, Rat.le_of_mul_le_mul_right h2 hp⟩

theorem rat_den (x : Rat) : x * ((x.den : Int) : Rat) = (x.num : Rat) := by
  have h : ((x.den : Int) : Rat) ≠ 0 := by exact_mod_cast (show (x.den : Int) ≠ 0 by have := x.den_pos; omega)
  have e : (x.num : Rat) / ((x.den : Int) : Rat) = x := by rw [← Rat.divInt_eq_div]; exact Rat.num_divInt_den x
  have e2 := Rat.div_mul_cancel (a := (x.num : Rat)) h
  rw [e] at e2
  exact e2

theorem EncQ.enc {a : Span} {x : Rat} (h : EncQ a x) : Enc a (x.num * 1000000) (x.den : Int) := by
  have hd : (0 : Int) < (x.den : Int) := by have := x.den_pos; omega
  have hp : (0 : Rat) ≤ ((x.den : Int) : Rat) := by exact_mod_cast (Int.le_of_lt hd)
  have e := rat_den x
  have h1 := Rat.mul_le_mul_of_nonneg_right h.1 hp
  have h2 := Rat.mul_le_mul_of_nonneg_right h.2 hp
  have e' : x * 1000000 * ((x.den : Int) : Rat) = ((x.num * 1000000 : Int) : Rat) := by
    rw [Rat.intCast_mul, ← e]
    have : ((1000000 : Int) : Rat) = 1000000 := rfl
    grind
  rw [e', ← Rat.intCast_mul] at h1 h2
  exact ⟨Rat.intCast_le_intCast.1 h1, Rat.intCast_le_intCast.1 h2⟩

theorem EncQ.lohi {a : Span} {x : Rat} (h : EncQ a x) : a.lo ≤ a.hi := by
  have : (a.lo : Rat) ≤ (a.hi : Rat) := Rat.le_trans h.1 h.2
  exact_mod_cast this

theorem EncQ.mul {a b p : Span} {x y : Rat} (ha : EncQ a x) (hb : EncQ b y) (h : mulS a b = (p, 0)) : EncQ p (x * y) := by
  have h1 : (0 : Int) < (x.den : Int) := by have := x.den_pos; omega
  have h2 : (0 : Int) < (y.den : Int) := by have := y.den_pos; omega
  refine EncQ.of (Int.mul_pos (Int.mul_pos h1 h2) (by omega)) (Enc.mul h1 h2 ha.enc hb.enc h) ?_
  have e1 := rat_den x; have e2 := rat_den y
  simp only [Rat.intCast_mul]
  rw [← e1, ← e2]
  have : ((1000000 : Int) : Rat) = 1000000 := rfl
  grind

theorem EncQ.add {a b p : Span} {x y : Rat} (ha : EncQ a x) (hb : EncQ b y) (h : addS a b = (p, 0)) : EncQ p (x + y) := by
  have l1 := ha.lohi; have l2 := hb.lohi
  have k1 := Enc.add (d := 1) (X := a.lo) (Y := b.lo) (by unfold Enc; omega) (by unfold Enc; omega) h
  have k2 := Enc.add (d := 1) (X := a.hi) (Y := b.hi) (by unfold Enc; omega) (by unfold Enc; omega) h
  unfold Enc at k1 k2
  have c1 : ((p.lo : Int) : Rat) ≤ ((a.lo + b.lo : Int) : Rat) := by exact_mod_cast (show p.lo ≤ a.lo + b.lo by omega)
  have c2 : ((a.hi + b.hi : Int) : Rat) ≤ ((p.hi : Int) : Rat) := by exact_mod_cast (show a.hi + b.hi ≤ p.hi by omega)
  rw [Rat.intCast_add] at c1 c2
  obtain ⟨u1, u2⟩ := ha
  obtain ⟨v1, v2⟩ := hb
  refine ⟨?_, ?_⟩ <;> grind

theorem EncQ.neg {a : Span} {x : Rat} (h : EncQ a x) : EncQ (negS a) (-x) := by
  obtain ⟨u, v⟩ := h
  unfold EncQ negS
  simp only [Rat.intCast_neg]
  refine ⟨?_, ?_⟩ <;> grind
theorem EncQ.zero : EncQ spanZ 0 := by
  unfold EncQ spanZ
  simp only [Rat.intCast_zero]
  refine ⟨?_, ?_⟩ <;> grind

theorem EncQ.common {a b : Span} {x y : Rat} (ha : EncQ a x) (hb : EncQ b y) (h1 : x * 1000000 < y * 1000000 + 1) (h2 : y * 1000000 < x * 1000000 + 1) : commonB a b = true := by
  obtain ⟨u1, u2⟩ := ha
  obtain ⟨v1, v2⟩ := hb
  have c1 : (a.lo : Rat) < ((b.hi + 1 : Int) : Rat) := by rw [Rat.intCast_add, Rat.intCast_one]; grind
  have c2 : (b.lo : Rat) < ((a.hi + 1 : Int) : Rat) := by rw [Rat.intCast_add, Rat.intCast_one]; grind
  have d1 : a.lo < b.hi + 1 := by exact_mod_cast c1
  have d2 : b.lo < a.hi + 1 := by exact_mod_cast c2
  rw [commonB_iff]
  omega

/-! ### Sums of products -/

theorem ranged_cases (a : Span) : (rangedS a = (a, 0) ∧ spanValid a = true) ∨ rangedS a = (spanZ, 16) := by
  unfold rangedS
  cases h : spanValid a with
  | true => exact .inl ⟨rfl, rfl⟩
  | false => exact .inr rfl
theorem mulS_cases {a b : Span} (ha : spanValid a = true) (hb : spanValid b = true) : (∃ p, mulS a b = (p, 0) ∧ spanValid p = true) ∨ mulS a b = (spanZ, 16) := by
  unfold mulS
  rw [ha, hb]
  simp only [Bool.and_self, cond_true]
  rcases ranged_cases ⟨min4 (a.lo * b.lo) (a.lo * b.hi) (a.hi * b.lo) (a.hi * b.hi) / 1000000, -(-(max4 (a.lo * b.lo) (a.lo * b.hi) (a.hi * b.lo) (a.hi * b.hi)) / 1000000)⟩ with ⟨e, v⟩ | e
  · exact .inl ⟨_, e, v⟩
  · exact .inr e
theorem addS_cases {a b : Span} (ha : spanValid a = true) (hb : spanValid b = true) : (∃ p, addS a b = (p, 0) ∧ spanValid p = true) ∨ addS a b = (spanZ, 16) := by
  unfold addS
  rw [ha, hb]
  simp only [Bool.and_self, cond_true]
  rcases ranged_cases ⟨a.lo + b.lo, a.hi + b.hi⟩ with ⟨e, v⟩ | e
  · exact .inl ⟨_, e, v⟩
  · exact .inr e

structure SQ (a : Span) (x : Rat) : Prop where
  ok : spanValid a = true
  enc : EncQ a x

theorem prods_step {sum a b : Span} {r : List (Span × Span)} {z x y : Rat} (hs : SQ sum z) (ha : SQ a x) (hb : SQ b y) : (∃ s, SQ s (z + x * y) ∧ prodsS sum ((a, b) :: r) = prodsS s r) ∨ prodsS sum ((a, b) :: r) = (spanZ, 16) := by
  rw [prodsS]
  rcases mulS_cases ha.ok hb.ok with ⟨p, e, v⟩ | e
  · rcases addS_cases hs.ok v with ⟨s, e', v'⟩ | e'
    · left
      refine ⟨s, ⟨v', hs.enc.add (ha.enc.mul hb.enc e) e'⟩, ?_⟩
      simp [e, e']
    · right; simp [e, e']
  · right; simp [e]

theorem SQ.zero : SQ spanZ 0 := ⟨by decide, EncQ.zero⟩

theorem prods3 {a1 b1 a2 b2 a3 b3 : Span} {x1 y1 x2 y2 x3 y3 : Rat} (h1 : SQ a1 x1) (k1 : SQ b1 y1) (h2 : SQ a2 x2) (k2 : SQ b2 y2) (h3 : SQ a3 x3) (k3 : SQ b3 y3) :
    (∃ p, prodsS spanZ [(a1, b1), (a2, b2), (a3, b3)] = (p, 0) ∧ SQ p (x1 * y1 + x2 * y2 + x3 * y3)) ∨ prodsS spanZ [(a1, b1), (a2, b2), (a3, b3)] = (spanZ, 16) := by
  rcases prods_step (r := [(a2, b2), (a3, b3)]) SQ.zero h1 k1 with ⟨s1, e1, q1⟩ | q1
  · rcases prods_step (r := [(a3, b3)]) e1 h2 k2 with ⟨s2, e2, q2⟩ | q2
    · rcases prods_step (r := []) e2 h3 k3 with ⟨s3, e3, q3⟩ | q3
      · left
        refine ⟨s3, by rw [q1, q2, q3]; rfl, ?_⟩
        have : x1 * y1 + x2 * y2 + x3 * y3 = 0 + x1 * y1 + x2 * y2 + x3 * y3 := by grind
        rw [this]; exact e3
      · right; rw [q1, q2, q3]
    · right; rw [q1, q2]
  · right; rw [q1]

structure DQ (d : Dir) (x y z : Rat) : Prop where
  x : SQ d.x x
  y : SQ d.y y
  z : SQ d.z z

theorem dot_q {a b : Dir} {x y z x' y' z' : Rat} (ha : DQ a x y z) (hb : DQ b x' y' z') : (∃ p, dotS a b = (p, 0) ∧ SQ p (x * x' + y * y' + z * z')) ∨ dotS a b = (spanZ, 16) := by
  unfold dotS
  have : [a.x, a.y, a.z, b.x, b.y, b.z].all spanValid = true := by simp [ha.x.ok, ha.y.ok, ha.z.ok, hb.x.ok, hb.y.ok, hb.z.ok]
  rw [this]
  exact prods3 ha.x hb.x ha.y hb.y ha.z hb.z

theorem of_q {f : Frac} (hf : FracOk f) : (∃ p, ofS f = (p, 0) ∧ SQ p (val f)) ∨ ofS f = (spanZ, 16) := by
  have hd : ofS f = rangedS (aroundS f) := by unfold ofS; rw [fracOkB_iff.2 hf]; rfl
  rcases ranged_cases (aroundS f) with ⟨e, v⟩ | e
  · left
    have e' : ofS f = (aroundS f, 0) := by rw [hd, e]
    refine ⟨_, e', v, ?_⟩
    have k := ofS_enc hf (by rw [e'])
    rw [e'] at k
    refine EncQ.of (by have := hf.denlo; omega) k ?_
    have := val_mul hf
    rw [Rat.intCast_mul, ← this]
    have : ((1000000 : Int) : Rat) = 1000000 := rfl
    grind
  · right; rw [hd, e]

theorem along_q {d : Dir} {v : Vec} {x y z : Rat} (hd : DQ d x y z) (hv : VecOk v) : (∃ p, alongS d v = (p, 0) ∧ SQ p (x * val v.x + y * val v.y + z * val v.z)) ∨ alongS d v = (spanZ, 16) := by
  unfold alongS
  have : [d.x, d.y, d.z].all spanValid = true := by simp [hd.x.ok, hd.y.ok, hd.z.ok]
  rw [this, vecOkB_iff.2 hv]
  simp only [cond_true]
  rcases of_q hv.x with ⟨p, e1, q1⟩ | e1
  · rcases of_q hv.y with ⟨q, e2, q2⟩ | e2
    · rcases of_q hv.z with ⟨r, e3, q3⟩ | e3
      · rw [e1, e2, e3]
        exact prods3 hd.x q1 hd.y q2 hd.z q3
      · right; rw [e1, e2, e3]; rfl
    · right; rw [e1, e2]; rfl
  · right; rw [e1]; rfl

/-! ### Sines as rational numbers -/

def sQ (k : Int) : Rat := (SZ 720 (4 * k) : Rat) / 18446744073709551616
def cQ (k : Int) : Rat := (CZ 720 (4 * k) : Rat) / 18446744073709551616

theorem sinT_q (k : Int) : SQ (sinT k) (sQ k) := by
  refine ⟨unit_valid (sinT_unit k), EncQ.of (by decide) (sinT_enc k) ?_⟩
  unfold sQ
  rw [Rat.intCast_mul]
  have e1 : ((1000000 : Int) : Rat) = 1000000 := rfl
  have e2 : ((18446744073709551616 : Int) : Rat) = 18446744073709551616 := rfl
  rw [e1, e2]
  grind
theorem cosT_q (k : Int) : SQ (cosT k) (cQ k) := by
  refine ⟨unit_valid (cosT_unit k), EncQ.of (by decide) (cosT_enc k) ?_⟩
  unfold cQ
  rw [Rat.intCast_mul]
  have e1 : ((1000000 : Int) : Rat) = 1000000 := rfl
  have e2 : ((18446744073709551616 : Int) : Rat) = 18446744073709551616 := rfl
  rw [e1, e2]
  grind

def tiny : Rat := 1 / 281474976710656

theorem pythQ (k : Int) : -tiny ≤ sQ k * sQ k + cQ k * cQ k - 1 ∧ sQ k * sQ k + cQ k * cQ k - 1 ≤ tiny := by
  have h := pyth (4 * k)
  unfold Abs at h
  have e : (sQ k * sQ k + cQ k * cQ k - 1) * 340282366920938463463374607431768211456 = ((SZ 720 (4 * k) * SZ 720 (4 * k) + CZ 720 (4 * k) * CZ 720 (4 * k) - 340282366920938463463374607431768211456 : Int) : Rat) := by
    unfold sQ cQ
    simp only [Rat.intCast_sub, Rat.intCast_add, Rat.intCast_mul]
    have e2 : ((340282366920938463463374607431768211456 : Int) : Rat) = 340282366920938463463374607431768211456 := rfl
    rw [e2]
    grind
  have t : tiny * 340282366920938463463374607431768211456 = 1208925819614629174706176 := by unfold tiny; grind
  generalize SZ 720 (4 * k) * SZ 720 (4 * k) + CZ 720 (4 * k) * CZ 720 (4 * k) - 340282366920938463463374607431768211456 = Z at *
  have c1 : ((-1208925819614629174706176 : Int) : Rat) ≤ (Z : Rat) := Rat.intCast_le_intCast.2 h.1
  have c2 : (Z : Rat) ≤ ((1208925819614629174706176 : Int) : Rat) := Rat.intCast_le_intCast.2 h.2
  have e3 : ((-1208925819614629174706176 : Int) : Rat) = -1208925819614629174706176 := rfl
  have e4 : ((1208925819614629174706176 : Int) : Rat) = 1208925819614629174706176 := rfl
  rw [e3] at c1
  rw [e4] at c2
  generalize sQ k * sQ k + cQ k * cQ k - 1 = X at *
  refine ⟨?_, ?_⟩ <;> grind

/-! ### The axes -/

def axU (ra tick : Int) : Dir := ⟨negS (sinT (ra - tick)), cosT (ra - tick), spanZ⟩
def axV (ra dec tick : Int) : Dir := ⟨negS (mulS (sinT dec) (cosT (ra - tick))).1, negS (mulS (sinT dec) (sinT (ra - tick))).1, cosT dec⟩

theorem SQ.neg {a : Span} {x : Rat} (h : SQ a x) : SQ (negS a) (-x) := ⟨by rw [spanValid_negS]; exact h.ok, h.enc.neg⟩

theorem axU_q (ra tick : Int) : DQ (axU ra tick) (-sQ (ra - tick)) (cQ (ra - tick)) 0 := ⟨(sinT_q _).neg, cosT_q _, SQ.zero⟩
theorem prod_q {a b : Span} (ua : Unit1 a) (ub : Unit1 b) {x y : Rat} (ha : SQ a x) (hb : SQ b y) : SQ (mulS a b).1 (x * y) ∧ (mulS a b).2 = 0 ∧ Unit1 (mulS a b).1 := by
  obtain ⟨p, e, u⟩ := mulS_unit ua ub
  rw [e]
  exact ⟨⟨unit_valid u, ha.enc.mul hb.enc e⟩, rfl, u⟩
theorem axV_q (ra dec tick : Int) : DQ (axV ra dec tick) (-(sQ dec * cQ (ra - tick))) (-(sQ dec * sQ (ra - tick))) (cQ dec) :=
  ⟨(prod_q (sinT_unit _) (cosT_unit _) (sinT_q _) (cosT_q _)).1.neg, (prod_q (sinT_unit _) (sinT_unit _) (sinT_q _) (sinT_q _)).1.neg, cosT_q _⟩
theorem dirS_q (ra dec tick : Int) : DQ (dirS ra dec tick) (cQ dec * cQ (ra - tick)) (cQ dec * sQ (ra - tick)) (sQ dec) :=
  ⟨(prod_q (cosT_unit _) (cosT_unit _) (cosT_q _) (cosT_q _)).1, (prod_q (cosT_unit _) (sinT_unit _) (cosT_q _) (sinT_q _)).1, sinT_q _⟩

end Go.Ev
