/-
  Sines and cosines of half degrees: their squares add up to one, nearly. A test of all of them by the kernel. No program here.
  Enclosures of rational numbers: sums, products, dot products; the axes of a source. No program here.
  Projections: axes, projections, squares; the laws ProjSquare and ProjKeeps. No program here.
  Sines and cosines of parts of a turn, one by one. No program here.
  Sines and cosines of half degrees: the program's enclosures are the reference's. No program here.
  Projections, the reference's way; the law ProjAxes. No program here.
-/
import Derived.Test.YtglifoijcdfjaaaGreatDoorT720
import Derived.Test.YtglifoijcdfjaaaGreatDoorUnit2
import Derived.Test.YtglifoijcdfjaaaGreatDoorVec
import Derived.Test.YtglifoijcdfjaaaGreatDoorVecL
import Derived.Test.YtglifoijcdfjaaaGreatDoorSinTab
import Derived.Test.YtglifoijcdfjaaaGreatDoorUnit
namespace Go.Ev
open Go

def pyOne (w : Nat) : Bool := vC w 720 fun s => vC (720 - w) 720 fun c => Nat.ble (s * s + c * c) (340282366920938463463374607431768211456 + 1208925819614629174706176) && Nat.ble 340282366920938463463374607431768211456 (s * s + c * c + 1208925819614629174706176)
def pyAll : Nat → Bool
  | 0 => pyOne 0
  | n + 1 => bif pyOne (n + 1) then pyAll n else false
theorem py720 : pyAll 720 = true := by decide +kernel

theorem pyAll_one (n : Nat) : pyAll n = true → ∀ w, w ≤ n → pyOne w = true := by
  induction n with
  | zero =>
    intro h w hw
    obtain rfl := Nat.le_zero.1 hw
    exact h
  | succ n ih =>
    intro h w hw
    rw [pyAll] at h
    cases h1 : pyOne (n + 1) with
    | false => rw [h1] at h; cases h
    | true =>
      rw [h1] at h
      rcases Nat.lt_or_ge n w with q | q
      · obtain rfl := Nat.le_antisymm hw q
        exact h1
      · exact ih h w q

theorem py_at {w : Int} (hw : 0 ≤ w ∧ w ≤ 720) : Abs (VI w 720 * VI w 720 + VI (720 - w) 720 * VI (720 - w) 720 - 340282366920938463463374607431768211456) 1208925819614629174706176 := by
  obtain ⟨m, rfl⟩ := Int.eq_ofNat_of_zero_le hw.1
  have h := pyAll_one 720 py720 m (by omega)
  unfold pyOne at h
  obtain ⟨s, hs, h⟩ := vC_ok (by omega) (by omega) h
  obtain ⟨c, hc, h⟩ := vC_ok (by omega) (by omega) h
  simp only [Bool.and_eq_true, Nat.ble_eq] at h
  have e : (((720 - m : Nat) : Int)) = 720 - (m : Int) := by omega
  rw [e] at hc
  have e7 : ((720 : Nat) : Int) = 720 := rfl
  rw [e7] at hs hc
  rw [← hs, ← hc]
  unfold Abs
  rw [← Int.natCast_mul, ← Int.natCast_mul]
  generalize s * s = S at *
  generalize c * c = C at *
  omega

theorem py_turn (u : Int) : SZ 720 (u + 720) * SZ 720 (u + 720) + CZ 720 (u + 720) * CZ 720 (u + 720) = SZ 720 u * SZ 720 u + CZ 720 u * CZ 720 u := by
  rw [CZ_quarter (by omega), show SZ 720 (u + 720) = CZ 720 u from rfl, Int.neg_mul_neg, Int.add_comm]

theorem pyth (u : Int) : Abs (SZ 720 u * SZ 720 u + CZ 720 u * CZ 720 u - 340282366920938463463374607431768211456) 1208925819614629174706176 := by
  obtain ⟨w, k, h1, h2, h⟩ := quad_cases (show (0 : Int) < 720 by omega) u
  have base : Abs (SZ 720 (w + 4 * 720 * k) * SZ 720 (w + 4 * 720 * k) + CZ 720 (w + 4 * 720 * k) * CZ 720 (w + 4 * 720 * k) - 340282366920938463463374607431768211456) 1208925819614629174706176 := by
    have e := SZ_at (n := 720) (w := w) (k := k) (by omega) (by omega)
    rw [e.1, e.2]
    exact py_at (by omega)
  rcases h with h | h | h | h
  · rw [h]; exact base
  · rw [show u = (w + 4 * 720 * k) + 720 by omega, py_turn]; exact base
  · rw [show u = (w + 4 * 720 * k) + 720 + 720 by omega, py_turn, py_turn]; exact base
  · rw [show u = (w + 4 * 720 * k) + 720 + 720 + 720 by omega, py_turn, py_turn, py_turn]; exact base

end Go.Ev

namespace Go.Ev
open Go

def EncQ (a : Span) (x : Rat) : Prop := (a.lo : Rat) ≤ x * 1000000 ∧ x * 1000000 ≤ (a.hi : Rat)

theorem EncQ.of {a : Span} {X d : Int} (hd : 0 < d) (h : Enc a X d) {x : Rat} (hx : x * 1000000 * (d : Rat) = X) : EncQ a x := by
  have hp : (0 : Rat) < (d : Rat) := by exact_mod_cast hd
  have h1 : ((a.lo * d : Int) : Rat) ≤ (X : Rat) := by exact_mod_cast h.1
  have h2 : (X : Rat) ≤ ((a.hi * d : Int) : Rat) := by exact_mod_cast h.2
  rw [Rat.intCast_mul, ← hx] at h1 h2
  exact ⟨Rat.le_of_mul_le_mul_right h1 hp, Rat.le_of_mul_le_mul_right h2 hp⟩

theorem rat_den (x : Rat) : x * ((x.den : Int) : Rat) = (x.num : Rat) := by
  have h : ((x.den : Int) : Rat) ≠ 0 := by exact_mod_cast (show (x.den : Int) ≠ 0 by have := x.den_pos; omega)
  have e : (x.num : Rat) / ((x.den : Int) : Rat) = x := by rw [← Rat.divInt_eq_div]; exact Rat.num_divInt_den x
  have e2 := Rat.div_mul_cancel (a := (x.num : Rat)) h
  rw [e] at e2
  exact e2

theorem EncQ.enc {a : Span} {x : Rat} (h : EncQ a x) : Enc a (x.num * 1000000) (x.den : Int) := by
  have hd : (0 : Int) < (x.den : Int) := by have := x.den_pos; omega
  have hp : (0 : Rat) ≤ ((x.den : Int) : Rat) := by exact_mod_cast (Int.le_of_lt hd)
  have e := rat_den x
  have h1 := Rat.mul_le_mul_of_nonneg_right h.1 hp
  have h2 := Rat.mul_le_mul_of_nonneg_right h.2 hp
  have e' : x * 1000000 * ((x.den : Int) : Rat) = ((x.num * 1000000 : Int) : Rat) := by
    rw [Rat.intCast_mul, ← e]
    have : ((1000000 : Int) : Rat) = 1000000 := rfl
    grind
  rw [e', ← Rat.intCast_mul] at h1 h2
  exact ⟨Rat.intCast_le_intCast.1 h1, Rat.intCast_le_intCast.1 h2⟩

theorem EncQ.lohi {a : Span} {x : Rat} (h : EncQ a x) : a.lo ≤ a.hi := by
  have : (a.lo : Rat) ≤ (a.hi : Rat) := Rat.le_trans h.1 h.2
  exact_mod_cast this

theorem EncQ.mul {a b p : Span} {x y : Rat} (ha : EncQ a x) (hb : EncQ b y) (h : mulS a b = (p, 0)) : EncQ p (x * y) := by
  have h1 : (0 : Int) < (x.den : Int) := by have := x.den_pos; omega
  have h2 : (0 : Int) < (y.den : Int) := by have := y.den_pos; omega
  refine EncQ.of (Int.mul_pos (Int.mul_pos h1 h2) (by omega)) (Enc.mul h1 h2 ha.enc hb.enc h) ?_
  have e1 := rat_den x; have e2 := rat_den y
  simp only [Rat.intCast_mul]
  rw [← e1, ← e2]
  have : ((1000000 : Int) : Rat) = 1000000 := rfl
  grind

theorem EncQ.add {a b p : Span} {x y : Rat} (ha : EncQ a x) (hb : EncQ b y) (h : addS a b = (p, 0)) : EncQ p (x + y) := by
  have l1 := ha.lohi; have l2 := hb.lohi
  have k1 := Enc.add (d := 1) (X := a.lo) (Y := b.lo) (by unfold Enc; omega) (by unfold Enc; omega) h
  have k2 := Enc.add (d := 1) (X := a.hi) (Y := b.hi) (by unfold Enc; omega) (by unfold Enc; omega) h
  unfold Enc at k1 k2
  have c1 : ((p.lo : Int) : Rat) ≤ ((a.lo + b.lo : Int) : Rat) := by exact_mod_cast (show p.lo ≤ a.lo + b.lo by omega)
  have c2 : ((a.hi + b.hi : Int) : Rat) ≤ ((p.hi : Int) : Rat) := by exact_mod_cast (show a.hi + b.hi ≤ p.hi by omega)
  rw [Rat.intCast_add] at c1 c2
  obtain ⟨u1, u2⟩ := ha
  obtain ⟨v1, v2⟩ := hb
  refine ⟨?_, ?_⟩ <;> grind

theorem EncQ.neg {a : Span} {x : Rat} (h : EncQ a x) : EncQ (negS a) (-x) := by
  obtain ⟨u, v⟩ := h
  unfold EncQ negS
  simp only [Rat.intCast_neg]
  refine ⟨?_, ?_⟩ <;> grind
theorem EncQ.zero : EncQ spanZ 0 := by
  unfold EncQ spanZ
  simp only [Rat.intCast_zero]
  refine ⟨?_, ?_⟩ <;> grind

theorem EncQ.common {a b : Span} {x y : Rat} (ha : EncQ a x) (hb : EncQ b y) (h1 : x * 1000000 < y * 1000000 + 1) (h2 : y * 1000000 < x * 1000000 + 1) : commonB a b = true := by
  obtain ⟨u1, u2⟩ := ha
  obtain ⟨v1, v2⟩ := hb
  have c1 : (a.lo : Rat) < ((b.hi + 1 : Int) : Rat) := by rw [Rat.intCast_add, Rat.intCast_one]; grind
  have c2 : (b.lo : Rat) < ((a.hi + 1 : Int) : Rat) := by rw [Rat.intCast_add, Rat.intCast_one]; grind
  have d1 : a.lo < b.hi + 1 := by exact_mod_cast c1
  have d2 : b.lo < a.hi + 1 := by exact_mod_cast c2
  rw [commonB_iff]
  omega

/-! ### Sums of products -/

theorem ranged_cases (a : Span) : (rangedS a = (a, 0) ∧ spanValid a = true) ∨ rangedS a = (spanZ, 16) := by
  unfold rangedS
  cases h : spanValid a with
  | true => exact .inl ⟨rfl, rfl⟩
  | false => exact .inr rfl
theorem mulS_cases {a b : Span} (ha : spanValid a = true) (hb : spanValid b = true) : (∃ p, mulS a b = (p, 0) ∧ spanValid p = true) ∨ mulS a b = (spanZ, 16) := by
  unfold mulS
  rw [ha, hb]
  simp only [Bool.and_self, cond_true]
  rcases ranged_cases ⟨min4 (a.lo * b.lo) (a.lo * b.hi) (a.hi * b.lo) (a.hi * b.hi) / 1000000, -(-(max4 (a.lo * b.lo) (a.lo * b.hi) (a.hi * b.lo) (a.hi * b.hi)) / 1000000)⟩ with ⟨e, v⟩ | e
  · exact .inl ⟨_, e, v⟩
  · exact .inr e
theorem addS_cases {a b : Span} (ha : spanValid a = true) (hb : spanValid b = true) : (∃ p, addS a b = (p, 0) ∧ spanValid p = true) ∨ addS a b = (spanZ, 16) := by
  unfold addS
  rw [ha, hb]
  simp only [Bool.and_self, cond_true]
  rcases ranged_cases ⟨a.lo + b.lo, a.hi + b.hi⟩ with ⟨e, v⟩ | e
  · exact .inl ⟨_, e, v⟩
  · exact .inr e

structure SQ (a : Span) (x : Rat) : Prop where
  ok : spanValid a = true
  enc : EncQ a x

theorem prods_step {sum a b : Span} {r : List (Span × Span)} {z x y : Rat} (hs : SQ sum z) (ha : SQ a x) (hb : SQ b y) : (∃ s, SQ s (z + x * y) ∧ prodsS sum ((a, b) :: r) = prodsS s r) ∨ prodsS sum ((a, b) :: r) = (spanZ, 16) := by
  rw [prodsS]
  rcases mulS_cases ha.ok hb.ok with ⟨p, e, v⟩ | e
  · rcases addS_cases hs.ok v with ⟨s, e', v'⟩ | e'
    · left
      refine ⟨s, ⟨v', hs.enc.add (ha.enc.mul hb.enc e) e'⟩, ?_⟩
      simp [e, e']
    · right; simp [e, e']
  · right; simp [e]

theorem SQ.zero : SQ spanZ 0 := ⟨by decide, EncQ.zero⟩

theorem prods3 {a1 b1 a2 b2 a3 b3 : Span} {x1 y1 x2 y2 x3 y3 : Rat} (h1 : SQ a1 x1) (k1 : SQ b1 y1) (h2 : SQ a2 x2) (k2 : SQ b2 y2) (h3 : SQ a3 x3) (k3 : SQ b3 y3) :
    (∃ p, prodsS spanZ [(a1, b1), (a2, b2), (a3, b3)] = (p, 0) ∧ SQ p (x1 * y1 + x2 * y2 + x3 * y3)) ∨ prodsS spanZ [(a1, b1), (a2, b2), (a3, b3)] = (spanZ, 16) := by
  rcases prods_step (r := [(a2, b2), (a3, b3)]) SQ.zero h1 k1 with ⟨s1, e1, q1⟩ | q1
  · rcases prods_step (r := [(a3, b3)]) e1 h2 k2 with ⟨s2, e2, q2⟩ | q2
    · rcases prods_step (r := []) e2 h3 k3 with ⟨s3, e3, q3⟩ | q3
      · left
        refine ⟨s3, by rw [q1, q2, q3]; rfl, ?_⟩
        have : x1 * y1 + x2 * y2 + x3 * y3 = 0 + x1 * y1 + x2 * y2 + x3 * y3 := by grind
        rw [this]; exact e3
      · right; rw [q1, q2, q3]
    · right; rw [q1, q2]
  · right; rw [q1]

structure DQ (d : Dir) (x y z : Rat) : Prop where
  x : SQ d.x x
  y : SQ d.y y
  z : SQ d.z z

theorem dot_q {a b : Dir} {x y z x' y' z' : Rat} (ha : DQ a x y z) (hb : DQ b x' y' z') : (∃ p, dotS a b = (p, 0) ∧ SQ p (x * x' + y * y' + z * z')) ∨ dotS a b = (spanZ, 16) := by
  unfold dotS
  have : [a.x, a.y, a.z, b.x, b.y, b.z].all spanValid = true := by simp [ha.x.ok, ha.y.ok, ha.z.ok, hb.x.ok, hb.y.ok, hb.z.ok]
  rw [this]
  exact prods3 ha.x hb.x ha.y hb.y ha.z hb.z

theorem of_q {f : Frac} (hf : FracOk f) : (∃ p, ofS f = (p, 0) ∧ SQ p (val f)) ∨ ofS f = (spanZ, 16) := by
  have hd : ofS f = rangedS (aroundS f) := by unfold ofS; rw [fracOkB_iff.2 hf]; rfl
  rcases ranged_cases (aroundS f) with ⟨e, v⟩ | e
  · left
    have e' : ofS f = (aroundS f, 0) := by rw [hd, e]
    refine ⟨_, e', v, ?_⟩
    have k := ofS_enc hf (by rw [e'])
    rw [e'] at k
    refine EncQ.of (by have := hf.denlo; omega) k ?_
    have := val_mul hf
    rw [Rat.intCast_mul, ← this]
    have : ((1000000 : Int) : Rat) = 1000000 := rfl
    grind
  · right; rw [hd, e]

theorem along_q {d : Dir} {v : Vec} {x y z : Rat} (hd : DQ d x y z) (hv : VecOk v) : (∃ p, alongS d v = (p, 0) ∧ SQ p (x * val v.x + y * val v.y + z * val v.z)) ∨ alongS d v = (spanZ, 16) := by
  unfold alongS
  have : [d.x, d.y, d.z].all spanValid = true := by simp [hd.x.ok, hd.y.ok, hd.z.ok]
  rw [this, vecOkB_iff.2 hv]
  simp only [cond_true]
  rcases of_q hv.x with ⟨p, e1, q1⟩ | e1
  · rcases of_q hv.y with ⟨q, e2, q2⟩ | e2
    · rcases of_q hv.z with ⟨r, e3, q3⟩ | e3
      · rw [e1, e2, e3]
        exact prods3 hd.x q1 hd.y q2 hd.z q3
      · right; rw [e1, e2, e3]; rfl
    · right; rw [e1, e2]; rfl
  · right; rw [e1]; rfl

/-! ### Sines as rational numbers -/

def sQ (k : Int) : Rat := (SZ 720 (4 * k) : Rat) / 18446744073709551616
def cQ (k : Int) : Rat := (CZ 720 (4 * k) : Rat) / 18446744073709551616

theorem sinT_q (k : Int) : SQ (sinT k) (sQ k) := by
  refine ⟨unit_valid (sinT_unit k), EncQ.of (by decide) (sinT_enc k) ?_⟩
  unfold sQ
  rw [Rat.intCast_mul]
  have e1 : ((1000000 : Int) : Rat) = 1000000 := rfl
  have e2 : ((18446744073709551616 : Int) : Rat) = 18446744073709551616 := rfl
  rw [e1, e2]
  grind
theorem cosT_q (k : Int) : SQ (cosT k) (cQ k) := by
  refine ⟨unit_valid (cosT_unit k), EncQ.of (by decide) (cosT_enc k) ?_⟩
  unfold cQ
  rw [Rat.intCast_mul]
  have e1 : ((1000000 : Int) : Rat) = 1000000 := rfl
  have e2 : ((18446744073709551616 : Int) : Rat) = 18446744073709551616 := rfl
  rw [e1, e2]
  grind

def tiny : Rat := 1 / 281474976710656

theorem pythQ (k : Int) : -tiny ≤ sQ k * sQ k + cQ k * cQ k - 1 ∧ sQ k * sQ k + cQ k * cQ k - 1 ≤ tiny := by
  have h := pyth (4 * k)
  unfold Abs at h
  have e : (sQ k * sQ k + cQ k * cQ k - 1) * 340282366920938463463374607431768211456 = ((SZ 720 (4 * k) * SZ 720 (4 * k) + CZ 720 (4 * k) * CZ 720 (4 * k) - 340282366920938463463374607431768211456 : Int) : Rat) := by
    unfold sQ cQ
    simp only [Rat.intCast_sub, Rat.intCast_add, Rat.intCast_mul]
    have e2 : ((340282366920938463463374607431768211456 : Int) : Rat) = 340282366920938463463374607431768211456 := rfl
    rw [e2]
    grind
  have t : tiny * 340282366920938463463374607431768211456 = 1208925819614629174706176 := by unfold tiny; grind
  generalize SZ 720 (4 * k) * SZ 720 (4 * k) + CZ 720 (4 * k) * CZ 720 (4 * k) - 340282366920938463463374607431768211456 = Z at *
  have c1 : ((-1208925819614629174706176 : Int) : Rat) ≤ (Z : Rat) := Rat.intCast_le_intCast.2 h.1
  have c2 : (Z : Rat) ≤ ((1208925819614629174706176 : Int) : Rat) := Rat.intCast_le_intCast.2 h.2
  have e3 : ((-1208925819614629174706176 : Int) : Rat) = -1208925819614629174706176 := rfl
  have e4 : ((1208925819614629174706176 : Int) : Rat) = 1208925819614629174706176 := rfl
  rw [e3] at c1
  rw [e4] at c2
  generalize sQ k * sQ k + cQ k * cQ k - 1 = X at *
  refine ⟨?_, ?_⟩ <;> grind

/-! ### The axes -/

def axU (ra tick : Int) : Dir := ⟨negS (sinT (ra - tick)), cosT (ra - tick), spanZ⟩
def axV (ra dec tick : Int) : Dir := ⟨negS (mulS (sinT dec) (cosT (ra - tick))).1, negS (mulS (sinT dec) (sinT (ra - tick))).1, cosT dec⟩

theorem SQ.neg {a : Span} {x : Rat} (h : SQ a x) : SQ (negS a) (-x) := ⟨by rw [spanValid_negS]; exact h.ok, h.enc.neg⟩

theorem axU_q (ra tick : Int) : DQ (axU ra tick) (-sQ (ra - tick)) (cQ (ra - tick)) 0 := ⟨(sinT_q _).neg, cosT_q _, SQ.zero⟩
theorem prod_q {a b : Span} (ua : Unit1 a) (ub : Unit1 b) {x y : Rat} (ha : SQ a x) (hb : SQ b y) : SQ (mulS a b).1 (x * y) ∧ (mulS a b).2 = 0 ∧ Unit1 (mulS a b).1 := by
  obtain ⟨p, e, u⟩ := mulS_unit ua ub
  rw [e]
  exact ⟨⟨unit_valid u, ha.enc.mul hb.enc e⟩, rfl, u⟩
theorem axV_q (ra dec tick : Int) : DQ (axV ra dec tick) (-(sQ dec * cQ (ra - tick))) (-(sQ dec * sQ (ra - tick))) (cQ dec) :=
  ⟨(prod_q (sinT_unit _) (cosT_unit _) (sinT_q _) (cosT_q _)).1.neg, (prod_q (sinT_unit _) (sinT_unit _) (sinT_q _) (sinT_q _)).1.neg, cosT_q _⟩
theorem dirS_q (ra dec tick : Int) : DQ (dirS ra dec tick) (cQ dec * cQ (ra - tick)) (cQ dec * sQ (ra - tick)) (sQ dec) :=
  ⟨(prod_q (cosT_unit _) (cosT_unit _) (cosT_q _) (cosT_q _)).1, (prod_q (cosT_unit _) (sinT_unit _) (cosT_q _) (sinT_q _)).1, sinT_q _⟩

end Go.Ev

namespace Go.Ev
open Go

structure FrameD where
  u : Dir
  v : Dir
  w : Dir
def FrameD.cells (f : FrameD) : List D := [.int .i64 f.u.x.lo, .int .i64 f.u.x.hi, .int .i64 f.u.y.lo, .int .i64 f.u.y.hi, .int .i64 f.u.z.lo, .int .i64 f.u.z.hi,
  .int .i64 f.v.x.lo, .int .i64 f.v.x.hi, .int .i64 f.v.y.lo, .int .i64 f.v.y.hi, .int .i64 f.v.z.lo, .int .i64 f.v.z.hi,
  .int .i64 f.w.x.lo, .int .i64 f.w.x.hi, .int .i64 f.w.y.lo, .int .i64 f.w.y.hi, .int .i64 f.w.z.lo, .int .i64 f.w.z.hi]
def frameZ : FrameD := ⟨dirZ, dirZ, dirZ⟩
def rFrameE (r : FrameD × Int) : AV := .tup [.agg r.1.cells, .c (.d (.int .i64 r.2))]

def axesS (ra dec tick : Int) : FrameD := ⟨axU ra tick, axV ra dec tick, dirS ra dec tick⟩
def axesV (s : Source) (tick : Int) : FrameD × Int := bif (atS s tick).2 == 0 then (axesS s.ra s.dec tick, 0) else (frameZ, (atS s tick).2)
def axesAns (K : AV → List Blk → Ans) (s : Source) (tick : Int) : Ans :=
  bif (atS s tick).2 != 0 then K (rFrameE (frameZ, (atS s tick).2)) [] else
  bif (mulS (sinT s.dec) (cosT (w64 (s.ra - tick)))).2 != 0 then K (rFrameE (frameZ, (mulS (sinT s.dec) (cosT (w64 (s.ra - tick)))).2)) [] else
  bif (mulS (sinT s.dec) (sinT (w64 (s.ra - tick)))).2 != 0 then K (rFrameE (frameZ, (mulS (sinT s.dec) (sinT (w64 (s.ra - tick)))).2)) [] else
  K (rFrameE (⟨⟨negRaw (sinT (w64 (s.ra - tick))), cosT (w64 (s.ra - tick)), spanZ⟩,
    ⟨negRaw (mulS (sinT s.dec) (cosT (w64 (s.ra - tick)))).1, negRaw (mulS (sinT s.dec) (sinT (w64 (s.ra - tick)))).1, cosT s.dec⟩, (atS s tick).1⟩, 0)) []

theorem atS_some {s : Source} {tick : Int} (h : (atS s tick).2 = 0) : SrcOk s ∧ (-1000000 ≤ tick ∧ tick ≤ 1000000) ∧ (atS s tick).1 = dirS s.ra s.dec tick := by
  unfold atS at h ⊢
  cases h1 : checkSrc s != 0 with
  | true => rw [h1] at h; simp at h
  | false =>
    rw [h1] at h
    simp only [cond_false] at h ⊢
    by_cases h2 : tick < -1000000
    · rw [decide_eq_true h2] at h; simp at h
    · rw [decide_eq_false h2] at h ⊢
      by_cases h3 : 1000000 < tick
      · rw [decide_eq_true h3] at h; simp at h
      · rw [decide_eq_false h3]
        exact ⟨checkSrc_iff.1 (by simpa using h1), by omega, rfl⟩

theorem axesAns_ok {K : AV → List Blk → Ans} {s : Source} {tick : Int} : axesAns K s tick = K (rFrameE (axesV s tick)) [] := by
  unfold axesAns axesV
  cases h : (atS s tick).2 == 0 with
  | false => simp only [bne, h, Bool.not_false, cond_true, cond_false]
  | true =>
    simp only [bne, h, Bool.not_true, cond_false, cond_true]
    obtain ⟨hs, ht, hd⟩ := atS_some (by simpa using h)
    have r1 := hs.ra0; have r2 := hs.ra1
    rw [w64_id (n := s.ra - tick) (by omega)]
    have p1 := prod_q (sinT_unit s.dec) (cosT_unit (s.ra - tick)) (sinT_q _) (cosT_q _)
    have p2 := prod_q (sinT_unit s.dec) (sinT_unit (s.ra - tick)) (sinT_q _) (sinT_q _)
    rw [p1.2.1, p2.2.1, negRaw_ok (sinT_q (s.ra - tick)).ok, negRaw_ok p1.1.ok, negRaw_ok p2.1.ok, hd]
    rfl

/-! ### Projections -/

def eachD (x y z : Span × Int) : Dir × Int := bif x.2 != 0 then (dirZ, x.2) else bif y.2 != 0 then (dirZ, y.2) else bif z.2 != 0 then (dirZ, z.2) else (⟨x.1, y.1, z.1⟩, 0)
def eachDAns (K : AV → List Blk → Ans) (x y z : Span × Int) : Ans :=
  bif !eqAll [.int .i64 x.2, .int .i64 y.2, .int .i64 z.2] [.int .i64 0, .int .i64 0, .int .i64 0] then
    (bif x.2 != 0 then K (rDirE (dirZ, x.2)) [] else bif y.2 != 0 then K (rDirE (dirZ, y.2)) [] else bif z.2 != 0 then K (rDirE (dirZ, z.2)) [] else K (rDirE (⟨x.1, y.1, z.1⟩, 0)) [])
  else K (rDirE (⟨x.1, y.1, z.1⟩, 0)) []
theorem eachDAns_ok {K : AV → List Blk → Ans} {x y z : Span × Int} : eachDAns K x y z = K (rDirE (eachD x y z)) [] := by
  unfold eachDAns eachD
  simp only [eqAll, D.eq, Bool.and_true]
  cases hx : x.2 == 0 <;> cases hy : y.2 == 0 <;> cases hz : z.2 == 0 <;> simp [bne, hx, hy, hz] <;> simp_all
def projF (v : Vec) (f : FrameD) : Dir × Int := eachD (alongS f.u v) (alongS f.v v) (alongS f.w v)
def projV (v : Vec) (s : Source) (tick : Int) : Dir × Int := bif (axesV s tick).2 == 0 then projF v (axesV s tick).1 else (dirZ, (axesV s tick).2)
def projAns (K : AV → List Blk → Ans) (v : Vec) (s : Source) (tick : Int) : Ans :=
  bif (axesV s tick).2 != 0 then K (rDirE (dirZ, (axesV s tick).2)) [] else eachDAns K (alongS (axesV s tick).1.u v) (alongS (axesV s tick).1.v v) (alongS (axesV s tick).1.w v)
theorem projAns_ok {K : AV → List Blk → Ans} {v : Vec} {s : Source} {tick : Int} : projAns K v s tick = K (rDirE (projV v s tick)) [] := by
  unfold projAns projV projF
  rw [eachDAns_ok]
  cases h : (axesV s tick).2 == 0 <;> simp [bne, h]

def normV (v : Vec) : Span × Int := bif (dotV v v).2 == 0 then ofS (dotV v v).1 else (spanZ, (dotV v v).2)
def normAns (K : AV → List Blk → Ans) (v : Vec) : Ans := bif (dotV v v).2 != 0 then K (rSpanE (spanZ, (dotV v v).2)) [] else K (rSpanE (ofS (dotV v v).1)) []
theorem normAns_ok {K : AV → List Blk → Ans} {v : Vec} : normAns K v = K (rSpanE (normV v)) [] := by
  unfold normAns normV
  cases h : (dotV v v).2 == 0 <;> simp [bne, h]

/-! ### What the laws ask first -/

def tickB (t : Int) : Bool := bif decide (t ≥ -1000000) then decide (t ≤ 1000000) else false
def fit8B (s : Source) (tick : Int) : Bool := bif decide ((s.name.size : Int) ≤ 200) then bif checkSrc s == 0 then tickB tick else false else false
theorem fit8B_ok {s : Source} {tick : Int} (h : fit8B s tick = true) : axesV s tick = (axesS s.ra s.dec tick, 0) := by
  unfold fit8B at h
  cases h1 : decide ((s.name.size : Int) ≤ 200) with
  | false => rw [h1] at h; cases h
  | true =>
    rw [h1] at h
    cases h2 : checkSrc s == 0 with
    | false => rw [h2] at h; cases h
    | true =>
      rw [h2] at h
      simp only [cond_true, tickB] at h
      by_cases h3 : tick ≥ -1000000
      · rw [decide_eq_true h3, cond_true, decide_eq_true_eq] at h
        unfold axesV
        rw [atS_ok (checkSrc_iff.1 (by simpa using h2)) ⟨by omega, h⟩]
        rfl
      · rw [decide_eq_false h3] at h; cases h

def ofI (n : Int) : Span := ⟨1000000 * n, 1000000 * n⟩
theorem ofI_q (n : Int) : SQ (ofI n) (n : Rat) ∨ spanValid (ofI n) = false := by
  cases h : spanValid (ofI n) with
  | false => exact .inr rfl
  | true =>
    left
    refine ⟨h, ?_⟩
    unfold EncQ ofI
    simp only [Rat.intCast_mul]
    have e1 : ((1000000 : Int) : Rat) = 1000000 := rfl
    rw [e1]
    refine ⟨?_, ?_⟩ <;> grind

/-! ### The law of squares -/

section
variable (K : AV → List Blk → Ans)
def sqStep (d : Span × Int) (want : Int) (more : Ans) : Ans :=
  bif d.2 != 0 then K (rB false) [] else bif !commonB d.1 (ofI want) then K (rB false) [] else bif decide (w64 (d.1.hi - d.1.lo) > 20) then K (rB false) [] else more
def squareMore (f : FrameD) : Ans :=
  sqStep K (dotS f.u f.u) 1 (sqStep K (dotS f.u f.v) 0 (sqStep K (dotS f.u f.w) 0 (sqStep K (dotS f.v f.v) 1 (sqStep K (dotS f.v f.w) 0 (sqStep K (dotS f.w f.w) 1 (K (rB true) []))))))
def lawProjSquare (s : Source) (tick : Int) : Ans :=
  bif !fit8B s tick then K (rB true) [] else bif (axesV s tick).2 != 0 then K (rB false) [] else squareMore K (axesV s tick).1
end

theorem unit_neg {a : Span} (h : Unit1 a) : Unit1 (negS a) := by unfold Unit1 negS at *; simp only; omega
theorem unit_zero : Unit1 spanZ := by unfold Unit1 spanZ; simp
theorem width_neg (a : Span) : (negS a).hi - (negS a).lo = a.hi - a.lo := by unfold negS; simp only; omega

structure Thin (d : Dir) (m n k : Int) : Prop where
  u : Unit1 d.x ∧ Unit1 d.y ∧ Unit1 d.z
  x : d.x.hi - d.x.lo ≤ m
  y : d.y.hi - d.y.lo ≤ n
  z : d.z.hi - d.z.lo ≤ k

theorem axU_thin (ra tick : Int) : Thin (axU ra tick) 1 1 0 := by
  have h1 := sinT_width (ra - tick); have h2 := cosT_width (ra - tick)
  refine ⟨⟨unit_neg (sinT_unit _), cosT_unit _, unit_zero⟩, ?_, h2, by show spanZ.hi - spanZ.lo ≤ 0; decide⟩
  show (negS (sinT (ra - tick))).hi - (negS (sinT (ra - tick))).lo ≤ 1
  rw [width_neg]; exact h1
theorem axV_thin (ra dec tick : Int) : Thin (axV ra dec tick) 3 3 1 := by
  obtain ⟨p, hp, up⟩ := mulS_unit (sinT_unit dec) (cosT_unit (ra - tick))
  obtain ⟨q, hq, uq⟩ := mulS_unit (sinT_unit dec) (sinT_unit (ra - tick))
  have w1 := mulS_width (sinT_unit dec) (cosT_unit (ra - tick)) hp
  have w2 := mulS_width (sinT_unit dec) (sinT_unit (ra - tick)) hq
  have h0 := sinT_width dec; have h1 := sinT_width (ra - tick); have h2 := cosT_width (ra - tick)
  have e1 : (axV ra dec tick).x = negS p := by unfold axV; rw [hp]
  have e2 : (axV ra dec tick).y = negS q := by unfold axV; rw [hq]
  refine ⟨⟨by rw [e1]; exact unit_neg up, by rw [e2]; exact unit_neg uq, cosT_unit _⟩, ?_, ?_, cosT_width dec⟩
  · rw [e1, width_neg]; omega
  · rw [e2, width_neg]; omega
theorem dirS_thin (ra dec tick : Int) : Thin (dirS ra dec tick) 3 3 1 := by
  obtain ⟨h1, h2, h3⟩ := dirS_width ra dec tick
  exact ⟨dirS_unit ra dec tick, h1, h2, h3⟩

theorem sqStep_ok {K : AV → List Blk → Ans} {a b : Dir} {m n k m' n' k' want : Int} {more : Ans} {x y z x' y' z' : Rat} (ha : Thin a m n k) (hb : Thin b m' n' k') (qa : DQ a x y z) (qb : DQ b x' y' z') (hw : m + m' + n + n' + k + k' + 3 ≤ 20)
    (hk : want = 0 ∨ want = 1) (e1 : (x * x' + y * y' + z * z') * 1000000 < (want : Rat) * 1000000 + 1) (e2 : (want : Rat) * 1000000 < (x * x' + y * y' + z * z') * 1000000 + 1) : sqStep K (dotS a b) want more = more := by
  obtain ⟨p, q, r, hp, hq, hr, up, uq, ur, hd⟩ := dotS_unit ha.u hb.u
  have w1 := mulS_width ha.u.1 hb.u.1 hp
  have w2 := mulS_width ha.u.2.1 hb.u.2.1 hq
  have w3 := mulS_width ha.u.2.2 hb.u.2.2 hr
  have a1 := ha.x; have a2 := ha.y; have a3 := ha.z
  have b1 := hb.x; have b2 := hb.y; have b3 := hb.z
  rcases dot_q qa qb with ⟨s, hs, qs⟩ | hs
  · rw [hd] at hs
    cases hs
    have hv : SQ (ofI want) (want : Rat) := by
      rcases ofI_q want with h | h
      · exact h
      · rcases hk with rfl | rfl
        · exact absurd h (by decide)
        · exact absurd h (by decide)
    have hc := qs.enc.common hv.enc e1 e2
    unfold Unit1 at up uq ur
    unfold sqStep
    rw [hd]
    simp only [bne_self_eq_false, cond_false]
    rw [hc, w64_id (by omega), decide_eq_false (by omega)]
    rfl
  · rw [hd] at hs; simp at hs

theorem tiny_small : tiny * 1000000000000 < 1 ∧ 0 ≤ tiny := by unfold tiny; decide +kernel
theorem sq_le_one (k : Int) : sQ k * sQ k ≤ 2 ∧ cQ k * cQ k ≤ 2 := by
  have h := pythQ k
  have t := tiny_small
  have h1 : 0 ≤ sQ k * sQ k := by
    rcases Rat.le_total (a := 0) (b := sQ k) with q | q
    · exact Rat.mul_nonneg q q
    · have : 0 ≤ (-sQ k) * (-sQ k) := Rat.mul_nonneg (by grind) (by grind)
      grind
  have h2 : 0 ≤ cQ k * cQ k := by
    rcases Rat.le_total (a := 0) (b := cQ k) with q | q
    · exact Rat.mul_nonneg q q
    · have : 0 ≤ (-cQ k) * (-cQ k) := Rat.mul_nonneg (by grind) (by grind)
      grind
  generalize sQ k * sQ k = A at *
  generalize cQ k * cQ k = B at *
  obtain ⟨t1, t2⟩ := t
  constructor <;> grind
theorem rsq (x : Rat) : 0 ≤ x * x := by
  rcases Rat.le_total (a := 0) (b := x) with q | q
  · exact Rat.mul_nonneg q q
  · have : 0 ≤ (-x) * (-x) := Rat.mul_nonneg (by grind) (by grind)
    grind

/-- A small part of a bounded number. -/
theorem small_part {P X B : Rat} (h1 : -tiny ≤ P) (h2 : P ≤ tiny) (h0 : 0 ≤ X) (hB : X ≤ B) : -(tiny * B) ≤ P * X ∧ P * X ≤ tiny * B := by
  have t := tiny_small.2
  have a1 := Rat.mul_le_mul_of_nonneg_right h2 h0
  have a2 := Rat.mul_le_mul_of_nonneg_right h1 h0
  have a3 := Rat.mul_le_mul_of_nonneg_left hB t
  constructor <;> grind

theorem lawProjSquare_ok {K : AV → List Blk → Ans} {s : Source} {tick : Int} : lawProjSquare K s tick = K (rB true) [] := by
  unfold lawProjSquare
  cases hf : fit8B s tick with
  | false => rfl
  | true =>
    rw [fit8B_ok hf]
    simp only [Bool.not_true, cond_false, bne_self_eq_false]
    unfold squareMore axesS
    simp only
    have tU := axU_thin s.ra tick; have tV := axV_thin s.ra s.dec tick; have tW := dirS_thin s.ra s.dec tick
    have qU := axU_q s.ra tick; have qV := axV_q s.ra s.dec tick; have qW := dirS_q s.ra s.dec tick
    have p1 := pythQ (s.ra - tick); have p2 := pythQ s.dec
    have u1 := sq_le_one s.dec
    have c1 : ((1 : Int) : Rat) = 1 := rfl
    have c0 : ((0 : Int) : Rat) = 0 := rfl
    have t := tiny_small
    have n1 := rsq (sQ s.dec); have n2 := rsq (cQ s.dec)
    generalize sQ (s.ra - tick) = b at *
    generalize cQ (s.ra - tick) = a at *
    generalize sQ s.dec = d at *
    generalize cQ s.dec = c at *
    obtain ⟨t1, t2⟩ := t
    have z1 := small_part p1.1 p1.2 n1 u1.1
    have z2 := small_part p1.1 p1.2 n2 u1.2
    have cd : -(2 : Rat) ≤ c * d ∧ c * d ≤ 2 := by
      have := rsq (c + d); have := rsq (c - d)
      constructor <;> grind
    have z3 : -(tiny * 6) ≤ (b * b + a * a - 1) * (c * d) ∧ (b * b + a * a - 1) * (c * d) ≤ tiny * 6 := by
      have q := small_part (X := c * d + 2) (B := 4) p1.1 p1.2 (by grind) (by grind)
      have q' := small_part (X := 2) (B := 2) p1.1 p1.2 (by decide +kernel) Rat.le_refl
      constructor <;> grind
    rw [sqStep_ok tU tU qU qU (by decide) (.inr rfl) (by rw [c1]; grind) (by rw [c1]; grind),
      sqStep_ok tU tV qU qV (by decide) (.inl rfl) (by rw [c0]; grind) (by rw [c0]; grind),
      sqStep_ok tU tW qU qW (by decide) (.inl rfl) (by rw [c0]; grind) (by rw [c0]; grind),
      sqStep_ok tV tV qV qV (by decide) (.inr rfl) (by rw [c1]; grind) (by rw [c1]; grind),
      sqStep_ok tV tW qV qW (by decide) (.inl rfl) (by rw [c0]; grind) (by rw [c0]; grind),
      sqStep_ok tW tW qW qW (by decide) (.inr rfl) (by rw [c1]; grind) (by rw [c1]; grind)]

/-! ### The law of what is kept -/

section
variable (K : AV → List Blk → Ans)
def keepSq (h : Span × Int) (n : Span) : Ans := bif h.2 == 16 then K (rB true) [] else bif h.2 == 0 then (bif commonB h.1 n then K (rB true) [] else K (rB false) []) else K (rB false) []
def keepEnd (d : Dir × Int) (n : Span × Int) : Ans := orT [d.2 != 0, n.2 != 0] (errT K d.2 (errT K n.2 (K (rB true) []))) (keepSq K (dotS d.1 d.1) n.1)
def keepUp (p : Dir × Int) (more : Ans) : Ans := andT [p.2 == 0, !eqAll p.1.x.cells (ofI 0).cells] (K (rB false) []) (andT [p.2 != 0, p.2 != 16] (K (rB false) []) more)
def lawProjKeeps (v : Vec) (s : Source) (tick : Int) : Ans :=
  orT [!fit8B s tick, checkV v != 0] (K (rB true) []) (keepUp K (projV ⟨zeroF, zeroF, v.z⟩ s tick) (keepEnd K (projV v s tick) (normV v)))
end

theorem mulS_nought {a : Span} (ha : spanValid a = true) : mulS a ⟨0, 0⟩ = (⟨0, 0⟩, 0) := by
  unfold mulS
  rw [ha]
  simp only [Int.mul_zero]
  decide +kernel
theorem ofS_nought : ofS zeroF = (⟨0, 0⟩, 0) := by decide +kernel
theorem addS_nought : addS spanZ ⟨0, 0⟩ = (spanZ, 0) := by decide +kernel

theorem up_zero {z : Frac} (ra tick : Int) (hz : FracOk z) : alongS (axU ra tick) ⟨zeroF, zeroF, z⟩ = (spanZ, 0) ∨ alongS (axU ra tick) ⟨zeroF, zeroF, z⟩ = (spanZ, 16) := by
  have q := axU_q ra tick
  have hv : [(axU ra tick).x, (axU ra tick).y, (axU ra tick).z].all spanValid = true := by simp [q.x.ok, q.y.ok, q.z.ok]
  have kv : vecOkB ⟨zeroF, zeroF, z⟩ = true := vecOkB_iff.2 ⟨zero_ok, zero_ok, hz⟩
  unfold alongS
  rw [hv, kv, ofS_nought]
  simp only [cond_true, bne_self_eq_false, cond_false]
  rcases of_q hz with ⟨r, e, k⟩ | e
  · left
    rw [e]
    simp only [bne_self_eq_false, cond_false]
    have m3 : mulS (axU ra tick).z r = (⟨0, 0⟩, 0) := by rw [show (axU ra tick).z = ⟨0, 0⟩ from rfl, mulS_comm]; exact mulS_nought k.ok
    simp [prodsS, mulS_nought q.x.ok, mulS_nought q.y.ok, m3, addS_nought]
  · right; rw [e]; rfl

theorem proj_q {v : Vec} (hv : VecOk v) (ra dec tick : Int) : (∃ d, projF v (axesS ra dec tick) = (d, 0) ∧ alongS (axU ra tick) v = (d.x, 0) ∧ DQ d (-sQ (ra - tick) * val v.x + cQ (ra - tick) * val v.y + 0 * val v.z)
    (-(sQ dec * cQ (ra - tick)) * val v.x + -(sQ dec * sQ (ra - tick)) * val v.y + cQ dec * val v.z) (cQ dec * cQ (ra - tick) * val v.x + cQ dec * sQ (ra - tick) * val v.y + sQ dec * val v.z)) ∨ projF v (axesS ra dec tick) = (dirZ, 16) := by
  unfold projF axesS eachD
  simp only
  rcases along_q (axU_q ra tick) hv with ⟨p, e1, q1⟩ | e1
  · rcases along_q (axV_q ra dec tick) hv with ⟨q, e2, q2⟩ | e2
    · rcases along_q (dirS_q ra dec tick) hv with ⟨r, e3, q3⟩ | e3
      · left
        rw [e1, e2, e3]
        exact ⟨⟨p, q, r⟩, rfl, rfl, q1, q2, q3⟩
      · right; rw [e1, e2, e3]; rfl
    · right; rw [e1, e2]; rfl
  · right; rw [e1]; rfl

theorem norm_q {v : Vec} (hv : VecOk v) : (∃ n, normV v = (n, 0) ∧ SQ n (dotQ v v)) ∨ normV v = (spanZ, 16) := by
  unfold normV
  rw [dotV_ok hv hv]
  rcases dotF_cases hv hv with ⟨m, e, k, h⟩ | e
  · rw [e]
    simp only [beq_self_eq_true, cond_true]
    rw [← h]
    exact of_q k
  · right; rw [e]; rfl

theorem keeps_bound {a b c d x y z : Rat} (p1 : -tiny ≤ b * b + a * a - 1) (p2 : b * b + a * a - 1 ≤ tiny) (r1 : -tiny ≤ d * d + c * c - 1) (r2 : d * d + c * c - 1 ≤ tiny) (hN : x * x + y * y + z * z ≤ 3000) :
    ((-b * x + a * y + 0 * z) * (-b * x + a * y + 0 * z) + (-(d * a) * x + -(d * b) * y + c * z) * (-(d * a) * x + -(d * b) * y + c * z) + (c * a * x + c * b * y + d * z) * (c * a * x + c * b * y + d * z)) * 1000000 < (x * x + y * y + z * z) * 1000000 + 1 ∧
    (x * x + y * y + z * z) * 1000000 < ((-b * x + a * y + 0 * z) * (-b * x + a * y + 0 * z) + (-(d * a) * x + -(d * b) * y + c * z) * (-(d * a) * x + -(d * b) * y + c * z) + (c * a * x + c * b * y + d * z) * (c * a * x + c * b * y + d * z)) * 1000000 + 1 := by
  have sx := rsq x; have sy := rsq y; have sz := rsq z
  have su := rsq (-b * x + a * y)
  have sh := rsq (a * x + b * y)
  obtain ⟨t1, t2⟩ := tiny_small
  have k1 := small_part (X := x * x + y * y) (B := 3000) p1 p2 (by grind) (by grind)
  have e1 : (-b * x + a * y) * (-b * x + a * y) + (a * x + b * y) * (a * x + b * y) = (x * x + y * y) + (b * b + a * a - 1) * (x * x + y * y) := by grind
  have hH : (a * x + b * y) * (a * x + b * y) ≤ 3001 := by grind
  have k2 := small_part (X := (a * x + b * y) * (a * x + b * y) + z * z) (B := 7000) r1 r2 (by grind) (by grind)
  have e2 : (-b * x + a * y + 0 * z) * (-b * x + a * y + 0 * z) + (-(d * a) * x + -(d * b) * y + c * z) * (-(d * a) * x + -(d * b) * y + c * z) + (c * a * x + c * b * y + d * z) * (c * a * x + c * b * y + d * z)
      = (x * x + y * y + z * z) + (b * b + a * a - 1) * (x * x + y * y) + (d * d + c * c - 1) * ((a * x + b * y) * (a * x + b * y) + z * z) := by grind
  rw [e2]
  generalize (b * b + a * a - 1) * (x * x + y * y) = A at *
  generalize (d * d + c * c - 1) * ((a * x + b * y) * (a * x + b * y) + z * z) = B at *
  generalize x * x + y * y + z * z = N at *
  constructor <;> grind

theorem lawProjKeeps_ok {K : AV → List Blk → Ans} {v : Vec} {s : Source} {tick : Int} : lawProjKeeps K v s tick = K (rB true) [] := by
  unfold lawProjKeeps
  refine orT_split (fun _ => rfl) fun hs => ?_
  simp only [List.mem_cons, List.not_mem_nil, or_false, forall_eq_or_imp, forall_eq, Bool.not_eq_false', bne_eq_false_iff_eq] at hs
  obtain ⟨hf, hc⟩ := hs
  have hv : VecOk v := by
    unfold checkV at hc
    cases hq : vecOkB v with
    | true => exact vecOkB_iff.1 hq
    | false => rw [hq] at hc; cases hc
  have ha := fit8B_ok hf
  have hP : ∀ w, projV w s tick = projF w (axesS s.ra s.dec tick) := fun w => by unfold projV; rw [ha]; rfl
  rw [hP, hP]
  have hend : keepEnd K (projF v (axesS s.ra s.dec tick)) (normV v) = K (rB true) [] := by
    unfold keepEnd
    rcases proj_q hv s.ra s.dec tick with ⟨d, e, _, q⟩ | e
    · rcases norm_q hv with ⟨n, en, qn⟩ | en
      · rw [e, en]
        refine orT_split (fun h => by simp at h) fun _ => ?_
        unfold keepSq
        rcases dot_q q q with ⟨h, eh, qh⟩ | eh
        · rw [eh]
          have hN : dotQ v v ≤ 3000 := by
            have h1 := qn.enc.2
            have h2 := (spanValid_iff.1 qn.ok)
            have h3 : (n.hi : Rat) ≤ ((3000000000 : Int) : Rat) := Rat.intCast_le_intCast.2 (by omega)
            have e3 : ((3000000000 : Int) : Rat) = 3000000000 := rfl
            rw [e3] at h3
            grind
          unfold dotQ at hN
          have p1 := pythQ (s.ra - tick); have p2 := pythQ s.dec
          have kb := keeps_bound p1.1 p1.2 p2.1 p2.2 hN
          have hcm := qh.enc.common qn.enc (by unfold dotQ; exact kb.1) (by unfold dotQ; exact kb.2)
          simp only
          rw [hcm]
          rfl
        · rw [eh]; rfl
      · rw [e, en]; exact orT_split (fun _ => rfl) fun h => by simp at h
    · rw [e]
      refine orT_split (fun _ => ?_) fun h => by simp at h
      rw [errT_ok (.inr rfl)]
      rcases norm_q hv with ⟨n, en, _⟩ | en
      · rw [en]; rfl
      · rw [en]; rfl
  unfold keepUp
  rw [hend]
  have ku : VecOk ⟨zeroF, zeroF, v.z⟩ := ⟨zero_ok, zero_ok, hv.z⟩
  rcases proj_q ku s.ra s.dec tick with ⟨d, e, e1, _⟩ | e
  · rw [e]
    refine andT_split (fun hall => ?_) (andT_split (fun hall => by simp at hall) rfl)
    exfalso
    rcases up_zero s.ra tick hv.z with e2 | e2
    · rw [e2] at e1
      have hx : d.x = spanZ := ((Prod.mk.inj e1).1).symm
      simp only [List.mem_cons, List.not_mem_nil, or_false, forall_eq_or_imp, forall_eq] at hall
      rw [hx] at hall
      exact absurd hall.2 (by decide)
    · rw [e2] at e1; simp at e1
  · rw [e]
    exact andT_split (fun hall => by simp at hall) (andT_split (fun hall => by simp at hall) rfl)

end Go.Ev

namespace Go.Ev
open Go

theorem angI_scale {w n c : Int} (hc : 0 < c) : angI (c * w) (c * n) = angI w n := by
  unfold angI
  rw [← Int.mul_assoc, Int.mul_comm 28976077832308491369 c, Int.mul_assoc, Int.mul_ediv_mul_of_pos _ _ hc]

theorem loI_scale {w n c : Int} (hc : 0 < c) : loI (c * w) (c * n) = loI w n := by
  have hle : ∀ x y : Int, c * x ≤ c * y ↔ x ≤ y := fun x y => ⟨fun h => Int.le_of_mul_le_mul_left h hc, fun h => Int.mul_le_mul_of_nonneg_left h (by omega)⟩
  have e1 : decide (2 * (c * w) ≤ c * n) = decide (2 * w ≤ n) := by
    apply decide_eq_decide.2
    rw [Int.mul_left_comm 2 c]
    exact hle _ _
  unfold loI
  rw [e1, ← Int.mul_sub, angI_scale hc, angI_scale hc]

theorem riseI_scale {w n c : Int} (hc : 0 < c) : riseI (c * w) (c * n) = riseI w n := by
  have heq : ∀ x y : Int, c * x = c * y ↔ x = y := fun x y => ⟨fun h => Int.eq_of_mul_eq_mul_left (by omega) h, fun h => by rw [h]⟩
  have e2 : (c * w == c * n) = (w == n) := beq_congr (heq _ _)
  have e3 : (c * w == 0) = (w == 0) := beq_congr (by have := heq w 0; simpa using this)
  have e4 : (3 * (c * w) == c * n) = (3 * w == n) := beq_congr (by rw [Int.mul_left_comm 3 c]; exact heq _ _)
  unfold riseI
  rw [e2, e3, e4, loI_scale hc]

/-- What is known of the enclosures of a sine and a cosine in the first quarter. -/
structure RiseOk (w n : Int) : Prop where
  eq : riseI w n = refI w n
  low : (riseI w n).lo * (riseI w n).lo / 1000000 + (riseI (n - w) n).lo * (riseI (n - w) n).lo / 1000000 ≤ 1000000
  high : 1000000 ≤ ((riseI w n).hi * (riseI w n).hi + 999999) / 1000000 + ((riseI (n - w) n).hi * (riseI (n - w) n).hi + 999999) / 1000000

theorem RiseOk.scale {w n c : Int} (hc : 0 < c) (h : RiseOk w n) : RiseOk (c * w) (c * n) := by
  refine ⟨?_, ?_, ?_⟩
  · rw [riseI_scale hc, refI_scale hc, h.eq]
  · rw [← Int.mul_sub, riseI_scale hc, riseI_scale hc]; exact h.low
  · rw [← Int.mul_sub, riseI_scale hc, riseI_scale hc]; exact h.high

instance (w n : Int) : Decidable (RiseOk w n) :=
  if h : riseI w n = refI w n ∧ (riseI w n).lo * (riseI w n).lo / 1000000 + (riseI (n - w) n).lo * (riseI (n - w) n).lo / 1000000 ≤ 1000000 ∧ 1000000 ≤ ((riseI w n).hi * (riseI w n).hi + 999999) / 1000000 + ((riseI (n - w) n).hi * (riseI (n - w) n).hi + 999999) / 1000000
  then isTrue ⟨h.1, h.2.1, h.2.2⟩ else isFalse fun k => h ⟨k.eq, k.low, k.high⟩

theorem riseOk_01 : RiseOk 0 1 := by decide +kernel
theorem riseOk_11 : RiseOk 1 1 := by decide +kernel
theorem riseOk_12 : RiseOk 1 2 := by decide +kernel
theorem riseOk_13 : RiseOk 1 3 := by decide +kernel
theorem riseOk_23 : RiseOk 2 3 := by decide +kernel

theorem riseOk_of_pair {w n : Int} (hw : 0 < w ∧ w < n) (h3 : 3 * w ≠ n) (h3' : 3 * (n - w) ≠ n) (h : PairOk w n) : RiseOk w n := by
  have e1 : riseI w n = ⟨loI w n, loI w n + 1⟩ := by
    unfold riseI
    rw [show (w == 0) = false by simp; omega, show (w == n) = false by simp; omega, show (3 * w == n) = false by simpa using h3]
    rfl
  have e2 : riseI (n - w) n = ⟨loI (n - w) n, loI (n - w) n + 1⟩ := by
    unfold riseI
    rw [show (n - w == 0) = false by simp; omega, show (n - w == n) = false by simp; omega, show (3 * (n - w) == n) = false by simpa using h3']
    rfl
  refine ⟨?_, ?_, ?_⟩
  · rw [e1]
    unfold refI stepS
    rw [show (n == w) = false by simp; omega, show (w == 0 || 3 * w == n) = false by simp; omega, h.sin]
    cases decide (2 * (n - w) ≤ n) <;> rfl
  · rw [e1, e2]; exact h.low
  · rw [e1, e2]; exact h.high

theorem quad_congr {r r' : Int → Span} {n : Int} (hn : 0 < n) (h : ∀ w, 0 ≤ w ∧ w ≤ n → r w = r' w) (u : Int) : quad r u n = quad r' u n := by
  obtain ⟨w, k, h1, h2, e | e | e | e⟩ := quad_cases hn u
  · rw [(quad_val ⟨h1, h2⟩).1 e, (quad_val ⟨h1, h2⟩).1 e, h _ (by omega)]
  · rw [(quad_val ⟨h1, h2⟩).2.1 e, (quad_val ⟨h1, h2⟩).2.1 e, h _ (by omega)]
  · rw [(quad_val ⟨h1, h2⟩).2.2.1 e, (quad_val ⟨h1, h2⟩).2.2.1 e, h _ (by omega)]
  · rw [(quad_val ⟨h1, h2⟩).2.2.2 e, (quad_val ⟨h1, h2⟩).2.2.2 e, h _ (by omega)]

end Go.Ev

namespace Go.Ev
open Go

def allC : Nat → Bool
  | 0 => true
  | w + 1 => bif Nat.beq (w + 1) 240 then allC w else bif pairC (w + 1) 720 then allC w else false
set_option maxRecDepth 100000 in
theorem all720 : allC 360 = true := by decide +kernel

theorem allC_one (n : Nat) : allC n = true → ∀ w, 1 ≤ w → w ≤ n → w ≠ 240 → pairC w 720 = true := by
  induction n with
  | zero => intro _ w h1 h2; omega
  | succ n ih =>
    intro h w h1 h2 h3
    rw [allC] at h
    cases hb : Nat.beq (n + 1) 240 with
    | true =>
      rw [hb] at h
      have : n + 1 = 240 := Nat.eq_of_beq_eq_true hb
      exact ih h w h1 (by omega) h3
    | false =>
      rw [hb] at h
      simp only [cond_false] at h
      cases hp : pairC (n + 1) 720 with
      | false => rw [hp] at h; cases h
      | true =>
        rw [hp] at h
        rcases Nat.lt_or_ge n w with q | q
        · obtain rfl := Nat.le_antisymm h2 q
          exact hp
        · exact ih h w h1 q h3

theorem riseOk720 {w : Int} (hw : 0 ≤ w ∧ w ≤ 720) : RiseOk w 720 := by
  by_cases h0 : w = 0
  · subst h0; exact riseOk_01.scale (c := 720) (by omega)
  by_cases h1 : w = 720
  · subst h1; exact riseOk_11.scale (c := 720) (by omega)
  by_cases h2 : w = 240
  · subst h2; exact riseOk_13.scale (c := 240) (by omega)
  by_cases h3 : w = 480
  · subst h3; exact riseOk_23.scale (c := 240) (by omega)
  refine riseOk_of_pair (by omega) (by omega) (by omega) ?_
  obtain ⟨m, rfl⟩ := Int.eq_ofNat_of_zero_le hw.1
  by_cases h4 : m ≤ 360
  · exact pairC_ok (n := 720) (by omega) (by omega) (allC_one 360 all720 m (by omega) h4 (by omega))
  · have k := pairC_ok (w := 720 - m) (n := 720) (by omega) (by omega) (allC_one 360 all720 (720 - m) (by omega) (by omega) (by omega))
    have k' := k.swap
    have e : ((720 : Nat) : Int) - ((720 - m : Nat) : Int) = (m : Int) := by omega
    rw [e] at k'
    exact k'

theorem turnR720 (u : Int) : turnR u 720 = turnS u 720 := by
  rw [turnR_quad, turnS_quad]
  exact quad_congr (by omega) (fun w hw => (riseOk720 hw).eq.symm) u
theorem cosR720 (k : Int) : cosR k 720 = (cosT k, 0) := by
  unfold cosR cosT
  rw [turnR720]
  rfl
theorem sinR720 (k : Int) : sinR k 720 = (sinT k, 0) := by
  unfold sinR sinT
  rw [turnR720]
  rfl

end Go.Ev

namespace Go.Ev
open Go

def rDir (d : Dir) : AV := .v (.agg d.cells)
def sinesR (k : Int) : Span × Span := ((cosR k 720).1, (sinR k 720).1)
theorem sinesR_eq (k : Int) : sinesR k = (cosT k, sinT k) := by unfold sinesR; rw [cosR720, sinR720]

def dirR (ra dec tick : Int) : Dir := ⟨(mulS (cosT dec) (cosT (w64 (ra - tick)))).1, (mulS (cosT dec) (sinT (w64 (ra - tick)))).1, sinT dec⟩
theorem dirR_eq {s : Source} {tick : Int} (hs : SrcOk s) (ht : -1000000 ≤ tick ∧ tick ≤ 1000000) : dirR s.ra s.dec tick = dirS s.ra s.dec tick := by
  have r1 := hs.ra0; have r2 := hs.ra1
  unfold dirR dirS
  rw [w64_id (n := s.ra - tick) (by omega)]
def at6Ref (K : AV → List Blk → Ans) (s : Source) (tick : Int) : Ans := bif checkSrc s != 0 then K (rDirE (dirZ, checkSrc s)) [] else bif !tickB tick then K (rDirE (dirZ, 2)) [] else K (rDirE (dirR s.ra s.dec tick, 0)) []
theorem at6Ref_ok {K : AV → List Blk → Ans} {s : Source} {tick : Int} : at6Ref K s tick = K (rDirE (atS s tick)) [] := by
  unfold at6Ref
  rcases checkSrc_or s with h | h
  · rw [h]
    simp only [bne_self_eq_false, cond_false]
    unfold tickB atS
    rw [h]
    simp only [bne_self_eq_false, cond_false]
    by_cases h1 : tick < -1000000
    · rw [decide_eq_true h1, decide_eq_false (show ¬ tick ≥ -1000000 by omega)]; rfl
    · rw [decide_eq_false h1, decide_eq_true (show tick ≥ -1000000 by omega)]
      by_cases h2 : 1000000 < tick
      · rw [decide_eq_true h2, decide_eq_false (show ¬ tick ≤ 1000000 by omega)]; rfl
      · rw [decide_eq_false h2, decide_eq_true (show tick ≤ 1000000 by omega), dirR_eq (checkSrc_iff.1 h) (by omega)]; rfl
  · rw [h]; unfold atS; rw [h]; rfl

def dirOkB (d : Dir) : Bool := [d.x, d.y, d.z].all spanValid
def dirOkRef (K : AV → List Blk → Ans) (d : Dir) : Ans := chain K [spanValid d.x, spanValid d.y, spanValid d.z]
theorem dirOkRef_ok {K : AV → List Blk → Ans} {d : Dir} : dirOkRef K d = K (rB (dirOkB d)) [] := by
  unfold dirOkRef dirOkB chain chain chain
  cases h1 : spanValid d.x <;> cases h2 : spanValid d.y <;> simp [h1, h2]

def maxI3 (e f h : Int) : Int := if h > (if f > e then f else e) then h else (if f > e then f else e)
def dot6 (x y z : Span × Int) : Span × Int := bif x.2 != 0 then (spanZ, maxI3 x.2 y.2 z.2) else bif y.2 != 0 then (spanZ, maxI3 x.2 y.2 z.2) else bif z.2 != 0 then (spanZ, maxI3 x.2 y.2 z.2) else
  bif (addS x.1 y.1).2 != 0 then (spanZ, (addS x.1 y.1).2) else addS (addS x.1 y.1).1 z.1
def dot6Ans (K : AV → List Blk → Ans) (x y z : Span × Int) : Ans := bif x.2 != 0 then K (rSpanE (spanZ, maxI3 x.2 y.2 z.2)) [] else bif y.2 != 0 then K (rSpanE (spanZ, maxI3 x.2 y.2 z.2)) [] else bif z.2 != 0 then K (rSpanE (spanZ, maxI3 x.2 y.2 z.2)) [] else
  bif (addS x.1 y.1).2 != 0 then K (rSpanE (spanZ, (addS x.1 y.1).2)) [] else K (rSpanE (addS (addS x.1 y.1).1 z.1)) []
theorem dot6Ans_ok {K : AV → List Blk → Ans} {x y z : Span × Int} : dot6Ans K x y z = K (rSpanE (dot6 x y z)) [] := by
  unfold dot6Ans dot6
  cases x.2 != 0 <;> cases y.2 != 0 <;> cases z.2 != 0 <;> cases (addS x.1 y.1).2 != 0 <;> rfl

theorem add_zero_l {p : Span} (h : spanValid p = true) : addS spanZ p = (p, 0) := by
  unfold addS rangedS
  have e : (⟨spanZ.lo + p.lo, spanZ.hi + p.hi⟩ : Span) = p := by cases p; simp [spanZ]
  rw [h, show spanValid spanZ = true by decide, e, h]
  rfl

theorem dot6_eq {a b : Dir} (ha : dirOkB a = true) (hb : dirOkB b = true) : dot6 (mulS a.x b.x) (mulS a.y b.y) (mulS a.z b.z) = dotS a b := by
  simp only [dirOkB, List.all_cons, List.all_nil, Bool.and_true, Bool.and_eq_true] at ha hb
  obtain ⟨a1, a2, a3⟩ := ha
  obtain ⟨b1, b2, b3⟩ := hb
  have hv : [a.x, a.y, a.z, b.x, b.y, b.z].all spanValid = true := by simp [a1, a2, a3, b1, b2, b3]
  unfold dotS dot6 maxI3
  rw [hv]
  simp only [cond_true]
  rcases mulS_cases a1 b1 with ⟨p, e1, v1⟩ | e1
  · rcases mulS_cases a2 b2 with ⟨q, e2, v2⟩ | e2
    · rcases addS_cases v1 v2 with ⟨s, e3, v3⟩ | e3
      · rcases mulS_cases a3 b3 with ⟨r, e4, v4⟩ | e4
        · rcases addS_cases v3 v4 with ⟨t, e5, v5⟩ | e5
          · simp [prodsS, e1, e2, e3, e4, e5, add_zero_l v1]
          · simp [prodsS, e1, e2, e3, e4, e5, add_zero_l v1]
        · simp [prodsS, e1, e2, e3, e4, add_zero_l v1]
      · rcases mulS_cases a3 b3 with ⟨r, e4, v4⟩ | e4
        · simp [prodsS, e1, e2, e3, e4, add_zero_l v1]
        · simp [prodsS, e1, e2, e3, e4, add_zero_l v1]
    · rcases mulS_cases a3 b3 with ⟨r, e4, v4⟩ | e4
      · simp [prodsS, e1, e2, e4, add_zero_l v1]
      · simp [prodsS, e1, e2, e4, add_zero_l v1]
  · rcases mulS_cases a2 b2 with ⟨q, e2, v2⟩ | e2
    · rcases mulS_cases a3 b3 with ⟨r, e4, v4⟩ | e4
      · simp [prodsS, e1, e2, e4]
      · simp [prodsS, e1, e2, e4]
    · rcases mulS_cases a3 b3 with ⟨r, e4, v4⟩ | e4
      · simp [prodsS, e1, e2, e4]
      · simp [prodsS, e1, e2, e4]

def dotRef6 (K : AV → List Blk → Ans) (a b : Dir) : Ans := bif !dirOkB a then K (rSpanE (spanZ, 8)) [] else bif !dirOkB b then K (rSpanE (spanZ, 8)) [] else dot6Ans K (mulS a.x b.x) (mulS a.y b.y) (mulS a.z b.z)
theorem dotS_bad {a b : Dir} (h : (dirOkB a && dirOkB b) = false) : dotS a b = (spanZ, 8) := by
  have : [a.x, a.y, a.z, b.x, b.y, b.z].all spanValid = (dirOkB a && dirOkB b) := by unfold dirOkB; simp [Bool.and_assoc]
  unfold dotS
  rw [this, h]
  rfl
theorem dotRef6_ok {K : AV → List Blk → Ans} {a b : Dir} : dotRef6 K a b = K (rSpanE (dotS a b)) [] := by
  unfold dotRef6
  cases ha : dirOkB a with
  | false => rw [dotS_bad (by rw [ha]; rfl)]; rfl
  | true =>
    cases hb : dirOkB b with
    | false => rw [dotS_bad (by rw [ha, hb]; rfl)]; rfl
    | true => rw [dot6Ans_ok, dot6_eq ha hb]; rfl

def encD (x y z : Span × Int) : Dir × Int := bif x.2 != 0 then (dirZ, maxI3 x.2 y.2 z.2) else bif y.2 != 0 then (dirZ, maxI3 x.2 y.2 z.2) else bif z.2 != 0 then (dirZ, maxI3 x.2 y.2 z.2) else (⟨x.1, y.1, z.1⟩, 0)
def encAns (K : AV → List Blk → Ans) (x y z : Span × Int) : Ans := bif x.2 != 0 then K (rDirE (dirZ, maxI3 x.2 y.2 z.2)) [] else bif y.2 != 0 then K (rDirE (dirZ, maxI3 x.2 y.2 z.2)) [] else bif z.2 != 0 then K (rDirE (dirZ, maxI3 x.2 y.2 z.2)) [] else K (rDirE (⟨x.1, y.1, z.1⟩, 0)) []
theorem encAns_ok {K : AV → List Blk → Ans} {x y z : Span × Int} : encAns K x y z = K (rDirE (encD x y z)) [] := by
  unfold encAns encD
  cases x.2 != 0 <;> cases y.2 != 0 <;> cases z.2 != 0 <;> rfl
def enclosedR (v : Vec) : Dir × Int := encD (ofS v.x) (ofS v.y) (ofS v.z)

def alongRef (K : AV → List Blk → Ans) (d : Dir) (v : Vec) : Ans :=
  bif !dirOkB d then K (rSpanE (spanZ, 8)) [] else bif checkV v != 0 then K (rSpanE (spanZ, 8)) [] else bif (enclosedR v).2 != 0 then K (rSpanE (spanZ, (enclosedR v).2)) [] else K (rSpanE (dotS d (enclosedR v).1)) []
theorem alongRef_ok {K : AV → List Blk → Ans} {d : Dir} {v : Vec} : alongRef K d v = K (rSpanE (alongS d v)) [] := by
  unfold alongRef alongS checkV
  rw [show [d.x, d.y, d.z].all spanValid = dirOkB d from rfl]
  cases hd : dirOkB d with
  | false => rfl
  | true =>
    cases hv : vecOkB v with
    | false => rfl
    | true =>
      have kv := vecOkB_iff.1 hv
      simp only [Bool.not_true, cond_false, cond_true, bne_self_eq_false]
      unfold enclosedR encD maxI3
      rcases of_q kv.x with ⟨p, e1, q1⟩ | e1
      · rcases of_q kv.y with ⟨q, e2, q2⟩ | e2
        · rcases of_q kv.z with ⟨r, e3, q3⟩ | e3
          · rw [e1, e2, e3]
            simp only [bne_self_eq_false, cond_false]
            have hall : [d.x, d.y, d.z, p, q, r].all spanValid = true := by
              have : dirOkB d = true := hd
              simp only [dirOkB, List.all_cons, List.all_nil, Bool.and_true, Bool.and_eq_true] at this
              simp [this.1, this.2.1, this.2.2, q1.ok, q2.ok, q3.ok]
            unfold dotS
            simp only
            rw [hall]
            rfl
          · rw [e1, e2, e3]; rfl
        · rcases of_q kv.z with ⟨r, e3, q3⟩ | e3
          · rw [e1, e2, e3]; rfl
          · rw [e1, e2, e3]; rfl
      · rcases of_q kv.y with ⟨q, e2, q2⟩ | e2
        · rcases of_q kv.z with ⟨r, e3, q3⟩ | e3
          · rw [e1, e2, e3]; rfl
          · rw [e1, e2, e3]; rfl
        · rcases of_q kv.z with ⟨r, e3, q3⟩ | e3
          · rw [e1, e2, e3]; rfl
          · rw [e1, e2, e3]; rfl

/-! ### Axes and projections -/

def axesRRaw (s : Source) (tick : Int) : FrameD :=
  ⟨⟨negRaw (sinR (w64 (s.ra - tick)) 720).1, (cosR (w64 (s.ra - tick)) 720).1, spanZ⟩,
   ⟨negRaw (mulS (sinR s.dec 720).1 (cosR (w64 (s.ra - tick)) 720).1).1, negRaw (mulS (sinR s.dec 720).1 (sinR (w64 (s.ra - tick)) 720).1).1, (cosR s.dec 720).1⟩, (atS s tick).1⟩
def axesRef (K : AV → List Blk → Ans) (s : Source) (tick : Int) : Ans := bif (atS s tick).2 != 0 then K (rFrameE (frameZ, (atS s tick).2)) [] else K (rFrameE (axesRRaw s tick, 0)) []
theorem axesRef_ok {K : AV → List Blk → Ans} {s : Source} {tick : Int} : axesRef K s tick = K (rFrameE (axesV s tick)) [] := by
  unfold axesRef axesV
  cases h : (atS s tick).2 == 0 with
  | false => simp only [bne, h, Bool.not_false, cond_true, cond_false]
  | true =>
    simp only [bne, h, Bool.not_true, cond_false, cond_true]
    obtain ⟨hs, ht, hd⟩ := atS_some (by simpa using h)
    have r1 := hs.ra0; have r2 := hs.ra1
    unfold axesRRaw
    rw [w64_id (n := s.ra - tick) (by omega), cosR720, cosR720, sinR720, sinR720]
    have p1 := prod_q (sinT_unit s.dec) (cosT_unit (s.ra - tick)) (sinT_q _) (cosT_q _)
    have p2 := prod_q (sinT_unit s.dec) (sinT_unit (s.ra - tick)) (sinT_q _) (sinT_q _)
    simp only
    rw [negRaw_ok (sinT_q (s.ra - tick)).ok, negRaw_ok p1.1.ok, negRaw_ok p2.1.ok, hd]
    rfl

def projRef (K : AV → List Blk → Ans) (v : Vec) (s : Source) (tick : Int) : Ans :=
  bif (axesV s tick).2 != 0 then K (rDirE (dirZ, (axesV s tick).2)) [] else
  bif (alongS (axesV s tick).1.u v).2 != 0 then K (rDirE (dirZ, (alongS (axesV s tick).1.u v).2)) [] else
  bif (alongS (axesV s tick).1.v v).2 != 0 then K (rDirE (dirZ, (alongS (axesV s tick).1.v v).2)) [] else
  bif (alongS (axesV s tick).1.w v).2 != 0 then K (rDirE (dirZ, (alongS (axesV s tick).1.w v).2)) [] else
  K (rDirE (⟨(alongS (axesV s tick).1.u v).1, (alongS (axesV s tick).1.v v).1, (alongS (axesV s tick).1.w v).1⟩, 0)) []
theorem projRef_ok {K : AV → List Blk → Ans} {v : Vec} {s : Source} {tick : Int} : projRef K v s tick = K (rDirE (projV v s tick)) [] := by
  unfold projRef projV projF eachD
  cases h : (axesV s tick).2 == 0 with
  | false => simp [bne, h]
  | true =>
    simp only [bne, h, Bool.not_true, cond_false, cond_true]
    cases (alongS (axesV s tick).1.u v).2 == 0 <;> cases (alongS (axesV s tick).1.v v).2 == 0 <;> cases (alongS (axesV s tick).1.w v).2 == 0 <;> rfl

def lawProjAxes (K : AV → List Blk → Ans) (v : Vec) (s : Source) (tick : Int) : Ans :=
  bif decide ((s.name.size : Int) > 200) then K (rB true) [] else
  chain K [eqAll (axesV s tick).1.cells (axesV s tick).1.cells, (axesV s tick).2 == (axesV s tick).2, eqAll (projV v s tick).1.cells (projV v s tick).1.cells, (projV v s tick).2 == (projV v s tick).2, eqAll (normV v).1.cells (normV v).1.cells, (normV v).2 == (normV v).2]
theorem lawProjAxes_ok {K : AV → List Blk → Ans} {v : Vec} {s : Source} {tick : Int} : lawProjAxes K v s tick = K (rB true) [] := by
  unfold lawProjAxes
  cases decide ((s.name.size : Int) > 200) with
  | true => rfl
  | false =>
    refine chain_true fun c hc => ?_
    simp only [eqAll_self, beq_self_eq_true, List.mem_cons, List.not_mem_nil, or_false, or_self] at hc
    exact hc

end Go.Ev
