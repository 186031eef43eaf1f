/-
  The parameters of a place, found again: a whole root, the program's way, the law GeoidOn. No program here.
-/
import Derived.Test.YtckjflbbilideaaDoorGeoR
namespace Go.Ev
open Go

/-! ### The least whole number with a square that is not less -/

def rootUp : Nat → Int → Int → Int
  | 0, k, _ => k
  | f + 1, k, n => bif decide (k * k < n) then rootUp f (k + 1) n else k
def rootI (n : Int) : Int := rootUp 801 0 n

theorem rootUp_sq {c : Int} (hc : 0 ≤ c) : ∀ (f : Nat) (k : Int), 0 ≤ k → k ≤ c → c - k ≤ f → rootUp f k (c * c) = c
  | 0, k, _, h1, h2 => by rw [rootUp]; omega
  | f + 1, k, h0, h1, h2 => by
    rw [rootUp]
    by_cases h : k * k < c * c
    · have hk : k ≠ c := fun e => by rw [e] at h; omega
      rw [decide_eq_true h, cond_true]
      exact rootUp_sq hc f (k + 1) (by omega) (by omega) (by omega)
    · rw [decide_eq_false h, cond_false]
      rcases Int.lt_or_le k c with q | q
      · have : k * k < c * c := by
          have a := Int.mul_le_mul_of_nonneg_left (show k ≤ c by omega) h0
          have b := Int.mul_lt_mul_of_pos_right q (show 0 < c by omega)
          omega
        omega
      · omega
theorem rootI_sq {c : Int} (h0 : 0 ≤ c) (h1 : c ≤ 800) : rootI (c * c) = c := rootUp_sq h0 801 0 (by omega) h0 (by omega)

theorem rootUp_stop {n : Int} (hn : n ≤ 640000) : ∀ (f : Nat) (k : Int), 0 ≤ k → k ≤ 800 → 801 - k ≤ f → ¬ rootUp f k n * rootUp f k n < n ∧ k ≤ rootUp f k n ∧ rootUp f k n ≤ 800
  | 0, k, _, h1, h2 => by omega
  | f + 1, k, h0, h1, h2 => by
    rw [rootUp]
    by_cases h : k * k < n
    · rw [decide_eq_true h, cond_true]
      have hk : k < 800 := by
        rcases Int.lt_or_le k 800 with q | q
        · exact q
        · have := mul_le (a := 800) (b := 800) (by omega) (by omega) q q; omega
      have := rootUp_stop hn f (k + 1) (by omega) (by omega) (by omega)
      exact ⟨this.1, by omega, this.2.2⟩
    · rw [decide_eq_false h, cond_false]
      exact ⟨h, by omega, h1⟩

/-! ### The program's way -/

def angDom (r : Vec) : Bool := vecOkB r && (decide (-r.z.den ≤ r.z.num) && decide (r.z.num ≤ r.z.den))
def anglesTail (r : Vec) (root : Int) : (Frac × Frac) × Bool :=
  bif root * root != r.z.den * r.z.den - r.z.num * r.z.num then ((fracZ, fracZ), false) else
  bif (makeF r.z.num (r.z.den + root)).2 != 0 then (((makeF r.z.num (r.z.den + root)).1, fracZ), false) else
  bif root == 0 then (((makeF r.z.num (r.z.den + root)).1, wholeF 0), true) else
  bif (makeF root r.z.den).2 != 0 then (((makeF r.z.num (r.z.den + root)).1, fracZ), false) else
  bif (addF (makeF root r.z.den).1 r.x).2 != 0 then (((makeF r.z.num (r.z.den + root)).1, fracZ), false) else
  (((makeF r.z.num (r.z.den + root)).1, (divF r.y (addF (makeF root r.z.den).1 r.x).1).1), (divF r.y (addF (makeF root r.z.den).1 r.x).1).2 == 0)
def anglesF (r : Vec) : (Frac × Frac) × Bool := bif decide (r.z.den > 800) then ((fracZ, fracZ), false) else anglesTail r (rootI (r.z.den * r.z.den - r.z.num * r.z.num))
def rFFB (x : (Frac × Frac) × Bool) : AV := .tup [.agg x.1.1.cells, .agg x.1.2.cells, .c (.d (.bool x.2))]
def rFFE (x : (Frac × Frac) × Int) : AV := .tup [.agg x.1.1.cells, .agg x.1.2.cells, .c (.d (.int .i64 x.2))]

def rootOn (n : Int) : Bool := decide (0 ≤ n) && decide (n ≤ 640000)
def sqZ (r : Vec) : Int := w64 (w64 (r.z.den * r.z.den) - w64 (r.z.num * r.z.num))
def anglesMore (K : AV → List Blk → Ans) (r : Vec) (sq root : Int) : Ans :=
  bif w64 (root * root) != sq then K (rFFB ((fracZ, fracZ), false)) [] else
  bif (makeF r.z.num (w64 (r.z.den + root))).2 != 0 then K (rFFB (((makeF r.z.num (w64 (r.z.den + root))).1, fracZ), false)) [] else
  bif root == 0 then K (rFFB (((makeF r.z.num (w64 (r.z.den + root))).1, wholeF 0), true)) [] else
  bif (makeF root r.z.den).2 != 0 then K (rFFB (((makeF r.z.num (w64 (r.z.den + root))).1, fracZ), false)) [] else
  bif (addF (makeF root r.z.den).1 r.x).2 != 0 then K (rFFB (((makeF r.z.num (w64 (r.z.den + root))).1, fracZ), false)) [] else
  K (rFFB (((makeF r.z.num (w64 (r.z.den + root))).1, (divF r.y (addF (makeF root r.z.den).1 r.x).1).1), (divF r.y (addF (makeF root r.z.den).1 r.x).1).2 == 0)) []
def anglesAns (K : AV → List Blk → Ans) (r : Vec) : Ans :=
  bif decide (r.z.den > 800) then K (rFFB ((fracZ, fracZ), false)) [] else
  bif rootOn (sqZ r) then anglesMore K r (sqZ r) (rootI (sqZ r)) else none

theorem anglesAns_ok {K : AV → List Blk → Ans} {r : Vec} (h : angDom r = true) : anglesAns K r = K (rFFB (anglesF r)) [] := by
  simp only [angDom, Bool.and_eq_true, decide_eq_true_eq, vecOkB_iff] at h
  obtain ⟨kr, h1, h2⟩ := h
  have hd := kr.z.denlo
  unfold anglesAns anglesF
  by_cases hb : r.z.den > 800
  · rw [decide_eq_true hb]; rfl
  · rw [decide_eq_false hb]
    simp only [cond_false]
    have q1 : r.z.den * r.z.den ≤ 800 * 800 := mul_le (by omega) (by omega) (by omega) (by omega)
    have q2 : 0 < r.z.den * r.z.den := Int.mul_pos (by omega) (by omega)
    have q3 := sq_nn r.z.num
    have q4 : r.z.num * r.z.num ≤ r.z.den * r.z.den := by
      have e : r.z.num * r.z.num = absI r.z.num * absI r.z.num := by rw [← absI_mul, absI_eq]; omega
      have : absI r.z.num ≤ r.z.den := by rw [absI_eq]; omega
      rw [e]; exact mul_le (absI_nn _) (absI_nn _) this this
    have e0 : sqZ r = r.z.den * r.z.den - r.z.num * r.z.num := by
      unfold sqZ
      rw [w64_id (n := r.z.den * r.z.den) (by omega), w64_id (n := r.z.num * r.z.num) (by omega), w64_id (n := r.z.den * r.z.den - r.z.num * r.z.num) (by omega)]
    rw [e0]
    have hon : rootOn (r.z.den * r.z.den - r.z.num * r.z.num) = true := by unfold rootOn; rw [decide_eq_true (by omega), decide_eq_true (by omega)]; rfl
    rw [hon]
    simp only [cond_true]
    obtain ⟨_, g1, g2⟩ := rootUp_stop (n := r.z.den * r.z.den - r.z.num * r.z.num) (by omega) 801 0 (by omega) (by omega) (by omega)
    rw [show rootUp 801 0 (r.z.den * r.z.den - r.z.num * r.z.num) = rootI (r.z.den * r.z.den - r.z.num * r.z.num) from rfl] at g1 g2
    generalize rootI (r.z.den * r.z.den - r.z.num * r.z.num) = root at *
    have g3 : root * root ≤ 800 * 800 := mul_le g1 g1 g2 g2
    have g4 := sq_nn root
    unfold anglesMore anglesTail
    rw [w64_id (n := root * root) (by omega), w64_id (n := r.z.den + root) (by omega)]
    cases root * root != r.z.den * r.z.den - r.z.num * r.z.num with
    | true => rfl
    | false =>
      cases (makeF r.z.num (r.z.den + root)).2 != 0 with
      | true => rfl
      | false =>
        cases root == 0 with
        | true => rfl
        | false =>
          cases (makeF root r.z.den).2 != 0 with
          | true => rfl
          | false => cases (addF (makeF root r.z.den).1 r.x).2 != 0 <;> rfl

def ffZ : Frac × Frac := (fracZ, fracZ)
def paramsTail (g : Globe) (p : Vec) (x : (Frac × Frac) × Bool) : (Frac × Frac) × Int :=
  bif !x.2 then (ffZ, 6) else bif (atV g x.1.1 x.1.2).2 != 0 then (ffZ, 6) else bif !eqAll (atV g x.1.1 x.1.2).1.cells p.cells then (ffZ, 6) else (x.1, 0)
def paramsV (g : Globe) (p : Vec) : (Frac × Frac) × Int :=
  bif (onV g p).2 != 0 then (ffZ, (onV g p).2) else bif !(onV g p).1 then (ffZ, 6) else bif (overV p g.a g.b).2 != 0 then (ffZ, (overV p g.a g.b).2) else paramsTail g p (anglesF (overV p g.a g.b).1)
def paramsAns (K : AV → List Blk → Ans) (g : Globe) (p : Vec) : Ans :=
  bif (onV g p).2 != 0 then K (rFFE (ffZ, (onV g p).2)) [] else bif !(onV g p).1 then K (rFFE (ffZ, 6)) [] else bif (overV p g.a g.b).2 != 0 then K (rFFE (ffZ, (overV p g.a g.b).2)) [] else
  bif angDom (overV p g.a g.b).1 then (
    let x := anglesF (overV p g.a g.b).1
    bif !x.2 then K (rFFE (ffZ, 6)) [] else bif (atV g x.1.1 x.1.2).2 != 0 then K (rFFE (ffZ, 6)) [] else bif !eqAll (atV g x.1.1 x.1.2).1.cells p.cells then K (rFFE (ffZ, 6)) [] else K (rFFE (x.1, 0)) []) else none

theorem rat_le_one {x : Rat} {n d : Int} (hd : 0 < d) (h : x * (d : Rat) = n) (h1 : x * x ≤ 1) : -d ≤ n ∧ n ≤ d := by
  have hp : (0 : Rat) < (d : Rat) := by exact_mod_cast hd
  have hn : (n : Rat) * n ≤ (d : Rat) * d := by
    have h2 : 0 ≤ (d : Rat) * d := rat_sq _
    have h3 := Rat.mul_le_mul_of_nonneg_right h1 h2
    have e : (n : Rat) * n = x * x * (d * d) := by rw [← h]; grind
    grind
  have hn' : n * n ≤ d * d := by exact_mod_cast hn
  constructor
  · rcases Int.lt_or_le n (-d) with q | q
    · have := mul_le (a := d + 1) (b := d + 1) (by omega) (by omega) (show d + 1 ≤ -n by omega) (show d + 1 ≤ -n by omega)
      have e : -n * -n = n * n := by grind
      have e2 : (d + 1) * (d + 1) = d * d + 2 * d + 1 := by grind
      omega
    · exact q
  · rcases Int.lt_or_le d n with q | q
    · have := mul_le (a := d + 1) (b := d + 1) (by omega) (by omega) (show d + 1 ≤ n by omega) (show d + 1 ≤ n by omega)
      have e2 : (d + 1) * (d + 1) = d * d + 2 * d + 1 := by grind
      omega
    · exact q

/-- A point on the globe: the relative vector has the length one. -/
theorem on_rel {g : Globe} {p r : Vec} (h : (onV g p).2 = 0) (h1 : (onV g p).1 = true) (hr : (overV p g.a g.b).2 = 0) (er : (overV p g.a g.b).1 = r) : GlobeOk g ∧ VecOk p ∧ VecOk r ∧ dotQ r r = 1 ∧ val r.x * (g.a : Rat) = val p.x ∧ val r.y * (g.a : Rat) = val p.y ∧ val r.z * (g.b : Rat) = val p.z := by
  have hin : (insideV g p).2 = 0 ∧ (insideV g p).1 = 0 := by
    unfold onV at h h1
    cases hh : (insideV g p).2 == 0 with
    | false => rw [hh] at h; simp only [cond_false] at h; exact absurd h (by simpa using hh)
    | true => rw [hh] at h1; exact ⟨by simpa using hh, by simpa using h1⟩
  have hg : globeOkB g = true := by
    cases hg : globeOkB g with
    | true => rfl
    | false => unfold insideV at hin; rw [hg] at hin; simp at hin
  have hp : vecOkB p = true := by
    cases hp : vecOkB p with
    | true => rfl
    | false => unfold insideV at hin; rw [hg, hp] at hin; simp at hin
  have kg := globeOkB_iff.1 hg
  have kp := vecOkB_iff.1 hp
  have a1 := kg.alo; have a2 := kg.ahi; have b1 := kg.blo; have b2 := kg.bhi
  have na := kg.ane; have nb := kg.bne
  rcases over_cases kp (show 0 < g.a ∧ g.a ≤ 1000000 by omega) (show 0 < g.b ∧ g.b ≤ 1000000 by omega) with ⟨r', e, k, x, y, z⟩ | e
  · rw [e] at er
    simp only at er
    subst er
    refine ⟨kg, kp, k, ?_, x, y, z⟩
    rcases inside_cases kg kp with f | f
    · rw [f] at hin
      have h0 : sgnQ (measQ g p) = 0 := hin.2
      have hm : measQ g p = 1 := by
        unfold sgnQ at h0
        split at h0
        · omega
        · split at h0
          · assumption
          · omega
      rw [← hm]
      unfold dotQ measQ
      rw [← x, ← y, ← z]
      grind
    · rw [f] at hin; simp at hin
  · rw [e] at hr; simp at hr

theorem paramsAns_ok {K : AV → List Blk → Ans} {g : Globe} {p : Vec} : paramsAns K g p = K (rFFE (paramsV g p)) [] := by
  unfold paramsAns paramsV
  cases h1 : (onV g p).2 != 0 with
  | true => rfl
  | false =>
    cases h2 : (onV g p).1 with
    | false => rfl
    | true =>
      cases h3 : (overV p g.a g.b).2 != 0 with
      | true => rfl
      | false =>
        obtain ⟨kg, kp, kr, hd, _⟩ := on_rel (by simpa using h1) h2 (by simpa using h3) rfl
        have hdom : angDom (overV p g.a g.b).1 = true := by
          generalize (overV p g.a g.b).1 = r at *
          have hz := kr.z.denlo
          have := rat_le_one (show 0 < r.z.den by omega) (val_mul kr.z) (by
            unfold dotQ at hd
            have s1 := rat_sq (val r.x); have s2 := rat_sq (val r.y)
            grind)
          unfold angDom
          rw [vecOkB_iff.2 kr, decide_eq_true this.1, decide_eq_true this.2]
          rfl
        rw [hdom]
        simp only [cond_false, cond_true, Bool.not_true]
        unfold paramsTail
        generalize anglesF (overV p g.a g.b).1 = x
        cases x.2 with
        | false => rfl
        | true =>
          cases (atV g x.1.1 x.1.2).2 != 0 with
          | true => rfl
          | false => cases eqAll (atV g x.1.1 x.1.2).1.cells p.cells <;> rfl

/-! ### The parameters of a place are found again -/

/-- Cosine and sine in lowest terms have the same denominator. -/
theorem same_den {c s : Frac} (kc : FracOk c) (ks : FracOk s) (h : val c * val c + val s * val s = 1) : c.den = s.den ∧ c.num * c.num = s.den * s.den - s.num * s.num := by
  have hc := val_mul kc; have hs := val_mul ks
  have e : c.num * c.num * (s.den * s.den) = (s.den * s.den - s.num * s.num) * (c.den * c.den) := by
    have : ((c.num * c.num * (s.den * s.den) : Int) : Rat) = (((s.den * s.den - s.num * s.num) * (c.den * c.den) : Int) : Rat) := by
      simp only [Rat.intCast_mul, Rat.intCast_sub]
      grind
    exact_mod_cast this
  have e' : s.num * s.num * (c.den * c.den) = (c.den * c.den - c.num * c.num) * (s.den * s.den) := by grind
  have dc := kc.denlo; have ds := ks.denlo
  have gc : Int.gcd (c.num * c.num) (c.den * c.den) = 1 := by
    have := kc.gcd
    rw [Int.gcd_eq_natAbs_gcd_natAbs, Int.natAbs_mul, Int.natAbs_mul]
    exact Nat.Coprime.mul_left (Nat.Coprime.mul_right this this) (Nat.Coprime.mul_right this this)
  have gs : Int.gcd (s.num * s.num) (s.den * s.den) = 1 := by
    have := ks.gcd
    rw [Int.gcd_eq_natAbs_gcd_natAbs, Int.natAbs_mul, Int.natAbs_mul]
    exact Nat.Coprime.mul_left (Nat.Coprime.mul_right this this) (Nat.Coprime.mul_right this this)
  have pc : 0 < c.den * c.den := Int.mul_pos (by omega) (by omega)
  have ps : 0 < s.den * s.den := Int.mul_pos (by omega) (by omega)
  have l1 := (least' pc gc ps e).1
  have l2 := (least' ps gs pc e').1
  have hsq : c.den * c.den = s.den * s.den := by omega
  have hden : c.den = s.den := by
    rcases Int.lt_trichotomy c.den s.den with q | q | q
    · have a := Int.mul_le_mul_of_nonneg_left (show c.den ≤ s.den by omega) (show 0 ≤ c.den by omega)
      have b := Int.mul_lt_mul_of_pos_right q (show 0 < s.den by omega)
      omega
    · exact q
    · have a := Int.mul_le_mul_of_nonneg_left (show s.den ≤ c.den by omega) (show 0 ≤ s.den by omega)
      have b := Int.mul_lt_mul_of_pos_right q (show 0 < c.den by omega)
      omega
  refine ⟨hden, ?_⟩
  rw [hsq] at e
  exact Int.eq_of_mul_eq_mul_right (by omega) e

theorem half_angle {τ c s : Rat} (hc : c * (1 + τ * τ) = 1 - τ * τ) (hs : s * (1 + τ * τ) = 2 * τ) : τ * (1 + c) = s ∧ 1 + c ≠ 0 := by
  have h := sq_pos τ
  have e : (1 + c) * (1 + τ * τ) = 2 := by grind
  refine ⟨by grind, fun h0 => ?_⟩
  rw [h0] at e
  grind

theorem PairQ.half {u c s : Frac} (h : PairQ (val u) c s) : val u * (1 + val c) = val s ∧ 1 + val c ≠ 0 := half_angle h.hc h.hs

/-- Found again. -/
theorem angles_place {s t : Frac} {r : Vec} (hs : Sz 20 20 s) (ht : Sz 20 20 t) (h1 : -s.den ≤ s.num) (h2 : s.num ≤ s.den) (kr : VecOk r)
    (x : val r.x = val (cosU s) * val (cosU t)) (y : val r.y = val (cosU s) * val (sinU t)) (z : val r.z = val (sinU s)) :
    anglesF r = ((s, bif (cosU s).num == 0 then wholeF 0 else t), true) := by
  have us := uq hs; have ut := uq ht
  have Us := unitQ hs; have Ut := unitQ ht
  have ps := us.pair hs.ok; have pt := ut.pair ht.ok
  have ez : r.z = sinU s := val_inj kr.z us.ks.ok z
  obtain ⟨hden, hsq⟩ := same_den us.kc.ok us.ks.ok Us.one
  have cden := us.kc.den
  have cn : 0 ≤ (cosU s).num := by
    have hv := us.hc
    have e : (cosU s).num * (s.den * s.den + s.num * s.num) = (s.den * s.den - s.num * s.num) * (cosU s).den := of_val us.kc.ok hv
    have q : 0 ≤ s.den * s.den - s.num * s.num := by
      have e1 : s.num * s.num = absI s.num * absI s.num := by rw [← absI_mul, absI_eq]; have := sq_nn s.num; omega
      have e2 : absI s.num ≤ s.den := by rw [absI_eq]; omega
      have := mul_le (absI_nn _) (absI_nn _) e2 e2
      omega
    have d := us.kc.ok.denlo
    have r0 := us.i.r0
    rcases Int.lt_or_le (cosU s).num 0 with n | n
    · have := Int.mul_neg_of_neg_of_pos n r0
      have := Int.mul_nonneg q (show 0 ≤ (cosU s).den by omega)
      omega
    · exact n
  have cle : (cosU s).num ≤ 800 := by have := us.kc.num; rw [absI_eq] at this; omega
  have hroot : rootI (r.z.den * r.z.den - r.z.num * r.z.num) = (cosU s).num := by rw [ez, ← hsq]; exact rootI_sq cn cle
  have sd := us.ks.ok.denlo
  have vc := val_mul us.kc.ok; have vs := val_mul us.ks.ok
  obtain ⟨hh, hne⟩ := ps.half
  obtain ⟨hh', hne'⟩ := pt.half
  have sn := us.ks.num
  obtain ⟨s', es, ks', hs'⟩ := make_small (n := (sinU s).num) (d := (sinU s).den + (cosU s).num) (by omega) (by omega) (by omega)
  have es' : s' = s := by
    refine val_inj ks' hs.ok ?_
    have v := val_of ks' hs'
    rw [Rat.intCast_add] at v
    have hd : ((sinU s).den : Rat) = ((cosU s).den : Rat) := by rw [hden]
    have dn := den_ne us.ks.ok
    have e1 : ((sinU s).den : Rat) + ((cosU s).num : Rat) = (1 + val (cosU s)) * ((sinU s).den : Rat) := by rw [hd] at *; grind
    have e2 : val s' * ((1 + val (cosU s)) * ((sinU s).den : Rat)) = val s * ((1 + val (cosU s)) * ((sinU s).den : Rat)) := by rw [← e1, v, ← vs, ← hh]; grind
    have e3 : (1 + val (cosU s)) * ((sinU s).den : Rat) ≠ 0 := by grind
    grind
  unfold anglesF
  rw [hroot, ez, decide_eq_false (show ¬ (sinU s).den > 800 by omega)]
  simp only [cond_false]
  unfold anglesTail
  rw [ez, hsq]
  simp only [bne_self_eq_false, cond_false]
  rw [es, es']
  simp only [bne_self_eq_false, cond_false]
  cases h0 : (cosU s).num == 0 with
  | true => rfl
  | false =>
    have hn0 : (cosU s).num ≠ 0 := by simpa using h0
    obtain ⟨c', ec, kc', hc'⟩ := make_small (n := (cosU s).num) (d := (sinU s).den) (by omega) (by omega) (by rw [absI_eq]; omega)
    have hcv : val c' = val (cosU s) := by
      have v := val_of kc' hc'
      rw [← hden] at v
      have dn := den_ne us.kc.ok
      grind
    rw [ec]
    simp only [bne_self_eq_false, cond_false]
    have hbr : BR (val c' + val r.x) 1280000 := by
      rw [hcv, x]
      have e : val (cosU s) + val (cosU s) * val (cosU t) = val (cosU s) * (1 + val (cosU t)) := by grind
      rw [e]
      have b : BR (1 + val (cosU t)) 1600 := by
        have i := ut.i
        have r0 := i.r0; have r1 := i.r1; have pp := i.p
        refine ⟨(t.den * t.den + t.num * t.num) + (t.den * t.den - t.num * t.num), t.den * t.den + t.num * t.num, ⟨r0, ?_⟩, ?_, by omega⟩
        · rw [Rat.intCast_add (t.den * t.den + t.num * t.num), ← ut.hc]; grind
        · have := absI_add_le (t.den * t.den + t.num * t.num) (t.den * t.den - t.num * t.num)
          rw [absI_of_pos r0] at this
          omega
      exact (Us.c.mul b).mono (by decide)
    obtain ⟨d, ed, kd, vd⟩ := add_br kc' kr.x hbr (by decide)
    rw [ed]
    simp only [bne_self_eq_false, cond_false]
    have cne : val (cosU s) ≠ 0 := (num_ne us.kc.ok).1 hn0
    have dv : val d = val (cosU s) * (1 + val (cosU t)) := by rw [vd, hcv, x]; grind
    have dne : val d ≠ 0 := by rw [dv]; grind
    have key : val t * val d = val r.y := by rw [dv, y, ← hh']; grind
    have ediv : divF r.y d = (t, 0) := by
      have dn := (num_ne kd).2 dne
      have e : fracOf (r.y.num * d.den) (r.y.den * d.num) = fracOf (r.y.num * d.den) (r.y.den * d.num) := rfl
      have hry := val_mul kr.y; have hdd := val_mul kd
      have kt := ht.ok
      have tn := ht.num; have td := ht.den; have tp := ht.dpos
      have hcast : ((r.y.num * d.den * t.den : Int) : Rat) = ((t.num * (r.y.den * d.num) : Int) : Rat) := by
        simp only [Rat.intCast_mul]
        have ht' := val_mul kt
        rw [← hry, ← hdd, ← ht', ← key]
        grind
      have hint : r.y.num * d.den * t.den = t.num * (r.y.den * d.num) := by exact_mod_cast hcast
      rcases divF_cases kr.y kd dn with ⟨q, eq', kq⟩ | bad
      · obtain ⟨_, _, vq⟩ := div_val kr.y kd eq'
        rw [eq', val_inj kq kt (by grind)]
      · exfalso
        unfold divF at bad
        rw [fracOkB_iff.2 kr.y, fracOkB_iff.2 kd, show (d.num == 0) = false by simpa using dn] at bad
        simp only [Bool.and_self, cond_true, cond_false] at bad
        have ydl := kr.y.denlo
        by_cases hneg : d.num < 0
        · rw [decide_eq_true hneg] at bad
          obtain ⟨c, e⟩ := fracOf_fit (n := r.y.num * -d.den) (d := r.y.den * -d.num) (N := t.num) (D := t.den) (Int.mul_pos (by omega) (by omega)) tp (by grind) (by omega) (by omega)
          rw [cond_true, e] at bad
          simp at bad
        · rw [decide_eq_false hneg] at bad
          obtain ⟨c, e⟩ := fracOf_fit (n := r.y.num * d.den) (d := r.y.den * d.num) (N := t.num) (D := t.den) (Int.mul_pos (by omega) (by omega)) tp hint (by omega) (by omega)
          rw [cond_false, e] at bad
          simp at bad
    rw [ediv]
    rfl

/-! ### The law -/

def onEnd (K : AV → List Blk → Ans) (s t v : Frac) : Ans :=
  bif s.den == 1 then (bif eqAll v.cells t.cells then K (rB true) [] else bif s.num != 0 then (bif eqAll v.cells zeroF.cells then K (rB true) [] else K (rB false) []) else K (rB false) [])
  else (bif eqAll v.cells t.cells then K (rB true) [] else K (rB false) [])
def onMore (K : AV → List Blk → Ans) (s t : Frac) (p : Vec × Int) (o : Bool × Int) (n : Int × Int) (u : (Frac × Frac) × Int) : Ans :=
  orT [p.2 != 0, o.2 != 0, !o.1, n.2 != 0, n.1 != 0, u.2 != 0, !eqAll u.1.1.cells s.cells] (K (rB false) []) (onEnd K s t u.1.2)
def lawGeoidOn (K : AV → List Blk → Ans) (g : Globe) (s t : Frac) : Ans :=
  orT [checkG g != 0, !placedB s t] (K (rB true) []) (onMore K s t (atV g s t) (onV g (atV g s t).1) (insideV g (atV g s t).1) (paramsV g (atV g s t).1))

theorem zero_sz : Sz 20 20 zeroF := Sz.zero.mono (by decide) (by decide)

theorem PlaceQ.params {g : Globe} {s t : Frac} {p : Vec} (h : PlaceQ g s t p) (ep : p = placeV g s t) (h1 : -s.den ≤ s.num) (h2 : s.num ≤ s.den) : paramsV g p = ((s, bif (cosU s).num == 0 then wholeF 0 else t), 0) := by
  obtain ⟨r, er, kr, x, y, z⟩ := h.over
  have ha := angles_place h.ks h.kt h1 h2 kr x y z
  unfold paramsV
  rw [h.on, er]
  simp only [bne_self_eq_false, cond_false, Bool.not_true]
  rw [ha]
  unfold paramsTail
  simp only [Bool.not_true, cond_false]
  have hat : ∀ t' : Frac, Sz 20 20 t' → atV g s t' = (placeV g s t', 0) := fun t' kt' => by
    have hp : placedB s t' = true := by
      unfold placedB
      rw [paramB_iff.2 h.ks, paramB_iff.2 kt', decide_eq_true h1, decide_eq_true h2]
      rfl
    unfold atV
    rw [globeOkB_iff.2 h.kg, hp]
    rfl
  cases h0 : (cosU s).num == 0 with
  | false =>
    simp only [cond_false]
    rw [hat t h.kt, ← ep, eqAll_self]
    rfl
  | true =>
    simp only [cond_true]
    rw [show wholeF 0 = zeroF from rfl, hat zeroF zero_sz]
    have hq := placeQ h.kg h.ks zero_sz
    have c0 : val (cosU s) = 0 := by
      by_cases hv : val (cosU s) = 0
      · exact hv
      · exact absurd (by simpa using h0) ((num_ne h.us.kc.ok).2 hv)
    have e : placeV g s zeroF = p := by
      refine vec_eq hq.ok h.ok ?_ ?_ ?_
      · rw [hq.vx, h.vx, c0]; grind
      · rw [hq.vy, h.vy, c0]; grind
      · rw [hq.vz, h.vz]
    rw [e, eqAll_self]
    rfl

theorem lawGeoidOn_ok {K : AV → List Blk → Ans} {g : Globe} {s t : Frac} : lawGeoidOn K g s t = K (rB true) [] := by
  unfold lawGeoidOn
  refine orT_split (fun _ => rfl) fun hs => ?_
  simp only [List.mem_cons, List.not_mem_nil, or_false, forall_eq_or_imp, forall_eq, Bool.not_eq_false', bne_eq_false_iff_eq] at hs
  obtain ⟨e, h⟩ := given_place hs.1 hs.2
  obtain ⟨_, _, h1, h2⟩ := placedB_iff hs.2
  rw [e]
  simp only
  rw [h.on, h.inside, h.params rfl h1 h2]
  unfold onMore
  rw [orT_none (by simp [eqAll_self])]
  unfold onEnd
  simp only
  cases h0 : (cosU s).num == 0 with
  | false =>
    simp only [cond_false, eqAll_self, cond_true]
    cases s.den == 1 <;> rfl
  | true =>
    simp only [cond_true]
    have hn : (cosU s).num = 0 := by simpa using h0
    have e1 : (cosU s).num * (s.den * s.den + s.num * s.num) = (s.den * s.den - s.num * s.num) * (cosU s).den := of_val h.us.kc.ok h.us.hc
    have dd := h.us.kc.ok.denlo
    have sd := h.ks.ok.denlo
    rw [hn, Int.zero_mul] at e1
    have e2 : s.den * s.den - s.num * s.num = 0 := by
      rcases Int.mul_eq_zero.1 e1.symm with q | q
      · exact q
      · omega
    have e3 : (s.den - s.num) * (s.den + s.num) = 0 := by grind
    have hg := h.ks.ok.gcd
    have hden : s.den = 1 ∧ s.num ≠ 0 := by
      rcases Int.mul_eq_zero.1 e3 with q | q
      · have : s.num = s.den := by omega
        rw [this, Int.gcd_self] at hg
        omega
      · have : s.num = -s.den := by omega
        rw [this, Int.neg_gcd, Int.gcd_self] at hg
        omega
    rw [show (s.den == 1) = true by simpa using hden.1, show (s.num != 0) = true by simpa using hden.2, show wholeF 0 = zeroF from rfl, eqAll_self]
    cases eqAll zeroF.cells t.cells <;> rfl

end Go.Ev
