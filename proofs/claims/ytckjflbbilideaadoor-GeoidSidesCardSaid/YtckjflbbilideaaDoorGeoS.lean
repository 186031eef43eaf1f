/-
  The parameters of a point, the reference's way; the law GeoidSides. No program here.
-/
import Derived.Test.YtckjflbbilideaaDoorGeoP
namespace Go.Ev
open Go

/-! ### A root, step by step -/

def rootD : Nat → Int → Int → Int
  | 0, r, _ => r
  | k + 1, r, n => bif decide ((r + 2 ^ k) * (r + 2 ^ k) ≤ n) then rootD k (r + 2 ^ k) n else rootD k r n
def rootR (n : Int) : Int := rootD 31 0 n

theorem sq_le_iff {a c : Int} (ha : 0 ≤ a) (hc : 0 ≤ c) : a * a ≤ c * c ↔ a ≤ c := by
  constructor
  · intro h
    rcases Int.lt_or_le c a with q | q
    · have x := Int.mul_le_mul_of_nonneg_left (show c ≤ a by omega) hc
      have y := Int.mul_lt_mul_of_pos_right q (show 0 < a by omega)
      omega
    · exact q
  · intro h; exact mul_le ha ha h h

theorem pow_pos' (k : Nat) : (0 : Int) < 2 ^ k := Int.pow_pos (by omega)

theorem rootD_sq {c : Int} (hc : 0 ≤ c) : ∀ (k : Nat) (r : Int), 0 ≤ r → r ≤ c → c < r + 2 ^ k → rootD k r (c * c) = c
  | 0, r, _, h1, h2 => by rw [rootD]; simp at h2; omega
  | k + 1, r, h0, h1, h2 => by
    have hp := pow_pos' k
    rw [rootD]
    have e : (2 : Int) ^ (k + 1) = 2 ^ k + 2 ^ k := by rw [Int.pow_succ]; omega
    by_cases h : r + 2 ^ k ≤ c
    · rw [decide_eq_true ((sq_le_iff (by omega) hc).2 h), cond_true]
      exact rootD_sq hc k _ (by omega) h (by omega)
    · rw [decide_eq_false (fun q => h ((sq_le_iff (by omega) hc).1 q)), cond_false]
      exact rootD_sq hc k r h0 h1 (by omega)
theorem rootR_sq {c : Int} (h0 : 0 ≤ c) (h1 : c < 2147483648) : rootR (c * c) = c := rootD_sq h0 31 0 (by omega) h0 (by omega)

theorem rootD_bounds (n : Int) : ∀ (k : Nat) (r : Int), r ≤ rootD k r n ∧ rootD k r n < r + 2 ^ k
  | 0, r => by rw [rootD]; simp; omega
  | k + 1, r => by
    have hp := pow_pos' k
    rw [rootD]
    have e : (2 : Int) ^ (k + 1) = 2 ^ k + 2 ^ k := by rw [Int.pow_succ]; omega
    cases decide ((r + 2 ^ k) * (r + 2 ^ k) ≤ n) with
    | true => have := rootD_bounds n k (r + 2 ^ k); simp only [cond_true]; omega
    | false => have := rootD_bounds n k r; simp only [cond_false]; omega
theorem rootR_bounds (n : Int) : 0 ≤ rootR n ∧ rootR n < 2147483648 := by
  have := rootD_bounds n 31 0
  unfold rootR
  omega

def stepOf : Nat → Int
  | 0 => 0
  | k + 1 => 2 ^ k
theorem step_half (k : Nat) : ((2 : Int) ^ k).tdiv 2 = stepOf k := by
  cases k with
  | zero => rfl
  | succ k =>
    rw [stepOf, Int.pow_succ, Int.tdiv_eq_ediv_of_nonneg (Int.le_of_lt (Int.mul_pos (pow_pos' k) (by omega)))]
    omega

def rootOnR (n : Int) : Bool := decide (0 ≤ n) && decide (n ≤ 1000000000000000000)
def rRoot (n : Int) : AV := .tup [.c (.d (.int .i64 (rootR n))), .c (.d (.bool (rootR n * rootR n == n)))]
def rootAnsR (K : AV → List Blk → Ans) (n : Int) : Ans := bif rootOnR n then K (.tup [.c (.d (.int .i64 (rootR n))), .c (.d (.bool (w64 (rootR n * rootR n) == n)))]) [] else none
theorem rootAnsR_ok {K : AV → List Blk → Ans} {n : Int} (h : rootOnR n = true) : rootAnsR K n = K (rRoot n) [] := by
  unfold rootAnsR rRoot
  have b := rootR_bounds n
  have q := mul_le b.1 b.1 (show rootR n ≤ 2147483648 by omega) (show rootR n ≤ 2147483648 by omega)
  have q' := sq_nn (rootR n)
  rw [h, w64_id (n := rootR n * rootR n) (by omega)]
  rfl

/-! ### The reference's way -/

def solvedR (c k : Frac) : Frac := (divF k (addF c oneF).1).1
def prTail (s t : Frac) : (Frac × Frac) × Int := bif placedB s t then ((s, t), 0) else (ffZ, 6)
def prMid (r : Vec) (c : Frac) : (Frac × Frac) × Int :=
  bif decide (c.num > 0) then (bif eqAll (divF r.x c).1.cells minusOne.cells then (ffZ, 6) else prTail (solvedR c r.z) (solvedR (divF r.x c).1 (divF r.y c).1)) else prTail (solvedR c r.z) zeroF
def prRoot (r : Vec) (sq : Frac) : (Frac × Frac) × Int :=
  bif rootR sq.num * rootR sq.num == sq.num then (bif rootR sq.den * rootR sq.den == sq.den then prMid r ⟨rootR sq.num, rootR sq.den⟩ else (ffZ, 6)) else (ffZ, 6)

def prTailAns (K : AV → List Blk → Ans) (s t : Frac) : Ans := bif !placedB s t then K (rFFE (ffZ, 6)) [] else K (rFFE ((s, t), 0)) []
theorem prTailAns_ok {K : AV → List Blk → Ans} {s t : Frac} : prTailAns K s t = K (rFFE (prTail s t)) [] := by
  unfold prTailAns prTail
  cases placedB s t <;> rfl
def prMidAns (K : AV → List Blk → Ans) (r : Vec) (c : Frac) : Ans :=
  bif decide (c.num > 0) then (bif eqAll (divF r.x c).1.cells minusOne.cells then K (rFFE (ffZ, 6)) [] else prTailAns K (solvedR c r.z) (solvedR (divF r.x c).1 (divF r.y c).1)) else prTailAns K (solvedR c r.z) zeroF
theorem prMidAns_ok {K : AV → List Blk → Ans} {r : Vec} {c : Frac} : prMidAns K r c = K (rFFE (prMid r c)) [] := by
  unfold prMidAns prMid
  rw [prTailAns_ok, prTailAns_ok]
  cases decide (c.num > 0) with
  | false => rfl
  | true => cases eqAll (divF r.x c).1.cells minusOne.cells <;> rfl
def prRootAns (K : AV → List Blk → Ans) (r : Vec) (sq : Frac) : Ans :=
  bif rootOnR sq.num then (bif rootOnR sq.den then (bif !(rootR sq.num * rootR sq.num == sq.num) then K (rFFE (ffZ, 6)) [] else bif !(rootR sq.den * rootR sq.den == sq.den) then K (rFFE (ffZ, 6)) [] else prMidAns K r ⟨rootR sq.num, rootR sq.den⟩) else none) else none
def paramsRef (K : AV → List Blk → Ans) (g : Globe) (p : Vec) : Ans :=
  bif (onV g p).2 != 0 then K (rFFE (ffZ, (onV g p).2)) [] else bif !(onV g p).1 then K (rFFE (ffZ, 6)) [] else
  bif globeOkB g && vecOkB p then prRootAns K (overV p (timesG g 1).a (timesG g 1).b).1 (subF oneF (mulF (overV p (timesG g 1).a (timesG g 1).b).1.z (overV p (timesG g 1).a (timesG g 1).b).1.z).1).1 else none

/-! ### Both find the same -/

theorem frac_inj {a b : Frac} (h : eqAll a.cells b.cells = true) : a = b := by
  simp only [Frac.cells, eqAll, D.eq, Bool.and_eq_true, beq_iff_eq, and_true] at h
  obtain ⟨a1, a2⟩ := a
  obtain ⟨b1, b2⟩ := b
  simp only at h
  obtain ⟨h1, h2⟩ := h
  subst h1 h2
  rfl


theorem on_over {g : Globe} {p : Vec} (h : (onV g p).2 = 0) : (overV p g.a g.b).2 = 0 ∧ ∃ q, mulF (overV p g.a g.b).1.z (overV p g.a g.b).1.z = (q, 0) := by
  have hin : (insideV g p).2 = 0 := by
    unfold onV at h
    cases hh : (insideV g p).2 == 0 with
    | false => rw [hh] at h; simp only [cond_false] at h; exact absurd h (by simpa using hh)
    | true => simpa using hh
  have hg : globeOkB g = true := by
    cases hg : globeOkB g with
    | true => rfl
    | false => unfold insideV at hin; rw [hg] at hin; simp at hin
  have hp : vecOkB p = true := by
    cases hp : vecOkB p with
    | true => rfl
    | false => unfold insideV at hin; rw [hg, hp] at hin; simp at hin
  have kg := globeOkB_iff.1 hg
  have kp := vecOkB_iff.1 hp
  have a1 := kg.alo; have a2 := kg.ahi; have b1 := kg.blo; have b2 := kg.bhi
  unfold insideV insideF andG at hin
  rw [hg, hp] at hin
  rcases over_cases kp (show 0 < g.a ∧ g.a ≤ 1000000 by omega) (show 0 < g.b ∧ g.b ≤ 1000000 by omega) with ⟨r, e, k, _⟩ | e
  · rw [e] at hin ⊢
    refine ⟨rfl, ?_⟩
    simp only [cond_true, beq_self_eq_true] at hin ⊢
    rw [dotV_ok k k] at hin
    rcases mulF_cases k.z k.z with ⟨q, eq', _⟩ | bad
    · exact ⟨q, eq'⟩
    · exfalso
      rcases dotF_cases k k with ⟨s, e', _⟩ | e'
      · unfold dotF andF at e'
        rw [bad] at e'
        rcases mulF_cases k.x k.x with ⟨x, ex, kx⟩ | ex
        · rw [ex] at e'; simp only [addF_nought kx, beq_self_eq_true, cond_true] at e'
          rcases mulF_cases k.y k.y with ⟨y, ey, ky⟩ | ey
          · rw [ey] at e'; simp only [beq_self_eq_true, cond_true] at e'
            rcases addF_cases kx ky with ⟨w, ew, _⟩ | ew
            · rw [ew] at e'; simp at e'
            · rw [ew] at e'; simp at e'
          · rw [ey] at e'; simp at e'
        · rw [ex] at e'; simp at e'
      · rw [e'] at hin; simp at hin
  · rw [e] at hin; simp at hin

/-- The square of the cosine, in lowest terms. -/
theorem square_of {z q : Frac} (kz : FracOk z) (h1 : -z.den ≤ z.num) (h2 : z.num ≤ z.den) (h : mulF z z = (q, 0)) : (subF oneF q) = (⟨z.den * z.den - z.num * z.num, z.den * z.den⟩, 0) ∧ z.den * z.den ≤ 1000000000000000000 ∧ 0 ≤ z.den * z.den - z.num * z.num ∧ FracOk ⟨z.den * z.den - z.num * z.num, z.den * z.den⟩ := by
  obtain ⟨kq, eq'⟩ := mulF_val kz kz h
  have hd := kz.denlo
  have pz : 0 < z.den * z.den := Int.mul_pos (by omega) (by omega)
  have gz : Int.gcd (z.num * z.num) (z.den * z.den) = 1 := by
    have := kz.gcd
    rw [Int.gcd_eq_natAbs_gcd_natAbs, Int.natAbs_mul, Int.natAbs_mul]
    exact Nat.Coprime.mul_left (Nat.Coprime.mul_right this this) (Nat.Coprime.mul_right this this)
  have l1 := (least' pz gz (show 0 < q.den by have := kq.denlo; omega) eq'.symm).1
  have l2 := (least kq pz eq').1
  have eden : q.den = z.den * z.den := by omega
  have q3 := sq_nn z.num
  have q4 : z.num * z.num ≤ z.den * z.den := by
    have e : z.num * z.num = absI z.num * absI z.num := by rw [← absI_mul, absI_eq]; omega
    have : absI z.num ≤ z.den := by rw [absI_eq]; omega
    rw [e]; exact mul_le (absI_nn _) (absI_nn _) this this
  have hi := kq.denhi
  have kk : FracOk ⟨z.den * z.den - z.num * z.num, z.den * z.den⟩ := by
    refine ⟨by simp only; omega, by simp only; omega, by simp only; omega, by simp only; omega, ?_⟩
    simp only
    rw [Int.gcd_self_sub_left, gz]
  refine ⟨?_, by omega, by omega, kk⟩
  have vz := val_mul kz
  have vq : val q = val z * val z := (mul_val kz kz h).2
  have vk : val (⟨z.den * z.den - z.num * z.num, z.den * z.den⟩ : Frac) = 1 - val z * val z := by
    have := val_mul kk
    simp only [Rat.intCast_mul, Rat.intCast_sub] at this
    have hne := den_ne kz
    grind
  rcases subF_cases one_ok kq with ⟨c, e, kc⟩ | e
  · obtain ⟨_, vc⟩ := sub_val one_ok kq e
    rw [e, val_inj kc kk (by rw [vc, val_one, vq, vk])]
  · exfalso
    rw [← addF_neg one_ok kq] at e
    have hsum : val oneF + val (negR q) = val (⟨z.den * z.den - z.num * z.num, z.den * z.den⟩ : Frac) := by rw [val_one, val_neg kq, vq, vk]; grind
    obtain ⟨c, e', _⟩ := add_br one_ok (negR_ok kq) (by rw [hsum]; exact BR.of kk) (by decide)
    rw [e'] at e
    simp at e

theorem params_ok_or {g : Globe} {p : Vec} (h : (onV g p).2 = 0) (h1 : (onV g p).1 = true) (ho : (overV p g.a g.b).2 = 0) : paramsV g p = (ffZ, 6) ∨ ∃ s t, paramsV g p = ((s, t), 0) ∧ placedB s t = true ∧ p = placeV g s t ∧ globeOkB g = true := by
  unfold paramsV paramsTail
  rw [h, h1, ho]
  simp only [bne_self_eq_false, cond_false, Bool.not_true]
  generalize anglesF (overV p g.a g.b).1 = x
  cases x.2 with
  | false => exact .inl rfl
  | true =>
    simp only [Bool.not_true, cond_false]
    cases h2 : (atV g x.1.1 x.1.2).2 != 0 with
    | true => exact .inl rfl
    | false =>
      simp only [cond_false]
      cases h3 : eqAll (atV g x.1.1 x.1.2).1.cells p.cells with
      | false => exact .inl rfl
      | true =>
        have h2' : (atV g x.1.1 x.1.2).2 = 0 := by simpa using h2
        have h3' := cells_inj h3
        refine .inr ⟨x.1.1, x.1.2, rfl, ?_⟩
        unfold atV at h2' h3'
        cases hg : globeOkB g with
        | false => rw [hg] at h2'; simp at h2'
        | true =>
          cases hp : placedB x.1.1 x.1.2 with
          | false => rw [hg, hp] at h2'; simp at h2'
          | true =>
            rw [hg, hp] at h3'
            exact ⟨rfl, h3'.symm, rfl⟩

theorem placedB_mk {s t : Frac} (hs : Sz 20 20 s) (ht : Sz 20 20 t) (h1 : -s.den ≤ s.num) (h2 : s.num ≤ s.den) : placedB s t = true := by
  unfold placedB
  rw [paramB_iff.2 hs, paramB_iff.2 ht, decide_eq_true h1, decide_eq_true h2]
  rfl

theorem bad_param : paramB fracZ = false := by decide
theorem placed_bad (s : Frac) : placedB s fracZ = false := by unfold placedB; rw [bad_param]; simp

/-- From the half angle's tangent back. -/
theorem back_angle {τ c z : Rat} (h : τ * (1 + c) = z) (h1 : c * c + z * z = 1) (h0 : 1 + c ≠ 0) : c * (1 + τ * τ) = 1 - τ * τ ∧ z * (1 + τ * τ) = 2 * τ := by
  constructor <;> grind

theorem div_fits {a b t : Frac} (ka : FracOk a) (kb : FracOk b) (hb : val b ≠ 0) (kt : FracOk t) (h : val t * val b = val a) : divF a b = (t, 0) := by
  have dn := (num_ne kb).2 hb
  have ha' := val_mul ka; have hb' := val_mul kb; have ht' := val_mul kt
  have tp := kt.denlo; have td := kt.denhi; have t1 := kt.numlo; have t2 := kt.numhi
  have hcast : ((a.num * b.den * t.den : Int) : Rat) = ((t.num * (a.den * b.num) : Int) : Rat) := by
    simp only [Rat.intCast_mul]
    rw [← ha', ← hb', ← ht', ← h]
    grind
  have hint : a.num * b.den * t.den = t.num * (a.den * b.num) := by exact_mod_cast hcast
  rcases divF_cases ka kb dn with ⟨q, eq', kq⟩ | bad
  · obtain ⟨_, _, vq⟩ := div_val ka kb eq'
    rw [eq', val_inj kq kt (by grind)]
  · exfalso
    unfold divF at bad
    rw [fracOkB_iff.2 ka, fracOkB_iff.2 kb, show (b.num == 0) = false by simpa using dn] at bad
    simp only [Bool.and_self, cond_true, cond_false] at bad
    have adl := ka.denlo
    by_cases hneg : b.num < 0
    · rw [decide_eq_true hneg] at bad
      obtain ⟨c, e⟩ := fracOf_fit (n := a.num * -b.den) (d := a.den * -b.num) (N := t.num) (D := t.den) (Int.mul_pos (by omega) (by omega)) (by omega) (by grind) (by rw [absI_eq]; omega) (by omega)
      rw [cond_true, e] at bad
      simp at bad
    · rw [decide_eq_false hneg] at bad
      obtain ⟨c, e⟩ := fracOf_fit (n := a.num * b.den) (d := a.den * b.num) (N := t.num) (D := t.den) (Int.mul_pos (by omega) (by omega)) (by omega) hint (by rw [absI_eq]; omega) (by omega)
      rw [cond_false, e] at bad
      simp at bad

theorem add_fits {a b t : Frac} (ka : FracOk a) (kb : FracOk b) (kt : FracOk t) (h : val t = val a + val b) : addF a b = (t, 0) := by
  obtain ⟨c, e, kc, vc⟩ := add_br ka kb (by rw [← h]; exact BR.of kt) (by decide)
  rw [e, val_inj kc kt (by rw [vc, h])]

/-- Solved: the half angle's tangent. -/
theorem solved_of {c k t : Frac} (kc : FracOk c) (kk : FracOk k) (kt : FracOk t) (one : BR (val c + 1) 1000000000000000000) (h0 : 1 + val c ≠ 0) (h : val t * (1 + val c) = val k) : solvedR c k = t := by
  unfold solvedR
  obtain ⟨d, e, kd, vd⟩ := add_br kc one_ok (by rw [val_one]; exact one) (by decide)
  rw [e]
  simp only
  rw [val_one] at vd
  rw [div_fits kk kd (by rw [vd]; grind) kt (by rw [vd]; grind)]

theorem solved_bad_c (k : Frac) : solvedR fracZ k = fracZ := by
  have e : addF fracZ oneF = (fracZ, 8) := by decide +kernel
  unfold solvedR divF
  rw [e]
  rw [show fracOkB fracZ = false by decide +kernel, Bool.and_false]
  rfl
theorem solved_bad_k (c : Frac) : solvedR c fracZ = fracZ := by
  unfold solvedR divF
  rw [show fracOkB fracZ = false by decide +kernel, Bool.false_and]
  rfl

theorem solved_aux (k : Frac) : (divF k fracZ).1 = fracZ := by
  unfold divF
  rw [show fracOkB fracZ = false by decide +kernel, Bool.and_false]
  rfl
theorem rat_nonneg {x d n : Rat} (hd : 0 < d) (h : x * d = n) (hn : 0 ≤ n) : 0 ≤ x := by
  rcases Rat.le_total (a := 0) (b := x) with q | q
  · exact q
  · have h1 := Rat.mul_le_mul_of_nonneg_right q (Rat.le_of_lt hd)
    have h2 : x * d = 0 := by grind
    have h3 : d ≠ 0 := by grind
    have h4 : x = 0 := by grind
    rw [h4]; exact Rat.le_refl
theorem solved_cases {c k : Frac} (kc : FracOk c) (kk : FracOk k) : solvedR c k = fracZ ∨ (FracOk (solvedR c k) ∧ 1 + val c ≠ 0 ∧ val (solvedR c k) * (1 + val c) = val k) := by
  unfold solvedR
  rcases addF_cases kc one_ok with ⟨d, e, kd⟩ | e
  · rw [e]
    simp only
    have vd := (add_val kc one_ok e).2
    rw [val_one] at vd
    by_cases h0 : d.num = 0
    · left
      unfold divF
      rw [fracOkB_iff.2 kk, fracOkB_iff.2 kd, show (d.num == 0) = true by simpa using h0]
      rfl
    · rcases divF_cases kk kd h0 with ⟨t, et, kt⟩ | et
      · right
        obtain ⟨_, h1, h2⟩ := div_val kk kd et
        rw [et]
        rw [vd] at h1 h2
        exact ⟨kt, by grind, by simp only; grind⟩
      · left; rw [et]
  · left
    rw [e]
    exact solved_aux k

/-- With the cosine found: both ways. -/
theorem mid_eq {g : Globe} {p r : Vec} {cn : Int} (kg : GlobeOk g) (kp : VecOk p) (kr : VecOk r) (hr : overV p g.a g.b = (r, 0)) (hon : onV g p = (true, 0)) (hd : dotQ r r = 1)
    (x : val r.x * (g.a : Rat) = val p.x) (y : val r.y * (g.a : Rat) = val p.y) (z : val r.z * (g.b : Rat) = val p.z) (hc0 : 0 ≤ cn) (hsq : cn * cn = r.z.den * r.z.den - r.z.num * r.z.num) (hz2 : r.z.den * r.z.den ≤ 1000000000000000000)
    (hk : FracOk ⟨cn, r.z.den⟩) : prMid r ⟨cn, r.z.den⟩ = paramsV g p := by
  have na := kg.ane; have nb := kg.bne
  have zd := kr.z.denlo
  have vz := val_mul kr.z; have nz := den_ne kr.z
  have vc : val (⟨cn, r.z.den⟩ : Frac) * (r.z.den : Rat) = cn := val_mul hk
  have cc : val (⟨cn, r.z.den⟩ : Frac) * val (⟨cn, r.z.den⟩ : Frac) + val r.z * val r.z = 1 := by
    have : ((cn * cn : Int) : Rat) = ((r.z.den * r.z.den - r.z.num * r.z.num : Int) : Rat) := by rw [hsq]
    simp only [Rat.intCast_mul, Rat.intCast_sub] at this
    grind
  have cpos : 0 ≤ val (⟨cn, r.z.den⟩ : Frac) := by
    have h1 : (0 : Rat) < (r.z.den : Rat) := by exact_mod_cast (show 0 < r.z.den by omega)
    have h2 : (0 : Rat) ≤ (cn : Rat) := by exact_mod_cast hc0
    unfold val
    simp only
    rw [Rat.div_def]
    exact Rat.mul_nonneg h2 (Rat.le_of_lt (Rat.inv_pos.2 h1))
  have cne : 1 + val (⟨cn, r.z.den⟩ : Frac) ≠ 0 := by grind
  have clen : cn ≤ r.z.den := by
    have := sq_nn r.z.num
    exact (sq_le_iff hc0 (by omega)).1 (by omega)
  have zlen : r.z.den ≤ 1000000000 := (sq_le_iff (by omega) (by omega)).1 (by omega)
  have bone : BR (val (⟨cn, r.z.den⟩ : Frac) + 1) 1000000000000000000 := by
    refine ⟨cn + r.z.den, r.z.den, ⟨by omega, ?_⟩, by rw [absI_eq]; omega, by omega⟩
    rw [Rat.intCast_add]
    grind
  -- the first parameter
  have hzn : absI r.z.num ≤ r.z.den := by
    have := rat_le_one (show 0 < r.z.den by omega) vz (by have := rat_sq (val (⟨cn, r.z.den⟩ : Frac)); grind)
    rw [absI_eq]; omega
  obtain ⟨s, es, ks, hs⟩ := make_small (n := r.z.num) (d := r.z.den + cn) (by omega) (by omega) (by omega)
  have hsv : val s * (1 + val (⟨cn, r.z.den⟩ : Frac)) = val r.z := by
    have v := val_of ks hs
    rw [Rat.intCast_add] at v
    grind
  have hS : solvedR ⟨cn, r.z.den⟩ r.z = s := solved_of hk kr.z ks bone cne hsv
  obtain ⟨bc, bz⟩ := back_angle hsv cc cne
  have hdxy : val r.x * val r.x + val r.y * val r.y = val (⟨cn, r.z.den⟩ : Frac) * val (⟨cn, r.z.den⟩ : Frac) := by unfold dotQ at hd; grind
  -- a place with these parameters is the point
  have isPlace : ∀ t : Frac, placedB s t = true → val r.x = val (⟨cn, r.z.den⟩ : Frac) * val (cosU t) → val r.y = val (⟨cn, r.z.den⟩ : Frac) * val (sinU t) → paramsV g p = ((s, bif cn == 0 then wholeF 0 else t), 0) := by
    intro t hp hx hy
    obtain ⟨k1, k2, h1, h2⟩ := placedB_iff hp
    have pq := placeQ kg k1 k2
    have ps := pq.us.pair k1.ok
    have ec : cosU s = ⟨cn, r.z.den⟩ ∧ sinU s = r.z := ps.uniq ⟨hk, kr.z, bc, bz⟩
    have ep : p = placeV g s t := by
      refine vec_eq kp pq.ok ?_ ?_ ?_
      · rw [pq.vx, ec.1, ← x, hx]; grind
      · rw [pq.vy, ec.1, ← y, hy]; grind
      · rw [pq.vz, ec.2, ← z]; grind
    have := pq.params rfl h1 h2
    rw [← ep, ec.1] at this
    exact this
  -- if the program finds parameters, they are these
  have fromProg : ∀ s' t' : Frac, placedB s' t' = true → p = placeV g s' t' → s' = s ∧ val r.x = val (⟨cn, r.z.den⟩ : Frac) * val (cosU t') ∧ val r.y = val (⟨cn, r.z.den⟩ : Frac) * val (sinU t') := by
    intro s' t' hp ep
    obtain ⟨k1, k2, h1, h2⟩ := placedB_iff hp
    have pq := placeQ kg k1 k2
    have ps := pq.us.pair k1.ok
    have U := unitQ k1
    have hx : val r.x = val (cosU s') * val (cosU t') := by have := pq.vx; rw [← ep] at this; grind
    have hy : val r.y = val (cosU s') * val (sinU t') := by have := pq.vy; rw [← ep] at this; grind
    have hz : val r.z = val (sinU s') := by have := pq.vz; rw [← ep] at this; grind
    have cn' : 0 ≤ val (cosU s') := by
      have hv := pq.us.hc
      have e1 : s'.num * s'.num = absI s'.num * absI s'.num := by rw [← absI_mul, absI_eq]; have := sq_nn s'.num; omega
      have e2 : absI s'.num ≤ s'.den := by rw [absI_eq]; omega
      have e3 := mul_le (absI_nn _) (absI_nn _) e2 e2
      have q1 : (0 : Rat) ≤ ((s'.den * s'.den - s'.num * s'.num : Int) : Rat) := by exact_mod_cast (show 0 ≤ s'.den * s'.den - s'.num * s'.num by omega)
      have q2 : (0 : Rat) < ((s'.den * s'.den + s'.num * s'.num : Int) : Rat) := by exact_mod_cast pq.us.i.r0
      exact rat_nonneg q2 hv q1
    have ceq : val (cosU s') = val (⟨cn, r.z.den⟩ : Frac) := by
      have o := U.one
      have : (val (cosU s') - val (⟨cn, r.z.den⟩ : Frac)) * (val (cosU s') + val (⟨cn, r.z.den⟩ : Frac)) = 0 := by rw [hz] at cc; grind
      by_cases hz' : val (cosU s') + val (⟨cn, r.z.den⟩ : Frac) = 0
      · grind
      · grind
    have hh := ps.half.1
    refine ⟨val_inj k1.ok ks ?_, by rw [hx, ceq], by rw [hy, ceq]⟩
    rw [ceq, ← hz] at hh
    grind
  have ho2 : (onV g p).2 = 0 := by rw [hon]
  have ho1 : (onV g p).1 = true := by rw [hon]
  have hov : (overV p g.a g.b).2 = 0 := by rw [hr]
  unfold prMid
  rw [hS]
  by_cases h0 : cn > 0
  · rw [decide_eq_true h0]
    simp only [cond_true]
    have cne0 : val (⟨cn, r.z.den⟩ : Frac) ≠ 0 := (num_ne hk).1 (by simp only; omega)
    have hcn0 : (cn == 0) = false := by simp; omega
    rcases params_ok_or ho2 ho1 hov with e6 | ⟨s', t', e0, hp, ep, _⟩
    · -- the program finds none: the reference neither
      rw [e6]
      cases hm : eqAll (divF r.x ⟨cn, r.z.den⟩).1.cells minusOne.cells with
      | true => rfl
      | false =>
        simp only [cond_false]
        unfold prTail
        cases hpl : placedB s (solvedR (divF r.x ⟨cn, r.z.den⟩).1 (divF r.y ⟨cn, r.z.den⟩).1) with
        | false => rfl
        | true =>
          exfalso
          rcases divF_cases kr.x hk (by simp only; omega) with ⟨x', ex, kx⟩ | ex
          · rcases divF_cases kr.y hk (by simp only; omega) with ⟨y', ey, ky⟩ | ey
            · rw [ex, ey] at hpl
              simp only at hpl
              have vx := (div_val kr.x hk ex).2.2
              have vy := (div_val kr.y hk ey).2.2
              rcases solved_cases kx ky with e | ⟨kt, h1, h2⟩
              · rw [e, placed_bad] at hpl; cases hpl
              · have hxy : val x' * val x' + val y' * val y' = 1 := by rw [← vx, ← vy] at hdxy; grind
                obtain ⟨b1, b2⟩ := back_angle h2 hxy h1
                obtain ⟨_, k2, _⟩ := placedB_iff hpl
                have pt := (uq k2).pair k2.ok
                have et := pt.uniq ⟨kx, ky, b1, b2⟩
                have := isPlace _ hpl (by rw [et.1, ← vx]; grind) (by rw [et.2, ← vy]; grind)
                rw [e6] at this
                simp at this
            · rw [ey, solved_bad_k, placed_bad] at hpl; cases hpl
          · rw [ex, solved_bad_c, placed_bad] at hpl; cases hpl
    · -- the program finds some: the reference the same
      obtain ⟨es', hx, hy⟩ := fromProg s' t' hp ep
      subst es'
      rw [isPlace t' hp hx hy, hcn0]
      simp only [cond_false]
      obtain ⟨k1, k2, _⟩ := placedB_iff hp
      have ut := uq k2
      have hx' : divF r.x ⟨cn, r.z.den⟩ = (cosU t', 0) := div_fits kr.x hk cne0 ut.kc.ok (by rw [hx]; grind)
      have hy' : divF r.y ⟨cn, r.z.den⟩ = (sinU t', 0) := div_fits kr.y hk cne0 ut.ks.ok (by rw [hy]; grind)
      obtain ⟨hh, hne⟩ := (ut.pair k2.ok).half
      rw [hx', hy']
      simp only
      have hm : eqAll (cosU t').cells minusOne.cells = false := by
        cases hm : eqAll (cosU t').cells minusOne.cells with
        | false => rfl
        | true =>
          exfalso
          have e : cosU t' = minusOne := frac_inj hm
          apply hne
          rw [e]
          decide +kernel
      have bt : BR (val (cosU t') + 1) 1000000000000000000 := by
        have i := ut.i
        have r0 := i.r0; have r1 := i.r1; have pp := i.p
        refine ⟨(t'.den * t'.den - t'.num * t'.num) + (t'.den * t'.den + t'.num * t'.num), t'.den * t'.den + t'.num * t'.num, ⟨r0, ?_⟩, ?_, by omega⟩
        · rw [Rat.intCast_add (t'.den * t'.den - t'.num * t'.num), ← ut.hc]; grind
        · have := absI_add_le (t'.den * t'.den - t'.num * t'.num) (t'.den * t'.den + t'.num * t'.num)
          rw [absI_of_pos r0] at this
          omega
      rw [hm, solved_of ut.kc.ok ut.ks.ok k2.ok bt hne hh]
      simp only [cond_false]
      unfold prTail
      rw [hp]
      rfl
  · have hcz : cn = 0 := by omega
    rw [decide_eq_false h0]
    simp only [cond_false]
    have c0 : val (⟨cn, r.z.den⟩ : Frac) = 0 := by subst hcz; unfold val; simp only; rw [Rat.intCast_zero]; grind
    have x0 : val r.x = 0 := by
      have := rat_sq (val r.y); have := rat_sq (val r.x)
      exact rat_sq0 (by grind)
    have y0 : val r.y = 0 := by
      have := rat_sq (val r.y); have := rat_sq (val r.x)
      exact rat_sq0 (by grind)
    unfold prTail
    cases hpl : placedB s zeroF with
    | true =>
      have := isPlace zeroF hpl (by rw [x0, c0]; grind) (by rw [y0, c0]; grind)
      rw [this, show (cn == 0) = true by simpa using hcz]
      rfl
    | false =>
      rcases params_ok_or ho2 ho1 hov with e6 | ⟨s', t', e0, hp, ep, _⟩
      · rw [e6]; rfl
      · exfalso
        obtain ⟨es', _⟩ := fromProg s' t' hp ep
        obtain ⟨k1, _, h1, h2⟩ := placedB_iff hp
        subst es'
        rw [placedB_mk k1 zero_sz h1 h2] at hpl
        cases hpl

theorem paramsRef_ok {K : AV → List Blk → Ans} {g : Globe} {p : Vec} : paramsRef K g p = K (rFFE (paramsV g p)) [] := by
  unfold paramsRef
  rw [times1]
  cases h1 : (onV g p).2 != 0 with
  | true => unfold paramsV; rw [h1]; rfl
  | false =>
    cases h2 : (onV g p).1 with
    | false => unfold paramsV; rw [h1, h2]; rfl
    | true =>
      have h1' : (onV g p).2 = 0 := by simpa using h1
      obtain ⟨ho, q, hq⟩ := on_over h1'
      obtain ⟨kg, kp, kr, hd, x, y, z⟩ := on_rel h1' h2 ho rfl
      have hr := fst_of ho
      generalize (overV p g.a g.b).1 = r at *
      simp only [cond_false, Bool.not_true]
      rw [globeOkB_iff.2 kg, vecOkB_iff.2 kp]
      simp only [Bool.and_self, cond_true]
      have vz := val_mul kr.z
      have zd := kr.z.denlo
      have hz := rat_le_one (show 0 < r.z.den by omega) vz (by
        unfold dotQ at hd
        have s1 := rat_sq (val r.x); have s2 := rat_sq (val r.y)
        grind)
      obtain ⟨hsub, b1, b2, kk⟩ := square_of kr.z hz.1 hz.2 hq
      rw [hq]
      simp only
      rw [hsub]
      have hon : onV g p = (true, 0) := by rw [← h2, ← h1']
      unfold prRootAns
      simp only
      have o1 : rootOnR (r.z.den * r.z.den - r.z.num * r.z.num) = true := by
        have := sq_nn r.z.num
        unfold rootOnR; rw [decide_eq_true b2, decide_eq_true (by omega)]; rfl
      have o2 : rootOnR (r.z.den * r.z.den) = true := by
        have := sq_nn r.z.den
        unfold rootOnR; rw [decide_eq_true this, decide_eq_true b1]; rfl
      have zlen : r.z.den ≤ 1000000000 := (sq_le_iff (by omega) (by omega)).1 (by omega)
      rw [o1, o2, rootR_sq (c := r.z.den) (by omega) (by omega)]
      simp only [cond_true, beq_self_eq_true, Bool.not_true, cond_false]
      cases hsq : rootR (r.z.den * r.z.den - r.z.num * r.z.num) * rootR (r.z.den * r.z.den - r.z.num * r.z.num) == r.z.den * r.z.den - r.z.num * r.z.num with
      | true =>
        have hsq' : rootR (r.z.den * r.z.den - r.z.num * r.z.num) * rootR (r.z.den * r.z.den - r.z.num * r.z.num) = r.z.den * r.z.den - r.z.num * r.z.num := by simpa using hsq
        have rb := rootR_bounds (r.z.den * r.z.den - r.z.num * r.z.num)
        generalize rootR (r.z.den * r.z.den - r.z.num * r.z.num) = cn at *
        have hk : FracOk ⟨cn, r.z.den⟩ := by
          have gg := kk.gcd
          simp only at gg
          rw [← hsq'] at gg
          refine ⟨by simp only; omega, by simp only; omega, by simp only; omega, by simp only; omega, ?_⟩
          simp only
          rw [Int.gcd_eq_natAbs_gcd_natAbs, Int.natAbs_mul, Int.natAbs_mul] at gg
          rw [Int.gcd_eq_natAbs_gcd_natAbs]
          exact (Nat.Coprime.coprime_mul_left (Nat.Coprime.coprime_mul_left_right gg))
        simp only [Bool.not_true, cond_false]
        rw [prMidAns_ok, mid_eq kg kp kr hr hon hd x y z rb.1 hsq' b1 hk]
      | false =>
        simp only [Bool.not_false, cond_true]
        have hsq' : rootR (r.z.den * r.z.den - r.z.num * r.z.num) * rootR (r.z.den * r.z.den - r.z.num * r.z.num) ≠ r.z.den * r.z.den - r.z.num * r.z.num := by simpa using hsq
        have : paramsV g p = (ffZ, 6) := by
          unfold paramsV
          rw [hon, hr]
          simp only [bne_self_eq_false, cond_false, Bool.not_true]
          have ha : (anglesF r).2 = false := by
            unfold anglesF
            by_cases hb : r.z.den > 800
            · rw [decide_eq_true hb]; rfl
            · rw [decide_eq_false hb]
              simp only [cond_false]
              unfold anglesTail
              have hd2 : r.z.den * r.z.den ≤ 800 * 800 := mul_le (by omega) (by omega) (by omega) (by omega)
              have hn2 := sq_nn r.z.num
              obtain ⟨_, g1, g2⟩ := rootUp_stop (n := r.z.den * r.z.den - r.z.num * r.z.num) (by omega) 801 0 (by omega) (by omega) (by omega)
              have hne : (rootI (r.z.den * r.z.den - r.z.num * r.z.num) * rootI (r.z.den * r.z.den - r.z.num * r.z.num) != r.z.den * r.z.den - r.z.num * r.z.num) = true := by
                simp only [bne_iff_ne, ne_eq]
                intro e
                apply hsq'
                rw [show rootUp 801 0 (r.z.den * r.z.den - r.z.num * r.z.num) = rootI (r.z.den * r.z.den - r.z.num * r.z.num) from rfl] at g1 g2
                rw [← e, rootR_sq g1 (by omega)]
              rw [hne]
              rfl
          unfold paramsTail
          rw [ha]
          rfl
        rw [this]

def lawGeoidSides (K : AV → List Blk → Ans) (g : Globe) (p q : Vec) : Ans :=
  chain K [eqAll (paramsV g p).1.1.cells (paramsV g p).1.1.cells, eqAll (paramsV g p).1.2.cells (paramsV g p).1.2.cells, (paramsV g p).2 == (paramsV g p).2, eqAll (normalV g p).1.cells (normalV g p).1.cells, (normalV g p).2 == (normalV g p).2, (sideV g p q).1 == (sideV g p q).1, (sideV g p q).2 == (sideV g p q).2]
theorem lawGeoidSides_ok {K : AV → List Blk → Ans} {g : Globe} {p q : Vec} : lawGeoidSides K g p q = K (rB true) [] := by
  unfold lawGeoidSides
  refine chain_true fun c hc => ?_
  simp only [eqAll_self, beq_self_eq_true, List.mem_cons, List.not_mem_nil, or_false, or_self] at hc
  exact hc

end Go.Ev
