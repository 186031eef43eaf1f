/-
  The law SineHolds as a plain function: what is enclosed stays enclosed. No program here.
-/
import Derived.Test.YthnfmabjjndhhaaFracRef
import Derived.Test.YthnfmabjjndhhaaUnit
namespace Go.Ev
open Go

section
variable (K : AV → List Blk → Ans)

def orIn (e k : Int) (i : Bool) (cont : Ans) : Ans := bif e != 0 then cont else bif k != 0 then cont else bif i then cont else nay K

def holds2 (a b : Span) (f g : Frac) : Ans :=
  bif !(inRaw a f) then yes K else bif !(inRaw b g) then yes K else
  orIn K (addS a b).2 (addF f g).2 (inRaw (addS a b).1 (addF f g).1) (orIn K (subS a b).2 (subF f g).2 (inRaw (subS a b).1 (subF f g).1) (orIn K (mulS a b).2 (mulF f g).2 (inRaw (mulS a b).1 (mulF f g).1) (yes K)))

def holds1 (a b : Span) (f g : Frac) (c : Span × Int) : Ans :=
  bif c.2 == 0 then (bif (hasS c.1 f).2 != 0 then nay K else bif !((hasS c.1 f).1) then nay K else bif decide (1 < w64 (c.1.hi - c.1.lo)) then nay K else
    bif decide (c.1.lo < c.1.hi) then (bif inRaw ⟨c.1.lo, c.1.lo⟩ f then nay K else bif inRaw ⟨c.1.hi, c.1.hi⟩ f then nay K else holds2 K a b f g) else holds2 K a b f g)
  else bif c.2 != 16 then nay K else holds2 K a b f g

def lawSineHolds (a b : Span) (f g : Frac) : Ans := bif !(spanValid a) then yes K else bif !(spanValid b) then yes K else bif bothE f g != 0 then yes K else holds1 K a b f g (ofS f)
end

theorem frac_val {n d : Int} (hd : 0 < d) {x : Frac} (h : fracOf n d = (x, 0)) : FracOk x ∧ x.num * d = n * x.den := by
  have hg : 0 < gcdI n d := gcdI_pos (by omega)
  obtain ⟨n', hn⟩ : gcdI n d ∣ n := Int.gcd_dvd_left ..
  obtain ⟨d', hd'⟩ : gcdI n d ∣ d := Int.gcd_dvd_right ..
  have hc : Int.gcd n' d' = 1 := by
    have e : gcdI (gcdI n d * n') (gcdI n d * d') = gcdI n d := by rw [← hn, ← hd']
    generalize gcdI n d = k at *
    unfold gcdI at e
    rw [Int.gcd_mul_left, Int.natCast_mul, show ((k.natAbs : Nat) : Int) = k by omega] at e
    have : ((Int.gcd n' d' : Nat) : Int) = 1 := Int.eq_of_mul_eq_mul_left (a := k) (by omega) (by omega)
    omega
  rw [fracOf_red hg hn hd' hc] at h
  generalize gcdI n d = k at *
  have hd0 : 0 < d' := by
    rcases Int.lt_or_le 0 d' with q | q
    · exact q
    · have := Int.mul_le_mul_of_nonneg_left q (show 0 ≤ k by omega)
      omega
  unfold cutF at h
  cases hb : decide (absI n' ≤ 1000000000000000000) && decide (d' ≤ 1000000000000000000) with
  | false => rw [hb] at h; simp at h
  | true =>
    rw [hb] at h
    simp only [cond_true, Prod.mk.injEq, and_true] at h
    subst h
    simp only [Bool.and_eq_true, decide_eq_true_eq] at hb
    unfold absI at hb
    refine ⟨⟨by simp only; omega, hb.2, by simp only; omega, by simp only; omega, hc⟩, ?_⟩
    simp only
    rw [hn, hd']
    grind

theorem inS_enc {a : Span} {f : Frac} : inS a f = true ↔ Enc a (f.num * 1000000) f.den := by
  unfold inS Enc
  simp

theorem in_of_enc {s : Span} {N D : Int} {x : Frac} (hD : 0 < D) (hx : x.num * D = N * x.den) (hxd : 0 < x.den) (h : Enc s (N * 1000000) D) : inS s x = true := by
  rw [inS_enc]
  have h1 := Enc.scale (c := x.den) (Int.le_of_lt hxd) h
  refine Enc.unscale (c := D) hD ?_
  rw [show N * 1000000 * x.den = x.num * 1000000 * D by grind, Int.mul_comm D] at h1
  exact h1

theorem orIn_ok {K : AV → List Blk → Ans} {e k : Int} {i : Bool} {cont : Ans} (h : e = 0 → k = 0 → i = true) : orIn K e k i cont = cont := by
  unfold orIn
  by_cases he : e = 0
  · by_cases hk : k = 0
    · rw [h he hk, he, hk]; rfl
    · rw [he, show (k != 0) = true by simpa using hk]; rfl
  · rw [show (e != 0) = true by simpa using he]; rfl

theorem fst_of {α : Type} {x : α × Int} (h : x.2 = 0) : x = (x.1, 0) := by cases x; simp only at h; rw [h]

theorem valid_of_ranged {a : Span} (h : (rangedS a).2 = 0) : spanValid (rangedS a).1 = true := by
  unfold rangedS at h ⊢
  cases hv : spanValid a with
  | false => rw [hv] at h; simp at h
  | true => exact hv

theorem holds2_ok {K : AV → List Blk → Ans} {a b : Span} {f g : Frac} (ha : spanValid a = true) (hb : spanValid b = true) (hf : FracOk f) (hg : FracOk g) : holds2 K a b f g = yes K := by
  have f1 := hf.denlo
  have g1 := hg.denlo
  have hD : 0 < f.den * g.den := Int.mul_pos (by omega) (by omega)
  unfold holds2
  rw [inRaw_ok ha hf, inRaw_ok hb hg]
  cases h1 : inS a f with
  | false => rfl
  | true =>
    cases h2 : inS b g with
    | false => rfl
    | true =>
      have ea := inS_enc.1 h1
      have eb := inS_enc.1 h2
      have ea' := Enc.scale (c := g.den) (by omega) ea
      have eb' := Enc.scale (c := f.den) (by omega) eb
      rw [Int.mul_comm g.den] at eb'
      have oa : (fracOkB f && fracOkB g) = true := by rw [fracOkB_iff.2 hf, fracOkB_iff.2 hg]; rfl
      simp only [Bool.not_true, cond_false]
      rw [orIn_ok, orIn_ok, orIn_ok]
      · intro e k
        have hs := fst_of e
        have hx := fst_of k
        have hv : spanValid (mulS a b).1 = true := by
          unfold mulS at e ⊢
          rw [ha, hb] at e ⊢
          simp only [Bool.and_self, cond_true] at e ⊢
          exact valid_of_ranged e
        have hm := Enc.mul (by omega) (by omega) ea eb hs
        have hm' : Enc (mulS a b).1 (f.num * g.num * 1000000) (f.den * g.den) := by
          refine Enc.unscale (c := 1000000) (by decide) ?_
          rwa [show f.num * 1000000 * (g.num * 1000000) = f.num * g.num * 1000000 * 1000000 by grind] at hm
        unfold mulF at hx ⊢
        rw [oa, cond_true] at hx ⊢
        obtain ⟨ox, vx⟩ := frac_val hD hx
        rw [inRaw_ok hv ox]
        exact in_of_enc hD vx (by have := ox.denlo; omega) hm'
      · intro e k
        have hs := fst_of e
        have hx := fst_of k
        have hv : spanValid (subS a b).1 = true := by
          unfold subS at e ⊢
          rw [ha, hb] at e ⊢
          simp only [Bool.and_self, cond_true] at e ⊢
          exact valid_of_ranged e
        have hm := ea'.sub eb' hs
        unfold subF at hx ⊢
        rw [oa, cond_true] at hx ⊢
        obtain ⟨ox, vx⟩ := frac_val hD hx
        rw [inRaw_ok hv ox]
        refine in_of_enc hD vx (by have := ox.denlo; omega) ?_
        rwa [show f.num * 1000000 * g.den - g.num * 1000000 * f.den = (f.num * g.den - g.num * f.den) * 1000000 by grind] at hm
      · intro e k
        have hs := fst_of e
        have hx := fst_of k
        have hv : spanValid (addS a b).1 = true := by
          unfold addS at e ⊢
          rw [ha, hb] at e ⊢
          simp only [Bool.and_self, cond_true] at e ⊢
          exact valid_of_ranged e
        have hm := ea'.add eb' hs
        unfold addF at hx ⊢
        rw [oa, cond_true] at hx ⊢
        obtain ⟨ox, vx⟩ := frac_val hD hx
        rw [inRaw_ok hv ox]
        refine in_of_enc hD vx (by have := ox.denlo; omega) ?_
        rwa [show f.num * 1000000 * g.den + g.num * 1000000 * f.den = (f.num * g.den + g.num * f.den) * 1000000 by grind] at hm

theorem lawSineHolds_ok {K : AV → List Blk → Ans} {a b : Span} {f g : Frac} : lawSineHolds K a b f g = yes K := by
  unfold lawSineHolds
  cases ha : spanValid a with
  | false => rfl
  | true =>
    cases hb : spanValid b with
    | false => rfl
    | true =>
      rw [bothE_eq]
      cases hok : fracOkB f && fracOkB g with
      | false => rfl
      | true =>
        simp only [Bool.and_eq_true] at hok
        have hf := fracOkB_iff.1 hok.1
        have hg := fracOkB_iff.1 hok.2
        have h2 : holds2 K a b f g = yes K := holds2_ok ha hb hf hg
        have f1 := hf.denlo
        show holds1 K a b f g (ofS f) = yes K
        unfold holds1 ofS
        rw [hok.1, cond_true]
        unfold rangedS
        cases hv : spanValid (aroundS f) with
        | false => rw [h2]; rfl
        | true =>
          have hv' := spanValid_iff.1 hv
          have lo1 : (aroundS f).lo * f.den ≤ f.num * 1000000 := (le_floor (by omega)).1 (Int.le_refl _)
          have hi1 : f.num * 1000000 ≤ (aroundS f).hi * f.den := (ceil_le (by omega)).1 (Int.le_refl _)
          have w1 : (aroundS f).hi ≤ (aroundS f).lo + 1 := by
            refine (ceil_le (by omega)).2 ?_
            have := Int.lt_ediv_add_one_mul_self (f.num * 1000000) (show 0 < f.den by omega)
            exact Int.le_of_lt this
          have hin : inS (aroundS f) f = true := by unfold inS; simp [lo1, hi1]
          have hh : hasS (aroundS f) f = (true, 0) := by
            unfold hasS
            rw [hv, hok.1, hin]
            rfl
          simp only [Bool.not_true, cond_false]
          rw [hh, w64_id (by omega), decide_eq_false (show ¬ 1 < (aroundS f).hi - (aroundS f).lo by omega), h2]
          by_cases hlt : (aroundS f).lo < (aroundS f).hi
          · have v1 : spanValid ⟨(aroundS f).lo, (aroundS f).lo⟩ = true := by rw [spanValid_iff]; simp only; omega
            have v2 : spanValid ⟨(aroundS f).hi, (aroundS f).hi⟩ = true := by rw [spanValid_iff]; simp only; omega
            have n1 : inS ⟨(aroundS f).lo, (aroundS f).lo⟩ f = false := by
              cases hc : inS ⟨(aroundS f).lo, (aroundS f).lo⟩ f with
              | false => rfl
              | true =>
                have := (inS_enc.1 hc).2
                have : (aroundS f).hi ≤ (aroundS f).lo := (ceil_le (by omega)).2 this
                omega
            have n2 : inS ⟨(aroundS f).hi, (aroundS f).hi⟩ f = false := by
              cases hc : inS ⟨(aroundS f).hi, (aroundS f).hi⟩ f with
              | false => rfl
              | true =>
                have := (inS_enc.1 hc).1
                have : (aroundS f).hi ≤ (aroundS f).lo := (le_floor (by omega)).2 this
                omega
            rw [decide_eq_true hlt, inRaw_ok v1 hf, inRaw_ok v2 hf, n1, n2]
            rfl
          · rw [decide_eq_false hlt]
            rfl

end Go.Ev
