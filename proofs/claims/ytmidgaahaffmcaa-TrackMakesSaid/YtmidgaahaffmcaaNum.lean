/-
  Numbers of 64 bits: what the plain operations come to. No program here.
-/
import Derived.Test.YtmidgaahaffmcaaSpec
import Derived.Lib.Mul64
import Derived.Laws.Bits64b
namespace Go.Ev
open Go

def bandU (x y : Int) : Int := wr .u64 ((BitVec.ofInt 64 x &&& BitVec.ofInt 64 y).toNat : Nat)
def borU (x y : Int) : Int := wr .u64 ((BitVec.ofInt 64 x ||| BitVec.ofInt 64 y).toNat : Nat)
def shrU (x b : Int) : Int := x.fdiv (2 ^ (min b.toNat (IntKind.bits .u64)))
def shlU (x b : Int) : Int := wr .u64 (x * 2 ^ (min b.toNat (IntKind.bits .u64)))

theorem w64_id {n : Int} (h : -9223372036854775808 ≤ n ∧ n ≤ 9223372036854775807) : w64 n = n := by
  simp only [w64, wr]
  omega

theorem wu64_id {n : Int} (h : 0 ≤ n ∧ n ≤ 18446744073709551615) : wu64 n = n := by
  simp only [wu64, wr]
  omega

theorem wu64_eq (n : Int) : wu64 n = n % 18446744073709551616 := rfl

theorem ofInt_natCast (n : Nat) : BitVec.ofInt 64 (n : Int) = BitVec.ofNat 64 n := by
  apply BitVec.eq_of_toNat_eq
  simp only [BitVec.toNat_ofInt, BitVec.toNat_ofNat]
  omega

theorem bandU_nat (a b : Nat) (ha : a < 18446744073709551616) (hb : b < 18446744073709551616) : bandU a b = ((a &&& b : Nat) : Int) := by
  unfold bandU
  rw [ofInt_natCast, ofInt_natCast, BitVec.toNat_and, BitVec.toNat_ofNat, BitVec.toNat_ofNat, Nat.mod_eq_of_lt (by omega), Nat.mod_eq_of_lt (by omega)]
  have : a &&& b ≤ a := Nat.and_le_left
  exact wu64_id (by omega)

theorem borU_nat (a b : Nat) (ha : a < 18446744073709551616) (hb : b < 18446744073709551616) : borU a b = ((a ||| b : Nat) : Int) := by
  unfold borU
  rw [ofInt_natCast, ofInt_natCast, BitVec.toNat_or, BitVec.toNat_ofNat, BitVec.toNat_ofNat, Nat.mod_eq_of_lt (by omega), Nat.mod_eq_of_lt (by omega)]
  have : a ||| b < 2 ^ 64 := Nat.or_lt_two_pow (by omega) (by omega)
  exact wu64_id (by omega)

theorem shrU_nat (a b : Nat) (hb : b ≤ 64) : shrU a b = ((a / 2 ^ b : Nat) : Int) := by
  unfold shrU
  simp only [IntKind.bits, Int.toNat_natCast]
  rw [Nat.min_eq_left hb, Int.fdiv_eq_ediv_of_nonneg _ (Int.le_of_lt (Int.pow_pos (by omega)))]
  simp

theorem shlU_nat (a b : Nat) (hb : b ≤ 64) : shlU a b = ((a * 2 ^ b % 18446744073709551616 : Nat) : Int) := by
  unfold shlU
  simp only [IntKind.bits, Int.toNat_natCast]
  rw [Nat.min_eq_left hb]
  show wu64 _ = _
  rw [wu64_eq]
  simp

theorem band_mask (a : Nat) (ha : a < 18446744073709551616) : bandU a 4294967295 = ((a % 4294967296 : Nat) : Int) := by
  have := bandU_nat a 4294967295 ha (by omega)
  rw [show a &&& 4294967295 = a % 4294967296 from Nat.and_two_pow_sub_one_eq_mod a 32] at this
  exact this

theorem shr_32 (a : Nat) : shrU a 32 = ((a / 4294967296 : Nat) : Int) := shrU_nat a 32 (by omega)

/-! ### The product of two numbers of 64 bits -/

def mulRaw (x y : Int) : Int × Int :=
  (wu64 (wu64 (wu64 (shrU x 32 * shrU y 32) + shrU (wu64 (wu64 (shrU x 32 * bandU y 4294967295) + shrU (wu64 (bandU x 4294967295 * bandU y 4294967295)) 32)) 32) +
    shrU (wu64 (bandU (wu64 (wu64 (shrU x 32 * bandU y 4294967295) + shrU (wu64 (bandU x 4294967295 * bandU y 4294967295)) 32)) 4294967295 + wu64 (bandU x 4294967295 * shrU y 32))) 32),
   wu64 (x * y))

def mul64 (x y : Int) : Int × Int := (x * y / 18446744073709551616, x * y % 18446744073709551616)

theorem wuN (a : Nat) (ha : a < 18446744073709551616) : wu64 (a : Int) = (a : Int) := wu64_id (by omega)

theorem mul64_ok {x y : Int} (hx : 0 ≤ x ∧ x ≤ 18446744073709551615) (hy : 0 ≤ y ∧ y ≤ 18446744073709551615) : mulRaw x y = mul64 x y := by
  obtain ⟨a, rfl⟩ := Int.eq_ofNat_of_zero_le hx.1
  obtain ⟨b, rfl⟩ := Int.eq_ofNat_of_zero_le hy.1
  have ha : a < 18446744073709551616 := by omega
  have hb : b < 18446744073709551616 := by omega
  obtain ⟨bd, bt, bw, hhi⟩ := Lib.mul64_hi a b ha hb
  have ba := Lib.half_mul_le (a := a / 4294967296) (b := b / 4294967296) (by omega) (by omega)
  have bb := Lib.half_mul_le (a := a / 4294967296) (b := b % 4294967296) (by omega) (by omega)
  have bc := Lib.half_mul_le (a := a % 4294967296) (b := b / 4294967296) (by omega) (by omega)
  have ba' : a / 4294967296 * (b / 4294967296) < 18446744073709551616 := by omega
  have bb' : a / 4294967296 * (b % 4294967296) < 18446744073709551616 := by omega
  have bc' : a % 4294967296 * (b / 4294967296) < 18446744073709551616 := by omega
  have bh1 : a / 4294967296 * (b / 4294967296) + (a / 4294967296 * (b % 4294967296) + a % 4294967296 * (b % 4294967296) / 4294967296) / 4294967296 < 18446744073709551616 := by omega
  have bh : a / 4294967296 * (b / 4294967296) + (a / 4294967296 * (b % 4294967296) + a % 4294967296 * (b % 4294967296) / 4294967296) / 4294967296 + ((a / 4294967296 * (b % 4294967296) + a % 4294967296 * (b % 4294967296) / 4294967296) % 4294967296 + a % 4294967296 * (b / 4294967296)) / 4294967296 < 18446744073709551616 := by omega
  unfold mulRaw mul64
  have m : ∀ p q : Nat, (p : Int) * (q : Int) = ((p * q : Nat) : Int) := fun p q => (Int.natCast_mul p q).symm
  have s : ∀ p q : Nat, (p : Int) + (q : Int) = ((p + q : Nat) : Int) := fun p q => (Int.natCast_add p q).symm
  simp only [band_mask a ha, band_mask b hb, shr_32, m, s, wuN _ bd, wuN _ bb', wuN _ bt, band_mask _ bt, wuN _ bc', wuN _ bw, wuN _ ba', wuN _ bh1, wuN _ bh]
  rw [hhi, wu64_eq]
  refine Prod.ext ?_ rfl
  simp

/-! ### How many bits a number has -/

def lenTab : ByteArray := ⟨⟨[0, 1, 2, 2, 3, 3, 3, 3, 4, 4, 4, 4, 4, 4, 4, 4, 5, 5, 5, 5, 5, 5, 5, 5, 5, 5, 5, 5, 5, 5, 5, 5, 6, 6, 6, 6, 6, 6, 6, 6, 6, 6, 6, 6, 6, 6, 6, 6, 6, 6, 6, 6, 6, 6, 6, 6, 6, 6, 6, 6, 6, 6, 6, 6, 7, 7, 7, 7, 7, 7, 7, 7, 7, 7, 7, 7, 7, 7, 7, 7, 7, 7, 7, 7, 7, 7, 7, 7, 7, 7, 7, 7, 7, 7, 7, 7, 7, 7, 7, 7, 7, 7, 7, 7, 7, 7, 7, 7, 7, 7, 7, 7, 7, 7, 7, 7, 7, 7, 7, 7, 7, 7, 7, 7, 7, 7, 7, 7, 8, 8, 8, 8, 8, 8, 8, 8, 8, 8, 8, 8, 8, 8, 8, 8, 8, 8, 8, 8, 8, 8, 8, 8, 8, 8, 8, 8, 8, 8, 8, 8, 8, 8, 8, 8, 8, 8, 8, 8, 8, 8, 8, 8, 8, 8, 8, 8, 8, 8, 8, 8, 8, 8, 8, 8, 8, 8, 8, 8, 8, 8, 8, 8, 8, 8, 8, 8, 8, 8, 8, 8, 8, 8, 8, 8, 8, 8, 8, 8, 8, 8, 8, 8, 8, 8, 8, 8, 8, 8, 8, 8, 8, 8, 8, 8, 8, 8, 8, 8, 8, 8, 8, 8, 8, 8, 8, 8, 8, 8, 8, 8, 8, 8, 8, 8, 8, 8, 8, 8, 8, 8, 8, 8, 8, 8, 8, 8]⟩⟩

def lenI (x : Int) : Int := if x = 0 then 0 else ((Nat.log2 x.toNat + 1 : Nat) : Int)

def lenTail (n y : Int) (K : AV → List Blk → Ans) : Ans := bif decide (0 ≤ wr .u8 y) && decide (wr .u8 y < (lenTab.size : Int)) then K (rI (w64 (n + w64 (byteAt lenTab (wr .u8 y))))) [] else none
def lenTail2 (n y : Int) (K : AV → List Blk → Ans) : Ans := bif decide (256 ≤ y) then lenTail (w64 (n + 8)) (shrU y 8) K else lenTail n y K
def lenTail3 (n y : Int) (K : AV → List Blk → Ans) : Ans := bif decide (65536 ≤ y) then lenTail2 (w64 (n + 16)) (shrU y 16) K else lenTail2 n y K
def lenAns (K : AV → List Blk → Ans) (x : Int) : Ans := bif decide (4294967296 ≤ x) then lenTail3 32 (shrU x 32) K else lenTail3 0 x K

theorem lenTab_eq : ∀ j : Fin 256, byteAt lenTab (j.val : Int) = lenI (j.val : Int) := by decide +kernel
theorem lenTab_size : lenTab.size = 256 := by decide +kernel

theorem lenI_pos {x : Int} (h : 0 < x) : lenI x = ((Nat.log2 x.toNat + 1 : Nat) : Int) := by rw [lenI, if_neg (by omega)]

theorem log2_div (x k : Nat) (h : 2 ^ k ≤ x) : Nat.log2 x = Nat.log2 (x / 2 ^ k) + k := by
  have hp : 0 < 2 ^ k := Nat.pow_pos (by omega)
  have hx : x ≠ 0 := by omega
  have hd : x / 2 ^ k ≠ 0 := by
    have := Nat.div_pos h hp
    omega
  obtain ⟨h1, h2⟩ := (Nat.log2_eq_iff hd).1 rfl
  refine (Nat.log2_eq_iff hx).2 ⟨?_, ?_⟩
  · rw [Nat.pow_add]
    exact Nat.le_trans (Nat.mul_le_mul_right _ h1) (Nat.div_mul_le_self x _)
  · rw [show Nat.log2 (x / 2 ^ k) + k + 1 = (Nat.log2 (x / 2 ^ k) + 1) + k by omega, Nat.pow_add]
    rw [Nat.div_lt_iff_lt_mul hp] at h2
    exact h2

theorem lenI_shift (a k : Nat) (hk : k ≤ 64) (h : 2 ^ k ≤ a) : lenI (shrU a k) + k = lenI a := by
  have hp : 0 < 2 ^ k := Nat.pow_pos (by omega)
  rw [shrU_nat a k hk]
  have hd : 0 < a / 2 ^ k := Nat.div_pos h hp
  rw [lenI_pos (by omega), lenI_pos (by omega)]
  simp only [Int.toNat_natCast]
  rw [log2_div a k h]
  omega

theorem lenTail_eq (n : Int) (a : Nat) (hn : 0 ≤ n ∧ n ≤ 100) (ha : a < 256) (K : AV → List Blk → Ans) : lenTail n a K = K (rI (n + lenI a)) [] := by
  have e : wr .u8 (a : Int) = a := by simp only [wr]; omega
  have h1 := lenTab_eq ⟨a, ha⟩
  simp only at h1
  have h2 : 0 ≤ lenI (a : Int) ∧ lenI (a : Int) ≤ 255 := by
    rw [← h1]
    have := byteAt_ok lenTab (a : Int)
    simpa [inR] using this
  unfold lenTail
  rw [e, lenTab_size, h1, w64_id (n := lenI a) (by omega), w64_id (by omega)]
  simp only [decide_eq_true (show (0 : Int) ≤ a by omega), decide_eq_true (show (a : Int) < (256 : Nat) by omega), Bool.and_self, cond_true]

theorem lenTail2_eq (n : Int) (a : Nat) (hn : 0 ≤ n ∧ n ≤ 80) (ha : a < 65536) (K : AV → List Blk → Ans) : lenTail2 n a K = K (rI (n + lenI a)) [] := by
  unfold lenTail2
  by_cases h : 256 ≤ a
  · rw [decide_eq_true (by omega), cond_true, w64_id (by omega)]
    have e := lenI_shift a 8 (by omega) (by omega)
    have es := shrU_nat a 8 (by omega)
    rw [show ((8 : Nat) : Int) = 8 from rfl] at e es
    rw [es] at e ⊢
    rw [lenTail_eq _ _ (by omega) (by omega), ← e]
    congr 2
    omega
  · rw [decide_eq_false (by omega), cond_false, lenTail_eq _ _ (by omega) (by omega)]

theorem lenTail3_eq (n : Int) (a : Nat) (hn : 0 ≤ n ∧ n ≤ 64) (ha : a < 4294967296) (K : AV → List Blk → Ans) : lenTail3 n a K = K (rI (n + lenI a)) [] := by
  unfold lenTail3
  by_cases h : 65536 ≤ a
  · rw [decide_eq_true (by omega), cond_true, w64_id (by omega)]
    have e := lenI_shift a 16 (by omega) (by omega)
    have es := shrU_nat a 16 (by omega)
    rw [show ((16 : Nat) : Int) = 16 from rfl] at e es
    rw [es] at e ⊢
    rw [lenTail2_eq _ _ (by omega) (by omega), ← e]
    congr 2
    omega
  · rw [decide_eq_false (by omega), cond_false, lenTail2_eq _ _ (by omega) (by omega)]

theorem lenAns_ok {x : Int} (h0 : 0 ≤ x) (h1 : x < 18446744073709551616) {K : AV → List Blk → Ans} : lenAns K x = K (rI (lenI x)) [] := by
  obtain ⟨a, rfl⟩ := Int.eq_ofNat_of_zero_le h0
  unfold lenAns
  by_cases h : 4294967296 ≤ a
  · rw [decide_eq_true (by omega), cond_true]
    have e := lenI_shift a 32 (by omega) (by omega)
    have es := shrU_nat a 32 (by omega)
    rw [show ((32 : Nat) : Int) = 32 from rfl] at e es
    rw [es] at e ⊢
    rw [lenTail3_eq _ _ (by omega) (by omega), ← e]
    congr 2
    omega
  · rw [decide_eq_false (by omega), cond_false, lenTail3_eq _ _ (by omega) (by omega), Int.zero_add]

theorem lenI_le {x : Int} (h0 : 0 ≤ x) (h1 : x < 18446744073709551616) : 0 ≤ lenI x ∧ lenI x ≤ 64 := by
  by_cases e : x = 0
  · subst e; simp [lenI]
  · rw [lenI_pos (by omega)]
    have : Nat.log2 x.toNat < 64 := (Nat.log2_lt (by omega)).2 (by omega)
    omega

/-! ### The greatest common divisor -/

/-- (written so that the kernel does not open it where the numbers are not known) -/
def gcdI (a b : Int) : Int := a - a + (Int.gcd a b : Int)

theorem gcdI_eq (a b : Int) : gcdI a b = (Int.gcd a b : Int) := by unfold gcdI; omega

theorem gcdI_dvd_left (a b : Int) : gcdI a b ∣ a := by rw [gcdI_eq]; exact Int.gcd_dvd_left ..
theorem gcdI_dvd_right (a b : Int) : gcdI a b ∣ b := by rw [gcdI_eq]; exact Int.gcd_dvd_right ..

theorem gcdI_zero (a : Int) (h : 0 ≤ a) : gcdI a 0 = a := by
  simp only [gcdI_eq, Int.gcd_zero_right]
  omega

theorem gcdI_step (a b : Int) : gcdI b (a.tmod b) = gcdI a b := by
  simp only [gcdI_eq, Int.gcd_eq_natAbs_gcd_natAbs, Int.natAbs_tmod]
  congr 1
  rw [Nat.gcd_comm b.natAbs, ← Nat.gcd_rec, Nat.gcd_comm]

theorem gcdI_nat (a b : Nat) : gcdI a b = (Nat.gcd a b : Nat) := by simp [gcdI_eq, Int.gcd_eq_natAbs_gcd_natAbs]

end Go.Ev
