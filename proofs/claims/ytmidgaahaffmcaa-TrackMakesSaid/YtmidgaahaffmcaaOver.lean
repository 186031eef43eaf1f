/-
  Long division bit by bit, as the reference does it: numbers of four digits by one of 64 bits. No program here.
-/
import Derived.Test.YtmidgaahaffmcaaSine
namespace Go.Ev
open Go

/-- One round: the next bit comes in. -/
def bitIn (r a b : Int) : Int := borU (shlU r 1) (bandU (shrU a b) 1)

theorem bitIn_nat (r a b : Nat) (hr : r < 9223372036854775808) (hb : b ≤ 64) (ha : a < 18446744073709551616) : bitIn r a b = ((2 * r + a / 2 ^ b % 2 : Nat) : Int) := by
  unfold bitIn
  have e1 := shlU_nat r 1 (by omega)
  rw [show ((1 : Nat) : Int) = 1 from rfl] at e1
  have hle : a / 2 ^ b ≤ a := Nat.div_le_self a _
  have e2 := bandU_nat (a / 2 ^ b) 1 (by omega) (by omega)
  rw [show ((1 : Nat) : Int) = 1 from rfl, Nat.and_one_is_mod] at e2
  rw [e1, shrU_nat a b hb, e2, borU_nat _ _ (by omega) (by omega)]
  have := Nat.shiftLeft_add_eq_or_of_lt (b := a / 2 ^ b % 2) (i := 1) (by omega) r
  rw [Nat.shiftLeft_eq] at this
  rw [Nat.mod_eq_of_lt (by omega), ← this]
  omega

theorem or_bit (y m : Nat) : y * 2 ^ (m + 1) ||| 2 ^ m = y * 2 ^ (m + 1) + 2 ^ m := by
  have h := Nat.shiftLeft_add_eq_or_of_lt (b := 2 ^ m) (i := m + 1) (Nat.pow_lt_pow_right (by omega) (by omega)) y
  rw [Nat.shiftLeft_eq] at h
  exact h.symm

theorem bits_split (r a m : Nat) : r * 2 ^ (m + 1) + a % 2 ^ (m + 1) = (2 * r + a / 2 ^ m % 2) * 2 ^ m + a % 2 ^ m := by
  have h : a % 2 ^ (m + 1) = a / 2 ^ m % 2 * 2 ^ m + a % 2 ^ m := by
    rw [Nat.pow_succ, Nat.mod_mul]
    rw [Nat.mul_comm (2 ^ m)]
    omega
  rw [h, Nat.add_mul, Nat.pow_succ, Nat.mul_comm (2 ^ m) 2, ← Nat.mul_assoc, Nat.mul_comm r 2]
  omega

/-- What the rounds of one digit come to: m bits are left. -/
def digitR (m n r a : Nat) : Nat := (r * 2 ^ m + a % 2 ^ m) % n
def digitQ (m n r a : Nat) : Nat := (r * 2 ^ m + a % 2 ^ m) / n

theorem digit_less {m n r a : Nat} : digitR (m + 1) n r a = digitR m n (2 * r + a / 2 ^ m % 2) a ∧ digitQ (m + 1) n r a = digitQ m n (2 * r + a / 2 ^ m % 2) a := by
  unfold digitR digitQ
  rw [bits_split]
  exact ⟨rfl, rfl⟩

theorem digit_more {m n r a : Nat} (hn : 0 < n) (h : n ≤ 2 * r + a / 2 ^ m % 2) : digitR (m + 1) n r a = digitR m n (2 * r + a / 2 ^ m % 2 - n) a ∧ digitQ (m + 1) n r a = 2 ^ m + digitQ m n (2 * r + a / 2 ^ m % 2 - n) a := by
  unfold digitR digitQ
  rw [bits_split]
  have e : (2 * r + a / 2 ^ m % 2) * 2 ^ m + a % 2 ^ m = ((2 * r + a / 2 ^ m % 2 - n) * 2 ^ m + a % 2 ^ m) + n * 2 ^ m := by
    have : (2 * r + a / 2 ^ m % 2) * 2 ^ m = (2 * r + a / 2 ^ m % 2 - n) * 2 ^ m + n * 2 ^ m := by
      rw [← Nat.add_mul]
      congr 1
      omega
    omega
  rw [e, Nat.add_mul_mod_self_left, Nat.add_mul_div_left _ _ hn]
  exact ⟨rfl, by omega⟩


/-! ### The rounds of one digit, by the evaluator -/

section
variable {P : Program} {G : Nat → Option (List D)} {gb : Nat} {EQ : List Nat} {Γ : Nat → List AV → List Blk → (AV → List Blk → Ans) → Ans} {X : Nat → List AV → (AV → Ans) → Ans}

theorem shl_bit (m : Nat) (hm : m ≤ 31) : shlU 1 (m : Int) = ((2 ^ m : Nat) : Int) := by
  have h := shlU_nat 1 m (by omega)
  rw [show ((1 : Nat) : Int) = 1 from rfl, Nat.one_mul] at h
  have h2 : 2 ^ m ≤ 2 ^ 31 := Nat.pow_le_pow_right (by omega) hm
  rw [h, Nat.mod_eq_of_lt (by omega)]

theorem over_rounds (hΓ : GOK P G gb Γ X) (hEQ : ∀ t, t ∈ EQ → EqOK P t) (hm : P.follows .mixedOrders = true) {c : Code} {e fuel NN : Nat} {keep : List Nat} (TT : Int → Int → TS) (T1 : Int → TS) (MM : Int → List Blk) (a n : Nat) (ha : a < 4294967296) (hn0 : 0 < n) (hn : n < 4611686018427387904)
    (hless : ∀ r b, Less (T1 r) (TT r b))
    (hb : ∀ r b o : Int, evCode P G EQ Γ X noL fuel c (TT r b) (MM o) NN (fun x T M N => some (.st x (forget keep T) M N)) =
      bif decide (0 ≤ b) then (bif decide (b < 0) then none else bif decide ((n : Int) ≤ bitIn r a b) then (bif decide (b < 0) then none else some (.st .normal (TT (wu64 (bitIn r a b - n)) (w64 (b - 1))) (MM (borU o (shlU 1 b))) NN)) else some (.st .normal (TT (bitIn r a b) (w64 (b - 1))) (MM o) NN))
      else some (.st (.exit e) (TT r b) (MM o) NN)) :
    ∀ (m r y : Nat), r < n → m ≤ 32 → y * 2 ^ m + 2 ^ m ≤ 4294967296 → ∃ k, RoundsOK P G gb c k (TT r ((m : Int) - 1)) (MM ((y * 2 ^ m : Nat) : Int)) NN (.exit e) (T1 (digitR m n r a)) (MM ((y * 2 ^ m + digitQ m n r a : Nat) : Int)) NN := by
  intro m
  induction m with
  | zero =>
    intro r y hr _ hy
    have h := hb r ((0 : Nat) - 1 : Int) ((y * 2 ^ 0 : Nat) : Int)
    rw [decide_eq_false (by omega), cond_false] at h
    have hq : digitQ 0 n r a = 0 := by
      unfold digitQ
      simp only [Nat.pow_zero, Nat.mod_one, Nat.mul_one, Nat.add_zero]
      exact Nat.div_eq_of_lt hr
    have hR : digitR 0 n r a = r := by
      unfold digitR
      simp only [Nat.pow_zero, Nat.mod_one, Nat.mul_one, Nat.add_zero]
      exact Nat.mod_eq_of_lt hr
    rw [hq, hR, Nat.add_zero]
    exact ⟨1, (RoundsOK.fin (Λ := noL) hΓ hEQ hm (noL_ok _) h).weak (hless _ _)⟩
  | succ m ih =>
    intro r y hr hm32 hy
    have hp : 2 ^ (m + 1) = 2 * 2 ^ m := by rw [Nat.pow_succ]; omega
    have h := hb r (((m + 1 : Nat) : Int) - 1) ((y * 2 ^ (m + 1) : Nat) : Int)
    rw [show (((m + 1 : Nat) : Int) - 1) = (m : Int) by omega] at h ⊢
    rw [decide_eq_true (by omega), cond_true, decide_eq_false (by omega), cond_false, cond_false, bitIn_nat r a m (by omega) (by omega) (by omega), w64_id (n := (m : Int) - 1) (by omega), shl_bit m (by omega)] at h
    have hbit : a / 2 ^ m % 2 < 2 := Nat.mod_lt _ (by omega)
    have hy' : y * 2 ^ (m + 1) = (2 * y) * 2 ^ m := by rw [hp, ← Nat.mul_assoc, Nat.mul_comm y 2]
    by_cases hge : n ≤ 2 * r + a / 2 ^ m % 2
    · obtain ⟨e1, e2⟩ := digit_more (a := a) (m := m) hn0 hge
      rw [decide_eq_true (by omega), cond_true] at h
      have hsub : wu64 (((2 * r + a / 2 ^ m % 2 : Nat) : Int) - n) = ((2 * r + a / 2 ^ m % 2 - n : Nat) : Int) := by rw [wu64_id (by omega)]; omega
      have hor : borU ((y * 2 ^ (m + 1) : Nat) : Int) ((2 ^ m : Nat) : Int) = (((2 * y + 1) * 2 ^ m : Nat) : Int) := by
        have h2 : 2 ^ m ≤ 2 ^ 31 := Nat.pow_le_pow_right (by omega) (by omega)
        rw [borU_nat _ _ (by omega) (by omega), or_bit, hy', Nat.add_mul]
        simp
      rw [hsub, hor] at h
      obtain ⟨k, hk⟩ := ih (2 * r + a / 2 ^ m % 2 - n) (2 * y + 1) (by omega) (by omega) (by rw [Nat.add_mul]; omega)
      rw [e1, e2, show y * 2 ^ (m + 1) + (2 ^ m + digitQ m n (2 * r + a / 2 ^ m % 2 - n) a) = (2 * y + 1) * 2 ^ m + digitQ m n (2 * r + a / 2 ^ m % 2 - n) a by rw [hy', Nat.add_mul]; omega]
      exact ⟨k + 1, RoundsOK.go (Λ := noL) hΓ hEQ hm (noL_ok _) h hk⟩
    · obtain ⟨e1, e2⟩ := digit_less (a := a) (m := m) (n := n) (r := r)
      rw [decide_eq_false (by omega), cond_false, hy'] at h
      obtain ⟨k, hk⟩ := ih (2 * r + a / 2 ^ m % 2) (2 * y) (by omega) (by omega) (by omega)
      rw [e1, e2, hy']
      exact ⟨k + 1, RoundsOK.go (Λ := noL) hΓ hEQ hm (noL_ok _) h hk⟩
end

/-! ### The quotient -/

def dR (n r a : Int) : Int := (r * 4294967296 + a) % n
def dQ (n r a : Int) : Int := (r * 4294967296 + a) / n
def digOn (n r a : Int) : Bool := decide (0 < n) && (decide (n < 4611686018427387904) && (decide (0 ≤ r) && (decide (r < n) && (decide (0 ≤ a) && decide (a < 4294967296)))))

theorem dR_nat (n r a : Nat) (ha : a < 4294967296) : ((digitR 32 n r a : Nat) : Int) = dR n r a := by
  unfold digitR dR
  rw [Nat.mod_eq_of_lt (a := a) ha]
  simp
theorem dQ_nat (n r a : Nat) (ha : a < 4294967296) : ((digitQ 32 n r a : Nat) : Int) = dQ n r a := by
  unfold digitQ dQ
  rw [Nat.mod_eq_of_lt (a := a) ha]
  simp

def rBigU (r : Big × Int) : AV := .tup [.agg r.1.cells, .c (.d (.int .u64 r.2))]

def overAns (K : AV → List Blk → Ans) (a b c d n : Int) : Ans :=
  bif digOn n 0 d then bif digOn n (dR n 0 d) c then bif digOn n (dR n (dR n 0 d) c) b then bif digOn n (dR n (dR n (dR n 0 d) c) b) a then
    K (rBigU (⟨dQ n (dR n (dR n (dR n 0 d) c) b) a, dQ n (dR n (dR n 0 d) c) b, dQ n (dR n 0 d) c, dQ n 0 d⟩, dR n (dR n (dR n (dR n 0 d) c) b) a)) []
  else none else none else none else none

def valOf (x : Big) : Int := x.a + 4294967296 * (x.b + 4294967296 * (x.c + 4294967296 * x.d))
def bigOk (x : Big) : Bool := decide (0 ≤ x.a) && (decide (x.a < 4294967296) && (decide (0 ≤ x.b) && (decide (x.b < 4294967296) && (decide (0 ≤ x.c) && (decide (x.c < 4294967296) && (decide (0 ≤ x.d) && decide (x.d < 4294967296)))))))
def overI (v n : Int) : Big × Int := (bigOf (v / n), v % n)
def overOn (x : Big) (n : Int) : Bool := bigOk x && (decide (0 < n) && decide (n < 4611686018427387904))

theorem valOf_bigOf (m : Int) : valOf (bigOf m) = m := by
  unfold valOf bigOf
  simp only
  omega

theorem bigOk_bigOf {m : Int} (h : 0 ≤ m ∧ m < 340282366920938463463374607431768211456) : bigOk (bigOf m) = true := by
  unfold bigOk bigOf
  simp only [Bool.and_eq_true, decide_eq_true_eq]
  omega

theorem long_step {n H a : Int} (hn : 0 < n) : (H * 4294967296 + a) / n = H / n * 4294967296 + dQ n (H % n) a ∧ (H * 4294967296 + a) % n = dR n (H % n) a := by
  have e : H * 4294967296 + a = (H % n * 4294967296 + a) + n * (H / n * 4294967296) := by
    have := Int.emod_add_mul_ediv H n
    rw [← Int.mul_assoc]
    omega
  unfold dQ dR
  rw [e]
  exact ⟨by rw [Int.add_mul_ediv_left _ _ (by omega)]; omega, by rw [Int.add_mul_emod_self_left]⟩

theorem dQ_range {n r a : Int} (hn : 0 < n) (hr : 0 ≤ r ∧ r < n) (ha : 0 ≤ a ∧ a < 4294967296) : 0 ≤ dQ n r a ∧ dQ n r a < 4294967296 := by
  unfold dQ
  refine ⟨Int.ediv_nonneg (by omega) (by omega), Int.ediv_lt_of_lt_mul hn ?_⟩
  have : (r + 1) * 4294967296 ≤ n * 4294967296 := Int.mul_le_mul_of_nonneg_right (by omega) (by omega)
  rw [Int.mul_comm 4294967296 n]
  omega

theorem overAns_ok {K : AV → List Blk → Ans} {a b c d n : Int} (h : overOn ⟨a, b, c, d⟩ n = true) : overAns K a b c d n = K (rBigU (overI (valOf ⟨a, b, c, d⟩) n)) [] := by
  simp only [overOn, bigOk, Bool.and_eq_true, decide_eq_true_eq] at h
  obtain ⟨⟨ha0, ha1, hb0, hb1, hc0, hc1, hd0, hd1⟩, hn0, hn1⟩ := h
  have on : ∀ r x : Int, 0 ≤ r → r < n → 0 ≤ x → x < 4294967296 → digOn n r x = true := fun r x h1 h2 h3 h4 => by simp [digOn, hn0, hn1, h1, h2, h3, h4]
  have rr : ∀ r x : Int, 0 ≤ dR n r x ∧ dR n r x < n := fun r x => ⟨Int.emod_nonneg _ (by omega), Int.emod_lt_of_pos _ hn0⟩
  unfold overAns
  rw [on 0 d (by omega) hn0 hd0 hd1, on _ c (rr _ _).1 (rr _ _).2 hc0 hc1, on _ b (rr _ _).1 (rr _ _).2 hb0 hb1, on _ a (rr _ _).1 (rr _ _).2 ha0 ha1]
  simp only [cond_true]
  have s3 := long_step (n := n) (H := 0) (a := d) hn0
  rw [Int.zero_ediv, Int.zero_emod, Int.zero_mul, Int.zero_add, Int.zero_add] at s3
  have s2 := long_step (n := n) (H := d) (a := c) hn0
  have s1 := long_step (n := n) (H := d * 4294967296 + c) (a := b) hn0
  have s0 := long_step (n := n) (H := (d * 4294967296 + c) * 4294967296 + b) (a := a) hn0
  rw [s3.1, s3.2] at s2
  rw [s2.1, s2.2] at s1
  rw [s1.1, s1.2] at s0
  have q3 := dQ_range (a := d) hn0 (r := 0) ⟨by omega, hn0⟩ ⟨hd0, hd1⟩
  have q2 := dQ_range hn0 (rr 0 d) ⟨hc0, hc1⟩
  have q1 := dQ_range hn0 (rr (dR n 0 d) c) ⟨hb0, hb1⟩
  have q0 := dQ_range hn0 (rr (dR n (dR n 0 d) c) b) ⟨ha0, ha1⟩
  have ev : valOf ⟨a, b, c, d⟩ = ((d * 4294967296 + c) * 4294967296 + b) * 4294967296 + a := by
    unfold valOf
    simp only
    omega
  rw [ev]
  unfold overI
  rw [s0.1, s0.2]
  generalize dQ n 0 d = A at *
  generalize dQ n (dR n 0 d) c = B at *
  generalize dQ n (dR n (dR n 0 d) c) b = C at *
  generalize dQ n (dR n (dR n (dR n 0 d) c) b) a = E at *
  congr 3
  unfold bigOf
  congr 1 <;> omega

end Go.Ev
