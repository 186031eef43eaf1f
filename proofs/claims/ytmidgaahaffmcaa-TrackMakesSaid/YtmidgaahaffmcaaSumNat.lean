/-
  A test of the sines of neighbouring fractions of a quarter, in natural numbers. Definitions only.
-/
import Derived.Test.YtmidgaahaffmcaaSinNat
namespace Go.Ev

/-- The sine of w / n of a quarter, times 2^64. -/
def vC (w n : Nat) (K : Nat → Bool) : Bool :=
  bif Nat.beq w n then K 18446744073709551616 else bif Nat.beq (3 * w) n then K 9223372036854775808 else
  bif Nat.ble (2 * w) n then force (28976077832308491369 * w / n) fun x => force (x * x / 18446744073709551616) fun sq => sinC sq cs2 x x 0 K
  else force (28976077832308491369 * (n - w) / n) fun x => force (x * x / 18446744073709551616) fun sq => force (sq / 2) fun h => sinC sq cs3 h h 0 fun v => force ((18446744073709551616 - v) % 18446744073709551616) K

/-- The sines of 0 to w of n parts. -/
def valsC (n : Nat) : Nat → List Nat → (List Nat → Bool) → Bool
  | 0, acc, K => vC 0 n fun v => K (v :: acc)
  | w + 1, acc, K => vC (w + 1) n fun v => valsC n w (v :: acc) K

def stepC (c1 s1 s s' c c' : Nat) : Bool :=
  Nat.ble (18446744073709551616 * s') (s * c1 + c * s1 + 18446744073709551616000) && (Nat.ble (s * c1 + c * s1) (18446744073709551616 * s' + 18446744073709551616000) &&
  (Nat.ble (18446744073709551616 * c' + s * s1) (c * c1 + 18446744073709551616000) && Nat.ble (c * c1) (18446744073709551616 * c' + s * s1 + 18446744073709551616000)))

def stepsC (c1 s1 : Nat) : List Nat → List Nat → Bool
  | s :: s' :: l, c :: c' :: r => bif stepC c1 s1 s s' c c' then stepsC c1 s1 (s' :: l) (c' :: r) else false
  | _, _ => true

def sumEnd (n : Nat) (l r : List Nat) : Bool := match l, r with
  | _ :: s1 :: _, _ :: c1 :: _ => Nat.ble (n * s1) 36893488147419103232 && stepsC c1 s1 l r
  | _, _ => false

def sumC (n : Nat) : Bool := valsC n n [] fun l => sumEnd n l l.reverse

def sumsC : Nat → Nat → Bool
  | _, 0 => true
  | n, c + 1 => bif sumC n then sumsC (n + 1) c else false

/-- (1 + 2 / n) to the power 4 n is at most 6561. -/
def powsC : Nat → Bool
  | 0 => true
  | n + 1 => bif Nat.ble ((n + 3) ^ (4 * (n + 1))) (6561 * (n + 1) ^ (4 * (n + 1))) then powsC n else false

end Go.Ev
