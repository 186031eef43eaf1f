/-
  A test of the sines of fractions of a quarter, in natural numbers. Definitions only.
-/
import Derived.KernelRfl
namespace Go.Ev

def force {α : Type} (n : Nat) (f : Nat → α) : α := @Nat.rec (fun _ => α) (f 0) (fun m _ => f (Nat.succ m)) n

/-- The series, two terms at a time. -/
def sinC (sq : Nat) : List (Nat × Nat) → Nat → Nat → Nat → (Nat → Bool) → Bool
  | [], _, _, _, _ => false
  | c :: r, t, p, m, K => force (t * sq / c.1) fun t1 => force (t1 * sq / c.2) fun t2 => bif Nat.beq t2 0 then K (p + t2 - (m + t1)) else sinC sq r t2 (p + t2) (m + t1) K

def serC (sq : Nat) : List (Nat × Nat) → Nat → Nat → Nat → (Nat → Bool) → Bool
  | [], _, p, m, K => K (p - m)
  | c :: r, t, p, m, K => force (t * sq / c.1) fun t1 => force (t1 * sq / c.2) fun t2 => bif Nat.beq t2 0 then K (p + t2 - (m + t1)) else serC sq r t2 (p + t2) (m + t1) K

def divs (B : Nat) : Nat → Nat → List (Nat × Nat)
  | 0, _ => []
  | f + 1, j => (B * (j * (j + 1)), B * ((j + 2) * (j + 3))) :: divs B f (j + 4)

def cs2 : List (Nat × Nat) := [(110680464442257309696, 368934881474191032320), (774763251095801167872, 1328165573307087716352), (2029141848108050677760, 2877692075498690052096), (3873816255479005839360, 5017514388048998039552), (6308786473208666652672, 7747632510958011678720), (9334052501297033117696, 11068046444225730969600)]
def cs3 : List (Nat × Nat) := [(221360928884514619392, 553402322211286548480), (1033017668127734890496, 1660206966633859645440), (2434970217729660813312, 3357307421415138394112), (4427218577690292387840, 5644703686555122794496), (7009762748009629614080, 8522395762053812846592), (10182602728687672492032, 11990383647911208550400)]
def ds1 : List (Nat × Nat) := [(200000000000000000, 1200000000000000000), (3000000000000000000, 5600000000000000000), (9000000000000000000, 13200000000000000000), (18200000000000000000, 24000000000000000000), (30600000000000000000, 38000000000000000000), (46200000000000000000, 55200000000000000000)]
def ds2 : List (Nat × Nat) := [(600000000000000000, 2000000000000000000), (4200000000000000000, 7200000000000000000), (11000000000000000000, 15600000000000000000), (21000000000000000000, 27200000000000000000), (34200000000000000000, 42000000000000000000), (50600000000000000000, 60000000000000000000)]

def loC (w n : Nat) (K : Nat → Bool) : Bool :=
  bif Nat.ble (2 * w) n then force (28976077832308491369 * w / n) fun x => force (x * x / 18446744073709551616) fun sq => sinC sq cs2 x x 0 fun v => K (v * 1000000 / 18446744073709551616)
  else force (28976077832308491369 * (n - w) / n) fun x => force (x * x / 18446744073709551616) fun sq => force (sq / 2) fun h => sinC sq cs3 h h 0 fun v => K ((18446744073709551616 - v) % 18446744073709551616 * 1000000 / 18446744073709551616)

def refC (w n : Nat) (K : Nat → Bool) : Bool :=
  bif Nat.ble (2 * (n - w)) n then force (628318530717958648 * (n - w) / (4 * n)) fun x => force (x * x / 100000000000000000) fun sq => serC sq ds1 100000000000000000 100000000000000000 0 fun v => K (v / 100000000000)
  else force (628318530717958648 * w / (4 * n)) fun x => force (x * x / 100000000000000000) fun sq => serC sq ds2 x x 0 fun v => K (v / 100000000000)

/-- The squares of a sine and a cosine, each between two neighbours, add up to 1. -/
def circN (a b : Nat) : Bool := Nat.ble (a * a / 1000000 + b * b / 1000000) 1000000 && Nat.ble 1000000 (((a + 1) * (a + 1) + 999999) / 1000000 + ((b + 1) * (b + 1) + 999999) / 1000000)

def pairC (w n : Nat) : Bool := loC w n fun a => refC w n fun a' => bif Nat.beq a a' then (loC (n - w) n fun b => refC (n - w) n fun b' => bif Nat.beq b b' then circN a b else false) else false

/-- The fractions in lowest terms with one denominator, up to a half. -/
def rowC (n : Nat) : Nat → Bool
  | 0 => true
  | w + 1 => bif Nat.beq (Nat.gcd (w + 1) n) 1 then (bif pairC (w + 1) n then rowC n w else false) else rowC n w

def rowsC : Nat → Nat → Bool
  | _, 0 => true
  | n, c + 1 => bif rowC n (n / 2) then rowsC (n + 1) c else false

end Go.Ev
