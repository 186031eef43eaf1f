/-
  An evaluator of the model's code over plain data: definitions only. It is proved sound in the text that follows it. No condition.
  The evaluator's relations: when abstract values, blocks and slots stand for those of the model. Lemmas only. No condition.
  The evaluator's operations are sound: what an operation comes to is what the model's operation does. No condition beyond those of the statements.
  The evaluator's operations are sound, one by one: the operations that call nothing.
  The evaluator's operations are sound, one by one: building, indexing, comparing, built-in functions.
  The evaluator's operations are sound, one by one: composite values, made slices, slices of slices, function values.
  The evaluator's operations are sound, one by one: operators, len, max, min, append.
  The evaluator's operations are sound: calls; and all operations together.
  The evaluator's operations are sound: a call by a contract; all operations together.
  The evaluator over a list of operations, in the order of the text: sound.
  The evaluator over operations whose order the model draws: sound, if operations whose order is open do not touch each other's slots and blocks.
-/
import Derived.Calls
import Derived.LoopN
import Derived.WalkKit
import Derived.Laws.BitsLemmas
import Derived.Laws.Bits64
import Derived.Laws.CopyRow
import Derived.Laws.AppendOwn
import Derived.Laws.StructEq
import Derived.Orders
import Derived.Laws.MakeOwn
namespace Go.Ev

inductive D where
  | bool (b : Bool)
  | int (k : IntKind) (n : Int)
  | str (s : ByteArray)

def D.val : D → Value
  | .bool b => .bool b
  | .int k n => .int k n
  | .str s => .string s

structure Span where
  lo : Int
  hi : Int
  deriving DecidableEq

structure Frac where
  num : Int
  den : Int
  deriving DecidableEq

structure Delay where
  whole : Int
  part : Span
  deriving DecidableEq

structure Dir where
  x : Span
  y : Span
  z : Span
  deriving DecidableEq

structure Vec where
  x : Frac
  y : Frac
  z : Frac
  deriving DecidableEq

structure Window where
  frm : Int
  too : Int
  deriving DecidableEq

structure Site where
  name : ByteArray
  s : Frac
  t : Frac

structure Placed where
  site : Site
  at_ : Vec

structure View where
  up : Vec
  bound : Span

structure Trk where
  tick : Int
  u : Span
  v : Span
  w : Span
  deriving DecidableEq

inductive ET where
  | site | win | vec | frac | placed | view | trk | dir | delay | bool | int
  deriving DecidableEq

@[reducible] def ET.T : ET → Type
  | .site => Site
  | .win => Window
  | .vec => Vec
  | .frac => Frac
  | .placed => Placed
  | .view => View
  | .trk => Trk
  | .dir => Dir
  | .delay => Delay
  | .bool => Bool
  | .int => Int

def ET.len : ET → Nat
  | .site => 5
  | .win => 2
  | .vec => 6
  | .frac => 2
  | .placed => 11
  | .view => 8
  | .trk => 7
  | .dir => 6
  | .delay => 3
  | .bool => 1
  | .int => 1

def Frac.zero : Frac := ⟨0, 0⟩
def Span.zero : Span := ⟨0, 0⟩
def Vec.zero : Vec := ⟨.zero, .zero, .zero⟩
def Site.zero : Site := ⟨ByteArray.empty, .zero, .zero⟩

def ET.z : (τ : ET) → τ.T
  | .site => Site.zero
  | .win => (⟨0, 0⟩ : Window)
  | .vec => Vec.zero
  | .frac => Frac.zero
  | .placed => (⟨.zero, .zero⟩ : Placed)
  | .view => (⟨.zero, .zero⟩ : View)
  | .trk => (⟨0, .zero, .zero, .zero⟩ : Trk)
  | .dir => (⟨.zero, .zero, .zero⟩ : Dir)
  | .delay => (⟨0, .zero⟩ : Delay)
  | .bool => false
  | .int => (0 : Int)

def ET.cells : (τ : ET) → τ.T → List D
  | .site, x => [.str x.name, .int .i64 x.s.num, .int .i64 x.s.den, .int .i64 x.t.num, .int .i64 x.t.den]
  | .win, x => [.int .i64 x.frm, .int .i64 x.too]
  | .vec, x => [.int .i64 x.x.num, .int .i64 x.x.den, .int .i64 x.y.num, .int .i64 x.y.den, .int .i64 x.z.num, .int .i64 x.z.den]
  | .frac, x => [.int .i64 x.num, .int .i64 x.den]
  | .placed, x => [.str x.site.name, .int .i64 x.site.s.num, .int .i64 x.site.s.den, .int .i64 x.site.t.num, .int .i64 x.site.t.den, .int .i64 x.at_.x.num, .int .i64 x.at_.x.den, .int .i64 x.at_.y.num, .int .i64 x.at_.y.den, .int .i64 x.at_.z.num, .int .i64 x.at_.z.den]
  | .view, x => [.int .i64 x.up.x.num, .int .i64 x.up.x.den, .int .i64 x.up.y.num, .int .i64 x.up.y.den, .int .i64 x.up.z.num, .int .i64 x.up.z.den, .int .i64 x.bound.lo, .int .i64 x.bound.hi]
  | .trk, x => [.int .i64 x.tick, .int .i64 x.u.lo, .int .i64 x.u.hi, .int .i64 x.v.lo, .int .i64 x.v.hi, .int .i64 x.w.lo, .int .i64 x.w.hi]
  | .dir, x => [.int .i64 x.x.lo, .int .i64 x.x.hi, .int .i64 x.y.lo, .int .i64 x.y.hi, .int .i64 x.z.lo, .int .i64 x.z.hi]
  | .delay, x => [.int .i64 x.whole, .int .i64 x.part.lo, .int .i64 x.part.hi]
  | .bool, x => [.bool x]
  | .int, x => [.int .i64 x]

def of_site : List D → Option Site
  | [.str n, .int .i64 a, .int .i64 b, .int .i64 c, .int .i64 d] => some (⟨n, ⟨a, b⟩, ⟨c, d⟩⟩ : Site)
  | _ => none

def of_win : List D → Option Window
  | [.int .i64 a, .int .i64 b] => some (⟨a, b⟩ : Window)
  | _ => none

def of_vec : List D → Option Vec
  | [.int .i64 a, .int .i64 b, .int .i64 c, .int .i64 d, .int .i64 e, .int .i64 f] => some (⟨⟨a, b⟩, ⟨c, d⟩, ⟨e, f⟩⟩ : Vec)
  | _ => none

def of_frac : List D → Option Frac
  | [.int .i64 a, .int .i64 b] => some (⟨a, b⟩ : Frac)
  | _ => none

def of_placed : List D → Option Placed
  | [.str n, .int .i64 a, .int .i64 b, .int .i64 c, .int .i64 d, .int .i64 e, .int .i64 f, .int .i64 g, .int .i64 h, .int .i64 i, .int .i64 j] => some (⟨⟨n, ⟨a, b⟩, ⟨c, d⟩⟩, ⟨⟨e, f⟩, ⟨g, h⟩, ⟨i, j⟩⟩⟩ : Placed)
  | _ => none

def of_view : List D → Option View
  | [.int .i64 a, .int .i64 b, .int .i64 c, .int .i64 d, .int .i64 e, .int .i64 f, .int .i64 g, .int .i64 h] => some (⟨⟨⟨a, b⟩, ⟨c, d⟩, ⟨e, f⟩⟩, ⟨g, h⟩⟩ : View)
  | _ => none

def of_trk : List D → Option Trk
  | [.int .i64 t, .int .i64 a, .int .i64 b, .int .i64 c, .int .i64 d, .int .i64 e, .int .i64 f] => some (⟨t, ⟨a, b⟩, ⟨c, d⟩, ⟨e, f⟩⟩ : Trk)
  | _ => none

def of_dir : List D → Option Dir
  | [.int .i64 a, .int .i64 b, .int .i64 c, .int .i64 d, .int .i64 e, .int .i64 f] => some (⟨⟨a, b⟩, ⟨c, d⟩, ⟨e, f⟩⟩ : Dir)
  | _ => none

def of_delay : List D → Option Delay
  | [.int .i64 a, .int .i64 b, .int .i64 c] => some (⟨a, ⟨b, c⟩⟩ : Delay)
  | _ => none

def of_bool : List D → Option Bool
  | [.bool b] => some b
  | _ => none

def of_int : List D → Option Int
  | [.int .i64 a] => some a
  | _ => none

def ET.of : (τ : ET) → List D → Option τ.T
  | .site => of_site
  | .win => of_win
  | .vec => of_vec
  | .frac => of_frac
  | .placed => of_placed
  | .view => of_view
  | .trk => of_trk
  | .dir => of_dir
  | .delay => of_delay
  | .bool => of_bool
  | .int => of_int

def ET.ofs (τ : ET) : Nat → List D → Option (List τ.T)
  | 0, [] => some []
  | 0, _ :: _ => none
  | n + 1, l => match τ.of (l.take τ.len), τ.ofs n (l.drop τ.len) with
    | some x, some r => some (x :: r)
    | _, _ => none

def ET.flat (τ : ET) : List τ.T → List D
  | [] => []
  | x :: r => τ.cells x ++ τ.flat r

def castL : (τ υ : ET) → List τ.T → Option (List υ.T)
  | .site, .site, xs => some xs
  | .win, .win, xs => some xs
  | .vec, .vec, xs => some xs
  | .frac, .frac, xs => some xs
  | .placed, .placed, xs => some xs
  | .view, .view, xs => some xs
  | .trk, .trk, xs => some xs
  | .dir, .dir, xs => some xs
  | .delay, .delay, xs => some xs
  | .bool, .bool, xs => some xs
  | .int, .int, xs => some xs
  | _, _, _ => none

def takeK {α : Type} (k : Option Nat) (xs : List α) : List α :=
  match k with
  | none => xs
  | some n => xs.take n

def lenK {α : Type} (k : Option Nat) (xs : List α) : Nat :=
  match k with
  | none => xs.length
  | some n => n

structure Tab where
  eq : List Nat
  mks : Nat → Option ET
  lit : Nat → Option ET

inductive C where
  | d (x : D)
  | ptr (b o : Nat)
  | slice (b o n e : Nat)
  | nilS
  | fn (f : Nat) (caps : List Nat)
  | aslice (b : Nat) (k : Option Nat)
  | eptr (b i o : Nat)

inductive V where
  | c (x : C)
  | agg (l : List D)

inductive AV where
  | v (x : V)
  | tup (l : List V)
  | any

inductive Blk where
  | dead
  | ro (l : List D)
  | rw (t : Nat) (l : List D)
  | arr (own : Option Nat) (τ : ET) (xs : List τ.T)
  | cell (t : Nat) (v : C)

inductive Ex where
  | normal
  | exit (id : Nat)
  | ret

structure TS where
  n : Nat
  z : AV
  l : List (Nat × AV)

def TS.length (T : TS) : Nat := T.n

def tfind (z : AV) : List (Nat × AV) → Nat → AV
  | [], _ => z
  | p :: r, i => bif Nat.beq p.1 i then p.2 else tfind z r i

def tget (T : TS) (i : Nat) : AV := tfind T.z T.l i

def tset (v : AV) (T : TS) (i : Nat) : TS := bif Nat.blt i T.n then ⟨T.n, T.z, (i, v) :: T.l⟩ else T

def lfix (v : AV) : List (Nat × AV) → Nat → List (Nat × AV)
  | [], _ => []
  | p :: r, i => bif Nat.beq p.1 i then (p.1, v) :: r else p :: lfix v r i

def tfix (v : AV) (T : TS) (i : Nat) : TS := ⟨T.n, T.z, lfix v T.l i⟩

def numA : Nat → List AV → List (Nat × AV)
  | _, [] => []
  | i, x :: r => (i, x) :: numA (i + 1) r

inductive Res where
  | fin (v : AV) (M : List Blk)
  | st (x : Ex) (T : TS) (M : List Blk) (N : Nat)

abbrev Ans := Option Res
abbrev Sets := List (Nat × Blk)

inductive Tm where
  | fail
  | leaf (v : AV) (s : Sets)
  | br (b : Bool) (x y : Tm)
  | call (f : Nat) (as : List AV) (bs : List Blk) (k : AV → List Blk → Tm)
  | ext (f : Nat) (as : List AV) (k : AV → Tm)

def Tm.run (Γ : Nat → List AV → List Blk → (AV → List Blk → Ans) → Ans) (X : Nat → List AV → (AV → Ans) → Ans) : Tm → (AV → Sets → Ans) → Ans
  | .fail, _ => none
  | .leaf v s, K => K v s
  | .br b x y, K => bif b then x.run Γ X K else y.run Γ X K
  | .call f as bs k, K => Γ f as bs fun v M => (k v M).run Γ X K
  | .ext f as k, K => X f as fun v => (k v).run Γ X K

def undefA : AV := .tup []
def aint (k : IntKind) (n : Int) : AV := .v (.c (.d (.int k n)))
def abool (b : Bool) : AV := .v (.c (.d (.bool b)))
def aptr (b o : Nat) : AV := .v (.c (.ptr b o))

def gets {α : Type} (z : α) : List α → Nat → α
  | [], _ => z
  | x :: _, 0 => x
  | _ :: t, n + 1 => gets z t n

def sets {α : Type} (y : α) : List α → Nat → List α
  | [], _ => []
  | _ :: t, 0 => y :: t
  | x :: t, n + 1 => x :: sets y t n

def mget (M : List Blk) (b : Nat) : Blk := gets .dead M b

def mput : List Blk → Nat → Blk → List Blk
  | [], 0, y => [y]
  | [], n + 1, y => .dead :: mput [] n y
  | _ :: t, 0, y => y :: t
  | x :: t, n + 1, y => x :: mput t n y

def puts (M : List Blk) : Sets → List Blk
  | [] => M
  | (b, y) :: r => puts (mput M b y) r

def Blk.data : Blk → Option (List D)
  | .dead => none
  | .ro l => some l
  | .rw _ l => some l
  | .arr _ _ _ => none
  | .cell _ _ => none

def Blk.live : Blk → Bool
  | .dead => false
  | .ro [] => false
  | .ro (_ :: _) => true
  | .rw _ _ => true
  | .arr _ _ [] => false
  | .arr _ _ (_ :: _) => true
  | .cell _ _ => true

def Blk.wr : Blk → Bool
  | .rw _ _ => true
  | .arr (some _) _ (_ :: _) => true
  | .cell _ _ => true
  | _ => false

def inR (k : IntKind) (n : Int) : Bool :=
  match k with
  | .i8 => decide (-128 ≤ n) && decide (n ≤ 127)
  | .i16 => decide (-32768 ≤ n) && decide (n ≤ 32767)
  | .i32 => decide (-2147483648 ≤ n) && decide (n ≤ 2147483647)
  | .i64 => decide (-9223372036854775808 ≤ n) && decide (n ≤ 9223372036854775807)
  | .u8 => decide (0 ≤ n) && decide (n ≤ 255)
  | .u16 => decide (0 ≤ n) && decide (n ≤ 65535)
  | .u32 => decide (0 ≤ n) && decide (n ≤ 4294967295)
  | .u64 => decide (0 ≤ n) && decide (n ≤ 18446744073709551615)

def D.ok : D → Prop
  | .bool _ => True
  | .int k n => inR k n = true
  | .str s => s.size ≤ 9223372036854775807

def toD : Value → Option D
  | .bool b => some (.bool b)
  | .int k n => bif inR k n then some (.int k n) else none
  | .string s => bif Nat.ble s.size 65536 then some (.str s) else none
  | _ => none

def toDs : List Value → Option (List D)
  | [] => some []
  | x :: r => match toD x, toDs r with
    | some d, some l => some (d :: l)
    | _, _ => none

def ofValue : Value → Option AV
  | .bool b => some (abool b)
  | .int k n => bif inR k n then some (aint k n) else none
  | .string s => bif Nat.ble s.size 65536 then some (.v (.c (.d (.str s)))) else none
  | .slice none 0 0 => some (.v (.c .nilS))
  | .agg cs => match toDs cs.toList with | some l => some (.v (.agg l)) | none => none
  | _ => none

def wr (k : IntKind) (n : Int) : Int :=
  match k with
  | .i64 => (n + 9223372036854775808) % 18446744073709551616 - 9223372036854775808
  | .u64 => n % 18446744073709551616
  | .u8 => n % 256
  | k => k.wrap n

def splice (l : List D) (o : Nat) (r : List D) : List D := l.take o ++ (r ++ l.drop (o + r.length))

def cellsA : AV → Option (List D)
  | .v (.agg l) => some l
  | .v (.c (.d x)) => some [x]
  | _ => none

def D.same : D → D → Bool
  | .bool _, .bool _ => true
  | .int k _, .int k' _ => decide (k = k')
  | .str _, .str _ => true
  | _, _ => false

def fitsTo : List D → List D → Bool
  | [], [] => true
  | x :: r, y :: s => D.same x y && fitsTo r s
  | _, _ => false

def D.eq : D → D → Bool
  | .bool a, .bool b => a == b
  | .int _ a, .int _ b => a == b
  | .str a, .str b => a.data.toList == b.data.toList
  | _, _ => false

def eqAll : List D → List D → Bool
  | [], [] => true
  | x :: r, y :: s => D.eq x y && eqAll r s
  | _, _ => false

def intBin (op : BinOp) (k : IntKind) (a b : Int) : Tm :=
  match op with
  | .add => .leaf (aint k (wr k (a + b))) []
  | .sub => .leaf (aint k (wr k (a - b))) []
  | .mul => .leaf (aint k (wr k (a * b))) []
  | .quo => .br (b == 0) .fail (.leaf (aint k (wr k (a.tdiv b))) [])
  | .rem => .br (b == 0) .fail (.leaf (aint k (a.tmod b)) [])
  | .eql => .leaf (abool (a == b)) []
  | .neq => .leaf (abool (a != b)) []
  | .lss => .leaf (abool (decide (a < b))) []
  | .leq => .leaf (abool (decide (a ≤ b))) []
  | .gtr => .leaf (abool (decide (b < a))) []
  | .geq => .leaf (abool (decide (b ≤ a))) []
  | .and => .leaf (aint k (wr k ((BitVec.ofInt k.bits a &&& BitVec.ofInt k.bits b).toNat : Nat))) []
  | .or => .leaf (aint k (wr k ((BitVec.ofInt k.bits a ||| BitVec.ofInt k.bits b).toNat : Nat))) []
  | _ => .fail

def shiftBin (op : BinOp) (k : IntKind) (a b : Int) : Tm :=
  match op with
  | .shl => .br (decide (b < 0)) .fail (.leaf (aint k (wr k (a * 2 ^ (min b.toNat k.bits)))) [])
  | .shr => .br (decide (b < 0)) .fail (.leaf (aint k (a.fdiv (2 ^ (min b.toNat k.bits)))) [])
  | _ => .fail

section
variable (P : Program) (G : Nat → Option (List D)) (EQ : Tab)

def opdV (T : TS) : Operand → Option AV
  | .tmp t => some (tget T t)
  | .const v => match ofValue v with
    | some x => some x
    | none => some .any
  | .global _ => none
  | .func f => some (.v (.c (.fn f [])))

def opdVs (T : TS) : List Operand → Option (List AV)
  | [] => some []
  | x :: r => match opdV T x, opdVs T r with
    | some v, some l => some (v :: l)
    | _, _ => none

def partVs (T : TS) : List (Nat × Operand) → Option (List (Nat × List D))
  | [] => some []
  | p :: r => match opdV T p.2, partVs T r with
    | some v, some l => match cellsA v with
      | some cs => some ((p.1, cs) :: l)
      | none => none
    | _, _ => none

def zeroD (t : TypeId) : Option (List D) :=
  match P.info? t with
  | some i => match i.zero with
    | some z => toDs z.cells.toList
    | none => none
  | none => none

def sizeD (t : TypeId) : Option Nat :=
  match P.info? t with
  | some i => some i.size
  | none => none

def aggD (t : TypeId) : Option Bool :=
  match P.underlying t with
  | some (.struct _) => some true
  | some (.array _ _) => some true
  | some _ => some false
  | none => none

def fillD (place : Nat → Option (Nat × Nat)) (cells : List D) : List (Nat × List D) → Option (List D)
  | [] => some cells
  | p :: r => match place p.1 with
    | none => none
    | some q =>
      bif (p.2.length == q.2) && Nat.ble (q.1 + p.2.length) cells.length then fillD place (splice cells q.1 p.2) r else none

def fieldPlaces : List Field → Option (List (Nat × Nat))
  | [] => some []
  | f :: r => match sizeD P f.type, fieldPlaces r with
    | some s, some l => some ((f.offset, s) :: l)
    | _, _ => none

def partD (t : TypeId) (l : List D) (o : Nat) : Option V :=
  match aggD P t, sizeD P t with
  | some true, some n => bif ((l.drop o).take n).length == n then some (.agg ((l.drop o).take n)) else none
  | some false, some _ => match l.drop o with
    | x :: _ => some (.c (.d x))
    | [] => none
  | _, _ => none

def leafO : Option V → Tm
  | some v => .leaf (.v v) []
  | none => .fail

def evBin (op : BinOp) (t : TypeId) (x y : AV) : Tm :=
  match x, y with
  | .v (.c (.d (.int k a))), .v (.c (.d (.int k' b))) =>
    match op with
    | .shl => shiftBin .shl k a b
    | .shr => shiftBin .shr k a b
    | op => bif decide (k = k') then intBin op k a b else .fail
  | .v (.c (.d (.bool a))), .v (.c (.d (.bool b))) =>
    match op, P.underlying t with
    | .eql, some .bool => .leaf (abool (a == b)) []
    | .neq, some .bool => .leaf (abool (!(a == b))) []
    | _, _ => .fail
  | .v (.c (.d (.str a))), .v (.c (.d (.str b))) =>
    match op with
    | .eql => .leaf (abool (a.data.toList == b.data.toList)) []
    | .neq => .leaf (abool (!(a.data.toList == b.data.toList))) []
    | _ => .fail
  | .v (.agg a), .v (.agg b) =>
    match zeroD P t with
    | some z => bif EQ.eq.contains t && (fitsTo z a && fitsTo z b) then
        match op with
        | .eql => .leaf (abool (eqAll a b)) []
        | .neq => .leaf (abool (!(eqAll a b))) []
        | _ => .fail
      else .fail
    | none => .fail
  | _, _ => .fail

def passArgs (M : List Blk) : List AV → Nat → Option (List AV × List Blk × List (Nat × Nat))
  | [], _ => some ([], [], [])
  | x :: r, j => match x with
    | .v (.c (.slice b o n e)) => match (mget M b).data, passArgs M r (j + 1) with
      | some l, some q => some (.v (.c (.slice j o n e)) :: q.1, .ro l :: q.2.1, q.2.2)
      | _, _ => none
    | .v (.c (.aslice b k)) => match mget M b, passArgs M r (j + 1) with
      | .arr _ τ xs, some q => some (.v (.c (.aslice j none)) :: q.1, .arr none τ (takeK k xs) :: q.2.1, q.2.2)
      | _, _ => none
    | .v (.c (.eptr _ _ _)) => none
    | .v (.c (.fn f caps)) => match caps with
      | [] => match passArgs M r j with
        | some q => some (.v (.c (.fn f [])) :: q.1, q.2)
        | none => none
      | [c] => match mget M c, passArgs M r (j + 1) with
        | .rw t l, some q => some (.v (.c (.fn f [j])) :: q.1, .rw t l :: q.2.1, (c, j) :: q.2.2)
        | _, _ => none
      | [c, c'] => match mget M c, mget M c', passArgs M r (j + 2) with
        | .rw t l, .rw t' l', some q => some (.v (.c (.fn f [j, j + 1])) :: q.1, .rw t l :: .rw t' l' :: q.2.1, (c, j) :: (c', j + 1) :: q.2.2)
        | _, _, _ => none
      | _ => none
    | .v (.c (.ptr b o)) => match o with
      | 0 => match mget M b, passArgs M r (j + 1) with
        | .rw t l, some q => some (.v (.c (.ptr j 0)) :: q.1, .rw t l :: q.2.1, (b, j) :: q.2.2)
        | _, _ => none
      | _ + 1 => none
    | .v (.c (.d x)) => match passArgs M r j with
      | some q => some (.v (.c (.d x)) :: q.1, q.2)
      | none => none
    | .v (.c .nilS) => match passArgs M r j with
      | some q => some (.v (.c .nilS) :: q.1, q.2)
      | none => none
    | .v (.agg l) => match passArgs M r j with
      | some q => some (.v (.agg l) :: q.1, q.2)
      | none => none
    | .tup _ => none
    | .any => none

def backSets (M' : List Blk) : List (Nat × Nat) → Option Sets
  | [] => some []
  | p :: r => match mget M' p.2, backSets M' r with
    | .rw t l, some s => some ((p.1, .rw t l) :: s)
    | _, _ => none

def distinctFst : List (Nat × Nat) → Bool
  | [] => true
  | p :: r => !(r.any fun x => x.1 == p.1) && distinctFst r

def dataV : V → Bool
  | .c (.d _) => true
  | .c .nilS => true
  | .agg _ => true
  | _ => false

def backVal (M' : List Blk) (j N : Nat) : AV → Option (AV × Sets)
  | .v x => match x with
    | .c (.slice b o n e) => bif Nat.ble j b then (match mget M' b with | .rw t l => some (.v (.c (.slice N o n e)), [(N, .rw t l)]) | _ => none) else none
    | .c (.aslice b none) => bif Nat.ble j b then (match mget M' b with | .arr (some t) τ xs => some (.v (.c (.aslice N none)), [(N, .arr (some t) τ xs)]) | _ => none) else none
    | .c (.fn f [b]) => bif Nat.ble j b then (match mget M' b with | .rw t l => some (.v (.c (.fn f [N])), [(N, .rw t l)]) | _ => none) else none
    | x => bif dataV x then some (.v x, []) else none
  | .any => none
  | .tup [] => some (.tup [], [])
  | .tup (x :: r) => bif r.all dataV then (match x with
    | .c (.slice b o n e) => bif Nat.ble j b then (match mget M' b with | .rw t l => some (.tup (.c (.slice N o n e) :: r), [(N, .rw t l)]) | _ => none) else none
    | .c (.aslice b none) => bif Nat.ble j b then (match mget M' b with | .arr (some t) τ xs => some (.tup (.c (.aslice N none) :: r), [(N, .arr (some t) τ xs)]) | _ => none) else none
    | x => bif dataV x then some (.tup (x :: r), []) else none) else none

def sliceRefs : List AV → List Nat
  | [] => []
  | .v (.c (.slice b _ _ _)) :: r => b :: sliceRefs r
  | .v (.c (.aslice b _)) :: r => b :: sliceRefs r
  | _ :: r => sliceRefs r

def evCall (f : Nat) (caps : List Nat) (args : List AV) (M : List Blk) (N : Nat) : Tm :=
  match passArgs M (args ++ caps.map fun c => aptr c 0) 0 with
  | none => .fail
  | some q =>
    bif distinctFst q.2.2 && (sliceRefs (args ++ caps.map fun c => aptr c 0)).all (fun b => !(q.2.2.any fun p => p.1 == b)) then
      .call f q.1 q.2.1 fun v M' => match backSets M' q.2.2, backVal M' q.2.1.length N v with
        | some s, some p => .leaf p.1 (s ++ p.2)
        | _, _ => .fail
    else .fail

def plainArgs : List AV → Bool
  | [] => true
  | .v (.c (.d _)) :: r => plainArgs r
  | .v (.agg _) :: r => plainArgs r
  | _ => false

def maxL (k : IntKind) (x : Int) : List AV → Option Int
  | [] => some x
  | .v (.c (.d (.int k' y))) :: r => bif decide (k' = k) then maxL k (if y > x then y else x) r else none
  | _ => none

def minL (k : IntKind) (x : Int) : List AV → Option Int
  | [] => some x
  | .v (.c (.d (.int k' y))) :: r => bif decide (k' = k) then minL k (if y < x then y else x) r else none
  | _ => none

def roomD : Nat := 1048576

def srcD (M : List Blk) (size : Nat) : AV → Option (Nat × List D)
  | .v (.c (.slice b o n es)) => match (mget M b).data with
    | some l => bif (es == size) && (((l.drop o).take (n * es)).length == n * es) then some (n, (l.drop o).take (n * es)) else none
    | none => none
  | .v (.c .nilS) => some (0, [])
  | _ => none

def baseD (M : List Blk) (size e : Nat) : AV → Option (Nat × List D × Sets)
  | .v (.c .nilS) => some (0, [], [])
  | .v (.c (.slice b o n es)) => match mget M b with
    | .rw ty l => bif (o == 0) && ((es == size) && ((ty == e) && (l.length == n * es))) then some (n, l, [(b, .dead)]) else none
    | _ => none
  | _ => none

def srcA (M : List Blk) (size : Nat) (τ : ET) : AV → Option (List τ.T)
  | .v (.c (.aslice b k)) => match mget M b with
    | .arr _ υ xs => castL υ τ (takeK k xs)
    | _ => none
  | .v (.c (.slice b o n es)) => match (mget M b).data with
    | some l => bif (es == size) && (size == τ.len) then τ.ofs n ((l.drop o).take (n * es)) else none
    | none => none
  | .v (.c .nilS) => some []
  | _ => none

def baseA (M : List Blk) (e : Nat) (τ : ET) : AV → Option (List τ.T × Sets)
  | .v (.c .nilS) => some ([], [])
  | .v (.c (.aslice b none)) => match mget M b with
    | .arr (some ty) υ xs => bif ty == e then (match castL υ τ xs with | some ys => some (ys, [(b, .dead)]) | none => none) else none
    | _ => none
  | _ => none

def evAppendA (e : TypeId) (τ : ET) (s x : AV) (M : List Blk) (N : Nat) : Tm :=
  match P.info? e with
  | none => .fail
  | some i => match srcA M i.size τ x, baseA M e τ s, zeroD P e with
    | some ys, some base, some z =>
      .br (ys.length == 0) (.leaf s [])
        (.br (Nat.blt 0 i.size && ((i.size == τ.len) && ((z.length == i.size) && (Nat.ble (base.1.length + ys.length) roomD && Nat.ble i.bytes 4096))))
          (.leaf (.v (.c (.aslice N none))) (base.2 ++ [(N, .arr (some e) τ (base.1 ++ ys))])) .fail)
    | _, _, _ => .fail

def evAppend (t : TypeId) (s x : AV) (M : List Blk) (N : Nat) : Tm :=
  match P.underlying t with
  | some (.slice e) => match P.info? e with
    | none => .fail
    | some i => match srcD M i.size x, baseD M i.size e s, zeroD P e with
      | some src, some base, some z =>
        .br (src.1 == 0) (.leaf s [])
          (.br (Nat.blt 0 i.size && ((z.length == i.size) && (Nat.ble (base.1 + src.1) roomD && Nat.ble i.bytes 4096)))
            (.leaf (.v (.c (.slice N 0 (base.1 + src.1) i.size))) (base.2.2 ++ [(N, .rw e (base.2.1 ++ src.2))])) .fail)
      | _, _, _ => .fail
  | _ => .fail

def evBuiltin (b : Builtin) (ts : List TypeId) (args : List AV) (M : List Blk) (N : Nat) : Tm :=
  match b, ts, args with
  | .len, [t], [x] => match P.underlying t, x with
    | some .string, .v (.c (.d (.str s))) => .leaf (aint .i64 s.size) []
    | some (.slice _), .v (.c (.slice _ _ n _)) => .leaf (aint .i64 n) []
    | some (.slice _), .v (.c .nilS) => .leaf (aint .i64 0) []
    | some (.slice _), .v (.c (.aslice b k)) => match mget M b with
      | .arr _ _ xs => .leaf (aint .i64 (lenK k xs : Nat)) []
      | _ => .fail
    | some (.array n _), _ => .br (Nat.ble n roomD) (.leaf (aint .i64 n) []) .fail
    | _, _ => .fail
  | .max, _, .v (.c (.d (.int k x))) :: r => match maxL k x r with | some y => .leaf (aint k y) [] | none => .fail
  | .min, _, .v (.c (.d (.int k x))) :: r => match minL k x r with | some y => .leaf (aint k y) [] | none => .fail
  | .append, [t, t'], [s, x] => bif t == t' then (match P.underlying t with
    | some (.slice e) => match EQ.mks e with
      | some τ => evAppendA P e τ s x M N
      | none => evAppend P t s x M N
    | _ => .fail) else .fail
  | _, _, _ => .fail

def boundO (T : TS) (dflt : Nat) : Option Operand → Option Nat
  | none => some dflt
  | some x => match opdV T x with
    | some (.v (.c (.d (.int _ i)))) => bif decide (0 ≤ i) then some i.toNat else none
    | _ => none

def capsOf : List AV → Option (List Nat)
  | [] => some []
  | .v (.c (.ptr b 0)) :: r => match capsOf r with | some l => some (b :: l) | none => none
  | _ => none

def byteAt (s : ByteArray) (j : Int) : Int := ((s.data.toList.getD j.toNat 0).toNat : Nat)

def opR (o : Op) (T : TS) (M : List Blk) (N : Nat) : Tm :=
  match o with
  | .move x => match opdV T x with | some a => .leaf a [] | none => .fail
  | .assign x => match opdV T x with | some a => .leaf a [] | none => .fail
  | .pick c a b => match opdV T c, opdV T a, opdV T b with
    | some (.v (.c (.d (.bool x)))), some va, some vb => .br x (.leaf va []) (.leaf vb [])
    | _, _, _ => .fail
  | .alloc t => match zeroD P t with
    | some l => .leaf (aptr N 0) [(N, .rw t l)]
    | none => match P.underlying t, P.info? t with
      | some (.slice _), some i => match i.zero with
        | some (.slice none 0 0) => .leaf (aptr N 0) [(N, .cell t .nilS)]
        | _ => .fail
      | _, _ => .fail
  | .box t x => match opdV T x with
    | some v => match cellsA v with
      | some l => .leaf (aptr N 0) [(N, .rw t l)]
      | none => .fail
    | none => .fail
  | .build t ps => match partVs T ps.toList, zeroD P t, P.underlying t with
    | some l, some z, some (.struct fs) => match fieldPlaces P fs.toList with
      | some pl => match fillD (fun i => pl[i]?) z l with
        | some cs => .leaf (.v (.agg cs)) []
        | none => .fail
      | none => .fail
    | some l, some z, some (.array _ e) => match sizeD P e with
      | some s => match fillD (fun i => some (i * s, s)) z l with
        | some cs => .leaf (.v (.agg cs)) []
        | none => .fail
      | none => .fail
    | _, _, _ => .fail
  | .buildSlice t len ps => match partVs T ps.toList, P.underlying t with
    | some l, some (.slice e) => match zeroD P e, sizeD P e with
      | some z, some s => bif (z.length == s) && (Nat.ble (len * s) 16777216 && Nat.ble len roomD) then
          match fillD (fun i => some (i * s, s)) ((List.replicate len z).flatten) l with
          | some cs => match EQ.lit e with
            | none => .leaf (.v (.c (.slice N 0 len s))) [(N, .rw e cs)]
            | some τ => match bif s == τ.len then τ.ofs len cs else none with
              | some xs => .leaf (.v (.c (.aslice N none))) [(N, .arr (some e) τ xs)]
              | none => .fail
          | none => .fail
        else .fail
      | _, _ => .fail
    | _, _ => .fail
  | .load t a => match a with
    | .global g => match G g with
      | some l => leafO (partD P t l 0)
      | none => .fail
    | a => match opdV T a with
      | some (.v (.c (.ptr b o))) => match mget M b with
        | .cell _ c => match o, aggD P t with
          | 0, some false => .leaf (.v (.c c)) []
          | _, _ => .fail
        | y => match y.data with
          | some l => leafO (partD P t l o)
          | none => .fail
      | some (.v (.c (.eptr b i o))) => match mget M b with
        | .arr _ τ xs => leafO (partD P t (τ.cells (xs.getD i τ.z)) o)
        | _ => .fail
      | _ => .fail
  | .store t a x => match opdV T a, opdV T x with
    | some (.v (.c (.ptr b o))), some v => match mget M b with
      | .cell ty _ => match o, v, sizeD P t with
        | 0, .v (.c .nilS), some 1 => .leaf undefA [(b, .cell ty .nilS)]
        | 0, .v (.c (.aslice c k)), some 1 => .leaf undefA [(b, .cell ty (.aslice c k))]
        | _, _, _ => .fail
      | .rw ty l => match cellsA v, sizeD P t with
        | some cs, some n => bif (cs.length == n) && Nat.ble (o + n) l.length then .leaf undefA [(b, .rw ty (splice l o cs))] else .fail
        | _, _ => .fail
      | _ => .fail
    | some (.v (.c (.eptr b i o))), some v => match mget M b with
      | .arr (some ty) τ xs => match cellsA v, sizeD P t with
        | some cs, some n => match bif (cs.length == n) && Nat.ble (o + n) τ.len then τ.of (splice (τ.cells (xs.getD i τ.z)) o cs) else none with
          | some y => .leaf undefA [(b, .arr (some ty) τ (xs.set i y))]
          | none => .fail
        | _, _ => .fail
      | _ => .fail
    | _, _ => .fail
  | .nilCheck x => match opdV T x with
    | some (.v (.c (.ptr b o))) => .leaf (aptr b o) []
    | some (.v (.c (.eptr b i o))) => .leaf (.v (.c (.eptr b i o))) []
    | some (.v (.c (.fn f l))) => .leaf (.v (.c (.fn f l))) []
    | _ => .fail
  | .binOp op t x y _ => match opdV T x, opdV T y with
    | some a, some b => evBin P EQ op t a b
    | _, _ => .fail
  | .unOp op _ x => match op, opdV T x with
    | .neg, some (.v (.c (.d (.int k n)))) => .leaf (aint k (wr k (0 - n))) []
    | .not, some (.v (.c (.d (.bool b)))) => .leaf (abool (!b)) []
    | _, _ => .fail
  | .convert s d x => match P.underlying s, P.underlying d, opdV T x with
    | some _, some (.int k), some (.v (.c (.d (.int _ n)))) => .leaf (aint k (wr k n)) []
    | _, _, _ => .fail
  | .makeFunc fn first caps => match fn, first.toList, opdVs T caps.toList with
    | .func f, [], some l => match capsOf l with
      | some cs => .leaf (.v (.c (.fn f cs))) []
      | none => .fail
    | _, _, _ => .fail
  | .makeSlice t l c => match P.underlying t, opdV T l, opdV T c with
    | some (.slice e), some (.v (.c (.d (.int _ n)))), some (.v (.c (.d (.int _ n')))) => match zeroD P e, P.info? e with
      | some z, some i => .br (decide (n = n') && (decide (0 ≤ n) && (decide (n ≤ 1048576) && ((z.length == i.size) && (Nat.blt 0 i.size && Nat.ble i.bytes 4096)))))
          (match EQ.mks e with
           | none => .leaf (.v (.c (.slice N 0 n.toNat i.size))) [(N, .rw e ((List.replicate n.toNat z).flatten))]
           | some τ => match bif i.size == τ.len then τ.of z else none with
             | some x => .leaf (.v (.c (.aslice N none))) [(N, .arr (some e) τ (List.replicate n.toNat x))]
             | none => .fail) .fail
      | _, _ => .fail
    | _, _, _ => .fail
  | .slice t x lo hi mx => match mx, P.underlying t, opdV T x with
    | none, some (.slice e), some (.v (.c (.slice b o n s))) => match sizeD P e, boundO T 0 lo, boundO T n hi with
      | some s', some l, some h =>
        bif (s == s') && (Nat.ble l h && (Nat.ble h n && Nat.blt l n)) then .leaf (.v (.c (.slice b (o + l * s) (h - l) s))) [] else .fail
      | _, _, _ => .fail
    | none, some (.slice e), some (.v (.c (.aslice b none))) => match sizeD P e, lo, boundO T 0 hi, mget M b with
      | some s, none, some h, .arr _ τ xs => bif s == τ.len then .br (Nat.blt 0 h && Nat.ble h xs.length) (.leaf (.v (.c (.aslice b (some h)))) []) .fail else .fail
      | _, _, _, _ => .fail
    | none, some (.array n e), some (.v (.c (.ptr b o))) => match sizeD P e, lo, hi, mget M b with
      | some s, none, none, .rw _ l => bif Nat.blt 0 n && ((o == 0) && ((l.length == n * s) && Nat.ble n roomD)) then .leaf (.v (.c (.slice b o n s))) [] else .fail
      | _, _, _, _ => .fail
    | _, _, _ => .fail
  | .fieldAddr s x f => match P.underlying s, opdV T x with
    | some (.struct fs), some (.v (.c (.ptr b o))) => match fs[f]? with
      | some fd => match sizeD P fd.type with
        | some (_ + 1) => .leaf (aptr b (o + fd.offset)) []
        | _ => .fail
      | none => .fail
    | some (.struct fs), some (.v (.c (.eptr b i o))) => match fs[f]? with
      | some fd => match sizeD P fd.type with
        | some (_ + 1) => .leaf (.v (.c (.eptr b i (o + fd.offset)))) []
        | _ => .fail
      | none => .fail
    | _, _ => .fail
  | .field t x f => match P.underlying t, opdV T x with
    | some (.struct fs), some (.v (.agg l)) => match fs[f]? with
      | some fd => leafO (partD P fd.type l fd.offset)
      | none => .fail
    | _, _ => .fail
  | .indexAddr t x i => match P.underlying t, opdV T x, opdV T i with
    | some (.slice e), some (.v (.c (.slice b o n _))), some (.v (.c (.d (.int _ j)))) => match sizeD P e with
      | some s => .br (decide (0 ≤ j) && decide (j < (n : Int))) (.leaf (aptr b (o + j.toNat * s)) []) .fail
      | none => .fail
    | some (.slice e), some (.v (.c (.aslice b k))), some (.v (.c (.d (.int _ j)))) => match sizeD P e, mget M b with
      | some s, .arr _ τ xs => bif s == τ.len then .br (decide (0 ≤ j) && decide (j < ((lenK k xs : Nat) : Int))) (.leaf (.v (.c (.eptr b j.toNat 0))) []) .fail else .fail
      | _, _ => .fail
    | some (.array n e), some (.v (.c (.ptr b o))), some (.v (.c (.d (.int _ j)))) => match sizeD P e with
      | some s => .br (decide (0 ≤ j) && decide (j < (n : Int))) (.leaf (aptr b (o + j.toNat * s)) []) .fail
      | none => .fail
    | _, _, _ => .fail
  | .index t x i => match P.underlying t, opdV T x, opdV T i with
    | some (.array n e), some (.v (.agg l)), some (.v (.c (.d (.int _ j)))) => match sizeD P e with
      | some s => .br (decide (0 ≤ j) && decide (j < (n : Int))) (leafO (partD P e l (j.toNat * s))) .fail
      | none => .fail
    | some .string, some (.v (.c (.d (.str s)))), some (.v (.c (.d (.int _ j)))) =>
      .br (decide (0 ≤ j) && decide (j < (s.size : Int))) (.leaf (aint .u8 (byteAt s j)) []) .fail
    | _, _, _ => .fail
  | .extract x i => match opdV T x with
    | some (.tup l) => match l[i]? with
      | some v => .leaf (.v v) []
      | none => .fail
    | _ => .fail
  | .call c => match c.callee with
    | .builtin b => match opdVs T c.args.toList with
      | some l => evBuiltin P EQ b c.argTypes.toList l M N
      | none => .fail
    | .value g => match opdV T g, opdVs T c.args.toList with
      | some (.v (.c (.fn f caps))), some l => match P.funcs[f]? with
        | some fn => match fn.body with
          | some _ => evCall f caps l M N
          | none => match caps with
            | [] => bif plainArgs l then .ext f l fun v => .leaf v [] else .fail
            | _ => .fail
        | none => .fail
      | _, _ => .fail
    | _ => .fail
  | _ => .fail

def isNil : Op → Bool
  | .assign (.const (.slice none 0 0)) => true
  | .move (.const (.slice none 0 0)) => true
  | _ => false

def nilE (t : TypeId) : Option (Nat × ET) :=
  match P.underlying t with
  | some (.slice e) => match EQ.mks e with
    | some τ => some (e, τ)
    | none => none
  | _ => none

def opO (o : Oper) (T : TS) (M : List Blk) (N : Nat) : Tm :=
  bif isNil o.op then (match nilE P EQ o.type with
    | some p => .leaf (.v (.c (.aslice N none))) [(N, .arr (some p.1) p.2 [])]
    | none => opR P G EQ o.op T M N)
  else opR P G EQ o.op T M N

def refsA : AV → List Nat
  | .v (.c (.ptr b _)) => [b]
  | .v (.c (.slice b _ _ _)) => [b]
  | .v (.c (.aslice b _)) => [b]
  | .v (.c (.eptr b _ _)) => [b]
  | .v (.c (.fn _ l)) => l
  | _ => []

def refsO (T : TS) (x : Operand) : List Nat :=
  match opdV T x with
  | some v => refsA v
  | none => []

def readsOf (o : Op) (T : TS) : List Nat :=
  match o with
  | .load _ a => refsO T a
  | .store _ a _ => refsO T a
  | .slice _ x _ _ _ => refsO T x
  | .indexAddr _ x _ => refsO T x
  | .call c => (match c.callee with | .value g => refsO T g | _ => []) ++ c.args.toList.flatMap (refsO T)
  | _ => []

def looksO : List Operand → List Tmp
  | [] => []
  | .tmp t :: r => t :: looksO r
  | _ :: r => looksO r

structure Tr where
  did : Bool
  val : AV
  ss : Sets
  rd : List Nat

def Tr.skip : Tr := ⟨false, undefA, [], []⟩

def nextN (dr : Bool) (N : Nat) (s : Sets) : Nat := bif dr || s.any (fun x => x.1 == N) then N + 1 else N

def dstOf (ops : List Oper) (j : Nat) : Option Tmp := (ops[j]?).bind (·.dst)

def setT (T : TS) (d : Option Tmp) (v : AV) : TS :=
  match d with
  | some t => tset v T t
  | none => T

def befores : List Oper → List Nat → List Nat
  | [], acc => acc
  | o :: r, acc => befores r (acc ++ [o.after.toList.foldl (fun s e => bif Region.binds .any e then s ||| (2 ^ e.on) ||| acc.getD e.on 0 else s) 0])

def edgesBack : List Oper → Nat → Bool
  | [], _ => true
  | o :: r, i => o.after.toList.all (fun e => !(Region.binds .any e) || Nat.blt e.on i) && edgesBack r (i + 1)

def looksOf (ops : List Oper) (o : Oper) : List Tmp :=
  looksO o.op.operands.toList ++ (match o.guard with
    | some (g, _) => (dstOf ops g).toList
    | none => [])

def memD (l : List Nat) (x : Nat) : Bool := l.any (· == x)

def meetsL (l r : List Nat) : Bool := l.any (memD r)

def freeT (ops : List Oper) (x y : Oper) : Bool :=
  (match x.dst with
   | some d => !(memD (looksOf ops y) d) && (match y.dst with | some d' => !(d == d') | none => true)
   | none => true) &&
  (match y.dst with
   | some d => !(memD (looksOf ops x) d)
   | none => true)

def freeM (x y : Tr) : Bool :=
  !(meetsL (x.ss.map (·.1)) (y.rd ++ y.ss.map (·.1))) && !(meetsL (y.ss.map (·.1)) x.rd)

def pairsOk (ops : List Oper) (bef : List Nat) (tr : List Tr) : Bool :=
  (List.range ops.length).all fun j => (List.range j).all fun i =>
    (bef.getD j 0).testBit i ||
    (match ops[i]?, ops[j]?, tr[i]?, tr[j]? with
     | some x, some y, some t, some u => freeT ops x y && freeM t u
     | _, _, _, _ => false)

def pairsStill (ops : List Oper) (bef : List Nat) : Bool :=
  (List.range ops.length).all fun j => (List.range j).all fun i =>
    (bef.getD j 0).testBit i ||
    (match ops[i]?, ops[j]? with
     | some x, some y => freeT ops x y
     | _, _ => false)

def quietT : List Tr → Bool
  | [] => true
  | u :: r => match u.ss with
    | [] => quietT r
    | _ :: _ => false

def drawOk (ops : List Oper) (tr : List Tr) : Bool :=
  edgesBack ops 0 && ((quietT tr && pairsStill ops (befores ops [])) || pairsOk ops (befores ops []) tr)

def noNew : Nat → List Tr → Bool
  | _, [] => true
  | N, u :: r => !(u.ss.any fun p => p.1 == N) && noNew (N + 1) r

def endN (N N' : Nat) (tr : List Tr) : Nat := bif noNew N tr then N else N'

inductive LT where
  | no
  | st (x : Ex) (T : TS) (M : List Blk) (N : Nat)
  | br (b : Bool) (x y : LT)

def LT.run : LT → (Ex → TS → List Blk → Nat → Ans) → Ans
  | .no, _ => none
  | .st x T M N, K => K x T M N
  | .br b x y, K => bif b then x.run K else y.run K

def loopKey : Code → Nat
  | .region id _ _ => id
  | .seq a _ => loopKey a
  | .block _ b => loopKey b
  | .loop b => loopKey b
  | _ => 0

def loopsIn : Code → List Code
  | .seq a b => loopsIn a ++ loopsIn b
  | .cond _ a b => loopsIn a ++ loopsIn b
  | .block _ b => loopsIn b
  | .loop b => b :: loopsIn b
  | _ => []

def resD (T : TS) (M : List Blk) : ResultVar → Option V
  | .tmp t => match tget T t with
    | .v x => some x
    | _ => none
  | .cell a t => match tget T a with
    | .v (.c (.ptr b o)) => match mget M b with
      | .cell _ c => match o, aggD P t with
        | 0, some false => some (.c c)
        | _, _ => none
      | y => match y.data with
        | some l => partD P t l o
        | none => none
    | _ => none

def resDs (T : TS) (M : List Blk) : List ResultVar → Option (List V)
  | [] => some []
  | x :: r => match resD P T M x, resDs T M r with
    | some v, some l => some (v :: l)
    | _, _ => none

def tupD : List V → AV
  | [x] => .v x
  | l => .tup l

def frameT (args : List AV) (k : Nat) : TS := ⟨args.length + k, undefA, numA 0 args⟩

section
variable (Γ : Nat → List AV → List Blk → (AV → List Blk → Ans) → Ans) (X : Nat → List AV → (AV → Ans) → Ans) (Λ : Nat → TS → List Blk → Nat → LT)

def evOps (dr : Bool) (ops : List Oper) : List Oper → TS → List Blk → Nat → List Tr → (TS → List Blk → Nat → List Tr → Ans) → Ans
  | [], T, M, N, tr, K => K T M N tr
  | o :: r, T, M, N, tr, K =>
    match o.guard with
    | none => (opO P G EQ o T M N).run Γ X fun v s => evOps dr ops r (setT T o.dst v) (puts M s) (nextN dr N s) (⟨true, v, s, readsOf o.op T⟩ :: tr) K
    | some g => match dstOf ops g.1 with
      | none => none
      | some d => match tget T d with
        | .v (.c (.d (.bool b))) =>
          bif b then
            (match g.2 with
             | true => (opO P G EQ o (tfix (abool true) T d) M N).run Γ X fun v s => evOps dr ops r (setT (tfix (abool true) T d) o.dst v) (puts M s) (nextN dr N s) (⟨true, v, s, readsOf o.op T⟩ :: tr) K
             | false => evOps dr ops r (setT (tfix (abool true) T d) o.dst undefA) M (nextN dr N []) (.skip :: tr) K)
          else
            (match g.2 with
             | false => (opO P G EQ o (tfix (abool false) T d) M N).run Γ X fun v s => evOps dr ops r (setT (tfix (abool false) T d) o.dst v) (puts M s) (nextN dr N s) (⟨true, v, s, readsOf o.op T⟩ :: tr) K
             | true => evOps dr ops r (setT (tfix (abool false) T d) o.dst undefA) M (nextN dr N []) (.skip :: tr) K)
        | .tup [] => evOps dr ops r (setT T o.dst undefA) M (nextN dr N []) (.skip :: tr) K
        | _ => none

def evCode : Nat → Code → TS → List Blk → Nat → (Ex → TS → List Blk → Nat → Ans) → Ans
  | 0, _, _, _, _, _ => none
  | n + 1, c, T, M, N0, K =>
    match c with
    | .skip => K .normal T M N0
    | .region _ ops false => evOps P G EQ Γ X false ops.toList ops.toList T M N0 [] fun T M N _ => K .normal T M N
    | .region _ ops true => evOps P G EQ Γ X true ops.toList ops.toList T M N0 [] fun T M N tr =>
        bif drawOk ops.toList tr.reverse then K .normal T M (endN N0 N tr.reverse) else none
    | .seq a b => evCode n a T M N0 fun x T M N => match x with
      | .normal => evCode n b T M N K
      | x => K x T M N
    | .cond c a b => match opdV T c with
      | some (.v (.c (.d (.bool x)))) => bif x then evCode n a T M N0 K else evCode n b T M N0 K
      | _ => none
    | .block id b => evCode n b T M N0 fun x T M N => match x with
      | .exit id' => bif id' == id then K .normal T M N else K (.exit id') T M N
      | x => K x T M N
    | .loop b => match Λ (loopKey b) T M N0 with
      | .no => evCode n b T M N0 fun x T M N => match x with
        | .normal => evCode n (.loop b) T M N K
        | x => K x T M N
      | t => t.run K
    | .exit id => K (.exit id) T M N0
    | .ret => K .ret T M N0
    | _ => none

def evFn (n f : Nat) (args : List AV) (M : List Blk) (K : AV → List Blk → Ans) : Ans :=
  match P.funcs[f]? with
  | none => none
  | some fn => match fn.body with
    | none => none
    | some c => evCode P G EQ Γ X Λ n c (frameT args (fn.ntmps - args.length)) M M.length fun x T M _ => match x with
      | .exit _ => none
      | _ => match resDs P T M fn.results.toList with
        | some l => K (tupD l) M
        | none => none
end
end
end Go.Ev

namespace Go.Ev

theorem wr_eq (k : IntKind) (n : Int) : wr k n = k.wrap n := by
  cases k
  case i64 => exact (IntKind.wrap_i64 n).symm
  case u64 => exact (IntKind.wrap_u64 n).symm
  case u8 => exact (IntKind.wrap_u8 n).symm
  all_goals rfl

theorem inR_iff {k : IntKind} {n : Int} : inR k n = true ↔ k.has n := by
  unfold IntKind.has
  cases k <;> simp only [inR, Bool.and_eq_true, decide_eq_true_eq] <;> rfl

theorem wr_ok (k : IntKind) (n : Int) : inR k (wr k n) = true := by
  rw [inR_iff, wr_eq]
  cases k <;> simp only [IntKind.has, IntKind.wrap, IntKind.min, IntKind.max, IntKind.bits, IntKind.signed] <;> simp <;> (try split) <;> omega

structure Loc where
  blk : Nat
  off : Nat
  size : Nat
  own : Bool
  n : Nat
  es : Nat

abbrev Sg := Nat → Option Loc

def Sg.le (σ τ : Sg) : Prop := ∀ b L, σ b = some L → τ b = some L

theorem Sg.le_refl (σ : Sg) : σ.le σ := fun _ _ h => h
theorem Sg.le_trans {σ τ υ : Sg} (h : σ.le τ) (k : τ.le υ) : σ.le υ := fun b L e => k b L (h b L e)

def PRel (σ : Sg) : List Nat → List Value → Prop
  | [], [] => True
  | c :: r, v :: s => (∃ L, σ c = some L ∧ v = .pointer (some ⟨L.blk, L.off, none⟩)) ∧ PRel σ r s
  | _, _ => False

def CRel (σ : Sg) : C → Value → Prop
  | .d x, v => v = x.val ∧ x.ok
  | .ptr b o, v => ∃ L, σ b = some L ∧ v = .pointer (some ⟨L.blk, L.off + o, none⟩)
  | .slice b o n e, v => ∃ L cap, σ b = some L ∧ v = .slice (some ⟨L.blk, L.off + o, none⟩) n cap ∧ n ≤ cap ∧ n ≤ maxLen ∧ (L.own = true → o = 0 → cap * e ≤ L.size ∧ cap ≤ maxLen)
  | .nilS, v => v = .slice none 0 0
  | .fn f caps, v => ∃ vs, v = .func (.func f) #[] vs ∧ PRel σ caps vs.toList
  | .aslice b k, v => ∃ L, σ b = some L ∧ match k with
    | none => (L.n = 0 ∧ v = .slice none 0 0) ∨ ∃ cap, v = .slice (some ⟨L.blk, L.off, none⟩) L.n cap ∧ L.n ≤ cap ∧ L.n ≤ maxLen ∧ (L.own = true → cap * L.es ≤ L.size ∧ cap ≤ maxLen ∧ (L.n = 0 → cap = 0))
    | some h => 0 < h ∧ h ≤ L.n ∧ ∃ cap, v = .slice (some ⟨L.blk, L.off, none⟩) h cap ∧ h ≤ cap ∧ h ≤ maxLen
  | .eptr b i o, v => ∃ L, σ b = some L ∧ v = .pointer (some ⟨L.blk, L.off + (i * L.es + o), none⟩) ∧ i < L.n

def VRel (σ : Sg) : V → Value → Prop
  | .c x, v => CRel σ x v
  | .agg l, v => v = .agg (l.map D.val).toArray ∧ ∀ d ∈ l, d.ok

def VRels (σ : Sg) : List V → List Value → Prop
  | [], [] => True
  | x :: r, v :: s => VRel σ x v ∧ VRels σ r s
  | _, _ => False

def AVRel (σ : Sg) : AV → Value → Prop
  | .v x, v => VRel σ x v
  | .tup l, v => ∃ vs, v = .tuple vs ∧ VRels σ l vs.toList
  | .any, _ => True

def AVRels (σ : Sg) : List AV → List Value → Prop
  | [], [] => True
  | x :: r, v :: s => AVRel σ x v ∧ AVRels σ r s
  | _, _ => False

theorem PRel.mono {σ τ : Sg} (h : σ.le τ) : ∀ {l : List Nat} {vs : List Value}, PRel σ l vs → PRel τ l vs
  | [], [], _ => trivial
  | _ :: _, _ :: _, ⟨⟨L, h1, h2⟩, h3⟩ => ⟨⟨L, h _ _ h1, h2⟩, PRel.mono h h3⟩
  | [], _ :: _, hh => hh.elim
  | _ :: _, [], hh => hh.elim

theorem CRel.mono {σ τ : Sg} (h : σ.le τ) : ∀ {x : C} {v : Value}, CRel σ x v → CRel τ x v
  | .d _, _, hh => hh
  | .ptr _ _, _, ⟨L, h1, h2⟩ => ⟨L, h _ _ h1, h2⟩
  | .slice _ _ _ _, _, ⟨L, cap, h1, h2⟩ => ⟨L, cap, h _ _ h1, h2⟩
  | .nilS, _, hh => hh
  | .fn _ _, _, ⟨vs, h1, h2⟩ => ⟨vs, h1, h2.mono h⟩
  | .aslice _ _, _, ⟨L, h1, h2⟩ => ⟨L, h _ _ h1, h2⟩
  | .eptr _ _ _, _, ⟨L, h1, h2⟩ => ⟨L, h _ _ h1, h2⟩

theorem VRel.mono {σ τ : Sg} (h : σ.le τ) : ∀ {x : V} {v : Value}, VRel σ x v → VRel τ x v
  | .c _, _, hh => CRel.mono h hh
  | .agg _, _, hh => hh

theorem VRels.mono {σ τ : Sg} (h : σ.le τ) : ∀ {x : List V} {v : List Value}, VRels σ x v → VRels τ x v
  | [], [], _ => trivial
  | _ :: _, _ :: _, ⟨h1, h2⟩ => ⟨VRel.mono h h1, VRels.mono h h2⟩
  | [], _ :: _, hh => hh.elim
  | _ :: _, [], hh => hh.elim

theorem AVRel.mono {σ τ : Sg} (h : σ.le τ) : ∀ {x : AV} {v : Value}, AVRel σ x v → AVRel τ x v
  | .v _, _, hh => VRel.mono h hh
  | .tup _, _, ⟨vs, h1, h2⟩ => ⟨vs, h1, h2.mono h⟩
  | .any, _, _ => trivial

theorem AVRels.mono {σ τ : Sg} (h : σ.le τ) : ∀ {x : List AV} {v : List Value}, AVRels σ x v → AVRels τ x v
  | [], [], _ => trivial
  | _ :: _, _ :: _, ⟨h1, h2⟩ => ⟨AVRel.mono h h1, AVRels.mono h h2⟩
  | [], _ :: _, hh => hh.elim
  | _ :: _, [], hh => hh.elim

theorem AVRels.length {σ : Sg} : ∀ {x : List AV} {v : List Value}, AVRels σ x v → x.length = v.length
  | [], [], _ => rfl
  | _ :: _, _ :: _, ⟨_, h2⟩ => by simp [AVRels.length h2]
  | [], _ :: _, hh => hh.elim
  | _ :: _, [], hh => hh.elim

theorem AVRels.append {σ : Sg} : ∀ {x y : List AV} {v u : List Value}, AVRels σ x v → AVRels σ y u → AVRels σ (x ++ y) (v ++ u)
  | [], _, [], _, _, h => h
  | _ :: _, _, _ :: _, _, ⟨h1, h2⟩, h => ⟨h1, AVRels.append h2 h⟩
  | [], _, _ :: _, _, hh, _ => hh.elim
  | _ :: _, _, [], _, hh, _ => hh.elim

theorem gets_eq {α : Type} (z : α) : ∀ (l : List α) (n : Nat), gets z l n = l.getD n z
  | [], _ => by simp [gets]
  | _ :: _, 0 => rfl
  | _ :: t, n + 1 => by simpa [gets] using gets_eq z t n

theorem tget_tset (y : AV) (T : TS) (n m : Nat) : tget (tset y T n) m = if m = n ∧ n < T.length then y else tget T m := by
  unfold tset TS.length
  by_cases h : n < T.n
  · rw [show Nat.blt n T.n = true from (by rw [Nat.blt_eq]; exact h), cond_true]
    simp only [tget, tfind, h, and_true]
    by_cases e : m = n
    · subst e; simp
    · have : Nat.beq n m = false := by
        cases hb : Nat.beq n m with
        | false => rfl
        | true => exact absurd (Nat.eq_of_beq_eq_true hb).symm e
      rw [this, cond_false, if_neg e]
  · have : Nat.blt n T.n = false := by
      cases hb : Nat.blt n T.n with
      | false => rfl
      | true => rw [Nat.blt_eq] at hb; exact absurd hb h
    rw [this, cond_false, if_neg (fun hh => h hh.2)]

theorem lfix_same {z v : AV} : ∀ {l : List (Nat × AV)} {i : Nat}, tfind z l i = v → lfix v l i = l
  | [], _, _ => rfl
  | p :: r, i, h => by
    rw [tfind] at h
    rw [lfix]
    cases hb : Nat.beq p.1 i with
    | true => rw [hb, cond_true] at h; rw [cond_true, ← h]
    | false => rw [hb, cond_false] at h; rw [cond_false, lfix_same h]

theorem tfix_same {v : AV} {T : TS} {i : Nat} (h : tget T i = v) : tfix v T i = T := by
  cases T
  simp only [tget] at h
  simp only [tfix, lfix_same h]

theorem length_tset (y : AV) (T : TS) (n : Nat) : (tset y T n).length = T.length := by
  unfold tset TS.length
  cases Nat.blt n T.n <;> rfl

theorem mget_mput : ∀ (M : List Blk) (b b' : Nat) (y : Blk), mget (mput M b y) b' = if b' = b then y else mget M b'
  | [], 0, 0, y => by simp [mput, mget, gets]
  | [], 0, b' + 1, y => by simp [mput, mget, gets]
  | [], b + 1, 0, y => by simp [mput, mget, gets]
  | [], b + 1, b' + 1, y => by
    have := mget_mput [] b b' y
    simp only [mput, mget, gets] at this ⊢
    rw [this]
    simp
  | x :: t, 0, 0, y => by simp [mput, mget, gets]
  | x :: t, 0, b' + 1, y => by simp [mput, mget, gets]
  | x :: t, b + 1, 0, y => by simp [mput, mget, gets]
  | x :: t, b + 1, b' + 1, y => by
    have := mget_mput t b b' y
    simp only [mput, mget, gets] at this ⊢
    rw [this]
    simp

def lastSet : Sets → Nat → Option Blk
  | [], _ => none
  | p :: r, b => match lastSet r b with
    | some y => some y
    | none => if p.1 = b then some p.2 else none

theorem mget_puts : ∀ (s : Sets) (M : List Blk) (b : Nat), mget (puts M s) b = (lastSet s b).getD (mget M b)
  | [], M, b => rfl
  | p :: r, M, b => by
    rw [show puts M (p :: r) = puts (mput M p.1 p.2) r from rfl, mget_puts r, mget_mput]
    simp only [lastSet]
    cases h : lastSet r b with
    | some y => rfl
    | none =>
      by_cases hb : p.1 = b
      · simp [hb]
      · simp [hb, Ne.symm hb]

theorem puts_append : ∀ (s r : Sets) (M : List Blk), puts M (s ++ r) = puts (puts M s) r
  | [], _, _ => rfl
  | p :: s, r, M => puts_append s r (mput M p.1 p.2)

theorem lastSet_none {s : Sets} {b : Nat} (h : ∀ p ∈ s, p.1 ≠ b) : lastSet s b = none := by
  induction s with
  | nil => rfl
  | cons p r ih => simp [lastSet, ih (fun q hq => h q (by simp [hq])), h p (by simp)]

def BRel (σ : Sg) (b : Nat) (y : Blk) (w : World) : Prop :=
  match y with
  | .dead => True
  | .ro l => ∃ L, σ b = some L ∧ L.own = false ∧ (∀ d ∈ l, d.ok) ∧ ∀ j d, l[j]? = some d → w.cell? ⟨L.blk, L.off + j, none⟩ = some d.val
  | .rw t l => ∃ L cur, σ b = some L ∧ L.off = 0 ∧ L.own = true ∧ w.heap[L.blk]? = some (.cells cur t (0, 0)) ∧ cur.size = L.size ∧ (∀ d ∈ l, d.ok) ∧ cur.toList.take l.length = l.map D.val
  | .arr own τ xs => ∃ L, σ b = some L ∧ L.n = xs.length ∧ L.es = τ.len ∧ (∀ d ∈ τ.flat xs, d.ok) ∧ (match own with
    | none => L.own = false ∧ ∀ j d, (τ.flat xs)[j]? = some d → w.cell? ⟨L.blk, L.off + j, none⟩ = some d.val
    | some t => L.own = true ∧ L.off = 0 ∧ (xs = [] ∨ ∃ cur, w.heap[L.blk]? = some (.cells cur t (0, 0)) ∧ cur.size = L.size ∧ cur.toList.take (τ.flat xs).length = (τ.flat xs).map D.val))
  | .cell t c => ∃ L v, σ b = some L ∧ L.off = 0 ∧ L.own = true ∧ L.size = 1 ∧ w.heap[L.blk]? = some (.cells #[v] t (0, 0)) ∧ CRel σ c v

structure Kept (W : Nat → Prop) (w w' : World) : Prop where
  os : w'.os = w.os
  tape : w'.tape = w.tape
  output : w'.output = w.output
  size : w.heap.size ≤ w'.heap.size
  block : ∀ k, k < w.heap.size → ¬ W k → w'.heap[k]? = w.heap[k]?

theorem Kept.refl (W : Nat → Prop) (w : World) : Kept W w w := ⟨rfl, rfl, rfl, Nat.le_refl _, fun _ _ _ => rfl⟩
theorem Kept.trans {W : Nat → Prop} {a b c : World} (h : Kept W a b) (k : Kept W b c) : Kept W a c :=
  ⟨k.os.trans h.os, k.tape.trans h.tape, k.output.trans h.output, Nat.le_trans h.size k.size,
   fun i hi hn => (k.block i (Nat.lt_of_lt_of_le hi h.size) hn).trans (h.block i hi hn)⟩
theorem Kept.trans' {W V : Nat → Prop} {a b c : World} (h : Kept W a b) (k : Kept V b c) (hv : ∀ i, V i → W i ∨ a.heap.size ≤ i) : Kept W a c :=
  ⟨k.os.trans h.os, k.tape.trans h.tape, k.output.trans h.output, Nat.le_trans h.size k.size,
   fun i hi hn => (k.block i (Nat.lt_of_lt_of_le hi h.size) (fun hV => by rcases hv i hV with h1 | h1; exact hn h1; omega)).trans (h.block i hi hn)⟩

structure Glob (G : Nat → Option (List D)) (gb : Nat) (W : Nat → Prop) (w : World) : Prop where
  le : gb ≤ w.heap.size
  high : ∀ k, W k → gb ≤ k
  cell : ∀ g l, G g = some l → g < gb ∧ (∀ d ∈ l, d.ok) ∧ ∀ j d, l[j]? = some d → w.cell? ⟨g, j, none⟩ = some d.val

structure MRel (w0 : World) (W : Nat → Prop) (σ : Sg) (M : List Blk) (w : World) : Prop where
  blk : ∀ b, BRel σ b (mget M b) w
  sep : ∀ b b' L L', b ≠ b' → (mget M b).wr = true → (mget M b').live = true → σ b = some L → σ b' = some L' → L.blk ≠ L'.blk
  own : ∀ b L, (mget M b).wr = true → σ b = some L → W L.blk ∨ w0.heap.size ≤ L.blk
  kept : Kept W w0 w

theorem BRel.mono {σ τ : Sg} (h : σ.le τ) {b : Nat} {y : Blk} {w : World} (hh : BRel σ b y w) : BRel τ b y w := by
  cases y with
  | dead => trivial
  | ro l => obtain ⟨L, h1, h2⟩ := hh; exact ⟨L, h _ _ h1, h2⟩
  | rw t l => obtain ⟨L, cur, h1, h2⟩ := hh; exact ⟨L, cur, h _ _ h1, h2⟩
  | arr own τ' xs => obtain ⟨L, h1, h2⟩ := hh; exact ⟨L, h _ _ h1, h2⟩
  | cell t c => obtain ⟨L, v, h1, h2, h3, h4, h5, h6⟩ := hh; exact ⟨L, v, h _ _ h1, h2, h3, h4, h5, h6.mono h⟩

theorem wr_live {y : Blk} (h : y.wr = true) : y.live = true := by
  cases y with
  | dead => cases h
  | ro l => cases h
  | rw t l => rfl
  | arr own τ xs => cases xs with | nil => cases own <;> cases h | cons _ _ => rfl
  | cell t c => rfl

theorem cell_of_heap {w : World} {B o : Nat} {cur : Array Value} {t : TypeId} {fr : Nat × Nat} (h : w.heap[B]? = some (.cells cur t fr)) : w.cell? ⟨B, o, none⟩ = cur[o]? := by
  simp [World.cell?, h]

theorem BRel.elems {σ : Sg} {b : Nat} {own : Option Nat} {τ : ET} {xs : List τ.T} {w : World} (hh : BRel σ b (.arr own τ xs) w) :
    ∃ L, σ b = some L ∧ L.n = xs.length ∧ L.es = τ.len ∧ L.own = own.isSome ∧ (∀ d ∈ τ.flat xs, d.ok) ∧ ∀ j d, (τ.flat xs)[j]? = some d → w.cell? ⟨L.blk, L.off + j, none⟩ = some d.val := by
  obtain ⟨L, h1, h2, h3, h4, h5⟩ := hh
  cases own with
  | none => exact ⟨L, h1, h2, h3, h5.1, h4, h5.2⟩
  | some t =>
    obtain ⟨h6, h7, h8⟩ := h5
    refine ⟨L, h1, h2, h3, h6, h4, fun j d hj => ?_⟩
    rcases h8 with rfl | ⟨cur, h8, h9, h10⟩
    · simp [ET.flat] at hj
    · rw [cell_of_heap h8, h7, Nat.zero_add]
      have hlt : j < (τ.flat xs).length := (List.getElem?_eq_some_iff.1 hj).1
      have : (cur.toList.take (τ.flat xs).length)[j]? = ((τ.flat xs).map D.val)[j]? := by rw [h10]
      rw [List.getElem?_take, if_pos hlt, List.getElem?_map, hj] at this
      simpa using this

theorem BRel.cell {σ : Sg} {b : Nat} {y : Blk} {w : World} {l : List D} (hh : BRel σ b y w) (hl : y.data = some l) :
    ∃ L, σ b = some L ∧ (∀ d ∈ l, d.ok) ∧ ∀ j d, l[j]? = some d → w.cell? ⟨L.blk, L.off + j, none⟩ = some d.val := by
  cases y with
  | dead => simp [Blk.data] at hl
  | arr own τ xs => simp [Blk.data] at hl
  | cell t c => simp [Blk.data] at hl
  | ro l' =>
    simp only [Blk.data, Option.some.injEq] at hl
    subst hl
    obtain ⟨L, h1, _, h2⟩ := hh
    exact ⟨L, h1, h2⟩
  | rw t l' =>
    simp only [Blk.data, Option.some.injEq] at hl
    subst hl
    obtain ⟨L, cur, h1, h2, _, h4, _, hok, h6⟩ := hh
    refine ⟨L, h1, hok, fun j d hj => ?_⟩
    rw [cell_of_heap h4, h2, Nat.zero_add]
    have hlt : j < l'.length := (List.getElem?_eq_some_iff.1 hj).1
    have : (cur.toList.take l'.length)[j]? = (l'.map D.val)[j]? := by rw [h6]
    rw [List.getElem?_take, if_pos hlt, List.getElem?_map, hj] at this
    simpa using this

theorem oneCell_val (d : D) : d.val.oneCell' = true := by cases d <;> rfl

theorem toD_val {v : Value} {d : D} (h : toD v = some d) : v = d.val ∧ d.ok := by
  unfold toD at h
  split at h
  · cases h; exact ⟨rfl, trivial⟩
  · simp only [cond_eq_ite] at h
    split at h
    · rename_i hr; cases h; exact ⟨rfl, hr⟩
    · cases h
  · simp only [cond_eq_ite, Nat.ble_eq] at h
    split at h
    · rename_i hr; cases h; exact ⟨rfl, by simp only [D.ok]; omega⟩
    · cases h
  · cases h

theorem toDs_val : ∀ {vs : List Value} {l : List D}, toDs vs = some l → vs = l.map D.val ∧ ∀ d ∈ l, d.ok
  | [], l, h => by simp [toDs] at h; subst h; exact ⟨rfl, by simp⟩
  | v :: r, l, h => by
    simp only [toDs] at h
    split at h
    · rename_i d l' h1 h2
      simp only [Option.some.injEq] at h
      subst h
      obtain ⟨e1, o1⟩ := toD_val h1
      obtain ⟨e2, o2⟩ := toDs_val h2
      exact ⟨by simp [e1, e2], by simp only [List.mem_cons]; rintro d (rfl | hd); exact o1; exact o2 d hd⟩
    · cases h

theorem ofValue_rel {σ : Sg} {v : Value} {x : AV} (h : ofValue v = some x) : AVRel σ x v := by
  unfold ofValue at h
  split at h
  · cases h; exact ⟨rfl, trivial⟩
  · simp only [cond_eq_ite] at h
    split at h
    · rename_i hr; cases h; exact ⟨rfl, hr⟩
    · cases h
  · simp only [cond_eq_ite, Nat.ble_eq] at h
    split at h
    · rename_i hr; cases h; exact ⟨rfl, by simp only [D.ok]; omega⟩
    · cases h
  · cases h; rfl
  · split at h
    · rename_i cs l hl
      cases h
      obtain ⟨e, o⟩ := toDs_val hl
      exact ⟨by rw [← e], o⟩
    · cases h
  · cases h

structure TRel (σ : Sg) (T : TS) (a : Act) : Prop where
  len : T.length = a.tmps.size
  val : ∀ t, AVRel σ (tget T t) (a.tmps.getD t undef)
  df : a.defers = []

theorem TRel.mono {σ τ : Sg} (h : σ.le τ) {T : TS} {a : Act} (hh : TRel σ T a) : TRel τ T a := ⟨hh.len, fun t => (hh.val t).mono h, hh.df⟩

theorem TRel.put {σ : Sg} {T : TS} {a : Act} (hh : TRel σ T a) (d : Option Tmp) {x : AV} {v : Value} (hx : AVRel σ x v) : TRel σ (setT T d x) (a.put d v) := by
  cases d with
  | none => exact hh
  | some d =>
    refine ⟨?_, fun t => ?_, ?_⟩
    · simp [setT, length_tset, Act.put, hh.len]
    · simp only [setT, tget_tset, Act.put, Array.getD_eq_getD_getElem?, Array.getElem?_setIfInBounds]
      by_cases h : t = d
      · subst h
        by_cases hl : t < T.length
        · have hl' : t < a.tmps.size := by rw [← hh.len]; exact hl
          simp [hl, hl', hx]
        · have hl' : ¬ t < a.tmps.size := by rw [← hh.len]; exact hl
          have := hh.val t
          simp only [Array.getD_eq_getD_getElem?] at this
          simp [hl, hl']
          simpa [hl'] using this
      · have := hh.val t
        simp only [Array.getD_eq_getD_getElem?] at this
        have h' : ¬ d = t := fun e => h e.symm
        simp [h, h']
        exact this
    · exact hh.df

theorem opdV_rel {σ : Sg} {T : TS} {a : Act} (hh : TRel σ T a) {x : Operand} {v : AV} (h : opdV T x = some v) : AVRel σ v (a.eval x) := by
  cases x with
  | tmp t => simp only [opdV, Option.some.injEq] at h; subst h; exact hh.val t
  | const c =>
    simp only [opdV] at h
    split at h
    · rename_i x hx; cases h; exact ofValue_rel hx
    · cases h; trivial
  | global g => cases h
  | func f => simp only [opdV, Option.some.injEq] at h; subst h; exact ⟨#[], rfl, trivial⟩

theorem opdVs_rel {σ : Sg} {T : TS} {a : Act} (hh : TRel σ T a) : ∀ {xs : List Operand} {vs : List AV}, opdVs T xs = some vs → AVRels σ vs (xs.map a.eval)
  | [], vs, h => by simp only [opdVs, Option.some.injEq] at h; subst h; trivial
  | x :: r, vs, h => by
    simp only [opdVs] at h
    split at h
    · rename_i v l h1 h2
      simp only [Option.some.injEq] at h
      subst h
      exact ⟨opdV_rel hh h1, opdVs_rel hh h2⟩
    · cases h

theorem cellsA_rel {σ : Sg} {x : AV} {v : Value} {l : List D} (h : cellsA x = some l) (hr : AVRel σ x v) : v.cells = (l.map D.val).toArray ∧ ∀ d ∈ l, d.ok := by
  unfold cellsA at h
  split at h
  · cases h; obtain ⟨rfl, o⟩ := hr; exact ⟨rfl, o⟩
  · cases h
    rename_i d
    obtain ⟨rfl, o⟩ := hr
    refine ⟨by cases d <;> rfl, by simpa using o⟩
  · cases h

theorem BRel.of_block {σ : Sg} {b : Nat} {y : Blk} {w w' : World} (hh : BRel σ b y w) (hk : ∀ L, σ b = some L → y.live = true → L.blk < w.heap.size → w'.heap[L.blk]? = w.heap[L.blk]?) : BRel σ b y w' := by
  cases y with
  | dead => trivial
  | ro l =>
    obtain ⟨L, h1, h2, hok, h3⟩ := hh
    refine ⟨L, h1, h2, hok, fun j d hj => ?_⟩
    have hc := h3 j d hj
    have hlt := World.block_lt_of_cell? w _ hc
    have hlive : (Blk.ro l).live = true := by cases l with | nil => simp at hj | cons _ _ => rfl
    rw [World.cell?_of_block (w := w) (hk L h1 hlive hlt)]
    exact hc
  | rw t l =>
    obtain ⟨L, cur, h1, h2, h3, h4, h5⟩ := hh
    refine ⟨L, cur, h1, h2, h3, ?_, h5⟩
    rw [hk L h1 rfl (Array.getElem?_eq_some_iff.1 h4).1]
    exact h4
  | arr own τ xs =>
    obtain ⟨L, h1, h2, h3, h4, h5⟩ := hh
    refine ⟨L, h1, h2, h3, h4, ?_⟩
    cases own with
    | none =>
      refine ⟨h5.1, fun j d hj => ?_⟩
      have hc := h5.2 j d hj
      have hlt := World.block_lt_of_cell? w _ hc
      have hlive : (Blk.arr none τ xs).live = true := by cases xs with | nil => simp [ET.flat] at hj | cons _ _ => rfl
      rw [World.cell?_of_block (w := w) (hk L h1 hlive hlt)]
      exact hc
    | some t =>
      obtain ⟨h6, h7, h8⟩ := h5
      refine ⟨h6, h7, ?_⟩
      cases xs with
      | nil => exact .inl rfl
      | cons x r =>
        rcases h8 with h8 | ⟨cur, h8, h9⟩
        · cases h8
        · refine .inr ⟨cur, ?_, h9⟩
          rw [hk L h1 rfl (Array.getElem?_eq_some_iff.1 h8).1]
          exact h8
  | cell t c =>
    obtain ⟨L, v, h1, h2, h3, h4, h5, h6⟩ := hh
    refine ⟨L, v, h1, h2, h3, h4, ?_, h6⟩
    rw [hk L h1 rfl (Array.getElem?_eq_some_iff.1 h5).1]
    exact h5

theorem cells_len (τ : ET) (x : τ.T) : (τ.cells x).length = τ.len := by cases τ <;> rfl

theorem len_pos (τ : ET) : 0 < τ.len := by cases τ <;> decide

theorem flat_len (τ : ET) : ∀ xs : List τ.T, (τ.flat xs).length = xs.length * τ.len
  | [] => by simp [ET.flat]
  | x :: r => by
    rw [ET.flat, List.length_append, cells_len, flat_len τ r, List.length_cons, Nat.succ_mul, Nat.add_comm]

theorem BRel.live_lt {σ : Sg} {b : Nat} {y : Blk} {w : World} {L : Loc} (hh : BRel σ b y w) (hl : y.live = true) (hL : σ b = some L) : L.blk < w.heap.size := by
  cases y with
  | dead => cases hl
  | ro l =>
    cases l with
    | nil => cases hl
    | cons d r =>
      obtain ⟨L', h1, _, _, h3⟩ := hh
      rw [hL] at h1
      cases h1
      exact World.block_lt_of_cell? w _ (h3 0 d rfl)
  | rw t l =>
    obtain ⟨L', cur, h1, _, _, h4, _⟩ := hh
    rw [hL] at h1
    cases h1
    exact (Array.getElem?_eq_some_iff.1 h4).1
  | arr own τ xs =>
    cases xs with
    | nil => cases hl
    | cons x r =>
      obtain ⟨L', h1, _, _, _, _, h3⟩ := hh.elems
      rw [hL] at h1
      cases h1
      have hlt : 0 < (τ.flat (x :: r)).length := by rw [flat_len]; exact Nat.mul_pos (Nat.succ_pos _) (len_pos τ)
      exact World.block_lt_of_cell? w _ (h3 0 _ (List.getElem?_eq_getElem hlt))
  | cell t c =>
    obtain ⟨L', v, h1, _, _, _, h4, _⟩ := hh
    rw [hL] at h1
    cases h1
    exact (Array.getElem?_eq_some_iff.1 h4).1

end Go.Ev

namespace Go.Ev
open Go

def sgSet (σ : Sg) (N : Nat) (L : Loc) : Sg := fun b => if b = N then some L else σ b

theorem sgSet_le {σ : Sg} {N : Nat} {L : Loc} (h : σ N = none) : σ.le (sgSet σ N L) := by
  intro b K hb
  unfold sgSet
  split
  · rename_i e; subst e; rw [h] at hb; cases hb
  · exact hb

theorem sgSet_self (σ : Sg) (N : Nat) (L : Loc) : sgSet σ N L N = some L := by simp [sgSet]
theorem sgSet_ne (σ : Sg) (N : Nat) (L : Loc) (b : Nat) (h : b ≠ N) : sgSet σ N L b = σ b := by simp [sgSet, h]

theorem MRel.dead {w0 : World} {W : Nat → Prop} {σ : Sg} {M : List Blk} {w : World} (h : MRel w0 W σ M w) {N : Nat} (hN : σ N = none) : mget M N = .dead := by
  have := h.blk N
  cases hm : mget M N with
  | dead => rfl
  | ro l => rw [hm] at this; obtain ⟨L, h1, _⟩ := this; rw [hN] at h1; cases h1
  | rw t l => rw [hm] at this; obtain ⟨L, cur, h1, _⟩ := this; rw [hN] at h1; cases h1
  | arr own τ xs => rw [hm] at this; obtain ⟨L, h1, _⟩ := this; rw [hN] at h1; cases h1
  | cell t c => rw [hm] at this; obtain ⟨L, v, h1, _⟩ := this; rw [hN] at h1; cases h1

theorem MRel.wr_lt {w0 : World} {W : Nat → Prop} {σ : Sg} {M : List Blk} {w : World} (h : MRel w0 W σ M w) {b : Nat} {L : Loc} (hb : (mget M b).wr = true) (hL : σ b = some L) : L.blk < w.heap.size :=
  (h.blk b).live_lt (wr_live hb) hL

theorem MRel.rw_lt {w0 : World} {W : Nat → Prop} {σ : Sg} {M : List Blk} {w : World} (h : MRel w0 W σ M w) {b t : Nat} {l : List D} {L : Loc} (hb : mget M b = .rw t l) (hL : σ b = some L) : L.blk < w.heap.size :=
  h.wr_lt (by rw [hb]; rfl) hL

theorem MRel.congr {w0 : World} {W : Nat → Prop} {σ : Sg} {M M' : List Blk} {w : World} (h : MRel w0 W σ M w) (he : ∀ b, mget M' b = mget M b ∨ mget M' b = .dead) : MRel w0 W σ M' w := by
  have k1 : ∀ b, (mget M' b).wr = true → (mget M b).wr = true := fun b hb => by rcases he b with e | e; rw [← e]; exact hb; rw [e] at hb; cases hb
  have k2 : ∀ b, (mget M' b).live = true → (mget M b).live = true := fun b hb => by rcases he b with e | e; rw [← e]; exact hb; rw [e] at hb; cases hb
  refine ⟨fun b => ?_, fun b b' L L' hne hb hb' hL hL' => h.sep b b' L L' hne (k1 b hb) (k2 b' hb') hL hL', fun b L hb hL => h.own b L (k1 b hb) hL, h.kept⟩
  rcases he b with e | e
  · rw [e]; exact h.blk b
  · rw [e]; trivial

theorem heap_push_lt (w : World) (o : Obj) (k : Nat) (h : k < w.heap.size) : (w.heap.push o)[k]? = w.heap[k]? := by
  rw [Array.getElem?_push, if_neg (by omega)]

theorem alloc_heap (w : World) (o : Obj) : (w.alloc o).heap = w.heap.push o := rfl

theorem MRel.put {w0 : World} {W : Nat → Prop} {σ : Sg} {M : List Blk} {w w' : World} (h : MRel w0 W σ M w) {N : Nat} (hN : σ N = none) (y : Blk) (L : Loc) (hB : BRel (sgSet σ N L) N y w')
    (hk : ∀ c K, (mget M c).live = true → σ c = some K → K.blk < w.heap.size → w'.heap[K.blk]? = w.heap[K.blk]?) (hkept : Kept W w0 w') (h0 : y.wr = true → W L.blk ∨ w0.heap.size ≤ L.blk)
    (hfar : y.live = true → ∀ c K, (mget M c).wr = true → σ c = some K → K.blk ≠ L.blk) (hfar' : y.wr = true → ∀ c K, (mget M c).live = true → σ c = some K → K.blk ≠ L.blk) :
    MRel w0 W (sgSet σ N L) (mput M N y) w' := by
  refine ⟨fun b => ?_, fun b b' L1 L2 hne hb hb' hL1 hL2 => ?_, fun b L1 hb hL1 => ?_, hkept⟩
  · rw [mget_mput]
    by_cases e : b = N
    · subst e
      rw [if_pos rfl]
      exact hB
    · rw [if_neg e]
      exact ((h.blk b).of_block (fun K hK hl hlt => hk b K hl hK hlt)).mono (sgSet_le hN)
  · rw [mget_mput] at hb hb'
    by_cases e : b = N
    · subst e
      rw [sgSet_self] at hL1
      cases hL1
      rw [if_pos rfl] at hb
      rw [if_neg (Ne.symm hne)] at hb'
      rw [sgSet_ne _ _ _ _ (Ne.symm hne)] at hL2
      exact (hfar' hb b' L2 hb' hL2).symm
    · rw [if_neg e] at hb
      rw [sgSet_ne _ _ _ _ e] at hL1
      by_cases e' : b' = N
      · subst e'
        rw [sgSet_self] at hL2
        cases hL2
        rw [if_pos rfl] at hb'
        exact hfar hb' b L1 hb hL1
      · rw [if_neg e'] at hb'
        rw [sgSet_ne _ _ _ _ e'] at hL2
        exact h.sep b b' L1 L2 hne hb hb' hL1 hL2
  · rw [mget_mput] at hb
    by_cases e : b = N
    · subst e
      rw [sgSet_self] at hL1
      cases hL1
      rw [if_pos rfl] at hb
      exact h0 hb
    · rw [if_neg e] at hb
      rw [sgSet_ne _ _ _ _ e] at hL1
      exact h.own b L1 hb hL1

theorem MRel.new {w0 : World} {W : Nat → Prop} {σ : Sg} {M : List Blk} {w : World} (h : MRel w0 W σ M w) {N : Nat} (hN : σ N = none) (y : Blk) (L : Loc) (hL : L.blk = w.heap.size) (o : Obj) (w' : World) (hw : w'.heap = w.heap.push o) (ho : w'.os = w.os) (ht : w'.tape = w.tape) (hu : w'.output = w.output)
    (hB : BRel (sgSet σ N L) N y w') : MRel w0 W (sgSet σ N L) (mput M N y) w' := by
  have hk : ∀ k, k < w.heap.size → w'.heap[k]? = w.heap[k]? := fun k hk => by rw [hw]; exact heap_push_lt w _ k hk
  refine h.put hN y L hB (fun _ _ _ _ hlt => hk _ hlt) (h.kept.trans ⟨ho, ht, hu, by rw [hw]; simp, fun k hk' _ => hk k hk'⟩) (fun _ => .inr (by rw [hL]; exact h.kept.size)) (fun _ c K hc hK => ?_) fun _ c K hc hK => ?_
  · have := h.wr_lt hc hK
    omega
  · have := (h.blk c).live_lt hc hK
    omega

theorem MRel.alloc {w0 : World} {W : Nat → Prop} {σ : Sg} {M : List Blk} {w : World} (h : MRel w0 W σ M w) {N : Nat} (hN : σ N = none) (t : Nat) (l : List D) (cur : Array Value)
    (hcur : cur.toList.take l.length = l.map D.val) (hok : ∀ d ∈ l, d.ok) (w' : World) (hw : w'.heap = w.heap.push (.cells cur t (0, 0))) (ho : w'.os = w.os) (ht : w'.tape = w.tape) (hu : w'.output = w.output) :
    MRel w0 W (sgSet σ N ⟨w.heap.size, 0, cur.size, true, 0, 0⟩) (mput M N (.rw t l)) w' :=
  h.new hN _ _ rfl _ w' hw ho ht hu ⟨_, cur, sgSet_self _ _ _, rfl, rfl, by rw [hw]; simp, rfl, hok, hcur⟩

theorem MRel.allocA {w0 : World} {W : Nat → Prop} {σ : Sg} {M : List Blk} {w : World} (h : MRel w0 W σ M w) {N : Nat} (hN : σ N = none) (t : Nat) (τ : ET) (xs : List τ.T) (cur : Array Value)
    (hcur : cur.toList.take (τ.flat xs).length = (τ.flat xs).map D.val) (hok : ∀ d ∈ τ.flat xs, d.ok) (w' : World) (hw : w'.heap = w.heap.push (.cells cur t (0, 0))) (ho : w'.os = w.os) (ht : w'.tape = w.tape) (hu : w'.output = w.output) :
    MRel w0 W (sgSet σ N ⟨w.heap.size, 0, cur.size, true, xs.length, τ.len⟩) (mput M N (.arr (some t) τ xs)) w' :=
  h.new hN _ _ rfl _ w' hw ho ht hu ⟨_, sgSet_self _ _ _, rfl, rfl, hok, rfl, rfl, .inr ⟨cur, by rw [hw]; simp, rfl, hcur⟩⟩

theorem MRel.write {w0 : World} {W : Nat → Prop} {σ : Sg} {M : List Blk} {w : World} (h : MRel w0 W σ M w) {b : Nat} (hb : (mget M b).wr = true) {L : Loc} (hL : σ b = some L) (y : Blk)
    (w' : World) (hB : BRel σ b y w') (hoth : ∀ k, k ≠ L.blk → w'.heap[k]? = w.heap[k]?) (hs : w'.heap.size = w.heap.size) (ho : w'.os = w.os) (ht : w'.tape = w.tape) (hu : w'.output = w.output) :
    MRel w0 W σ (mput M b y) w' := by
  have k1 : ∀ c, (mget (mput M b y) c).wr = true → (mget M c).wr = true := by
    intro c hc
    rw [mget_mput] at hc
    by_cases e : c = b
    · subst e; exact hb
    · rw [if_neg e] at hc; exact hc
  have k2 : ∀ c, (mget (mput M b y) c).live = true → (mget M c).live = true := by
    intro c hc
    rw [mget_mput] at hc
    by_cases e : c = b
    · subst e; exact wr_live hb
    · rw [if_neg e] at hc; exact hc
  refine ⟨fun c => ?_, fun c c' L1 L2 hne hc hc' hL1 hL2 => h.sep c c' L1 L2 hne (k1 c hc) (k2 c' hc') hL1 hL2, fun c L1 hc hL1 => h.own c L1 (k1 c hc) hL1, ?_⟩
  · rw [mget_mput]
    by_cases e : c = b
    · subst e
      rw [if_pos rfl]
      exact hB
    · rw [if_neg e]
      refine (h.blk c).of_block fun L1 hL1 hlive _ => hoth _ ?_
      exact fun e1 => h.sep b c L L1 (Ne.symm e) hb hlive hL hL1 e1.symm
  · have hlt := h.wr_lt hb hL
    refine h.kept.trans' (V := fun k => k = L.blk) ⟨ho, ht, hu, by omega, fun k _ hk => hoth k hk⟩ fun k hk => ?_
    subst hk
    exact h.own b L hb hL

theorem MRel.store {w0 : World} {W : Nat → Prop} {σ : Sg} {M : List Blk} {w : World} (h : MRel w0 W σ M w) {b t : Nat} {l l' : List D} (hb : mget M b = .rw t l) {L : Loc} (hL : σ b = some L)
    {cur' : Array Value} (w' : World) (hat : w'.heap[L.blk]? = some (.cells cur' t (0, 0))) (hsz : cur'.size = L.size) (hcur : cur'.toList.take l'.length = l'.map D.val) (hok : ∀ d ∈ l', d.ok)
    (hoth : ∀ k, k ≠ L.blk → w'.heap[k]? = w.heap[k]?) (hs : w'.heap.size = w.heap.size) (ho : w'.os = w.os) (ht : w'.tape = w.tape) (hu : w'.output = w.output) :
    MRel w0 W σ (mput M b (.rw t l')) w' := by
  have hBb := h.blk b
  rw [hb] at hBb
  obtain ⟨L0, cur, h1, h2, h3, _⟩ := hBb
  rw [hL] at h1
  cases h1
  exact h.write (by rw [hb]; rfl) hL _ w' ⟨L, cur', hL, h2, h3, hat, hsz, hok, hcur⟩ hoth hs ho ht hu

theorem MRel.movedTo {w0 : World} {W : Nat → Prop} {σ : Sg} {M : List Blk} {w : World} (h : MRel w0 W σ M w) {b N : Nat} (hb : (mget M b).wr = true) {L L' : Loc} (hL : σ b = some L) (hN : σ N = none) (hp : L'.blk = L.blk) (y : Blk)
    (hB : BRel (sgSet σ N L') N y w) : MRel w0 W (sgSet σ N L') (mput (mput M b .dead) N y) w := by
  have h' : MRel w0 W σ (mput M b .dead) w := h.congr fun c => by rw [mget_mput]; split; exact .inr rfl; exact .inl rfl
  have get : ∀ c, c ≠ b → mget (mput M b .dead) c = mget M c := fun c e => by rw [mget_mput, if_neg e]
  refine h'.put hN y L' hB (fun _ _ _ _ _ => rfl) h'.kept (fun _ => by rw [hp]; exact h.own b L hb hL) (fun _ c K hc hK => ?_) fun _ c K hc hK => ?_
  · by_cases e : c = b
    · subst e; rw [mget_mput, if_pos rfl] at hc; cases hc
    · rw [get c e] at hc
      rw [hp]
      exact h.sep c b K L e hc (wr_live hb) hK hL
  · by_cases e : c = b
    · subst e; rw [mget_mput, if_pos rfl] at hc; cases hc
    · rw [get c e] at hc
      rw [hp]
      exact (h.sep b c L K (Ne.symm e) hb hc hL hK).symm

theorem MRel.moved {w0 : World} {W : Nat → Prop} {σ : Sg} {M : List Blk} {w : World} (h : MRel w0 W σ M w) {b N t : Nat} {l : List D} (hb : mget M b = .rw t l) {L : Loc} (hL : σ b = some L) (hN : σ N = none) :
    MRel w0 W (sgSet σ N L) (mput (mput M b .dead) N (.rw t l)) w := by
  have hBb := h.blk b
  rw [hb] at hBb
  obtain ⟨L', cur, h1, h2⟩ := hBb
  rw [hL] at h1
  cases h1
  exact h.movedTo (by rw [hb]; rfl) hL hN rfl _ ⟨L, cur, sgSet_self _ _ _, h2⟩

end Go.Ev

namespace Go.Ev
open Go

def Wof (σ : Sg) (bs : List Blk) (k : Nat) : Prop := ∃ b L, (mget bs b).wr = true ∧ σ b = some L ∧ L.blk = k

def CallsA (P : Program) (G : Nat → Option (List D)) (gb : Nat) (f : Nat) (as : List AV) (bs : List Blk) (v : AV) (M' : List Blk) : Prop :=
  ∀ (σ : Sg) (w : World) (args : Array Value), AVRels σ as args.toList → MRel w (Wof σ bs) σ bs w → Glob G gb (Wof σ bs) w → (∀ b, bs.length ≤ b → σ b = none) →
    Calls P f args w fun e w' => ∃ v' τ, e = .returned v' ∧ σ.le τ ∧ AVRel τ v v' ∧ MRel w (Wof σ bs) τ M' w'

def Enters (P : Program) (f : Nat) : Prop := ∀ (args : Array Value) (w : World), (callFunc f args).run P w = .ok (.enter f args) w

def ExtA (P : Program) (f : Nat) (as : List AV) (v : AV) : Prop :=
  ∀ (σ : Sg) (args : Array Value) (w : World), AVRels σ as args.toList → ∃ v', (callFunc f args).run P w = .ok (.value v') w ∧ AVRel σ v v'

def Reach (P : Program) (G : Nat → Option (List D)) (gb : Nat) : Tm → AV → Sets → Prop
  | .fail, _, _ => False
  | .leaf v s, v', s' => v' = v ∧ s' = s
  | .br b x y, v, s => (b = true ∧ Reach P G gb x v s) ∨ (b = false ∧ Reach P G gb y v s)
  | .call f as bs k, v, s => ∃ u M, Enters P f ∧ CallsA P G gb f as bs u M ∧ Reach P G gb (k u M) v s
  | .ext f as k, v, s => ∃ u, ExtA P f as u ∧ Reach P G gb (k u) v s

def EqOK (P : Program) (t : TypeId) : Prop :=
  ∀ (z a b : List D) (x y : Operand) (w : World), zeroD P t = some z → fitsTo z a = true → fitsTo z b = true →
    (do eqGuard .eql t x y (.agg (a.map D.val).toArray) (.agg (b.map D.val).toArray); binOp .eql t (.agg (a.map D.val).toArray) (.agg (b.map D.val).toArray) : Sem Value).run P w = .ok (.bool (eqAll a b)) w ∧
    (do eqGuard .neq t x y (.agg (a.map D.val).toArray) (.agg (b.map D.val).toArray); binOp .neq t (.agg (a.map D.val).toArray) (.agg (b.map D.val).toArray) : Sem Value).run P w = .ok (.bool (!(eqAll a b))) w

section
variable {P : Program} {G : Nat → Option (List D)} {gb : Nat} {EQ : Tab} {w0 : World} {W : Nat → Prop} {σ : Sg} {a : Act} {w : World} {T : TS} {M : List Blk} {N : Nat} {o : Oper}
  {next : Act → World → Prop} {Q : Exit → Act → World → Prop}

def Goes (w0 : World) (W : Nat → Prop) (σ : Sg) (M : List Blk) (N : Nat) (a : Act) (d : Option Tmp) (next : Act → World → Prop) (v : AV) (s : Sets) : Prop :=
  ∀ τ v' w', σ.le τ → (∀ b, b ≠ N → τ b = σ b) → ((∀ p ∈ s, p.1 ≠ N) → τ N = none) → AVRel τ v v' → MRel w0 W τ (puts M s) w' → next (a.put d v') w'

theorem Goes.value {v : AV} {v' : Value} (h : Goes w0 W σ M N a o.dst next v []) (hM : MRel w0 W σ M w) (hN : σ N = none) (hrun : (execOp a.eval o).run P w = .ok (.value v') w) (hv : AVRel σ v v') : o.wp P a w next Q := by
  unfold Oper.wp
  rw [hrun]
  exact h σ v' w (Sg.le_refl σ) (fun _ _ => rfl) (fun _ => hN) hv hM

theorem underlying_run {t : TypeId} {d : TypeDesc} (h : P.underlying t = some d) (w : World) : (underlying t).run P w = .ok d w := by
  simp [underlying, program, Sem.run, h]

theorem typeInfo_run {t : TypeId} {i : TypeInfo} (h : P.info? t = some i) (w : World) : (typeInfo t).run P w = .ok i w := by
  simp [typeInfo, program, Sem.run, h]

theorem sizeOf_run {t : TypeId} {n : Nat} (h : sizeD P t = some n) (w : World) : (sizeOf t).run P w = .ok n w := by
  unfold sizeD at h
  cases hi : P.info? t with
  | none => rw [hi] at h; cases h
  | some i =>
    rw [hi] at h
    cases h
    simp [sizeOf, typeInfo_run hi]

theorem isAgg_run {t : TypeId} {b : Bool} (h : aggD P t = some b) (w : World) : (isAgg t).run P w = .ok b w := by
  unfold aggD at h
  cases hu : P.underlying t with
  | none => rw [hu] at h; cases h
  | some d =>
    rw [hu] at h
    simp only [isAgg, Sem.run_bind, underlying_run hu, Result.andThen_ok]
    cases d <;> cases h <;> rfl

theorem zero_run {t : TypeId} {l : List D} (h : zeroD P t = some l) (w : World) : ∃ z : Value, (zeroValue t).run P w = .ok z w ∧ (z.cells = (l.map D.val).toArray ∧ ∀ d ∈ l, d.ok) ∧ ∃ i, P.info? t = some i ∧ i.zero = some z := by
  unfold zeroD at h
  cases hi : P.info? t with
  | none => rw [hi] at h; cases h
  | some i =>
    rw [hi] at h
    simp only at h
    cases hz : i.zero with
    | none => rw [hz] at h; cases h
    | some z =>
      rw [hz] at h
      refine ⟨z, by simp [zeroValue, typeInfo_run hi, hz], ?_, i, rfl, hz⟩
      obtain ⟨e, o⟩ := toDs_val h
      exact ⟨by rw [← e], o⟩

theorem add_mk (b o n : Nat) : (⟨b, o, none⟩ : Addr).add n = ⟨b, o + n, none⟩ := by
  unfold Addr.add
  split
  · rename_i h; subst h; rfl
  · rfl

theorem take_drop_get {l : List D} {o n j : Nat} {d : D} (h : ((l.drop o).take n)[j]? = some d) : l[o + j]? = some d := by
  rw [List.getElem?_take] at h
  split at h
  · rw [List.getElem?_drop] at h; exact h
  · cases h

theorem loadVar_run {t : TypeId} {l : List D} {B k : Nat} {v : V} (h : partD P t l k = some v) (hok : ∀ d ∈ l, d.ok) (o : Nat) (hc : ∀ j d, l[j]? = some d → w.cell? ⟨B, o + j, none⟩ = some d.val) :
    ∃ v', (loadVar t ⟨B, o + k, none⟩).run P w = .ok v' w ∧ VRel σ v v' := by
  unfold partD at h
  split at h
  · rename_i n ha hs
    simp only [cond_eq_ite, beq_iff_eq] at h
    split at h
    · rename_i hlen
      cases h
      refine ⟨.agg (((l.drop k).take n).map D.val).toArray, ?_, rfl, fun d hd => hok d (List.mem_of_mem_drop (List.mem_of_mem_take hd))⟩
      have hl := run_loadCells_list (P := P) w ⟨B, o + k, none⟩ (((l.drop k).take n).map D.val) (fun j v hj => by
        rw [List.getElem?_map] at hj
        cases hd : ((l.drop k).take n)[j]? with
        | none => rw [hd] at hj; cases hj
        | some d =>
          rw [hd] at hj
          cases hj
          rw [add_mk, Nat.add_assoc]
          exact hc (k + j) d (take_drop_get hd))
      rw [List.length_map, hlen] at hl
      simp only [loadVar, Sem.run_bind, isAgg_run ha, Result.andThen_ok, sizeOf_run hs, hl, if_true]
      rfl
    · cases h
  · rename_i n ha hs
    cases hd : l.drop k with
    | nil => rw [hd] at h; cases h
    | cons d r =>
      rw [hd] at h
      cases h
      have hk : l[k]? = some d := by
        have : (l.drop k)[0]? = some d := by rw [hd]; rfl
        rw [List.getElem?_drop] at this
        exact this
      refine ⟨d.val, ?_, rfl, hok d (List.mem_of_getElem? hk)⟩
      simp only [loadVar, Sem.run_bind, isAgg_run ha, Result.andThen_ok]
      simp only [Bool.false_eq_true, if_false, load, Sem.run, hc k d hk]
  · cases h

theorem part_run {t : TypeId} {l : List D} {k : Nat} {v : V} (h : partD P t l k = some v) (hok : ∀ d ∈ l, d.ok) : ∃ v', (part t (l.map D.val).toArray k).run P w = .ok v' w ∧ VRel σ v v' := by
  unfold partD at h
  split at h
  · rename_i n ha hs
    simp only [cond_eq_ite, beq_iff_eq] at h
    split at h
    · cases h
      refine ⟨.agg (((l.drop k).take n).map D.val).toArray, ?_, rfl, fun d hd => hok d (List.mem_of_mem_drop (List.mem_of_mem_take hd))⟩
      simp only [part, Sem.run_bind, isAgg_run ha, Result.andThen_ok, sizeOf_run hs, if_true, Sem.run_pure]
      congr 2
      apply Array.ext'
      simp only [Array.toList_extract, List.map_take, List.map_drop]
      simp
    · cases h
  · rename_i n ha hs
    cases hd : l.drop k with
    | nil => rw [hd] at h; cases h
    | cons d r =>
      rw [hd] at h
      cases h
      have hk : l[k]? = some d := by
        have : (l.drop k)[0]? = some d := by rw [hd]; rfl
        rw [List.getElem?_drop] at this
        exact this
      refine ⟨d.val, ?_, rfl, hok d (List.mem_of_getElem? hk)⟩
      simp only [part, Sem.run_bind, isAgg_run ha, Result.andThen_ok, Bool.false_eq_true, if_false]
      simp [hk]
  · cases h

theorem take_all (l : List D) : (l.map D.val).toArray.toList.take l.length = l.map D.val := List.take_of_length_le (by simp)

theorem move_ok {x : Operand} {v : AV} {s : Sets} (ho : o.op = .move x ∨ o.op = .assign x) (hr : Reach P G gb (opR P G EQ (.move x) T M N) v s) (hT : TRel σ T a) (hM : MRel w0 W σ M w) (hN : σ N = none)
    (h : Goes w0 W σ M N a o.dst next v s) : o.wp P a w next Q := by
  simp only [opR] at hr
  split at hr
  · rename_i u hu
    obtain ⟨rfl, rfl⟩ := hr
    refine h.value hM hN (v' := a.eval x) ?_ (opdV_rel hT hu)
    unfold execOp
    rcases ho with ho | ho <;> rw [ho] <;> rfl
  · exact hr.elim

theorem pick_ok {c x y : Operand} {v : AV} {s : Sets} (ho : o.op = .pick c x y) (hr : Reach P G gb (opR P G EQ (.pick c x y) T M N) v s) (hT : TRel σ T a) (hM : MRel w0 W σ M w) (hN : σ N = none)
    (h : Goes w0 W σ M N a o.dst next v s) : o.wp P a w next Q := by
  simp only [opR] at hr
  split at hr
  · rename_i t va vb hc hx hy
    have hc' : a.eval c = .bool t := (opdV_rel hT hc).1
    have hrun : (execOp a.eval o).run P w = .ok (.value (if t then a.eval x else a.eval y)) w := by
      unfold execOp
      rw [ho]
      simp [hc', asBool]
    rcases hr with ⟨ht, rfl, rfl⟩ | ⟨ht, rfl, rfl⟩
    · subst ht
      exact h.value hM hN hrun (opdV_rel hT hx)
    · subst ht
      exact h.value hM hN hrun (opdV_rel hT hy)
  · exact hr.elim

theorem alloc_ok {t : TypeId} {v : AV} {s : Sets} (ho : o.op = .alloc t) (hr : Reach P G gb (opR P G EQ (.alloc t) T M N) v s) (hM : MRel w0 W σ M w) (hN : σ N = none)
    (h : Goes w0 W σ M N a o.dst next v s) : o.wp P a w next Q := by
  simp only [opR] at hr
  split at hr
  · rename_i l hl
    obtain ⟨rfl, rfl⟩ := hr
    obtain ⟨z, hz, ⟨hcells, hok⟩, _⟩ := zero_run (w := w) hl
    have hrun : (execOp a.eval o).run P w = .ok (.value (.pointer (some ⟨w.heap.size, 0, none⟩))) (w.alloc (.cells (l.map D.val).toArray t)) := by
      unfold execOp
      rw [ho]
      simp [Instr.alloc, hz, newVar, newRow, newObj, Sem.run, hcells]
    unfold Oper.wp
    rw [hrun]
    refine h (sgSet σ N ⟨w.heap.size, 0, (l.map D.val).toArray.size, true, 0, 0⟩) _ _ (sgSet_le hN) (fun b hb => sgSet_ne _ _ _ _ hb) (fun hp => absurd rfl (hp (N, .rw t l) (by simp))) ⟨_, sgSet_self _ _ _, rfl⟩ ?_
    exact hM.alloc hN t l _ (take_all l) hok _ rfl rfl rfl rfl
  · split at hr
    · rename_i e i hu hi
      split at hr
      · rename_i hz
        obtain ⟨rfl, rfl⟩ := hr
        have hrun : (execOp a.eval o).run P w = .ok (.value (.pointer (some ⟨w.heap.size, 0, none⟩))) (w.alloc (.cells #[.slice none 0 0] t)) := by
          unfold execOp
          rw [ho]
          simp [Instr.alloc, zeroValue, typeInfo_run hi, hz, newVar, newRow, newObj, Sem.run, Value.cells]
        unfold Oper.wp
        rw [hrun]
        refine h (sgSet σ N ⟨w.heap.size, 0, 1, true, 0, 0⟩) _ _ (sgSet_le hN) (fun b hb => sgSet_ne _ _ _ _ hb) (fun hp => absurd rfl (hp (N, .cell t .nilS) (by simp))) ⟨_, sgSet_self _ _ _, rfl⟩ ?_
        refine hM.new hN _ _ rfl (.cells #[.slice none 0 0] t) _ rfl rfl rfl rfl ⟨_, .slice none 0 0, sgSet_self _ _ _, rfl, rfl, rfl, ?_, rfl⟩
        rw [alloc_heap]
        simp
      · exact hr.elim
    · exact hr.elim

theorem box_ok {t : TypeId} {x : Operand} {v : AV} {s : Sets} (ho : o.op = .box t x) (hr : Reach P G gb (opR P G EQ (.box t x) T M N) v s) (hT : TRel σ T a) (hM : MRel w0 W σ M w) (hN : σ N = none)
    (h : Goes w0 W σ M N a o.dst next v s) : o.wp P a w next Q := by
  simp only [opR] at hr
  split at hr
  · rename_i u hu
    split at hr
    · rename_i l hl
      obtain ⟨rfl, rfl⟩ := hr
      obtain ⟨hcells, hok⟩ := cellsA_rel hl (opdV_rel hT hu)
      have hrun : (execOp a.eval o).run P w = .ok (.value (.pointer (some ⟨w.heap.size, 0, none⟩))) (w.alloc (.cells (l.map D.val).toArray t)) := by
        unfold execOp
        rw [ho]
        simp [Instr.box, newVar, newRow, newObj, Sem.run, hcells]
      unfold Oper.wp
      rw [hrun]
      refine h (sgSet σ N ⟨w.heap.size, 0, (l.map D.val).toArray.size, true, 0, 0⟩) _ _ (sgSet_le hN) (fun b hb => sgSet_ne _ _ _ _ hb) (fun hp => absurd rfl (hp (N, .rw t l) (by simp))) ⟨_, sgSet_self _ _ _, rfl⟩ ?_
      exact hM.alloc hN t l _ (take_all l) hok _ rfl rfl rfl rfl
    · exact hr.elim
  · exact hr.elim

theorem leafO_reach {x : Option V} {v : AV} {s : Sets} (h : Reach P G gb (leafO x) v s) : ∃ u, x = some u ∧ v = .v u ∧ s = [] := by
  cases x with
  | none => exact h.elim
  | some u => obtain ⟨rfl, rfl⟩ := h; exact ⟨u, rfl, rfl, rfl⟩

theorem Glob.now {w : World} (hG : Glob G gb W w0) (hk : Kept W w0 w) {g : Nat} {l : List D} (h : G g = some l) : (∀ d ∈ l, d.ok) ∧ ∀ j d, l[j]? = some d → w.cell? ⟨g, j, none⟩ = some d.val := by
  obtain ⟨h1, hok, h2⟩ := hG.cell g l h
  refine ⟨hok, fun j d hj => ?_⟩
  have hlt : g < w0.heap.size := Nat.lt_of_lt_of_le h1 hG.le
  rw [World.cell?_of_block (w := w0) (hk.block g hlt (fun hW => by have := hG.high g hW; omega))]
  exact h2 j d hj

theorem flat_get {τ : ET} {d : D} {j : Nat} : ∀ {xs : List τ.T} {i : Nat}, i < xs.length → (τ.cells (xs.getD i τ.z))[j]? = some d → (τ.flat xs)[i * τ.len + j]? = some d
  | [], _, hi, _ => by simp at hi
  | x :: r, 0, _, hj => by
    rw [show (x :: r).getD 0 τ.z = x from rfl] at hj
    have hlt : j < (τ.cells x).length := (List.getElem?_eq_some_iff.1 hj).1
    rw [Nat.zero_mul, Nat.zero_add, ET.flat, List.getElem?_append_left hlt]
    exact hj
  | x :: r, i + 1, hi, hj => by
    have ih := flat_get (xs := r) (i := i) (by simpa using hi) (by simpa using hj)
    rw [ET.flat, List.getElem?_append_right (by rw [cells_len, Nat.succ_mul]; omega), cells_len, Nat.succ_mul]
    rw [show i * τ.len + τ.len + j - τ.len = i * τ.len + j by omega]
    exact ih

theorem flat_mem {τ : ET} {d : D} {xs : List τ.T} {i : Nat} (hi : i < xs.length) (hd : d ∈ τ.cells (xs.getD i τ.z)) : d ∈ τ.flat xs := by
  obtain ⟨j, hj⟩ := List.getElem?_of_mem hd
  exact List.mem_of_getElem? (flat_get hi hj)

theorem load_ok {t : TypeId} {x : Operand} {v : AV} {s : Sets} (ho : o.op = .load t x) (hr : Reach P G gb (opR P G EQ (.load t x) T M N) v s) (hT : TRel σ T a) (hM : MRel w0 W σ M w) (hG : Glob G gb W w0) (hN : σ N = none)
    (h : Goes w0 W σ M N a o.dst next v s) : o.wp P a w next Q := by
  have key : ∀ (B k : Nat) (l : List D) (off : Nat), a.eval x = .pointer (some ⟨B, off + k, none⟩) → (∀ d ∈ l, d.ok) → (∀ j d, l[j]? = some d → w.cell? ⟨B, off + j, none⟩ = some d.val) → Reach P G gb (leafO (partD P t l k)) v s → o.wp P a w next Q := by
    intro B k l off he hok hc hr
    obtain ⟨u, hu, rfl, rfl⟩ := leafO_reach hr
    obtain ⟨v', hrun, hv⟩ := loadVar_run (σ := σ) hu hok off hc
    refine h.value hM hN (v' := v') ?_ hv
    unfold execOp
    rw [ho]
    simp [Instr.loadAt, Instr.sureAddr, he, hrun]
  simp only [opR] at hr
  split at hr
  · rename_i g
    split at hr
    · rename_i l hl
      exact key g 0 l 0 rfl (hG.now hM.kept hl).1 (fun j d hj => by rw [Nat.zero_add]; exact (hG.now hM.kept hl).2 j d hj) hr
    · exact hr.elim
  · split at hr
    · rename_i b k hb
      split at hr
      · rename_i t' c hm
        split at hr
        · rename_i ha
          obtain ⟨rfl, rfl⟩ := hr
          obtain ⟨L, hL, he⟩ := opdV_rel hT hb
          have hB := hM.blk b
          rw [hm] at hB
          obtain ⟨L', u, h1, h2, _, _, h5, h6⟩ := hB
          rw [hL] at h1
          cases h1
          refine h.value hM hN (v' := u) ?_ h6
          unfold execOp
          rw [ho]
          have hcell : w.cell? ⟨L.blk, L.off + 0, none⟩ = some u := by
            rw [cell_of_heap h5, h2]
            rfl
          simp only [Instr.loadAt, Instr.sureAddr, he, Sem.run_bind, Sem.run_pure, Result.andThen_ok, loadVar, isAgg_run ha]
          simp only [Bool.false_eq_true, if_false, load, Sem.run, hcell, Result.andThen]
        · exact hr.elim
      · split at hr
        · rename_i l hl
          obtain ⟨L, hL, he⟩ := opdV_rel hT hb
          obtain ⟨L', hL', hok, hc⟩ := (hM.blk b).cell hl
          rw [hL] at hL'
          cases hL'
          exact key L.blk k l L.off he hok hc hr
        · exact hr.elim
    · rename_i b i k hb
      split at hr
      · rename_i own τ xs hm
        obtain ⟨L, hL, he, hi⟩ := opdV_rel hT hb
        have hB := hM.blk b
        rw [hm] at hB
        obtain ⟨L', h1, h2, h3, _, hok, hc⟩ := hB.elems
        rw [hL] at h1
        cases h1
        rw [h2] at hi
        rw [← Nat.add_assoc, h3] at he
        refine key L.blk k (τ.cells (xs.getD i τ.z)) (L.off + i * τ.len) he (fun d hd => hok d (flat_mem hi hd)) (fun j d hj => ?_) hr
        rw [Nat.add_assoc]
        exact hc _ d (flat_get hi hj)
      · exact hr.elim
    · exact hr.elim

theorem splice_ok {l r : List D} {o : Nat} (hl : ∀ d ∈ l, d.ok) (hr : ∀ d ∈ r, d.ok) : ∀ d ∈ splice l o r, d.ok := by
  intro d hd
  simp only [splice, List.mem_append] at hd
  rcases hd with h | h | h
  · exact hl d (List.mem_of_mem_take h)
  · exact hr d h
  · exact hl d (List.mem_of_mem_drop h)

theorem splice_len {l r : List D} {o : Nat} (h : o + r.length ≤ l.length) : (splice l o r).length = l.length := by
  simp [splice]; omega

theorem flat_set {τ : ET} {y : τ.T} : ∀ {xs : List τ.T} {i : Nat}, i < xs.length → τ.flat (xs.set i y) = splice (τ.flat xs) (i * τ.len) (τ.cells y)
  | [], _, hi => by simp at hi
  | x :: r, 0, _ => by
    simp only [List.set_cons_zero, ET.flat, splice, Nat.zero_mul, List.take_zero, List.nil_append, Nat.zero_add]
    rw [cells_len, ← cells_len τ x, List.drop_left]
  | x :: r, i + 1, hi => by
    simp only [List.set_cons_succ, ET.flat]
    rw [flat_set (xs := r) (i := i) (by simpa using hi)]
    have e1 : (i + 1) * τ.len = (τ.cells x).length + i * τ.len := by rw [cells_len, Nat.succ_mul]; omega
    simp only [splice, e1]
    rw [List.take_length_add_append, Nat.add_assoc, List.drop_length_add_append]
    simp

theorem of_cells {τ : ET} {l : List D} {x : τ.T} (h : τ.of l = some x) : τ.cells x = l := by
  cases τ
  case site =>
    change of_site l = some x at h
    unfold of_site at h
    split at h
    · cases h; rfl
    · cases h
  case win =>
    change of_win l = some x at h
    unfold of_win at h
    split at h
    · cases h; rfl
    · cases h
  case vec =>
    change of_vec l = some x at h
    unfold of_vec at h
    split at h
    · cases h; rfl
    · cases h
  case frac =>
    change of_frac l = some x at h
    unfold of_frac at h
    split at h
    · cases h; rfl
    · cases h
  case placed =>
    change of_placed l = some x at h
    unfold of_placed at h
    split at h
    · cases h; rfl
    · cases h
  case view =>
    change of_view l = some x at h
    unfold of_view at h
    split at h
    · cases h; rfl
    · cases h
  case trk =>
    change of_trk l = some x at h
    unfold of_trk at h
    split at h
    · cases h; rfl
    · cases h
  case dir =>
    change of_dir l = some x at h
    unfold of_dir at h
    split at h
    · cases h; rfl
    · cases h
  case delay =>
    change of_delay l = some x at h
    unfold of_delay at h
    split at h
    · cases h; rfl
    · cases h
  case bool =>
    change of_bool l = some x at h
    unfold of_bool at h
    split at h
    · cases h; rfl
    · cases h
  case int =>
    change of_int l = some x at h
    unfold of_int at h
    split at h
    · cases h; rfl
    · cases h

theorem splice_parts {l m : List D} {i k : Nat} {cs : List D} (hm : ∀ j d, m[j]? = some d → l[i + j]? = some d) (hk : k + cs.length ≤ m.length) : splice l i (splice m k cs) = splice l (i + k) cs := by
  have em : m = (l.drop i).take m.length := by
    apply List.ext_getElem?
    intro j
    rw [List.getElem?_take]
    split
    · rename_i hj
      rw [List.getElem?_drop]
      have := hm j m[j] (List.getElem?_eq_getElem hj)
      rw [this, List.getElem?_eq_getElem hj]
    · rename_i hj
      exact List.getElem?_eq_none (by omega)
  have lm : (splice m k cs).length = m.length := splice_len hk
  unfold splice
  unfold splice at lm
  rw [lm]
  have e1 : l.take (i + k) = l.take i ++ m.take k := by
    rw [em, List.take_take, Nat.min_eq_left (by omega), List.take_add]
  have e2 : l.drop (i + k + cs.length) = m.drop (k + cs.length) ++ l.drop (i + m.length) := by
    have h1 : l.drop i = m ++ l.drop (i + m.length) := by
      conv => lhs; rw [← List.take_append_drop m.length (l.drop i)]
      rw [← em, List.drop_drop]
    rw [Nat.add_assoc, ← List.drop_drop, h1, List.drop_append_of_le_length (by omega)]
    try rw [List.drop_drop]
  rw [e1, e2]
  simp only [List.append_assoc]

theorem store_run {t : TypeId} {x y : Operand} {n : Nat} {u : AV} {cs l : List D} {ty B k : Nat} {cur : Array Value} (ho : o.op = .store t x y) (he : a.eval x = .pointer (some ⟨B, k, none⟩)) (hn : sizeD P t = some n) (hcs : cellsA u = some cs) (hu : AVRel σ u (a.eval y)) (hlen : cs.length = n) (hfit : k + n ≤ l.length)
    (h4 : w.heap[B]? = some (.cells cur ty (0, 0))) (h6 : cur.toList.take l.length = l.map D.val) :
    ∃ cur', (execOp a.eval o).run P w = .ok .skip (w.setRow B cur') ∧ cur'.size = cur.size ∧ cur'.toList.take (splice l k cs).length = (splice l k cs).map D.val ∧ (w.setRow B cur').heap[B]? = some (.cells cur' ty (0, 0)) := by
  obtain ⟨hcells, _⟩ := cellsA_rel hcs hu
  subst hlen
  have hll : l.length ≤ cur.size := by
    have := congrArg List.length h6
    simp at this
    omega
  have hst := run_storeCells_at (P := P) B k ty (cs.map D.val) 0 cur w h4 (by simp; omega) (by simp only [List.mem_map]; rintro v ⟨d, _, rfl⟩; exact oneCell_val d)
  simp only [Nat.add_zero, List.length_map] at hst
  refine ⟨(cur.toList.take k ++ cs.map D.val ++ cur.toList.drop (k + cs.length)).toArray, ?_, ?_, ?_, setRow_heap w B cur _ ty _ h4⟩
  · unfold execOp
    rw [ho]
    simp only [Instr.storeAt, Instr.sureAddr, he, storeVar, Sem.run_bind, sizeOf_run hn, Result.andThen_ok, Sem.run_pure, hcells]
    simp [hst]
  · simp only [List.size_toArray, List.length_append, List.length_take, List.length_drop, List.length_map, Array.length_toList]
    omega
  · rw [splice_len (by omega)]
    have e1 : cur.toList.take k = (l.take k).map D.val := by
      rw [List.map_take, ← h6, List.take_take, Nat.min_eq_left (by omega)]
    have e2 : (cur.toList.drop (k + cs.length)).take (l.length - (k + cs.length)) = (l.drop (k + cs.length)).map D.val := by
      rw [List.map_drop, ← h6, List.drop_take]
    rw [e1]
    simp only [splice, List.map_append, List.append_assoc]
    rw [List.take_append, List.take_of_length_le (by simp; omega)]
    congr 1
    rw [List.take_append, List.take_of_length_le (by simp; omega)]
    congr 1
    rw [← e2]
    congr 1
    simp
    omega

theorem storeC_ok {t : TypeId} {x y : Operand} {b ty : Nat} {c c' : C} (ho : o.op = .store t x y) (hb : opdV T x = some (.v (.c (.ptr b 0)))) (hy : opdV T y = some (.v (.c c'))) (hm : mget M b = .cell ty c) (hn : sizeD P t = some 1) (h1c : ∀ v, CRel σ c' v → v.cells = #[v] ∧ v.oneCell' = true) (hT : TRel σ T a) (hM : MRel w0 W σ M w) (hN : σ N = none)
    (h : Goes w0 W σ M N a o.dst next undefA [(b, .cell ty c')]) : o.wp P a w next Q := by
  obtain ⟨L, hL, he⟩ := opdV_rel hT hb
  have hv : CRel σ c' (a.eval y) := opdV_rel hT hy
  obtain ⟨hcells, hone⟩ := h1c _ hv
  have hBb := hM.blk b
  rw [hm] at hBb
  obtain ⟨L', u, h1, h2, h3, h4, h5, h6⟩ := hBb
  rw [hL] at h1
  cases h1
  have hst := run_storeCells_at (P := P) L.blk 0 ty [a.eval y] 0 #[u] w h5 (by simp) (by simp [hone])
  have hrun : (execOp a.eval o).run P w = .ok .skip (w.setRow L.blk #[a.eval y]) := by
    unfold execOp
    rw [ho]
    simp only [Instr.storeAt, Instr.sureAddr, he, h2, Nat.zero_add, storeVar, Sem.run_bind, sizeOf_run hn, Result.andThen_ok, Sem.run_pure, hcells]
    simp at hst
    simp [hst]
  unfold Oper.wp
  rw [hrun]
  refine h σ _ _ (Sg.le_refl σ) (fun _ _ => rfl) (fun _ => hN) ⟨#[], rfl, trivial⟩ ?_
  refine hM.write (by rw [hm]; rfl) hL _ _ ⟨L, a.eval y, hL, h2, h3, h4, setRow_heap w L.blk #[u] _ ty _ h5, hv⟩ (fun k hk => setRow_other w L.blk k _ hk) (by simp) rfl rfl rfl

theorem store_ok {t : TypeId} {x y : Operand} {v : AV} {s : Sets} (ho : o.op = .store t x y) (hr : Reach P G gb (opR P G EQ (.store t x y) T M N) v s) (hT : TRel σ T a) (hM : MRel w0 W σ M w) (hN : σ N = none)
    (h : Goes w0 W σ M N a o.dst next v s) : o.wp P a w next Q := by
  simp only [opR] at hr
  split at hr
  · rename_i b k u hb hu
    split at hr
    · rename_i ty c hm
      split at hr
      · rename_i hn
        obtain ⟨rfl, rfl⟩ := hr
        exact storeC_ok ho hb hu hm hn (fun v hv => by have e : v = .slice none 0 0 := hv; subst e; exact ⟨rfl, rfl⟩) hT hM hN h
      · rename_i c' k' hn
        obtain ⟨rfl, rfl⟩ := hr
        refine storeC_ok ho hb hu hm hn (fun v hv => ?_) hT hM hN h
        obtain ⟨L, _, h2⟩ := hv
        cases k' with
        | none =>
          rcases h2 with ⟨_, rfl⟩ | ⟨cap, rfl, _⟩
          · exact ⟨rfl, rfl⟩
          · exact ⟨rfl, rfl⟩
        | some m =>
          obtain ⟨_, _, cap, rfl, _⟩ := h2
          exact ⟨rfl, rfl⟩
      · exact hr.elim
    · rename_i ty l hm
      split at hr
      · rename_i cs n hcs hn
        simp only [cond_eq_ite, Bool.and_eq_true, beq_iff_eq, Nat.ble_eq] at hr
        split at hr
        · rename_i hlen
          obtain ⟨rfl, rfl⟩ := hr
          obtain ⟨hlen, hfit⟩ := hlen
          obtain ⟨L, hL, he⟩ := opdV_rel hT hb
          have hBb := hM.blk b
          rw [hm] at hBb
          obtain ⟨L', cur, h1, h2, h3, h4, h5, hlok, h6⟩ := hBb
          rw [hL] at h1
          cases h1
          rw [h2, Nat.zero_add] at he
          obtain ⟨cur', hrun, hsz, htake, hat⟩ := store_run ho he hn hcs (opdV_rel hT hu) hlen hfit h4 h6
          unfold Oper.wp
          rw [hrun]
          refine h σ _ _ (Sg.le_refl σ) (fun _ _ => rfl) (fun _ => hN) ⟨#[], rfl, trivial⟩ ?_
          exact hM.store hm hL _ hat (by omega) htake (splice_ok hlok (cellsA_rel hcs (opdV_rel hT hu)).2) (fun k hk => setRow_other w L.blk k _ hk) (by simp) rfl rfl rfl
        · exact hr.elim
      · exact hr.elim
    · exact hr.elim
  · rename_i b i k u hb hu
    split at hr
    · rename_i ty τ xs hm
      split at hr
      · rename_i cs n hcs hn
        split at hr
        · rename_i y' hy'
          obtain ⟨rfl, rfl⟩ := hr
          simp only [cond_eq_ite, Bool.and_eq_true, beq_iff_eq, Nat.ble_eq] at hy'
          split at hy'
          · rename_i hlen
            obtain ⟨hlen, hfit⟩ := hlen
            obtain ⟨L, hL, he, hi⟩ := opdV_rel hT hb
            have hBb := hM.blk b
            rw [hm] at hBb
            obtain ⟨L', h1, h2, h3, hlok, h4, h5, h6⟩ := id hBb
            rw [hL] at h1
            cases h1
            rw [h2] at hi
            rw [h5, Nat.zero_add, h3] at he
            have hne : xs ≠ [] := fun e => by subst e; simp at hi
            rcases h6 with h6 | ⟨cur, h6, h7, h8⟩
            · exact absurd h6 hne
            have hcl : (τ.cells (xs.getD i τ.z)).length = τ.len := cells_len τ _
            have hfl : i * τ.len + τ.len ≤ (τ.flat xs).length := by
              rw [flat_len, ← Nat.succ_mul]
              exact Nat.mul_le_mul_right _ hi
            obtain ⟨cur', hrun, hsz, htake, hat⟩ := store_run (l := τ.flat xs) ho he hn hcs (opdV_rel hT hu) hlen (by omega) h6 h8
            have hsp : splice (τ.flat xs) (i * τ.len + k) cs = τ.flat (xs.set i y') := by
              rw [flat_set hi, of_cells hy']
              exact (splice_parts (fun j d hj => flat_get hi hj) (by rw [hcl, hlen]; exact hfit)).symm
            have hwr : (mget M b).wr = true := by
              rw [hm]
              cases xs with
              | nil => exact absurd rfl hne
              | cons _ _ => rfl
            unfold Oper.wp
            rw [hrun]
            refine h σ _ _ (Sg.le_refl σ) (fun _ _ => rfl) (fun _ => hN) ⟨#[], rfl, trivial⟩ ?_
            refine hM.write hwr hL _ _ ⟨L, hL, by rw [h2, List.length_set], h3, ?_, h4, h5, .inr ⟨cur', hat, by omega, ?_⟩⟩ (fun k hk => setRow_other w L.blk k _ hk) (by simp) rfl rfl rfl
            · rw [← hsp]
              exact splice_ok hlok (cellsA_rel hcs (opdV_rel hT hu)).2
            · rw [← hsp]
              exact htake
          · cases hy'
        · exact hr.elim
      · exact hr.elim
    · exact hr.elim
  · exact hr.elim

theorem nilCheck_ok {x : Operand} {v : AV} {s : Sets} (ho : o.op = .nilCheck x) (hr : Reach P G gb (opR P G EQ (.nilCheck x) T M N) v s) (hT : TRel σ T a) (hM : MRel w0 W σ M w) (hN : σ N = none)
    (h : Goes w0 W σ M N a o.dst next v s) : o.wp P a w next Q := by
  simp only [opR] at hr
  split at hr
  · rename_i b k hb
    obtain ⟨rfl, rfl⟩ := hr
    have hv := opdV_rel hT hb
    obtain ⟨L, hL, he⟩ := id hv
    refine h.value hM hN (v' := a.eval x) ?_ hv
    unfold execOp
    rw [ho]
    simp only [he]
    rfl
  · rename_i b i k hb
    obtain ⟨rfl, rfl⟩ := hr
    have hv := opdV_rel hT hb
    obtain ⟨L, hL, he, _⟩ := id hv
    refine h.value hM hN (v' := a.eval x) ?_ hv
    unfold execOp
    rw [ho]
    simp only [he]
    rfl
  · rename_i f l hb
    obtain ⟨rfl, rfl⟩ := hr
    have hv := opdV_rel hT hb
    obtain ⟨vs, he, _⟩ := id hv
    refine h.value hM hN (v' := a.eval x) ?_ hv
    unfold execOp
    rw [ho]
    simp only [he]
    rfl
  · exact hr.elim

theorem unOp_ok {op : UnOp} {t : TypeId} {x : Operand} {v : AV} {s : Sets} (ho : o.op = .unOp op t x) (hr : Reach P G gb (opR P G EQ (.unOp op t x) T M N) v s) (hT : TRel σ T a) (hM : MRel w0 W σ M w) (hN : σ N = none)
    (h : Goes w0 W σ M N a o.dst next v s) : o.wp P a w next Q := by
  simp only [opR] at hr
  split at hr
  · rename_i k n hx
    obtain ⟨rfl, rfl⟩ := hr
    have he : a.eval x = .int k n := (opdV_rel hT hx).1
    refine h.value hM hN (v' := .int k (wr k (0 - n))) ?_ ⟨rfl, wr_ok _ _⟩
    unfold execOp
    rw [ho]
    simp [Op.unary, he, Op.intArith, wr_eq]
  · rename_i b hx
    obtain ⟨rfl, rfl⟩ := hr
    have he : a.eval x = .bool b := (opdV_rel hT hx).1
    refine h.value hM hN (v' := .bool (!b)) ?_ ⟨rfl, trivial⟩
    unfold execOp
    rw [ho]
    simp [Op.unary, he]
  · exact hr.elim

theorem convert_ok {t u : TypeId} {x : Operand} {v : AV} {s : Sets} (ho : o.op = .convert t u x) (hr : Reach P G gb (opR P G EQ (.convert t u x) T M N) v s) (hT : TRel σ T a) (hM : MRel w0 W σ M w) (hN : σ N = none)
    (h : Goes w0 W σ M N a o.dst next v s) : o.wp P a w next Q := by
  simp only [opR] at hr
  split at hr
  · rename_i d k k' n h1 h2 hx
    obtain ⟨rfl, rfl⟩ := hr
    have he : a.eval x = .int k' n := (opdV_rel hT hx).1
    refine h.value hM hN (v' := .int k (wr k n)) ?_ ⟨rfl, wr_ok _ _⟩
    unfold execOp
    rw [ho]
    simp [convert, he, underlying_run h1, underlying_run h2, Conv.intToInt, wr_eq]
  · exact hr.elim

theorem extract_ok {x : Operand} {i : Nat} {v : AV} {s : Sets} (ho : o.op = .extract x i) (hr : Reach P G gb (opR P G EQ (.extract x i) T M N) v s) (hT : TRel σ T a) (hM : MRel w0 W σ M w) (hN : σ N = none)
    (h : Goes w0 W σ M N a o.dst next v s) : o.wp P a w next Q := by
  have get : ∀ (l : List V) (vs : List Value) (i : Nat) (u : V), VRels σ l vs → l[i]? = some u → ∃ v', vs[i]? = some v' ∧ VRel σ u v' := by
    intro l
    induction l with
    | nil => intro vs i u _ h; simp at h
    | cons x r ih =>
      intro vs i u hv hu
      cases vs with
      | nil => exact hv.elim
      | cons y s =>
        cases i with
        | zero => simp at hu; subst hu; exact ⟨y, rfl, hv.1⟩
        | succ i => exact ih s i u hv.2 (by simpa using hu)
  simp only [opR] at hr
  split at hr
  · rename_i l hx
    split at hr
    · rename_i u hu
      obtain ⟨rfl, rfl⟩ := hr
      obtain ⟨vs, he, hvs⟩ := opdV_rel hT hx
      obtain ⟨v', h1, h2⟩ := get l vs.toList i u hvs hu
      refine h.value hM hN (v' := v') ?_ h2
      unfold execOp
      rw [ho]
      have h1' : vs[i]? = some v' := by rw [← Array.getElem?_toList]; exact h1
      simp [he, Instr.extract, h1']
    · exact hr.elim
  · exact hr.elim

theorem fieldAddr_ok {t : TypeId} {x : Operand} {f : Nat} {v : AV} {s : Sets} (ho : o.op = .fieldAddr t x f) (hr : Reach P G gb (opR P G EQ (.fieldAddr t x f) T M N) v s) (hT : TRel σ T a) (hM : MRel w0 W σ M w) (hN : σ N = none)
    (h : Goes w0 W σ M N a o.dst next v s) : o.wp P a w next Q := by
  simp only [opR] at hr
  split at hr
  · rename_i fs b k h1 hx
    split at hr
    · rename_i fd hf
      split at hr
      · rename_i n hn
        obtain ⟨rfl, rfl⟩ := hr
        obtain ⟨L, hL, he⟩ := opdV_rel hT hx
        refine h.value hM hN (v' := .pointer (some ⟨L.blk, L.off + (k + fd.offset), none⟩)) ?_ ⟨L, hL, rfl⟩
        unfold execOp
        rw [ho]
        simp [Instr.fieldAt, underlying_run h1, hf, he, Instr.sureAddr, fieldPlace, sizeOf_run hn, add_mk, Nat.add_assoc]
      · exact hr.elim
    · exact hr.elim
  · rename_i fs b i k h1 hx
    split at hr
    · rename_i fd hf
      split at hr
      · rename_i n hn
        obtain ⟨rfl, rfl⟩ := hr
        obtain ⟨L, hL, he, hi⟩ := opdV_rel hT hx
        refine h.value hM hN (v' := .pointer (some ⟨L.blk, L.off + (i * L.es + (k + fd.offset)), none⟩)) ?_ ⟨L, hL, rfl, hi⟩
        unfold execOp
        rw [ho]
        simp [Instr.fieldAt, underlying_run h1, hf, he, Instr.sureAddr, fieldPlace, sizeOf_run hn, add_mk, Nat.add_assoc]
      · exact hr.elim
    · exact hr.elim
  · exact hr.elim

end
end Go.Ev

namespace Go.Ev
open Go

section
variable {P : Program} {G : Nat → Option (List D)} {gb : Nat} {EQ : Tab} {w0 : World} {W : Nat → Prop} {σ : Sg} {a : Act} {w : World} {T : TS} {M : List Blk} {N : Nat} {o : Oper}
  {next : Act → World → Prop} {Q : Exit → Act → World → Prop}

theorem field_ok {t : TypeId} {x : Operand} {f : Nat} {v : AV} {s : Sets} (ho : o.op = .field t x f) (hr : Reach P G gb (opR P G EQ (.field t x f) T M N) v s) (hT : TRel σ T a) (hM : MRel w0 W σ M w) (hN : σ N = none)
    (h : Goes w0 W σ M N a o.dst next v s) : o.wp P a w next Q := by
  simp only [opR] at hr
  split at hr
  · rename_i fs l h1 hx
    split at hr
    · rename_i fd hf
      obtain ⟨u, hu, rfl, rfl⟩ := leafO_reach hr
      obtain ⟨he, hok⟩ := opdV_rel hT hx
      obtain ⟨v', hrun, hv⟩ := part_run (σ := σ) (w := w) hu hok
      refine h.value hM hN (v' := v') ?_ hv
      unfold execOp
      rw [ho]
      simp only [Instr.field, Sem.run_bind, underlying_run h1, Result.andThen_ok, hf, he, asAgg, Sem.run_pure, hrun]
    · exact hr.elim
  · exact hr.elim

theorem indexAddr_ok {t : TypeId} {x i : Operand} {v : AV} {s : Sets} (ho : o.op = .indexAddr t x i) (hr : Reach P G gb (opR P G EQ (.indexAddr t x i) T M N) v s) (hT : TRel σ T a) (hM : MRel w0 W σ M w) (hN : σ N = none)
    (h : Goes w0 W σ M N a o.dst next v s) : o.wp P a w next Q := by
  simp only [opR] at hr
  split at hr
  · rename_i e b k n es ki j h1 hx hi
    split at hr
    · rename_i sz hs
      rcases hr with ⟨hb, rfl, rfl⟩ | ⟨_, hf⟩
      · simp only [Bool.and_eq_true, decide_eq_true_eq] at hb
        obtain ⟨L, cap, hL, he, _⟩ := opdV_rel hT hx
        have hj : a.eval i = .int ki j := (opdV_rel hT hi).1
        refine h.value hM hN (v' := .pointer (some ⟨L.blk, L.off + (k + j.toNat * sz), none⟩)) ?_ ⟨L, hL, rfl⟩
        unfold execOp
        rw [ho]
        simp [Instr.indexAt, asIntOf, hj, he, underlying_run h1, hb, sizeOf_run hs, add_mk, Nat.add_assoc]
      · exact hf.elim
    · exact hr.elim
  · rename_i e b k ki j h1 hx hi
    split at hr
    · rename_i sz own τ xs hs hm
      simp only [cond_eq_ite, beq_iff_eq] at hr
      split at hr
      · rename_i hsz
        rcases hr with ⟨hb, rfl, rfl⟩ | ⟨_, hf⟩
        · simp only [Bool.and_eq_true, decide_eq_true_eq] at hb
          have hj : a.eval i = .int ki j := (opdV_rel hT hi).1
          obtain ⟨L, hL, hv⟩ := opdV_rel hT hx
          have hB := hM.blk b
          rw [hm] at hB
          obtain ⟨L', g1, g2, g3, _⟩ := hB.elems
          rw [hL] at g1
          cases g1
          obtain ⟨n, cap, he, hlt, hjn⟩ : ∃ n cap, a.eval x = .slice (some ⟨L.blk, L.off, none⟩) n cap ∧ j.toNat < L.n ∧ j < (n : Int) := by
            cases k with
            | none =>
              rcases hv with ⟨h0, _⟩ | ⟨cap, he, _⟩
              · simp only [lenK] at hb; omega
              · exact ⟨L.n, cap, he, by simp only [lenK] at hb; omega, by simp only [lenK] at hb; omega⟩
            | some m =>
              obtain ⟨_, h2, cap, he, _⟩ := hv
              exact ⟨m, cap, he, by simp only [lenK] at hb; omega, by simp only [lenK] at hb; omega⟩
          refine h.value hM hN (v' := .pointer (some ⟨L.blk, L.off + (j.toNat * L.es + 0), none⟩)) ?_ ⟨L, hL, rfl, hlt⟩
          unfold execOp
          rw [ho]
          simp [Instr.indexAt, asIntOf, hj, he, underlying_run h1, hb.1, hjn, sizeOf_run hs, add_mk, hsz, g3]
        · exact hf.elim
      · exact hr.elim
    · exact hr.elim
  · rename_i n e b k ki j h1 hx hi
    split at hr
    · rename_i sz hs
      rcases hr with ⟨hb, rfl, rfl⟩ | ⟨_, hf⟩
      · simp only [Bool.and_eq_true, decide_eq_true_eq] at hb
        obtain ⟨L, hL, he⟩ := opdV_rel hT hx
        have hj : a.eval i = .int ki j := (opdV_rel hT hi).1
        refine h.value hM hN (v' := .pointer (some ⟨L.blk, L.off + (k + j.toNat * sz), none⟩)) ?_ ⟨L, hL, rfl⟩
        unfold execOp
        rw [ho]
        simp [Instr.indexAt, asIntOf, hj, he, underlying_run h1, Instr.sureAddr, hb, sizeOf_run hs, add_mk, Nat.add_assoc]
      · exact hf.elim
    · exact hr.elim
  · exact hr.elim

theorem byteAt_ok (s : ByteArray) (j : Int) : inR .u8 (byteAt s j) = true := by
  unfold byteAt
  have h := (s.data.toList.getD j.toNat 0).toNat_lt
  generalize (s.data.toList.getD j.toNat 0).toNat = m at h
  simp only [inR, Bool.and_eq_true, decide_eq_true_eq]
  omega

theorem index_ok {t : TypeId} {x i : Operand} {v : AV} {s : Sets} (ho : o.op = .index t x i) (hr : Reach P G gb (opR P G EQ (.index t x i) T M N) v s) (hT : TRel σ T a) (hM : MRel w0 W σ M w) (hN : σ N = none)
    (h : Goes w0 W σ M N a o.dst next v s) : o.wp P a w next Q := by
  simp only [opR] at hr
  split at hr
  · rename_i n e l ki j h1 hx hi
    split at hr
    · rename_i sz hs
      rcases hr with ⟨hb, hr⟩ | ⟨_, hf⟩
      · simp only [Bool.and_eq_true, decide_eq_true_eq] at hb
        obtain ⟨u, hu, rfl, rfl⟩ := leafO_reach hr
        obtain ⟨he, hok⟩ := opdV_rel hT hx
        have hj : a.eval i = .int ki j := (opdV_rel hT hi).1
        obtain ⟨v', hrun, hv⟩ := part_run (σ := σ) (w := w) hu hok
        refine h.value hM hN (v' := v') ?_ hv
        unfold execOp
        rw [ho]
        simp [Instr.index, asIntOf, hj, he, underlying_run h1, hb, sizeOf_run hs, hrun]
      · exact hf.elim
    · exact hr.elim
  · rename_i st ki j h1 hx hi
    rcases hr with ⟨hb, hr⟩ | ⟨_, hf⟩
    · simp only [Bool.and_eq_true, decide_eq_true_eq] at hb
      obtain ⟨rfl, rfl⟩ := hr
      have he : a.eval x = .string st := (opdV_rel hT hx).1
      have hj : a.eval i = .int ki j := (opdV_rel hT hi).1
      refine h.value hM hN (v' := .int .u8 (byteAt st j)) ?_ ⟨rfl, byteAt_ok st j⟩
      unfold execOp
      rw [ho]
      simp [Instr.index, asIntOf, hj, he, underlying_run h1, hb, byteAt]
      rfl
    · exact hf.elim
  · exact hr.elim

end
end Go.Ev

namespace Go.Ev
open Go

theorem fold_set (off : Nat) : ∀ (vs : List Value) (k : Nat) (arr : Array Value), off + k + vs.length ≤ arr.size →
    (vs.zipIdx k).foldl (fun cs (p : Value × Nat) => cs.setIfInBounds (off + p.2) p.1) arr = (arr.toList.take (off + k) ++ (vs ++ arr.toList.drop (off + k + vs.length))).toArray
  | [], k, arr, _ => by
    simp
  | v :: r, k, arr, h => by
    simp only [List.zipIdx_cons, List.foldl_cons]
    rw [fold_set off r (k + 1) _ (by simp at h ⊢; omega)]
    congr 1
    simp only [List.length_cons] at h ⊢
    have e1 : (arr.setIfInBounds (off + k) v).toList.take (off + (k + 1)) = arr.toList.take (off + k) ++ [v] := by
      rw [Array.toList_setIfInBounds, ← Nat.add_assoc, List.take_succ_eq_append_getElem (by simp; omega)]
      rw [List.take_set_of_le (Nat.le_refl _)]
      simp
    have e2 : (arr.setIfInBounds (off + k) v).toList.drop (off + (k + 1) + r.length) = arr.toList.drop (off + k + (r.length + 1)) := by
      rw [Array.toList_setIfInBounds, List.drop_set_of_lt (by omega)]
      congr 1
      omega
    rw [e1, e2]
    simp

section
variable {P : Program} {G : Nat → Option (List D)} {gb : Nat} {EQ : Tab} {w0 : World} {W : Nat → Prop} {σ : Sg} {a : Act} {w : World} {T : TS} {M : List Blk} {N : Nat} {o : Oper}
  {next : Act → World → Prop} {Q : Exit → Act → World → Prop}

def PartsRel : List (Nat × List D) → List (Nat × Value) → Prop
  | [], [] => True
  | x :: r, y :: s => (x.1 = y.1 ∧ y.2.cells = (x.2.map D.val).toArray ∧ ∀ d ∈ x.2, d.ok) ∧ PartsRel r s
  | _, _ => False

theorem partVs_rel (hT : TRel σ T a) : ∀ {ps : List (Nat × Operand)} {l : List (Nat × List D)}, partVs T ps = some l → PartsRel l (ps.map fun p => (p.1, a.eval p.2))
  | [], l, h => by simp only [partVs, Option.some.injEq] at h; subst h; trivial
  | p :: r, l, h => by
    simp only [partVs] at h
    split at h
    · rename_i v l' h1 h2
      split at h
      · rename_i cs hcs
        simp only [Option.some.injEq] at h
        subst h
        exact ⟨⟨rfl, cellsA_rel hcs (opdV_rel hT h1)⟩, partVs_rel hT h2⟩
      · cases h
    · cases h

theorem fill_rel {place place' : Nat → Option (Nat × Nat)} (hp : ∀ i, place' i = place i) : ∀ {l : List (Nat × List D)} {ps : List (Nat × Value)} {z cs : List D}, (∀ d ∈ z, d.ok) → PartsRel l ps → fillD place z l = some cs →
    Instr.fill place' (z.map D.val).toArray ps = some (cs.map D.val).toArray ∧ ∀ d ∈ cs, d.ok
  | [], [], z, cs, hz, _, h => by simp only [fillD, Option.some.injEq] at h; subst h; exact ⟨rfl, hz⟩
  | x :: r, y :: s, z, cs, hz, ⟨⟨h1, h2, hxo⟩, h3⟩, h => by
    simp only [fillD] at h
    split at h
    · cases h
    · rename_i q hq
      simp only [cond_eq_ite, Bool.and_eq_true, beq_iff_eq, Nat.ble_eq] at h
      split at h
      · rename_i hc
        obtain ⟨hc1, hc2⟩ := hc
        obtain ⟨ih, iho⟩ := fill_rel hp (splice_ok hz hxo) h3 h
        refine ⟨?_, iho⟩
        obtain ⟨yi, yv⟩ := y
        obtain ⟨q1, q2⟩ := q
        simp only at h1 h2 hc1 hc2 ih
        subst h1
        unfold Instr.fill
        rw [hp, hq]
        simp only [h2]
        rw [if_neg (by simp; omega)]
        rw [← ih]
        congr 1
        rw [← Array.foldl_toList, Array.toList_zipIdx]
        have := fold_set q1 (x.2.map D.val) 0 (z.map D.val).toArray (by simp; omega)
        simp only [Nat.add_zero, List.length_map] at this
        rw [this]
        simp [splice, List.map_take, List.map_drop]
      · cases h
  | [], _ :: _, _, _, _, hh, _ => hh.elim
  | _ :: _, [], _, _, _, hh, _ => hh.elim

theorem places_run : ∀ {fs : List Field} {pl : List (Nat × Nat)}, fieldPlaces P fs = some pl → (fs.mapM fun f => do pure (f.offset, ← sizeOf f.type) : Sem (List (Nat × Nat))).run P w = .ok pl w
  | [], pl, h => by simp only [fieldPlaces, Option.some.injEq] at h; subst h; rfl
  | f :: r, pl, h => by
    simp only [fieldPlaces] at h
    split at h
    · rename_i s l h1 h2
      simp only [Option.some.injEq] at h
      subst h
      have := places_run h2
      simp only [List.mapM_cons, Sem.run_bind, sizeOf_run h1, Result.andThen_ok, Sem.run_pure, this]
    · cases h

theorem build_ok {t : TypeId} {ps : Array (Nat × Operand)} {v : AV} {s : Sets} (ho : o.op = .build t ps) (hr : Reach P G gb (opR P G EQ (.build t ps) T M N) v s) (hT : TRel σ T a) (hM : MRel w0 W σ M w) (hN : σ N = none)
    (h : Goes w0 W σ M N a o.dst next v s) : o.wp P a w next Q := by
  simp only [opR] at hr
  split at hr
  · rename_i l z fs hl hz hu
    split at hr
    · rename_i pl hpl
      split at hr
      · rename_i cs hcs
        obtain ⟨rfl, rfl⟩ := hr
        obtain ⟨zv, hzr, ⟨hzc, hzo⟩, _⟩ := zero_run (w := w) hz
        obtain ⟨hfill, hco⟩ := fill_rel (place' := fun i => pl.toArray[i]?) (fun i => by simp) hzo (partVs_rel hT hl) hcs
        have hplr : (fs.mapM fun f => do pure (f.offset, ← sizeOf f.type) : Sem (Array (Nat × Nat))).run P w = .ok pl.toArray w := by
          rw [Array.mapM_eq_mapM_toList, map_eq_pure_bind]
          simp only [Sem.run_bind, places_run hpl, Result.andThen_ok, Sem.run_pure]
        refine h.value hM hN (v' := .agg (cs.map D.val).toArray) ?_ ⟨rfl, hco⟩
        unfold execOp
        rw [ho]
        simp only [Instr.build, Sem.run_bind, hzr, Result.andThen_ok, underlying_run hu, hplr, hzc, Array.toList_map]
        rw [hfill]
        rfl
      · exact hr.elim
    · exact hr.elim
  · rename_i l z n e hl hz hu
    split at hr
    · rename_i sz hs
      split at hr
      · rename_i cs hcs
        obtain ⟨rfl, rfl⟩ := hr
        obtain ⟨zv, hzr, ⟨hzc, hzo⟩, _⟩ := zero_run (w := w) hz
        obtain ⟨hfill, hco⟩ := fill_rel (place' := fun i => some (i * sz, sz)) (fun i => rfl) hzo (partVs_rel hT hl) hcs
        refine h.value hM hN (v' := .agg (cs.map D.val).toArray) ?_ ⟨rfl, hco⟩
        unfold execOp
        rw [ho]
        simp only [Instr.build, Sem.run_bind, hzr, Result.andThen_ok, underlying_run hu, sizeOf_run hs, hzc, Array.toList_map]
        rw [hfill]
        rfl
      · exact hr.elim
    · exact hr.elim
  · exact hr.elim

theorem made_list (z : List Value) (d : Value) (k : Nat) (hk : z.length = k) (h0 : 0 < k) : ∀ n, (List.range (n * k)).map (fun j => z.getD (j % k) d) = (List.replicate n z).flatten
  | 0 => by simp
  | n + 1 => by
    rw [Nat.succ_mul, List.range_add, List.map_append, made_list z d k hk h0 n, List.replicate_succ', List.flatten_append]
    congr 1
    simp only [List.flatten_cons, List.flatten_nil, List.append_nil, List.map_map]
    apply List.ext_getElem
    · simp [hk]
    · intro i h1 h2
      simp only [List.getElem_map, List.getElem_range, Function.comp_apply]
      rw [Nat.mul_comm n k, Nat.mul_add_mod, Nat.mod_eq_of_lt (by omega), List.getD_eq_getElem?_getD, List.getElem?_eq_getElem h2]
      rfl

theorem made_cells {l : List D} {k : Nat} (hk : l.length = k) (n : Nat) : (madeCells (l.map D.val).toArray (n * k)).toList = ((List.replicate n l).flatten).map D.val := by
  by_cases h0 : 0 < k
  · have := made_list (l.map D.val) default k (by simp [hk]) h0 n
    rw [List.map_flatten, List.map_replicate, ← this]
    simp only [madeCells, Array.toList_map, Array.toList_range]
    apply List.map_congr_left
    intro j _
    simp [hk, List.getD_eq_getElem?_getD, Array.getElem!_eq_getD, Array.getD_eq_getD_getElem?]
  · have : k = 0 := by omega
    subst this
    have hl : l = [] := List.eq_nil_of_length_eq_zero hk
    subst hl
    simp [madeCells]

theorem rep_ok {z : List D} (h : ∀ d ∈ z, d.ok) (n : Nat) : ∀ d ∈ (List.replicate n z).flatten, d.ok := by
  intro d hd
  obtain ⟨l, hl, hdl⟩ := List.mem_flatten.1 hd
  rw [List.eq_of_mem_replicate hl] at hdl
  exact h d hdl

theorem alloc_goes {v : AV} {v' : Value} {t : Nat} {l : List D} {cur : Array Value} {w' : World} (h : Goes w0 W σ M N a o.dst next v [(N, .rw t l)]) (hM : MRel w0 W σ M w) (hN : σ N = none)
    (hrun : (execOp a.eval o).run P w = .ok (.value v') w') (hw : w'.heap = w.heap.push (.cells cur t (0, 0))) (hos : w'.os = w.os) (htp : w'.tape = w.tape) (hou : w'.output = w.output)
    (hcur : cur.toList.take l.length = l.map D.val) (hok : ∀ d ∈ l, d.ok) (hv : AVRel (sgSet σ N ⟨w.heap.size, 0, cur.size, true, 0, 0⟩) v v') : o.wp P a w next Q := by
  unfold Oper.wp
  rw [hrun]
  exact h (sgSet σ N ⟨w.heap.size, 0, cur.size, true, 0, 0⟩) v' w' (sgSet_le hN) (fun b hb => sgSet_ne _ _ _ _ hb) (fun hp => absurd rfl (hp (N, .rw t l) (by simp))) hv (hM.alloc hN t l cur hcur hok w' hw hos htp hou)

theorem ofs_flat {τ : ET} : ∀ {n : Nat} {l : List D} {xs : List τ.T}, τ.ofs n l = some xs → τ.flat xs = l ∧ xs.length = n
  | 0, [], xs, h => by simp only [ET.ofs, Option.some.injEq] at h; subst h; exact ⟨rfl, rfl⟩
  | 0, _ :: _, xs, h => by simp [ET.ofs] at h
  | n + 1, l, xs, h => by
    simp only [ET.ofs] at h
    split at h
    · rename_i x r hx hr
      cases h
      obtain ⟨h1, h2⟩ := ofs_flat hr
      exact ⟨by rw [ET.flat, of_cells hx, h1, List.take_append_drop], by simp [h2]⟩
    · cases h

theorem flat_rep {τ : ET} (x : τ.T) : ∀ n, τ.flat (List.replicate n x) = (List.replicate n (τ.cells x)).flatten
  | 0 => rfl
  | n + 1 => by simp [List.replicate_succ, ET.flat, flat_rep x n]

theorem allocA_goes {v : AV} {v' : Value} {t : Nat} {τ : ET} {xs : List τ.T} {cur : Array Value} {w' : World} (h : Goes w0 W σ M N a o.dst next v [(N, .arr (some t) τ xs)]) (hM : MRel w0 W σ M w) (hN : σ N = none)
    (hrun : (execOp a.eval o).run P w = .ok (.value v') w') (hw : w'.heap = w.heap.push (.cells cur t (0, 0))) (hos : w'.os = w.os) (htp : w'.tape = w.tape) (hou : w'.output = w.output)
    (hcur : cur.toList.take (τ.flat xs).length = (τ.flat xs).map D.val) (hok : ∀ d ∈ τ.flat xs, d.ok) (hv : AVRel (sgSet σ N ⟨w.heap.size, 0, cur.size, true, xs.length, τ.len⟩) v v') : o.wp P a w next Q := by
  unfold Oper.wp
  rw [hrun]
  exact h _ v' w' (sgSet_le hN) (fun b hb => sgSet_ne _ _ _ _ hb) (fun hp => absurd rfl (hp (N, .arr (some t) τ xs) (by simp))) hv (hM.allocA hN t τ xs cur hcur hok w' hw hos htp hou)

theorem buildSlice_ok {t : TypeId} {n : Nat} {ps : Array (Nat × Operand)} {v : AV} {s : Sets} (ho : o.op = .buildSlice t n ps) (hr : Reach P G gb (opR P G EQ (.buildSlice t n ps) T M N) v s) (hT : TRel σ T a) (hM : MRel w0 W σ M w) (hN : σ N = none)
    (h : Goes w0 W σ M N a o.dst next v s) : o.wp P a w next Q := by
  simp only [opR] at hr
  split at hr
  · rename_i l e hl hu
    split at hr
    · rename_i z sz hz hs
      simp only [cond_eq_ite, Bool.and_eq_true, beq_iff_eq, Nat.ble_eq] at hr
      split at hr
      · rename_i hc
        obtain ⟨hzl, hcells, hroom⟩ := hc
        split at hr
        · rename_i cs hcs
          obtain ⟨zv, hzr, ⟨hzc, hzo⟩, _⟩ := zero_run (w := w) hz
          obtain ⟨hfill, hco⟩ := fill_rel (place' := fun i => some (i * sz, sz)) (fun i => rfl) (rep_ok hzo n) (partVs_rel hT hl) hcs
          have hmade : (Array.range (n * sz)).map (fun j => ((z.map D.val).toArray : Array Value)[j % (z.map D.val).toArray.size]!) = (((List.replicate n z).flatten).map D.val).toArray := by
            apply Array.ext'
            exact made_cells hzl n
          have hlen : cs.length = n * sz := by
            have key : ∀ (l : List (Nat × List D)) (z cs : List D) (place : Nat → Option (Nat × Nat)), fillD place z l = some cs → cs.length = z.length := by
              intro l
              induction l with
              | nil => intro z cs place h; simp only [fillD, Option.some.injEq] at h; rw [h]
              | cons x r ih =>
                intro z cs place h
                simp only [fillD] at h
                split at h
                · cases h
                · simp only [cond_eq_ite, Bool.and_eq_true, beq_iff_eq, Nat.ble_eq] at h
                  split at h
                  · rename_i hc
                    rw [ih _ _ _ h, splice_len hc.2]
                  · cases h
            rw [key _ _ _ _ hcs]
            simp [hzl]
          have hrun : (execOp a.eval o).run P w = .ok (.value (.slice (some ⟨w.heap.size, 0, none⟩) n n)) (w.alloc (.cells (cs.map D.val).toArray e)) := by
            unfold execOp
            rw [ho]
            have h24 : ¬ n * sz > 2 ^ 24 := by
              have : (2 : Nat) ^ 24 = 16777216 := by decide
              omega
            simp only [Instr.buildSlice, Sem.run_bind, underlying_run hu, sizeOf_run hs, Result.andThen_ok]
            rw [if_neg h24]
            by_cases h0 : n * sz = 0
            · have e0 : cs = [] := List.eq_nil_of_length_eq_zero (by omega)
              subst e0
              have hfl : ((List.replicate n z).flatten).map D.val = [] := by
                apply List.eq_nil_of_length_eq_zero
                simp [hzl, h0]
              rw [hfl] at hfill
              rw [if_pos h0]
              simp only [Sem.run_pure, h0, Array.range_zero', List.map_toArray, List.map_nil, Array.toList_map]
              simp only [List.map_nil] at hfill
              simp only [Sem.run_bind, Sem.run_pure, Result.andThen_ok]
              rw [hfill]
              simp [newRow, newObj, Sem.run]
            · rw [if_neg h0]
              simp only [Sem.run_bind, hzr, Result.andThen_ok, Sem.run_pure, hzc, hmade, Array.toList_map]
              rw [hfill]
              simp [newRow, newObj, Sem.run]
          have hml : n ≤ maxLen := by simp only [maxLen, roomD] at *; omega
          split at hr
          · obtain ⟨rfl, rfl⟩ := hr
            refine alloc_goes h hM hN hrun rfl rfl rfl rfl (take_all cs) hco ?_
            exact ⟨_, n, sgSet_self _ _ _, rfl, Nat.le_refl _, hml, fun _ _ => ⟨by simp [hlen], hml⟩⟩
          · rename_i τ _
            by_cases hsz : sz = τ.len
            · rw [if_pos hsz] at hr
              split at hr
              · rename_i xs hxs
                obtain ⟨rfl, rfl⟩ := hr
                obtain ⟨hfl, hxl⟩ := ofs_flat hxs
                refine allocA_goes h hM hN hrun rfl rfl rfl rfl (by rw [hfl]; exact take_all cs) (by rw [hfl]; exact hco) ⟨_, sgSet_self _ _ _, .inr ⟨n, ?_, ?_, ?_, fun _ => ⟨?_, hml, fun e => ?_⟩⟩⟩
                · simp only [hxl]
                · simp only [hxl]; exact Nat.le_refl _
                · simp only [hxl]; exact hml
                · simp [hlen, hsz]
                · simp only at e; omega
              · exact hr.elim
            · rw [if_neg hsz] at hr
              exact hr.elim
        · exact hr.elim
      · exact hr.elim
    · exact hr.elim
  · exact hr.elim

theorem makeFunc_ok {fn : Fn} {first caps : Array Operand} {v : AV} {s : Sets} (ho : o.op = .makeFunc fn first caps) (hr : Reach P G gb (opR P G EQ (.makeFunc fn first caps) T M N) v s) (hT : TRel σ T a) (hM : MRel w0 W σ M w) (hN : σ N = none)
    (h : Goes w0 W σ M N a o.dst next v s) : o.wp P a w next Q := by
  have key : ∀ (l : List AV) (vs : List Value) (cs : List Nat), AVRels σ l vs → capsOf l = some cs → PRel σ cs vs := by
    intro l
    induction l with
    | nil => intro vs cs hv hc; simp only [capsOf, Option.some.injEq] at hc; subst hc; cases vs with | nil => trivial | cons _ _ => exact hv.elim
    | cons x r ih =>
      intro vs cs hv hc
      cases vs with
      | nil => exact hv.elim
      | cons y u =>
        unfold capsOf at hc
        split at hc
        · cases ‹_ = []›
        · rename_i b r' heq
          cases heq
          split at hc
          · rename_i l' hl'
            cases hc
            obtain ⟨⟨L, hL, he⟩, h2⟩ := hv
            exact ⟨⟨L, hL, by simpa using he⟩, ih u l' h2 hl'⟩
          · cases hc
        · cases hc
  simp only [opR] at hr
  split at hr
  · rename_i f l hf hl
    split at hr
    · rename_i cs hcs
      obtain ⟨rfl, rfl⟩ := hr
      have hvs := opdVs_rel hT hl
      have h1 : first = #[] := Array.ext' hf
      refine h.value hM hN (v' := .func (.func f) #[] (caps.map a.eval)) ?_ ⟨_, rfl, ?_⟩
      · unfold execOp
        rw [ho, h1]
        simp [Instr.makeFunc]
      · rw [Array.toList_map]
        exact key _ _ _ hvs hcs
    · exact hr.elim
  · exact hr.elim

theorem makeSlice_ok {t : TypeId} {x y : Operand} {v : AV} {s : Sets} (ho : o.op = .makeSlice t x y) (hr : Reach P G gb (opR P G EQ (.makeSlice t x y) T M N) v s) (hT : TRel σ T a) (hM : MRel w0 W σ M w) (hN : σ N = none)
    (h : Goes w0 W σ M N a o.dst next v s) : o.wp P a w next Q := by
  simp only [opR] at hr
  split at hr
  · rename_i e k n k' n' hu hx hy
    split at hr
    · rename_i z i hz hi
      rcases hr with ⟨hb, hr⟩ | ⟨_, hf⟩
      · simp only [Bool.and_eq_true, decide_eq_true_eq, beq_iff_eq, Nat.ble_eq, Nat.blt_eq] at hb
        obtain ⟨rfl, h0, h1, hzl, hsz, hby⟩ := hb
        obtain ⟨zv, _, ⟨hzc, hzo⟩, i', hi', hz'⟩ := zero_run (w := w) hz
        rw [hi] at hi'
        cases hi'
        have hx' : a.eval x = .int k n := (opdV_rel hT hx).1
        have hy' : a.eval y = .int k' n := (opdV_rel hT hy).1
        have hbn : (i.bytes : Int) * n ≤ 281474976710656 := by
          have h2 : (i.bytes : Int) * n ≤ 4096 * 1048576 := Int.mul_le_mul (by omega) h1 h0 (by omega)
          omega
        have hmk := run_make (P := P) w t e i zv hu hi hz' k k' n n h0 (Int.le_refl _) hbn (by omega)
        rw [hzc] at hmk
        have hcs := made_cells hzl n.toNat
        have hrun : (execOp a.eval o).run P w = .ok (.value (.slice (some ⟨w.heap.size, 0, none⟩) n.toNat n.toNat)) (w.alloc (.cells (madeCells (z.map D.val).toArray (n.toNat * i.size)) e)) := by
          unfold execOp
          rw [ho]
          simp only [hx', hy', Sem.run_bind, hmk, Result.andThen_ok, Sem.run_pure]
        have hml : n.toNat ≤ maxLen := by simp only [maxLen]; omega
        split at hr
        · obtain ⟨rfl, rfl⟩ := hr
          refine alloc_goes h hM hN hrun rfl rfl rfl rfl ?_ (rep_ok hzo _) ⟨_, n.toNat, sgSet_self _ _ _, rfl, Nat.le_refl _, hml, fun _ _ => ⟨by simp [size_madeCells], hml⟩⟩
          rw [hcs]
          exact List.take_of_length_le (by simp)
        · rename_i τ _
          split at hr
          · rename_i y' hy'
            obtain ⟨rfl, rfl⟩ := hr
            simp only [cond_eq_ite, beq_iff_eq] at hy'
            split at hy'
            · rename_i hes
              have hfl : τ.flat (List.replicate n.toNat y') = (List.replicate n.toNat z).flatten := by rw [flat_rep, of_cells hy']
              refine allocA_goes h hM hN hrun rfl rfl rfl rfl ?_ (by rw [hfl]; exact rep_ok hzo _) ⟨_, sgSet_self _ _ _, .inr ⟨n.toNat, ?_, ?_, ?_, fun _ => ⟨?_, hml, fun e => ?_⟩⟩⟩
              · rw [hfl, hcs]
                exact List.take_of_length_le (by simp)
              · simp
              · simp
              · simpa using hml
              · simp [size_madeCells, hes]
              · simpa using e
            · cases hy'
          · exact hr.elim
      · exact hf.elim
    · exact hr.elim
  · exact hr.elim

theorem bound_run {hi : Option Operand} {n m y : Nat} (hT : TRel σ T a) (h : boundO T n hi = some m) (hm : m ≤ y) (c : BoundsCode) :
    (match hi.map a.eval with | some v => Instr.sliceBound v y c | none => pure n : Sem Nat).run P w = .ok m w := by
  unfold boundO at h
  split at h
  · cases h; rfl
  · rename_i x
    split at h
    · rename_i k i hx
      simp only [cond_eq_ite, decide_eq_true_eq] at h
      split at h
      · rename_i h0
        cases h
        have hx' : a.eval x = .int k i := (opdV_rel hT hx).1
        simp only [Option.map_some, hx', Instr.sliceBound, asIntOf, Sem.run_bind, Sem.run_pure, Result.andThen_ok]
        rw [if_pos ⟨h0, by omega⟩]
        rfl
      · cases h
    · cases h

theorem slice_ok {t : TypeId} {x : Operand} {lo hi mx : Option Operand} {v : AV} {s : Sets} (ho : o.op = .slice t x lo hi mx) (hr : Reach P G gb (opR P G EQ (.slice t x lo hi mx) T M N) v s) (hT : TRel σ T a) (hM : MRel w0 W σ M w) (hN : σ N = none)
    (h : Goes w0 W σ M N a o.dst next v s) : o.wp P a w next Q := by
  simp only [opR] at hr
  split at hr
  · rename_i e b k n sz hu hx
    split at hr
    · rename_i sz' l hh hs hl hhi
      simp only [cond_eq_ite, Bool.and_eq_true, beq_iff_eq, Nat.ble_eq, Nat.blt_eq] at hr
      split at hr
      · rename_i hc
        obtain ⟨rfl, hlh, hhn, hln⟩ := hc
        obtain ⟨rfl, rfl⟩ := hr
        obtain ⟨L, cap, hL, he, hcap, hnm, hown⟩ := opdV_rel hT hx
        have h1 := bound_run (P := P) (w := w) hT hhi (Nat.le_trans hhn hcap) .sliceAcap
        have h2 := bound_run (P := P) (w := w) hT hl hlh .sliceB
        have hb : (Instr.sliceBounds true n cap (lo.map a.eval) (hi.map a.eval) none).run P w = .ok (l, hh, cap) w := by
          simp only [Instr.sliceBounds, Sem.run_bind, Sem.run_pure, Result.andThen_ok]
          cases hhi' : hi.map a.eval with
          | none =>
            rw [hhi'] at h1
            cases h1
            cases hlo' : lo.map a.eval with
            | none => rw [hlo'] at h2; cases h2; rfl
            | some u =>
              rw [hlo'] at h2
              simp only at h2
              simp [h2]
          | some u' =>
            rw [hhi'] at h1
            simp only at h1
            cases hlo' : lo.map a.eval with
            | none => rw [hlo'] at h2; cases h2; simp [h1]
            | some u =>
              rw [hlo'] at h2
              simp only at h2
              simp [h1, h2]
        refine h.value hM hN (v' := .slice (some ⟨L.blk, L.off + (k + l * sz), none⟩) (hh - l) (cap - l)) ?_ ?_
        · unfold execOp
          rw [ho]
          simp only [Instr.sliceAt, Instr.slice, Sem.run_bind, underlying_run hu, Result.andThen_ok, he, Option.map_none, hb, sizeOf_run hs, Sem.run_pure]
          rw [if_neg (by omega)]
          simp [add_mk, Nat.add_assoc]
        · refine ⟨L, cap - l, hL, rfl, by omega, by omega, fun hw h0 => ?_⟩
          obtain ⟨h3, h4⟩ := hown hw (by omega)
          exact ⟨Nat.le_trans (Nat.mul_le_mul_right _ (Nat.sub_le _ _)) h3, by omega⟩
      · exact hr.elim
    · exact hr.elim
  · rename_i e b hu hx
    split at hr
    · rename_i sz m own τ xs hs hhi hm
      simp only [cond_eq_ite, beq_iff_eq] at hr
      split at hr
      · rename_i hsz
        rcases hr with ⟨hc, rfl, rfl⟩ | ⟨_, hf⟩
        · simp only [Bool.and_eq_true, Nat.ble_eq, Nat.blt_eq] at hc
          obtain ⟨hm0, hmx⟩ := hc
          obtain ⟨L, hL, hv⟩ := opdV_rel hT hx
          have hB := hM.blk b
          rw [hm] at hB
          obtain ⟨L', g1, g2, g3, _⟩ := hB.elems
          rw [hL] at g1
          cases g1
          rcases hv with ⟨h0, _⟩ | ⟨cap, he, hcap, hnm, _⟩
          · omega
          have h1 := bound_run (P := P) (w := w) (y := cap) (n := L.n) hT (m := m) (hi := hi) (by
            unfold boundO at hhi ⊢
            cases hi with
            | none => simp only [Option.some.injEq] at hhi; omega
            | some _ => exact hhi) (by omega) .sliceAcap
          have hb : (Instr.sliceBounds true L.n cap none (hi.map a.eval) none).run P w = .ok (0, m, cap) w := by
            simp only [Instr.sliceBounds, Sem.run_bind, Sem.run_pure, Result.andThen_ok]
            cases hhi' : hi.map a.eval with
            | none =>
              rw [hhi'] at h1
              cases h1
              rfl
            | some u' =>
              rw [hhi'] at h1
              simp only at h1
              simp [h1]
          refine h.value hM hN (v' := .slice (some ⟨L.blk, L.off, none⟩) m cap) ?_ ⟨L, hL, hm0, by omega, cap, rfl, by omega, by omega⟩
          unfold execOp
          rw [ho]
          simp only [Instr.sliceAt, Instr.slice, Sem.run_bind, underlying_run hu, Result.andThen_ok, he, Option.map_none, hb, sizeOf_run hs, Sem.run_pure]
          rw [if_neg (by omega)]
          simp [add_mk]
        · exact hf.elim
      · exact hr.elim
    · exact hr.elim
  · rename_i n e b k hu hx
    split at hr
    · rename_i sz t' l hs hm
      simp only [cond_eq_ite, Bool.and_eq_true, beq_iff_eq, Nat.ble_eq, Nat.blt_eq] at hr
      split at hr
      · rename_i hc
        obtain ⟨hn, rfl, hlen, hroom⟩ := hc
        obtain ⟨rfl, rfl⟩ := hr
        obtain ⟨L, hL, he⟩ := opdV_rel hT hx
        have hBb := hM.blk b
        rw [hm] at hBb
        obtain ⟨L', cur, h1, h2, h3, h4, h5, _, h6⟩ := hBb
        rw [hL] at h1
        cases h1
        refine h.value hM hN (v' := .slice (some ⟨L.blk, L.off + 0, none⟩) n n) ?_ ⟨L, n, hL, rfl, Nat.le_refl _, by simp only [maxLen, roomD] at *; omega, fun _ _ => ⟨?_, ?_⟩⟩
        · unfold execOp
          rw [ho]
          simp [Instr.sliceAt, underlying_run hu, he, Instr.sureAddr, Instr.sliceBounds, sizeOf_run hs, Addr.add]
        · rw [← h5, ← hlen]
          have := congrArg List.length h6
          simp at this
          omega
        · simp only [maxLen, roomD] at *
          omega
      · exact hr.elim
    · exact hr.elim
  · exact hr.elim

end
end Go.Ev

namespace Go.Ev
open Go

section
variable {P : Program} {G : Nat → Option (List D)} {gb : Nat} {EQ : Tab} {w0 : World} {W : Nat → Prop} {σ : Sg} {a : Act} {w : World} {T : TS} {M : List Blk} {N : Nat} {o : Oper}
  {next : Act → World → Prop} {Q : Exit → Act → World → Prop}

theorem tmod_ok {k : IntKind} {x y : Int} (hx : inR k x = true) (hy : inR k y = true) : inR k (x.tmod y) = true := by
  have key : (0 ≤ x → 0 ≤ x.tmod y ∧ x.tmod y ≤ x) ∧ (x ≤ 0 → x ≤ x.tmod y ∧ x.tmod y ≤ 0) := by
    constructor
    · intro h
      exact ⟨Int.tmod_nonneg y h, by
        have h1 := Int.tmod_nonneg y h
        rcases Int.le_total 0 y with h2 | h2
        · rw [Int.tmod_eq_emod_of_nonneg h]
          by_cases e : y = 0
          · subst e; simp
          · have := Int.emod_nonneg x e
            have h3 := Int.mul_ediv_add_emod x y
            have h4 : 0 ≤ y * (x / y) := Int.mul_nonneg h2 (Int.ediv_nonneg h h2)
            omega
        · rw [Int.tmod_eq_emod_of_nonneg h]
          by_cases e : y = 0
          · subst e; simp
          · have h3 := Int.mul_ediv_add_emod x y
            have h4 : 0 ≤ y * (x / y) := by
              have h5 : x / y ≤ 0 := by
                have := Int.ediv_nonneg h (show 0 ≤ -y by omega)
                rw [Int.ediv_neg] at this
                omega
              have := Int.mul_nonneg (show 0 ≤ -y by omega) (show 0 ≤ -(x / y) by omega)
              rw [Int.neg_mul_neg] at this
              exact this
            omega⟩
    · intro h
      have hn : 0 ≤ -x := by omega
      have e : x.tmod y = -((-x).tmod y) := by rw [Int.neg_tmod, Int.neg_neg]
      have h1 := Int.tmod_nonneg y hn
      have h2 : (-x).tmod y ≤ -x := by
        rw [Int.tmod_eq_emod_of_nonneg hn]
        by_cases e : y = 0
        · subst e; simp
        · have h3 := Int.mul_ediv_add_emod (-x) y
          rcases Int.le_total 0 y with h2 | h2
          · have h4 : 0 ≤ y * (-x / y) := Int.mul_nonneg h2 (Int.ediv_nonneg hn h2)
            omega
          · have h4 : 0 ≤ y * (-x / y) := by
              have h5 : -x / y ≤ 0 := by
                have := Int.ediv_nonneg hn (show 0 ≤ -y by omega)
                rw [Int.ediv_neg] at this
                omega
              have := Int.mul_nonneg (show 0 ≤ -y by omega) (show 0 ≤ -(-x / y) by omega)
              rw [Int.neg_mul_neg] at this
              exact this
            omega
      omega
  cases k <;> simp only [inR, Bool.and_eq_true, decide_eq_true_eq] at hx hy ⊢ <;> (rcases Int.le_total 0 x with h | h; have := key.1 h; omega; have := key.2 h; omega)

theorem fdiv_ok {k : IntKind} {x : Int} (hx : inR k x = true) (n : Nat) : inR k (x.fdiv (2 ^ n)) = true := by
  have hp : (0 : Int) < 2 ^ n := Int.pow_pos (by omega)
  rw [Int.fdiv_eq_ediv_of_nonneg x (Int.le_of_lt hp)]
  have h1 := Int.mul_ediv_add_emod x (2 ^ n)
  have h2 := Int.emod_nonneg x (show (2 : Int) ^ n ≠ 0 by omega)
  have h3 := Int.emod_lt_of_pos x hp
  generalize (2 : Int) ^ n = p at *
  generalize x / p = q at *
  generalize x % p = r at *
  have key : (0 ≤ x → 0 ≤ q ∧ q ≤ x) ∧ (x < 0 → x ≤ q ∧ q < 0) := by
    constructor
    · intro h
      have hq : 0 ≤ q := by
        rcases Int.lt_or_le q 0 with h4 | h4
        · have := Int.mul_le_mul_of_nonneg_left (show q ≤ -1 by omega) (Int.le_of_lt hp)
          omega
        · exact h4
      have := Int.mul_le_mul_of_nonneg_right (show 1 ≤ p by omega) hq
      omega
    · intro h
      have hq : q < 0 := by
        rcases Int.lt_or_le q 0 with h4 | h4
        · exact h4
        · have := Int.mul_nonneg (Int.le_of_lt hp) h4
          omega
      have h5 := Int.mul_le_mul_of_nonneg_left (show q + 1 ≤ 0 by omega) (show 0 ≤ p - 1 by omega)
      have h6 : (p - 1) * (q + 1) = p * q + p - q - 1 := by rw [Int.sub_mul, Int.mul_add, Int.mul_one, Int.one_mul]; omega
      omega
  cases k <;> simp only [inR, Bool.and_eq_true, decide_eq_true_eq] at hx ⊢ <;> (rcases Int.lt_or_le x 0 with h | h; have := key.2 h; omega; have := key.1 h; omega)

theorem intBin_run {op : BinOp} {k : IntKind} {x y : Int} {v : AV} {s : Sets} (t : TypeId) (p q : Operand) (h1 : op ≠ .shl) (h2 : op ≠ .shr) (hx : inR k x = true) (hy : inR k y = true) (hr : Reach P G gb (intBin op k x y) v s) :
    s = [] ∧ ∃ d : D, v = .v (.c (.d d)) ∧ d.ok ∧ (do eqGuard op t p q (.int k x) (.int k y); binOp op t (.int k x) (.int k y) : Sem Value).run P w = .ok d.val w := by
  have hg : (eqGuard op t p q (.int k x) (.int k y)).run P w = .ok () w := by
    unfold eqGuard
    cases op <;> rfl
  simp only [Sem.run_bind, hg, Result.andThen_ok]
  cases op <;> simp only [intBin] at hr <;> try exact hr.elim
  case add => obtain ⟨rfl, rfl⟩ := hr; exact ⟨rfl, _, rfl, wr_ok _ _, by simp [binOp, Op.intArith, wr_eq, D.val]⟩
  case sub => obtain ⟨rfl, rfl⟩ := hr; exact ⟨rfl, _, rfl, wr_ok _ _, by simp [binOp, Op.intArith, wr_eq, D.val]⟩
  case mul => obtain ⟨rfl, rfl⟩ := hr; exact ⟨rfl, _, rfl, wr_ok _ _, by simp [binOp, Op.intArith, wr_eq, D.val]⟩
  case quo =>
    rcases hr with ⟨_, hf⟩ | ⟨hb, rfl, rfl⟩
    · exact hf.elim
    · have : ¬ y = 0 := by simpa using hb
      exact ⟨rfl, _, rfl, wr_ok _ _, by simp [binOp, Op.intDiv, wr_eq, this, D.val]⟩
  case rem =>
    rcases hr with ⟨_, hf⟩ | ⟨hb, rfl, rfl⟩
    · exact hf.elim
    · have : ¬ y = 0 := by simpa using hb
      exact ⟨rfl, _, rfl, tmod_ok hx hy, by simp [binOp, Op.intDiv, this, D.val]⟩
  case eql => obtain ⟨rfl, rfl⟩ := hr; exact ⟨rfl, _, rfl, trivial, by simp [binOp, Op.intCmp, D.val]⟩
  case neq => obtain ⟨rfl, rfl⟩ := hr; exact ⟨rfl, _, rfl, trivial, by simp [binOp, Op.intCmp, D.val]⟩
  case lss => obtain ⟨rfl, rfl⟩ := hr; exact ⟨rfl, _, rfl, trivial, by simp [binOp, Op.intCmp, D.val]⟩
  case leq => obtain ⟨rfl, rfl⟩ := hr; exact ⟨rfl, _, rfl, trivial, by simp [binOp, Op.intCmp, D.val]⟩
  case gtr => obtain ⟨rfl, rfl⟩ := hr; exact ⟨rfl, _, rfl, trivial, by simp [binOp, Op.intCmp, D.val]⟩
  case geq => obtain ⟨rfl, rfl⟩ := hr; exact ⟨rfl, _, rfl, trivial, by simp [binOp, Op.intCmp, D.val]⟩
  case and => obtain ⟨rfl, rfl⟩ := hr; exact ⟨rfl, _, rfl, wr_ok _ _, by simp only [binOp, Op.intBits, D.val, wr_eq]; simp⟩
  case or => obtain ⟨rfl, rfl⟩ := hr; exact ⟨rfl, _, rfl, wr_ok _ _, by simp only [binOp, Op.intBits, D.val, wr_eq]; simp⟩

theorem shiftBin_run {op : BinOp} {k k' : IntKind} {x y : Int} {v : AV} {s : Sets} (t : TypeId) (p q : Operand) (hop : op = .shl ∨ op = .shr) (hx : inR k x = true) (hr : Reach P G gb (shiftBin op k x y) v s) :
    s = [] ∧ ∃ d : D, v = .v (.c (.d d)) ∧ d.ok ∧ (do eqGuard op t p q (.int k x) (.int k' y); binOp op t (.int k x) (.int k' y) : Sem Value).run P w = .ok d.val w := by
  rcases hop with rfl | rfl
  · simp only [shiftBin] at hr
    rcases hr with ⟨_, hf⟩ | ⟨hb, rfl, rfl⟩
    · exact hf.elim
    · have : ¬ y < 0 := by simpa using hb
      exact ⟨rfl, _, rfl, wr_ok _ _, by simp [eqGuard, binOp, Op.shift, wr_eq, this, D.val]⟩
  · simp only [shiftBin] at hr
    rcases hr with ⟨_, hf⟩ | ⟨hb, rfl, rfl⟩
    · exact hf.elim
    · have : ¬ y < 0 := by simpa using hb
      exact ⟨rfl, _, rfl, fdiv_ok hx _, by simp [eqGuard, binOp, Op.shift, this, D.val]⟩

theorem bool_eq_run {t : TypeId} (hu : P.underlying t = some .bool) (x y : Bool) (p q : Operand) :
    (do eqGuard .eql t p q (.bool x) (.bool y); binOp .eql t (.bool x) (.bool y) : Sem Value).run P w = .ok (.bool (x == y)) w ∧
    (do eqGuard .neq t p q (.bool x) (.bool y); binOp .neq t (.bool x) (.bool y) : Sem Value).run P w = .ok (.bool (!(x == y))) w := by
  have h1 : (Op.equal t (.bool x) (.bool y)).run P w = .ok (x == y) w := by
    unfold Op.equal
    rw [show Op.maxDepth = 9999 + 1 from rfl]
    unfold Op.equalIn
    simp only [Sem.run_bind, underlying_run hu, Result.andThen_ok, Sem.run_pure]
  constructor
  · simp [eqGuard, binOp, h1]
  · simp [eqGuard, binOp, h1]

theorem str_eq_run {t : TypeId} (x y : ByteArray) (p q : Operand) :
    (do eqGuard .eql t p q (.string x) (.string y); binOp .eql t (.string x) (.string y) : Sem Value).run P w = .ok (.bool (x.data.toList == y.data.toList)) w ∧
    (do eqGuard .neq t p q (.string x) (.string y); binOp .neq t (.string x) (.string y) : Sem Value).run P w = .ok (.bool (!(x.data.toList == y.data.toList))) w := by
  rw [← ByteArray.toList_eq, ← ByteArray.toList_eq]
  exact ⟨rfl, rfl⟩

theorem binOp_ok {op : BinOp} {t u : TypeId} {x y : Operand} {v : AV} {s : Sets} (hEQ : ∀ t, t ∈ EQ.eq → EqOK P t) (ho : o.op = .binOp op t x y u) (hr : Reach P G gb (opR P G EQ (.binOp op t x y u) T M N) v s) (hT : TRel σ T a) (hM : MRel w0 W σ M w) (hN : σ N = none)
    (h : Goes w0 W σ M N a o.dst next v s) : o.wp P a w next Q := by
  have fin : ∀ (d : D), d.ok → s = [] → v = .v (.c (.d d)) → (do eqGuard op t x y (a.eval x) (a.eval y); binOp op t (a.eval x) (a.eval y) : Sem Value).run P w = .ok d.val w → o.wp P a w next Q := by
    intro d hok hs hv hrun
    subst hs
    subst hv
    refine h.value hM hN (v' := d.val) ?_ ⟨rfl, hok⟩
    unfold execOp
    rw [ho]
    simp only [Sem.run_bind] at hrun ⊢
    rw [hrun]
    rfl
  simp only [opR] at hr
  split at hr
  · rename_i vx vy hx hy
    have rx := opdV_rel hT hx
    have ry := opdV_rel hT hy
    unfold evBin at hr
    split at hr
    · rename_i k n k' n'
      obtain ⟨ex, ox⟩ := rx
      obtain ⟨ey, oy⟩ := ry
      split at hr
      · obtain ⟨hs, d, hv, hok, hrun⟩ := shiftBin_run (w := w) (k' := k') t x y (.inl rfl) ox hr
        exact fin d hok hs hv (by rw [ex, ey]; exact hrun)
      · obtain ⟨hs, d, hv, hok, hrun⟩ := shiftBin_run (w := w) (k' := k') t x y (.inr rfl) ox hr
        exact fin d hok hs hv (by rw [ex, ey]; exact hrun)
      · rename_i h1 h2
        simp only [cond_eq_ite, decide_eq_true_eq] at hr
        split at hr
        · rename_i hk
          subst hk
          obtain ⟨hs, d, hv, hok, hrun⟩ := intBin_run (w := w) t x y (fun e => h1 e) (fun e => h2 e) ox oy hr
          exact fin d hok hs hv (by rw [ex, ey]; exact hrun)
        · exact hr.elim
    · rename_i p q
      obtain ⟨ex, _⟩ := rx
      obtain ⟨ey, _⟩ := ry
      change a.eval x = .bool p at ex
      change a.eval y = .bool q at ey
      split at hr
      · rename_i hu
        obtain ⟨rfl, rfl⟩ := hr
        exact fin (.bool (p == q)) trivial rfl rfl (by rw [ex, ey]; exact (bool_eq_run hu p q x y).1)
      · rename_i hu
        obtain ⟨rfl, rfl⟩ := hr
        exact fin (.bool (!(p == q))) trivial rfl rfl (by rw [ex, ey]; exact (bool_eq_run hu p q x y).2)
      · exact hr.elim
    · rename_i p q
      obtain ⟨ex, _⟩ := rx
      obtain ⟨ey, _⟩ := ry
      change a.eval x = .string p at ex
      change a.eval y = .string q at ey
      split at hr
      · obtain ⟨rfl, rfl⟩ := hr
        exact fin (.bool (p.data.toList == q.data.toList)) trivial rfl rfl (by rw [ex, ey]; exact (str_eq_run p q x y).1)
      · obtain ⟨rfl, rfl⟩ := hr
        exact fin (.bool (!(p.data.toList == q.data.toList))) trivial rfl rfl (by rw [ex, ey]; exact (str_eq_run p q x y).2)
      · exact hr.elim
    · rename_i p q
      obtain ⟨ex, _⟩ := rx
      obtain ⟨ey, _⟩ := ry
      split at hr
      · rename_i z hz
        simp only [cond_eq_ite, Bool.and_eq_true] at hr
        split at hr
        · rename_i hc
          obtain ⟨ht, h1, h2⟩ := hc
          have ht' : t ∈ EQ.eq := by simpa using ht
          obtain ⟨e1, e2⟩ := hEQ t ht' z p q x y w hz h1 h2
          split at hr
          · obtain ⟨rfl, rfl⟩ := hr
            exact fin (.bool (eqAll p q)) trivial rfl rfl (by rw [ex, ey]; exact e1)
          · obtain ⟨rfl, rfl⟩ := hr
            exact fin (.bool (!(eqAll p q))) trivial rfl rfl (by rw [ex, ey]; exact e2)
          · exact hr.elim
        · exact hr.elim
      · exact hr.elim
    · exact hr.elim
  · exact hr.elim

theorem maxL_run {k : IntKind} : ∀ {r : List AV} {vs : List Value} {x y : Int}, AVRels σ r vs → inR k x = true → maxL k x r = some y → (vs.foldlM Builtin.max2 (.int k x)).run P w = .ok (.int k y) w ∧ inR k y = true
  | [], [], x, y, _, hx, h => by simp only [maxL, Option.some.injEq] at h; subst h; exact ⟨rfl, hx⟩
  | p :: r, u :: vs, x, y, ⟨h1, h2⟩, hx, h => by
    unfold maxL at h
    split at h
    · cases ‹_ = []›
    · rename_i k' z r' heq
      cases heq
      obtain ⟨e, oz⟩ := h1
      change u = .int k' z at e
      subst e
      simp only [cond_eq_ite, decide_eq_true_eq] at h
      split at h
      · rename_i ek
        subst ek
        simp only [List.foldlM_cons, Builtin.max2, Sem.run_bind, Sem.run_pure, Result.andThen_ok]
        exact maxL_run h2 (by split; exact oz; exact hx) h
      · cases h
    · cases h
  | [], _ :: _, _, _, hh, _, _ => hh.elim
  | _ :: _, [], _, _, hh, _, _ => hh.elim

theorem minL_run {k : IntKind} : ∀ {r : List AV} {vs : List Value} {x y : Int}, AVRels σ r vs → inR k x = true → minL k x r = some y → (vs.foldlM Builtin.min2 (.int k x)).run P w = .ok (.int k y) w ∧ inR k y = true
  | [], [], x, y, _, hx, h => by simp only [minL, Option.some.injEq] at h; subst h; exact ⟨rfl, hx⟩
  | p :: r, u :: vs, x, y, ⟨h1, h2⟩, hx, h => by
    unfold minL at h
    split at h
    · cases ‹_ = []›
    · rename_i k' z r' heq
      cases heq
      obtain ⟨e, oz⟩ := h1
      change u = .int k' z at e
      subst e
      simp only [cond_eq_ite, decide_eq_true_eq] at h
      split at h
      · rename_i ek
        subst ek
        simp only [List.foldlM_cons, Builtin.min2, Sem.run_bind, Sem.run_pure, Result.andThen_ok]
        exact minL_run h2 (by split; exact oz; exact hx) h
      · cases h
    · cases h
  | [], _ :: _, _, _, hh, _, _ => hh.elim
  | _ :: _, [], _, _, hh, _, _ => hh.elim

theorem srcD_rel {sz : Nat} {x : AV} {v : Value} {q : Nat × List D} (hM : MRel w0 W σ M w) (hv : AVRel σ x v) (h : srcD M sz x = some q) :
    q.2.length = q.1 * sz ∧ (∀ d ∈ q.2, d.ok) ∧ ((v = .slice none 0 0 ∧ q.1 = 0) ∨ ∃ ad c, v = .slice (some ad) q.1 c ∧ ∀ j d, q.2[j]? = some d → w.cell? (ad.add j) = some d.val) := by
  unfold srcD at h
  split at h
  · rename_i b k n es
    split at h
    · rename_i l hl
      simp only [cond_eq_ite, Bool.and_eq_true, beq_iff_eq] at h
      split at h
      · rename_i hc
        obtain ⟨rfl, hlen⟩ := hc
        cases h
        obtain ⟨L, cap, hL, he, _⟩ := hv
        obtain ⟨L', hL', hok, hc⟩ := (hM.blk b).cell hl
        rw [hL] at hL'
        cases hL'
        refine ⟨hlen, fun d hd => hok d (List.mem_of_mem_drop (List.mem_of_mem_take hd)), .inr ⟨_, cap, he, fun j d hj => ?_⟩⟩
        rw [add_mk, Nat.add_assoc]
        exact hc _ d (take_drop_get hj)
      · cases h
    · cases h
  · cases h
    exact ⟨by simp, by simp, .inl ⟨hv, rfl⟩⟩
  · cases h

theorem append_zero {t e : TypeId} {i : TypeInfo} (ht : P.underlying t = some (.slice e)) (hi : P.info? e = some i) (ty : TypeId) (b : Option Addr) (n cap : Nat) (hn : n ≤ cap) (x : Value) (hx : x = .slice none 0 0 ∨ ∃ ad c, x = .slice (some ad) 0 c) :
    (Builtin.append_ #[t, t] ty #[.slice b n cap, x]).run P w = .ok (.slice b n cap) w := by
  rcases hx with rfl | ⟨ad, c, rfl⟩
  · cases b <;> simp [Builtin.append_, underlying_run ht, sizeOf, typeInfo_run hi, Builtin.lenOf, Builtin.firstCells, hn, storeCells]
  · cases b <;> simp [Builtin.append_, underlying_run ht, sizeOf, typeInfo_run hi, Builtin.lenOf, Builtin.firstCells, hn, storeCells, loadCells, loadCellsFrom]

theorem append_ok {t : TypeId} {sx xx : Operand} {sv xv : AV} {v : AV} {s : Sets} (ho : o.op = .call { callee := .builtin .append, args := #[sx, xx], argTypes := #[t, t] })
    (hs : AVRel σ sv (a.eval sx)) (hx : AVRel σ xv (a.eval xx)) (hr : Reach P G gb (evAppend P t sv xv M N) v s) (hM : MRel w0 W σ M w) (hN : σ N = none)
    (h : Goes w0 W σ M N a o.dst next v s) : o.wp P a w next Q := by
  unfold evAppend at hr
  split at hr
  · rename_i e ht
    split at hr
    · exact hr.elim
    · rename_i i hi
      split at hr
      · rename_i src base z hsrc hbase hz
        obtain ⟨zv, _, ⟨hzc, _⟩, i', hi', hz'⟩ := zero_run (w := w) hz
        rw [hi] at hi'
        cases hi'
        obtain ⟨hsl, hso, hsv⟩ := srcD_rel hM hx hsrc
        have hexec : ∀ (v' : Value) (w' : World), (Builtin.append_ #[t, t] o.type #[a.eval sx, a.eval xx]).run P w = .ok v' w' → (execOp a.eval o).run P w = .ok (.value v') w' := by
          intro v' w' hrun
          unfold execOp
          simp only [ho, resolve, invoke, builtin, Sem.run_bind, Sem.run_pure, Result.andThen_ok, List.map_toArray, List.map_cons, List.map_nil, hrun]
        rcases hr with ⟨h0, rfl, rfl⟩ | ⟨h0, hr⟩
        · -- nothing is appended
          have h0' : src.1 = 0 := by simpa using h0
          rw [h0'] at hsv
          have hx0 : a.eval xx = .slice none 0 0 ∨ ∃ ad c, a.eval xx = .slice (some ad) 0 c := by
            rcases hsv with ⟨h1, _⟩ | ⟨ad, c, h1, _⟩
            · exact .inl h1
            · exact .inr ⟨ad, c, h1⟩
          have hcases : ∃ b n cap, a.eval sx = .slice b n cap ∧ n ≤ cap := by
            unfold baseD at hbase
            split at hbase
            · exact ⟨none, 0, 0, hs, Nat.le_refl _⟩
            · obtain ⟨L, cap, _, he, hc, _⟩ := hs
              exact ⟨_, _, cap, he, hc⟩
            · cases hbase
          obtain ⟨b, n, cap, he, hc⟩ := hcases
          have hrun := append_zero (P := P) (w := w) ht hi o.type b n cap hc _ hx0
          rw [← he] at hrun
          exact h.value hM hN (hexec _ _ hrun) hs
        · have h0' : 0 < src.1 := Nat.pos_of_ne_zero (by simpa using h0)
          rcases hr with ⟨hc, rfl, rfl⟩ | ⟨_, hf⟩
          · simp only [Bool.and_eq_true, beq_iff_eq, Nat.ble_eq, Nat.blt_eq] at hc
            obtain ⟨hsz, hzl, hroom, hby⟩ := hc
            rcases hsv with ⟨_, h1⟩ | ⟨ad, c, hxe, hcell⟩
            · omega
            have hnews : ∀ j u, (src.2.map D.val)[j]? = some u → w.cell? (ad.add j) = some u := by
              intro j u hj
              rw [List.getElem?_map] at hj
              cases hd : src.2[j]? with
              | none => rw [hd] at hj; cases hj
              | some d => rw [hd] at hj; cases hj; exact hcell j d hd
            have h1c : ∀ u ∈ src.2.map D.val, u.oneCell' = true := by
              simp only [List.mem_map]
              rintro u ⟨d, _, rfl⟩
              exact oneCell_val d
            have hbytes : (base.1 + src.1) * i.bytes ≤ 140737488355328 := by
              have := Nat.mul_le_mul hroom hby
              simp only [roomD] at this
              omega
            have hml : base.1 + src.1 ≤ maxLen := by simp only [maxLen, roomD] at *; omega
            have hzcs : zv.cells.size = i.size := by rw [hzc]; simp [hzl]
            -- a new row, grown
            have grown : ∀ (old : Nat) (olds : List D), (∀ d ∈ olds, d.ok) → olds.length = base.1 * i.size → base.2.1 = olds →
                ∀ ss, ss = base.2.2 → (∀ p ∈ ss, p.1 ≠ N ∧ p.2 = .dead) →
                (Builtin.append_ #[t, t] o.type #[a.eval sx, a.eval xx]).run P w = .ok (.slice (some ⟨w.heap.size, 0, none⟩) (base.1 + src.1) (grownCap w (base.1 + src.1) old e))
                  (w.drew.alloc (.cells ((olds.map D.val).toArray ++ (src.2.map D.val).toArray ++ Builtin.zeroCells zv.cells (grownCap w (base.1 + src.1) old e - (base.1 + src.1))) e)) → o.wp P a w next Q := by
              intro old olds hoo hol hb1 ss hss hdead hrun
              have hge := grownCap_ge w (base.1 + src.1) old e
              have hcm : grownCap w (base.1 + src.1) old e ≤ maxLen := grownCap_le_maxLen w (base.1 + src.1) old e hml
              generalize grownCap w (base.1 + src.1) old e = cap at *
              generalize hcur : ((olds.map D.val).toArray ++ (src.2.map D.val).toArray ++ Builtin.zeroCells zv.cells (cap - (base.1 + src.1))) = cur at *
              have hcs : cur.size = cap * i.size := by
                rw [← hcur]
                simp only [Array.size_append, List.size_toArray, List.length_map, size_zeroCells, hzcs, hol, hsl, ← Nat.add_mul]
                congr 1
                omega
              have htake : cur.toList.take (olds ++ src.2).length = (olds ++ src.2).map D.val := by
                rw [← hcur]
                simp only [Array.toList_append, List.map_append]
                rw [List.take_append_of_le_length (by simp)]
                exact List.take_of_length_le (by simp)
              unfold Oper.wp
              rw [hexec _ _ hrun]
              have hM' : MRel w0 W σ (puts M ss) w := hM.congr (fun b => by
                rw [mget_puts]
                clear hss
                induction ss with
                | nil => exact .inl rfl
                | cons p r ih =>
                  have ih' := ih (fun q hq => hdead q (by simp [hq]))
                  simp only [lastSet]
                  cases hls : lastSet r b with
                  | some y => rw [hls] at ih'; exact ih'
                  | none =>
                    by_cases hpb : p.1 = b
                    · simp only [hpb, if_true, Option.getD_some]; exact .inr (hdead p (by simp)).2
                    · simp [hpb])
              have hapok : ∀ d ∈ olds ++ src.2, d.ok := by simp only [List.mem_append]; rintro d (hd | hd); exact hoo d hd; exact hso d hd
              have hall := hM'.alloc hN e (olds ++ src.2) cur htake hapok (w.drew.alloc (.cells cur e)) rfl rfl rfl rfl
              refine h (sgSet σ N ⟨w.heap.size, 0, cur.size, true, 0, 0⟩) _ _ (sgSet_le hN) (fun b hb => sgSet_ne _ _ _ _ hb) (fun hp => absurd rfl (hp (N, .rw e (base.2.1 ++ src.2)) (by simp))) ⟨_, cap, sgSet_self _ _ _, rfl, hge, hml, fun _ _ => ⟨by rw [hcs]; exact Nat.le_refl _, hcm⟩⟩ ?_
              rw [hb1, ← hss]
              rw [puts_append]
              exact hall
            unfold baseD at hbase
            split at hbase
            · cases hbase
              have he : a.eval sx = .slice none 0 0 := hs
              have hr := run_append_nil (P := P) w t o.type e i zv ht hi hz' ad src.1 c (src.2.map D.val) (by simpa using hsl) hnews h0' (by simp only [maxLen, Nat.zero_add] at hml; omega) (by simp only [Nat.zero_add] at hbytes; omega)
              refine grown 0 [] (by simp) (by simp) rfl [] rfl (by simp) ?_
              rw [he, hxe]
              simpa using hr
            · rename_i b k n es
              split at hbase
              · rename_i ty l hm
                simp only [cond_eq_ite, Bool.and_eq_true, beq_iff_eq] at hbase
                split at hbase
                · rename_i hcc
                  obtain ⟨rfl, rfl, rfl, hll⟩ := hcc
                  cases hbase
                  simp only at *
                  obtain ⟨L, cap, hL, he, hnc, _, hown⟩ := hs
                  have hBb := hM.blk b
                  rw [hm] at hBb
                  obtain ⟨L', cur, h1, h2, h3, h4, h5, hlok, h6⟩ := id hBb
                  rw [hL] at h1
                  cases h1
                  obtain ⟨hcap, hcm⟩ := hown h3 rfl
                  rw [h2] at he
                  by_cases hfits : n + src.1 ≤ cap
                  · have hfit : n * i.size + (src.2.map D.val).length ≤ cur.size := by
                      rw [List.length_map, hsl, ← Nat.add_mul, h5]
                      exact Nat.le_trans (Nat.mul_le_mul_right _ hfits) hcap
                    have hr := run_append_room (P := P) w t o.type ty i ht hi L.blk n cap cur h4 ad src.1 c (src.2.map D.val) (by simpa using hsl) hnews h1c hfits hfit
                    have hst := hM.store hm hL (l' := l ++ src.2) (cur' := (cur.toList.take (n * i.size) ++ src.2.map D.val ++ cur.toList.drop (n * i.size + (src.2.map D.val).length)).toArray)
                      (w.setRow L.blk (cur.toList.take (n * i.size) ++ src.2.map D.val ++ cur.toList.drop (n * i.size + (src.2.map D.val).length)).toArray) (setRow_heap w L.blk cur _ ty _ h4)
                      (by simp only [List.size_toArray, List.length_append, List.length_take, List.length_drop, Array.length_toList]; omega)
                      (by
                        rw [← hll, h6, List.map_append]
                        simp only
                        rw [List.take_append_of_le_length (by simp)]
                        exact List.take_of_length_le (by simp))
                      (by simp only [List.mem_append]; rintro d (hd | hd); exact hlok d hd; exact hso d hd)
                      (fun k hk => setRow_other w L.blk k _ hk) (by simp) rfl rfl rfl
                    have hmv := hst.moved (N := N) (by rw [mget_mput, if_pos rfl]) hL hN
                    unfold Oper.wp
                    rw [hexec _ _ (by rw [he, hxe]; exact hr)]
                    refine h (sgSet σ N L) _ _ (sgSet_le hN) (fun b hb => sgSet_ne _ _ _ _ hb) (fun hp => absurd rfl (hp (N, .rw ty (l ++ src.2)) (by simp))) ⟨L, cap, sgSet_self _ _ _, by rw [h2], hfits, hml, fun _ _ => ⟨hcap, hcm⟩⟩ ?_
                    refine hmv.congr fun c => .inl ?_
                    show mget (mput (mput M b .dead) N _) c = _
                    rw [mget_mput, mget_mput, mget_mput, mget_mput, mget_mput]
                    split
                    · rfl
                    · split <;> rfl
                  · have holds : ∀ j u, (l.map D.val)[j]? = some u → w.cell? ((⟨L.blk, 0, none⟩ : Addr).add j) = some u := by
                      intro j u hj
                      rw [List.getElem?_map] at hj
                      cases hd : l[j]? with
                      | none => rw [hd] at hj; cases hj
                      | some d =>
                        rw [hd] at hj
                        cases hj
                        obtain ⟨L', hL', _, hc'⟩ := hBb.cell (l := l) rfl
                        rw [hL] at hL'
                        cases hL'
                        have := hc' j d hd
                        rw [h2] at this
                        rw [add_mk]
                        exact this
                    have hr := run_append_grow (P := P) w t o.type ty i zv ht hi hz' ⟨L.blk, 0, none⟩ n cap (l.map D.val) (by simpa using hll) holds ad src.1 c (src.2.map D.val) (by simpa using hsl) hnews (by omega) (by simp only [maxLen] at hml; omega) (growslice_fits (by omega) hbytes)
                    refine grown cap l hlok hll rfl [(b, .dead)] rfl (fun p hp => ?_) (by rw [he, hxe]; exact hr)
                    simp only [List.mem_singleton] at hp
                    subst hp
                    exact ⟨(fun e => by simp only at e; rw [e, hN] at hL; cases hL), rfl⟩
                · cases hbase
              · cases hbase
            · cases hbase
          · exact hf.elim
      · exact hr.elim
  · exact hr.elim

/-! ### Arrays of open length -/

theorem castL_eq {υ τ : ET} {xs : List υ.T} {ys : List τ.T} (h : castL υ τ xs = some ys) : τ.flat ys = υ.flat xs ∧ ys.length = xs.length ∧ υ.len = τ.len := by
  cases υ <;> cases τ <;> first | (cases h; done) | (cases h; exact ⟨rfl, rfl, rfl⟩)

theorem flat_app (τ : ET) : ∀ xs ys : List τ.T, τ.flat (xs ++ ys) = τ.flat xs ++ τ.flat ys
  | [], _ => rfl
  | x :: r, ys => by simp [ET.flat, flat_app τ r ys]

theorem flat_take (τ : ET) : ∀ (xs : List τ.T) (n : Nat), τ.flat (xs.take n) = (τ.flat xs).take (n * τ.len)
  | [], n => by simp [ET.flat]
  | x :: r, 0 => by simp [ET.flat]
  | x :: r, n + 1 => by
    rw [List.take_succ_cons, ET.flat, ET.flat, flat_take τ r n, Nat.succ_mul, Nat.add_comm (n * τ.len), ← cells_len τ x, List.take_length_add_append]

theorem takeK_get {τ : ET} {k : Option Nat} {xs : List τ.T} {j : Nat} {d : D} (h : (τ.flat (takeK k xs))[j]? = some d) : (τ.flat xs)[j]? = some d := by
  cases k with
  | none => exact h
  | some n =>
    simp only [takeK, flat_take] at h
    rw [List.getElem?_take] at h
    split at h
    · exact h
    · cases h

theorem takeK_ok {τ : ET} {k : Option Nat} {xs : List τ.T} (h : ∀ d ∈ τ.flat xs, d.ok) : ∀ d ∈ τ.flat (takeK k xs), d.ok := fun d hd => by
  obtain ⟨j, hj⟩ := List.getElem?_of_mem hd
  exact h d (List.mem_of_getElem? (takeK_get hj))

theorem srcA_rel {sz : Nat} {τ : ET} {x : AV} {v : Value} {ys : List τ.T} (hM : MRel w0 W σ M w) (hv : AVRel σ x v) (h : srcA M sz τ x = some ys) :
    (∀ d ∈ τ.flat ys, d.ok) ∧ ((v = .slice none 0 0 ∧ ys = []) ∨ ∃ ad c, v = .slice (some ad) ys.length c ∧ ∀ j d, (τ.flat ys)[j]? = some d → w.cell? (ad.add j) = some d.val) := by
  unfold srcA at h
  split at h
  · rename_i b k
    split at h
    · rename_i own υ xs hm
      obtain ⟨e1, e2, _⟩ := castL_eq h
      obtain ⟨L, hL, hv⟩ := hv
      have hB := hM.blk b
      rw [hm] at hB
      obtain ⟨L', g1, g2, g3, _, hok, hc⟩ := hB.elems
      rw [hL] at g1
      cases g1
      have hcell : ∀ j d, (τ.flat ys)[j]? = some d → w.cell? ((⟨L.blk, L.off, none⟩ : Addr).add j) = some d.val := by
        intro j d hj
        rw [e1] at hj
        rw [add_mk]
        exact hc j d (takeK_get hj)
      refine ⟨by rw [e1]; exact takeK_ok hok, ?_⟩
      cases k with
      | none =>
        rcases hv with ⟨h0, rfl⟩ | ⟨cap, rfl, _⟩
        · refine .inl ⟨rfl, List.eq_nil_of_length_eq_zero ?_⟩
          rw [e2]
          simp only [takeK]
          omega
        · refine .inr ⟨_, cap, ?_, hcell⟩
          rw [e2, g2]
          rfl
      | some m =>
        obtain ⟨_, h2, cap, rfl, _⟩ := hv
        refine .inr ⟨_, cap, ?_, hcell⟩
        rw [e2]
        simp only [takeK, List.length_take]
        rw [Nat.min_eq_left (by omega)]
    · cases h
  · rename_i b k n es
    split at h
    · rename_i l hl
      simp only [cond_eq_ite, Bool.and_eq_true, beq_iff_eq] at h
      split at h
      · rename_i hc
        obtain ⟨rfl, hlen⟩ := hc
        obtain ⟨hfl, hyl⟩ := ofs_flat h
        obtain ⟨L, cap, hL, he, _⟩ := hv
        obtain ⟨L', hL', hok, hc⟩ := (hM.blk b).cell hl
        rw [hL] at hL'
        cases hL'
        refine ⟨fun d hd => hok d (List.mem_of_mem_drop (List.mem_of_mem_take (by rw [hfl] at hd; exact hd))), .inr ⟨⟨L.blk, L.off + k, none⟩, cap, by rw [hyl]; exact he, fun j d hj => ?_⟩⟩
        rw [add_mk, Nat.add_assoc]
        rw [hfl] at hj
        exact hc _ d (take_drop_get hj)
      · cases h
    · cases h
  · cases h
    exact ⟨by simp [ET.flat], .inl ⟨hv, rfl⟩⟩
  · cases h

theorem appendA_ok {t e : TypeId} {τ : ET} {sx xx : Operand} {sv xv : AV} {v : AV} {s : Sets} (ho : o.op = .call { callee := .builtin .append, args := #[sx, xx], argTypes := #[t, t] }) (ht : P.underlying t = some (.slice e))
    (hs : AVRel σ sv (a.eval sx)) (hx : AVRel σ xv (a.eval xx)) (hr : Reach P G gb (evAppendA P e τ sv xv M N) v s) (hM : MRel w0 W σ M w) (hN : σ N = none)
    (h : Goes w0 W σ M N a o.dst next v s) : o.wp P a w next Q := by
  unfold evAppendA at hr
  split at hr
  · exact hr.elim
  · rename_i i hi
    split at hr
    · rename_i ys base z hys hbase hz
      obtain ⟨zv, _, ⟨hzc, _⟩, i', hi', hz'⟩ := zero_run (w := w) hz
      rw [hi] at hi'
      cases hi'
      obtain ⟨hso, hsv⟩ := srcA_rel hM hx hys
      have hexec : ∀ (v' : Value) (w' : World), (Builtin.append_ #[t, t] o.type #[a.eval sx, a.eval xx]).run P w = .ok v' w' → (execOp a.eval o).run P w = .ok (.value v') w' := by
        intro v' w' hrun
        unfold execOp
        simp only [ho, resolve, invoke, builtin, Sem.run_bind, Sem.run_pure, Result.andThen_ok, List.map_toArray, List.map_cons, List.map_nil, hrun]
      rcases hr with ⟨h0, rfl, rfl⟩ | ⟨h0, hr⟩
      · have h0' : ys.length = 0 := by simpa using h0
        rw [h0'] at hsv
        have hx0 : a.eval xx = .slice none 0 0 ∨ ∃ ad c, a.eval xx = .slice (some ad) 0 c := by
          rcases hsv with ⟨h1, _⟩ | ⟨ad, c, h1, _⟩
          · exact .inl h1
          · exact .inr ⟨ad, c, h1⟩
        have hcases : ∃ b n cap, a.eval sx = .slice b n cap ∧ n ≤ cap := by
          unfold baseA at hbase
          split at hbase
          · exact ⟨none, 0, 0, hs, Nat.le_refl _⟩
          · obtain ⟨L, _, hv⟩ := hs
            rcases hv with ⟨_, he⟩ | ⟨cap, he, hc, _⟩
            · exact ⟨none, 0, 0, he, Nat.le_refl _⟩
            · exact ⟨_, _, cap, he, hc⟩
          · cases hbase
        obtain ⟨b, n, cap, he, hc⟩ := hcases
        have hrun := append_zero (P := P) (w := w) ht hi o.type b n cap hc _ hx0
        rw [← he] at hrun
        exact h.value hM hN (hexec _ _ hrun) hs
      · have h0' : 0 < ys.length := Nat.pos_of_ne_zero (by simpa using h0)
        rcases hr with ⟨hc, rfl, rfl⟩ | ⟨_, hf⟩
        · simp only [Bool.and_eq_true, beq_iff_eq, Nat.ble_eq, Nat.blt_eq] at hc
          obtain ⟨hsz, hes, hzl, hroom, hby⟩ := hc
          rcases hsv with ⟨_, h1⟩ | ⟨ad, c, hxe, hcell⟩
          · rw [h1] at h0'; simp at h0'
          have hsl : (τ.flat ys).length = ys.length * i.size := by rw [flat_len, hes]
          have hnews : ∀ j u, ((τ.flat ys).map D.val)[j]? = some u → w.cell? (ad.add j) = some u := by
            intro j u hj
            rw [List.getElem?_map] at hj
            cases hd : (τ.flat ys)[j]? with
            | none => rw [hd] at hj; cases hj
            | some d => rw [hd] at hj; cases hj; exact hcell j d hd
          have h1c : ∀ u ∈ (τ.flat ys).map D.val, u.oneCell' = true := by
            simp only [List.mem_map]
            rintro u ⟨d, _, rfl⟩
            exact oneCell_val d
          have hbytes : (base.1.length + ys.length) * i.bytes ≤ 140737488355328 := by
            have := Nat.mul_le_mul hroom hby
            simp only [roomD] at this
            omega
          have hml : base.1.length + ys.length ≤ maxLen := by simp only [maxLen, roomD] at *; omega
          have hzcs : zv.cells.size = i.size := by rw [hzc]; simp [hzl]
          have hpos : ∀ {n : Nat}, (base.1 ++ ys).length = 0 → n = 0 := by intro n hn; simp at hn; rw [hn.2] at h0'; simp at h0'
          -- a new row, grown
          have grown : ∀ (old : Nat) (olds : List D), (∀ d ∈ olds, d.ok) → τ.flat base.1 = olds → ∀ ss, ss = base.2 → (∀ p ∈ ss, p.1 ≠ N ∧ p.2 = .dead) →
              (Builtin.append_ #[t, t] o.type #[a.eval sx, a.eval xx]).run P w = .ok (.slice (some ⟨w.heap.size, 0, none⟩) (base.1.length + ys.length) (grownCap w (base.1.length + ys.length) old e))
                (w.drew.alloc (.cells ((olds.map D.val).toArray ++ ((τ.flat ys).map D.val).toArray ++ Builtin.zeroCells zv.cells (grownCap w (base.1.length + ys.length) old e - (base.1.length + ys.length))) e)) → o.wp P a w next Q := by
            intro old olds hoo hol ss hss hdead hrun
            have hge := grownCap_ge w (base.1.length + ys.length) old e
            have hcm : grownCap w (base.1.length + ys.length) old e ≤ maxLen := grownCap_le_maxLen w (base.1.length + ys.length) old e hml
            generalize grownCap w (base.1.length + ys.length) old e = cap at *
            generalize hcur : ((olds.map D.val).toArray ++ ((τ.flat ys).map D.val).toArray ++ Builtin.zeroCells zv.cells (cap - (base.1.length + ys.length))) = cur at *
            have hfa : τ.flat (base.1 ++ ys) = olds ++ τ.flat ys := by rw [flat_app, hol]
            have holl : olds.length = base.1.length * i.size := by rw [← hol, flat_len, hes]
            have hcs : cur.size = cap * i.size := by
              rw [← hcur]
              simp only [Array.size_append, List.size_toArray, List.length_map, size_zeroCells, hzcs, holl, hsl, ← Nat.add_mul]
              congr 1
              omega
            have htake : cur.toList.take (τ.flat (base.1 ++ ys)).length = (τ.flat (base.1 ++ ys)).map D.val := by
              rw [← hcur, hfa]
              simp only [Array.toList_append, List.map_append]
              rw [List.take_append_of_le_length (by simp)]
              exact List.take_of_length_le (by simp)
            unfold Oper.wp
            rw [hexec _ _ hrun]
            have hM' : MRel w0 W σ (puts M ss) w := hM.congr (fun b => by
              rw [mget_puts]
              clear hss
              induction ss with
              | nil => exact .inl rfl
              | cons p r ih =>
                have ih' := ih (fun q hq => hdead q (by simp [hq]))
                simp only [lastSet]
                cases hls : lastSet r b with
                | some y => rw [hls] at ih'; exact ih'
                | none =>
                  by_cases hpb : p.1 = b
                  · simp only [hpb, if_true, Option.getD_some]; exact .inr (hdead p (by simp)).2
                  · simp [hpb])
            have hapok : ∀ d ∈ τ.flat (base.1 ++ ys), d.ok := by rw [hfa]; simp only [List.mem_append]; rintro d (hd | hd); exact hoo d hd; exact hso d hd
            have hall := hM'.allocA hN e τ (base.1 ++ ys) cur htake hapok (w.drew.alloc (.cells cur e)) rfl rfl rfl rfl
            refine h (sgSet σ N ⟨w.heap.size, 0, cur.size, true, (base.1 ++ ys).length, τ.len⟩) _ _ (sgSet_le hN) (fun b hb => sgSet_ne _ _ _ _ hb) (fun hp => absurd rfl (hp (N, .arr (some e) τ (base.1 ++ ys)) (by simp)))
              ⟨_, sgSet_self _ _ _, .inr ⟨cap, by simp only [List.length_append], by simp only [List.length_append]; exact hge, by simp only [List.length_append]; exact hml, fun _ => ⟨by rw [hcs, hes]; exact Nat.le_refl _, hcm, fun hn => hpos hn⟩⟩⟩ ?_
            rw [← hss, puts_append]
            exact hall
          unfold baseA at hbase
          split at hbase
          · cases hbase
            have he : a.eval sx = .slice none 0 0 := hs
            have hr := run_append_nil (P := P) w t o.type e i zv ht hi hz' ad ys.length c ((τ.flat ys).map D.val) (by simpa using hsl) hnews h0' (by simp only [maxLen, List.length_nil, Nat.zero_add] at hml; omega) (by simp only [List.length_nil, Nat.zero_add] at hbytes; omega)
            refine grown 0 [] (by simp) rfl [] rfl (by simp) ?_
            rw [he, hxe]
            simpa using hr
          · rename_i b
            split at hbase
            · rename_i ty υ xs hm
              simp only [cond_eq_ite, beq_iff_eq] at hbase
              split at hbase
              · rename_i hty
                subst hty
                split at hbase
                · rename_i xs' hxs'
                  cases hbase
                  simp only at *
                  obtain ⟨c1, c2, c3⟩ := castL_eq hxs'
                  have hBb := hM.blk b
                  rw [hm] at hBb
                  obtain ⟨L, hL, hn, hLes, hlok, hLown, hLoff, hmem⟩ := id hBb
                  obtain ⟨L', hL', hv⟩ := hs
                  rw [hL] at hL'
                  cases hL'
                  have hdd : ∀ p ∈ [(b, Blk.dead)], p.1 ≠ N ∧ p.2 = .dead := by
                    intro p hp
                    simp only [List.mem_singleton] at hp
                    subst hp
                    exact ⟨(fun e => by simp only at e; rw [e, hN] at hL; cases hL), rfl⟩
                  rcases hv with ⟨hn0, he⟩ | ⟨cap, he, hnc, _, hown⟩
                  · have hx0 : xs' = [] := List.eq_nil_of_length_eq_zero (by omega)
                    subst hx0
                    have hr := run_append_nil (P := P) w t o.type ty i zv ht hi hz' ad ys.length c ((τ.flat ys).map D.val) (by simpa using hsl) hnews h0' (by simp only [maxLen, List.length_nil, Nat.zero_add] at hml; omega) (by simp only [List.length_nil, Nat.zero_add] at hbytes; omega)
                    refine grown 0 [] (by simp) rfl [(b, .dead)] rfl hdd ?_
                    rw [he, hxe]
                    simpa using hr
                  obtain ⟨hcap, hcm, hc0⟩ := hown hLown
                  rw [hLoff] at he
                  rw [show L.n = xs'.length from by omega] at he hnc hc0
                  have hll : (τ.flat xs').length = xs'.length * i.size := by rw [flat_len, hes]
                  have hokx : ∀ d ∈ τ.flat xs', d.ok := by rw [c1]; exact hlok
                  by_cases hfits : xs'.length + ys.length ≤ cap
                  · have hne : xs ≠ [] := fun e => by subst e; have : xs'.length = 0 := by simpa using c2
                                                      have := hc0 this; omega
                    rcases hmem with hmem | ⟨cur, h4, h5, h6⟩
                    · exact absurd hmem hne
                    rw [← c1] at h6
                    have hfit : xs'.length * i.size + ((τ.flat ys).map D.val).length ≤ cur.size := by
                      rw [List.length_map, hsl, ← Nat.add_mul, h5]
                      refine Nat.le_trans (Nat.mul_le_mul_right _ hfits) ?_
                      rw [hes, ← c3, ← hLes]
                      exact hcap
                    have hr := run_append_room (P := P) w t o.type ty i ht hi L.blk xs'.length cap cur h4 ad ys.length c ((τ.flat ys).map D.val) (by simpa using hsl) hnews h1c hfits hfit
                    have hwr : (mget M b).wr = true := by
                      rw [hm]
                      cases xs with
                      | nil => exact absurd rfl hne
                      | cons _ _ => rfl
                    have htake : (cur.toList.take (xs'.length * i.size) ++ (τ.flat ys).map D.val ++ cur.toList.drop (xs'.length * i.size + ((τ.flat ys).map D.val).length)).toArray.toList.take (τ.flat (xs' ++ ys)).length = (τ.flat (xs' ++ ys)).map D.val := by
                      rw [flat_app, ← hll, h6, List.map_append]
                      simp only
                      rw [List.take_append_of_le_length (by simp)]
                      exact List.take_of_length_le (by simp)
                    have hapok : ∀ d ∈ τ.flat (xs' ++ ys), d.ok := by rw [flat_app]; simp only [List.mem_append]; rintro d (hd | hd); exact hokx d hd; exact hso d hd
                    have hcsz : (cur.toList.take (xs'.length * i.size) ++ (τ.flat ys).map D.val ++ cur.toList.drop (xs'.length * i.size + ((τ.flat ys).map D.val).length)).toArray.size = L.size := by
                      simp only [List.size_toArray, List.length_append, List.length_take, List.length_drop, Array.length_toList]
                      omega
                    have hst := hM.write hwr hL (.rw ty (τ.flat (xs' ++ ys)))
                      (w.setRow L.blk (cur.toList.take (xs'.length * i.size) ++ (τ.flat ys).map D.val ++ cur.toList.drop (xs'.length * i.size + ((τ.flat ys).map D.val).length)).toArray)
                      ⟨L, _, hL, hLoff, hLown, setRow_heap w L.blk cur _ ty _ h4, hcsz, hapok, htake⟩
                      (fun k hk => setRow_other w L.blk k _ hk) (by simp) rfl rfl rfl
                    have hmv := hst.movedTo (N := N) (b := b) (L' := { L with n := (xs' ++ ys).length, es := τ.len }) (by rw [mget_mput, if_pos rfl]; rfl) hL hN rfl (.arr (some ty) τ (xs' ++ ys))
                      ⟨_, sgSet_self _ _ _, rfl, rfl, hapok, hLown, hLoff, .inr ⟨_, setRow_heap w L.blk cur _ ty _ h4, hcsz, htake⟩⟩
                    unfold Oper.wp
                    rw [hexec _ _ (by rw [he, hxe]; exact hr)]
                    refine h (sgSet σ N { L with n := (xs' ++ ys).length, es := τ.len }) _ _ (sgSet_le hN) (fun b hb => sgSet_ne _ _ _ _ hb) (fun hp => absurd rfl (hp (N, .arr (some ty) τ (xs' ++ ys)) (by simp)))
                      ⟨_, sgSet_self _ _ _, .inr ⟨cap, by simp only [hLoff, List.length_append], by simp only [List.length_append]; exact hfits, by simp only [List.length_append]; exact hml, fun _ => ⟨?_, hcm, fun hn => hpos hn⟩⟩⟩ ?_
                    · simp only
                      rw [← c3, ← hLes]
                      exact hcap
                    · refine hmv.congr fun c => .inl ?_
                      show mget (mput (mput M b .dead) N _) c = _
                      rw [mget_mput, mget_mput, mget_mput, mget_mput, mget_mput]
                      split
                      · rfl
                      · split <;> rfl
                  · have holds : ∀ j u, ((τ.flat xs').map D.val)[j]? = some u → w.cell? ((⟨L.blk, 0, none⟩ : Addr).add j) = some u := by
                      intro j u hj
                      rw [List.getElem?_map] at hj
                      cases hd : (τ.flat xs')[j]? with
                      | none => rw [hd] at hj; cases hj
                      | some d =>
                        rw [hd] at hj
                        cases hj
                        obtain ⟨L', hL', _, _, _, _, hc'⟩ := hBb.elems
                        rw [hL] at hL'
                        cases hL'
                        rw [c1] at hd
                        have := hc' j d hd
                        rw [hLoff] at this
                        rw [add_mk]
                        exact this
                    have hr := run_append_grow (P := P) w t o.type ty i zv ht hi hz' ⟨L.blk, 0, none⟩ xs'.length cap ((τ.flat xs').map D.val) (by simpa using hll) holds ad ys.length c ((τ.flat ys).map D.val) (by simpa using hsl) hnews (by omega) (by simp only [maxLen] at hml; omega) (growslice_fits (by omega) hbytes)
                    exact grown cap (τ.flat xs') hokx rfl [(b, .dead)] rfl hdd (by rw [he, hxe]; exact hr)
                · cases hbase
              · cases hbase
            · cases hbase
          · cases hbase
        · exact hf.elim
    · exact hr.elim

end
end Go.Ev

namespace Go.Ev
open Go

structure PassOK (σ : Sg) (M : List Blk) (xs : List AV) (vs : List Value) (j : Nat) (q : List AV × List Blk × List (Nat × Nat)) (ρ : Sg) : Prop where
  args : AVRels ρ q.1 vs
  out : ∀ i, (i < j ∨ j + q.2.1.length ≤ i) → ρ i = none
  at_ : ∀ i, i < q.2.1.length → ∃ c L, σ c = some L ∧
    ((∃ t l, gets .dead q.2.1 i = .rw t l ∧ mget M c = .rw t l ∧ ρ (j + i) = some L ∧ (c, j + i) ∈ q.2.2) ∨
     (∃ l, gets .dead q.2.1 i = .ro l ∧ (mget M c).data = some l ∧ ρ (j + i) = some { L with own := false } ∧ c ∈ sliceRefs xs) ∨
     (∃ own τ ys k, gets .dead q.2.1 i = .arr none τ (takeK k ys) ∧ mget M c = .arr own τ ys ∧ ρ (j + i) = some { L with own := false, n := (takeK k ys).length } ∧ c ∈ sliceRefs xs))
  ws : ∀ p ∈ q.2.2, j ≤ p.2 ∧ p.2 < j + q.2.1.length ∧ ρ p.2 = σ p.1 ∧ ∃ t l, mget M p.1 = .rw t l

section
variable {P : Program} {G : Nat → Option (List D)} {gb : Nat} {EQ : Tab} {w0 : World} {W : Nat → Prop} {σ : Sg} {a : Act} {w : World} {T : TS} {M : List Blk} {N : Nat} {o : Oper}
  {next : Act → World → Prop} {Q : Exit → Act → World → Prop}

theorem PassOK.plain {xs : List AV} {vs : List Value} {j : Nat} {q : List AV × List Blk × List (Nat × Nat)} {ρ : Sg} (h : PassOK σ M xs vs j q ρ) (x y : AV) (v : Value) (hv : AVRel ρ y v) (hx : sliceRefs (x :: xs) = sliceRefs xs) :
    PassOK σ M (x :: xs) (v :: vs) j (y :: q.1, q.2) ρ :=
  ⟨⟨hv, h.args⟩, h.out, fun i hi => by rw [hx]; exact h.at_ i hi, h.ws⟩

theorem PassOK.one {xs : List AV} {vs : List Value} {j : Nat} {q : List AV × List Blk × List (Nat × Nat)} {ρ : Sg} (h : PassOK σ M xs vs (j + 1) q ρ) (x y : AV) (v : Value) (K : Loc) (c : Nat) (L : Loc) (B : Blk) (ws : List (Nat × Nat))
    (hL : σ c = some L) (hv : AVRel (sgSet ρ j K) y v) (hr : ∀ b ∈ sliceRefs xs, b ∈ sliceRefs (x :: xs))
    (hB : (∃ t l, B = .rw t l ∧ mget M c = .rw t l ∧ K = L ∧ ws = (c, j) :: q.2.2) ∨ (∃ l, B = .ro l ∧ (mget M c).data = some l ∧ K = { L with own := false } ∧ c ∈ sliceRefs (x :: xs) ∧ ws = q.2.2) ∨
      (∃ own τ ys k, B = .arr none τ (takeK k ys) ∧ mget M c = .arr own τ ys ∧ K = { L with own := false, n := (takeK k ys).length } ∧ c ∈ sliceRefs (x :: xs) ∧ ws = q.2.2)) :
    PassOK σ M (x :: xs) (v :: vs) j (y :: q.1, B :: q.2.1, ws) (sgSet ρ j K) := by
  have hj : ρ j = none := h.out j (.inl (Nat.lt_succ_self j))
  have hsub : ∀ p ∈ q.2.2, p ∈ ws := by
    rcases hB with ⟨_, _, _, _, _, hw⟩ | ⟨_, _, _, _, _, hw⟩ | ⟨_, _, _, _, _, _, _, _, hw⟩
    · intro p hp; rw [hw]; exact List.mem_cons_of_mem _ hp
    · intro p hp; rw [hw]; exact hp
    · intro p hp; rw [hw]; exact hp
  refine ⟨⟨hv, h.args.mono (sgSet_le hj)⟩, fun i hi => ?_, fun i hi => ?_, fun p hp => ?_⟩
  · simp only [List.length_cons] at hi
    rw [sgSet_ne _ _ _ _ (by omega)]
    exact h.out i (by omega)
  · cases i with
    | zero =>
      rcases hB with ⟨t, l, h1, h2, h3, h4⟩ | ⟨l, h1, h2, h3, h4, h5⟩ | ⟨own, τ, ys, k, h1, h2, h3, h4, h5⟩
      · exact ⟨c, L, hL, .inl ⟨t, l, h1, h2, by rw [← h3]; exact sgSet_self _ _ _, by rw [h4]; exact List.mem_cons_self⟩⟩
      · exact ⟨c, L, hL, .inr (.inl ⟨l, h1, h2, by rw [← h3]; exact sgSet_self _ _ _, h4⟩)⟩
      · exact ⟨c, L, hL, .inr (.inr ⟨own, τ, ys, k, h1, h2, by rw [← h3]; exact sgSet_self _ _ _, h4⟩)⟩
    | succ i =>
      obtain ⟨c', L', h1, h2⟩ := h.at_ i (by simpa using hi)
      have e : j + (i + 1) = j + 1 + i := by omega
      refine ⟨c', L', h1, ?_⟩
      rw [e, sgSet_ne _ _ _ _ (by omega)]
      rcases h2 with ⟨t, l, h3, h4, h5, h6⟩ | ⟨l, h3, h4, h5, h6⟩ | ⟨own, τ, ys, k, h3, h4, h5, h6⟩
      · exact .inl ⟨t, l, h3, h4, h5, hsub _ h6⟩
      · exact .inr (.inl ⟨l, h3, h4, h5, hr _ h6⟩)
      · exact .inr (.inr ⟨own, τ, ys, k, h3, h4, h5, hr _ h6⟩)
  · have old : ∀ p ∈ q.2.2, j ≤ p.2 ∧ p.2 < j + (B :: q.2.1).length ∧ sgSet ρ j K p.2 = σ p.1 ∧ ∃ t l, mget M p.1 = .rw t l := by
      intro p hp
      obtain ⟨h1, h2, h3, h4⟩ := h.ws p hp
      refine ⟨by omega, by simp only [List.length_cons]; omega, ?_, h4⟩
      rw [sgSet_ne _ _ _ _ (by omega)]
      exact h3
    rcases hB with ⟨t, l, h1, h2, h3, h4⟩ | ⟨l, h1, h2, h3, h4, h5⟩ | ⟨own, τ, ys, k, h1, h2, h3, h4, h5⟩
    · simp only [h4] at hp
      rcases List.mem_cons.1 hp with rfl | hp
      · exact ⟨Nat.le_refl _, by simp, by rw [sgSet_self, h3]; exact hL.symm, t, l, h2⟩
      · exact old p hp
    · simp only [h5] at hp
      exact old p hp
    · simp only [h5] at hp
      exact old p hp

theorem sgSet_two (ρ : Sg) (j : Nat) (K : Loc) : sgSet ρ j K j = some K := sgSet_self _ _ _

theorem pass_rel (hM : MRel w0 W σ M w) : ∀ {xs : List AV} {vs : List Value} {j : Nat} {q : List AV × List Blk × List (Nat × Nat)}, AVRels σ xs vs → passArgs M xs j = some q → ∃ ρ, PassOK σ M xs vs j q ρ
  | [], [], j, q, _, h => by
    simp only [passArgs, Option.some.injEq] at h
    subst h
    exact ⟨fun _ => none, trivial, fun _ _ => rfl, fun i hi => by simp at hi, fun p hp => by simp at hp⟩
  | x :: r, v :: vs, j, q, ⟨hv, hvs⟩, h => by
    unfold passArgs at h
    split at h
    · -- a slice
      rename_i b k n e
      split at h
      · rename_i l q' hl hq
        cases h
        obtain ⟨ρ, hp⟩ := pass_rel hM hvs hq
        obtain ⟨L, cap, hL, he, hc, hcm, _⟩ := hv
        exact ⟨_, hp.one (.v (.c (.slice b k n e))) _ v { L with own := false } b L (.ro l) q'.2.2 hL ⟨_, cap, sgSet_self _ _ _, he, hc, hcm, fun hw => by cases hw⟩
          (fun c hc => by simp [sliceRefs, hc]) (.inr (.inl ⟨l, rfl, hl, rfl, by simp [sliceRefs], rfl⟩))⟩
      · cases h
    · -- an array of open length
      rename_i b k
      split at h
      · rename_i own τ ys q' hm hq
        cases h
        obtain ⟨ρ, hp⟩ := pass_rel hM hvs hq
        obtain ⟨L, hL, hv⟩ := hv
        have hB := hM.blk b
        rw [hm] at hB
        obtain ⟨L', g1, g2, g3, _⟩ := hB.elems
        rw [hL] at g1
        cases g1
        refine ⟨_, hp.one (.v (.c (.aslice b k))) _ v { L with own := false, n := (takeK k ys).length } b L (.arr none τ (takeK k ys)) q'.2.2 hL ⟨_, sgSet_self _ _ _, ?_⟩
          (fun c hc => by simp [sliceRefs, hc]) (.inr (.inr ⟨own, τ, ys, k, rfl, hm, rfl, by simp [sliceRefs], rfl⟩))⟩
        cases k with
        | none =>
          rcases hv with ⟨h0, e⟩ | ⟨cap, e, h1, h2, _⟩
          · exact .inl ⟨by simp only [takeK]; omega, e⟩
          · exact .inr ⟨cap, by simp only [takeK, ← g2]; exact e, by simp only [takeK]; omega, by simp only [takeK]; omega, fun hw => by cases hw⟩
        | some m =>
          obtain ⟨h0, h1, cap, e, h2, h3⟩ := hv
          have hl : (takeK (some m) ys).length = m := by simp only [takeK, List.length_take]; omega
          exact .inr ⟨cap, by simp only [hl]; exact e, by simp only [hl]; exact h2, by simp only [hl]; exact h3, fun hw => by cases hw⟩
      · cases h
    · cases h
    · -- a function
      rename_i f caps
      obtain ⟨us, he, hcs⟩ := hv
      split at h
      · split at h
        · rename_i q' hq
          cases h
          obtain ⟨ρ, hp⟩ := pass_rel hM hvs hq
          exact ⟨ρ, hp.plain (.v (.c (.fn f []))) _ v ⟨us, he, by cases hu : us.toList with | nil => trivial | cons _ _ => rw [hu] at hcs; exact hcs.elim⟩ rfl⟩
        · cases h
      · rename_i c
        split at h
        · rename_i t l q' hm hq
          cases h
          obtain ⟨ρ, hp⟩ := pass_rel hM hvs hq
          cases hu : us.toList with
          | nil => rw [hu] at hcs; exact hcs.elim
          | cons u1 us1 =>
            rw [hu] at hcs
            obtain ⟨⟨L, hL, hu1⟩, hrest⟩ := hcs
            cases us1 with
            | cons _ _ => exact hrest.elim
            | nil =>
              exact ⟨_, hp.one (.v (.c (.fn f [c]))) _ v L c L (.rw t l) ((c, j) :: q'.2.2) hL ⟨us, he, by rw [hu]; exact ⟨⟨L, sgSet_self _ _ _, hu1⟩, trivial⟩⟩ (fun b hb => hb) (.inl ⟨t, l, rfl, hm, rfl, rfl⟩)⟩
        · cases h
      · rename_i c c'
        split at h
        · rename_i t l t' l' q' hm hm' hq
          cases h
          obtain ⟨ρ, hp⟩ := pass_rel hM hvs hq
          cases hu : us.toList with
          | nil => rw [hu] at hcs; exact hcs.elim
          | cons u1 us1 =>
            rw [hu] at hcs
            obtain ⟨⟨L, hL, hu1⟩, hrest⟩ := hcs
            cases us1 with
            | nil => exact hrest.elim
            | cons u2 us2 =>
              obtain ⟨⟨L', hL', hu2⟩, hrest2⟩ := hrest
              cases us2 with
              | cons _ _ => exact hrest2.elim
              | nil =>
                -- the second block first, under a stand-in argument
                have hp1 := hp.one (j := j + 1) (.v (.c (.d (.bool true)))) (.v (.c (.d (.bool true)))) (.bool true) L' c' L' (.rw t' l') ((c', j + 1) :: q'.2.2) hL' ⟨rfl, trivial⟩ (fun b hb => hb) (.inl ⟨t', l', rfl, hm', rfl, rfl⟩)
                have hj1 : sgSet ρ (j + 1) L' j = none := hp1.out j (.inl (Nat.lt_succ_self j))
                have hp2 : PassOK σ M r vs (j + 1) (q'.1, .rw t' l' :: q'.2.1, (c', j + 1) :: q'.2.2) (sgSet ρ (j + 1) L') := ⟨hp1.args.2, hp1.out, hp1.at_, hp1.ws⟩
                refine ⟨_, hp2.one (.v (.c (.fn f [c, c']))) _ v L c L (.rw t l) ((c, j) :: (c', j + 1) :: q'.2.2) hL ⟨us, he, ?_⟩ (fun b hb => hb) (.inl ⟨t, l, rfl, hm, rfl, rfl⟩)⟩
                rw [hu]
                refine ⟨⟨L, sgSet_self _ _ _, hu1⟩, ⟨L', ?_, hu2⟩, trivial⟩
                rw [sgSet_ne _ _ _ _ (by omega)]
                exact sgSet_self _ _ _
        · cases h
      · cases h
    · -- an address
      rename_i b k
      split at h
      · split at h
        · rename_i t l q' hm hq
          cases h
          obtain ⟨ρ, hp⟩ := pass_rel hM hvs hq
          obtain ⟨L, hL, he⟩ := hv
          exact ⟨_, hp.one (.v (.c (.ptr b 0))) _ v L b L (.rw t l) ((b, j) :: q'.2.2) hL ⟨L, sgSet_self _ _ _, he⟩ (fun c hc => hc) (.inl ⟨t, l, rfl, hm, rfl, rfl⟩)⟩
        · cases h
      · cases h
    · rename_i d
      split at h
      · rename_i q' hq
        cases h
        obtain ⟨ρ, hp⟩ := pass_rel hM hvs hq
        exact ⟨ρ, hp.plain (.v (.c (.d d))) _ v hv rfl⟩
      · cases h
    · split at h
      · rename_i q' hq
        cases h
        obtain ⟨ρ, hp⟩ := pass_rel hM hvs hq
        exact ⟨ρ, hp.plain (.v (.c .nilS)) _ v hv rfl⟩
      · cases h
    · rename_i l
      split at h
      · rename_i q' hq
        cases h
        obtain ⟨ρ, hp⟩ := pass_rel hM hvs hq
        exact ⟨ρ, hp.plain (.v (.agg l)) _ v hv rfl⟩
      · cases h
    · cases h
    · cases h
  | [], _ :: _, _, _, hh, _ => hh.elim
  | _ :: _, [], _, _, hh, _ => hh.elim

theorem distinct_of {l : List (Nat × Nat)} (h : distinctFst l = true) {c b b' : Nat} (h1 : (c, b) ∈ l) (h2 : (c, b') ∈ l) : b = b' := by
  induction l with
  | nil => cases h1
  | cons p r ih =>
    simp only [distinctFst, Bool.and_eq_true, Bool.not_eq_true', List.any_eq_false, beq_iff_eq] at h
    obtain ⟨hn, hd⟩ := h
    rcases List.mem_cons.1 h1 with e1 | e1 <;> rcases List.mem_cons.1 h2 with e2 | e2
    · rw [← e1] at e2; cases e2; rfl
    · exact absurd (by rw [← e1]) (hn _ e2)
    · exact absurd (by rw [← e2]) (hn _ e1)
    · exact ih hd e1 e2

theorem live_of_data {y : Blk} {l : List D} (h : y.data = some l) (hl : (Blk.ro l).live = true) : y.live = true := by
  cases y with
  | dead => cases h
  | ro l' => simp only [Blk.data, Option.some.injEq] at h; subst h; exact hl
  | rw t l' => rfl
  | arr _ _ _ => cases h
  | cell _ _ => cases h

theorem live_takeK {own own' : Option Nat} {τ : ET} {k : Option Nat} {ys : List τ.T} (h : (Blk.arr own τ (takeK k ys)).live = true) : (Blk.arr own' τ ys).live = true := by
  cases ys with
  | nil => cases k <;> (simp only [takeK, List.take_nil] at h; cases h)
  | cons _ _ => rfl

theorem PassOK.mrel {xs : List AV} {vs : List Value} {q : List AV × List Blk × List (Nat × Nat)} {ρ : Sg} (hM : MRel w0 W σ M w) (h : PassOK σ M xs vs 0 q ρ) (hd : distinctFst q.2.2 = true) (hs : ∀ b ∈ sliceRefs xs, ∀ p ∈ q.2.2, p.1 ≠ b) :
    MRel w (Wof ρ q.2.1) ρ q.2.1 w := by
  have inb : ∀ b, mget q.2.1 b ≠ .dead → b < q.2.1.length := by
    intro b hb
    rcases Nat.lt_or_ge b q.2.1.length with h1 | h1
    · exact h1
    · exfalso
      apply hb
      rw [mget, gets_eq, List.getD_eq_getElem?_getD, List.getElem?_eq_none h1]
      rfl
  refine ⟨fun b => ?_, fun b b' L L' hne hb hb' hL hL' => ?_, fun b L hb hL => .inl ⟨b, L, hb, hL, rfl⟩, Kept.refl _ _⟩
  · by_cases hlt : b < q.2.1.length
    · obtain ⟨c, L, hc, h1⟩ := h.at_ b hlt
      rw [Nat.zero_add] at h1
      have hB := hM.blk c
      rcases h1 with ⟨t, l, h2, h3, h4, _⟩ | ⟨l, h2, h3, h4, _⟩ | ⟨own, τ, ys, k, h2, h3, h4, _⟩
      · rw [h3] at hB
        rw [mget, h2]
        obtain ⟨L', cur, h5, h6⟩ := hB
        rw [hc] at h5
        cases h5
        exact ⟨L, cur, h4, h6⟩
      · rw [mget, h2]
        obtain ⟨L', h5, h6⟩ := hB.cell h3
        rw [hc] at h5
        cases h5
        exact ⟨_, h4, rfl, h6⟩
      · rw [mget, h2]
        rw [h3] at hB
        obtain ⟨L', h5, _, h6, _, h7, h8⟩ := hB.elems
        rw [hc] at h5
        cases h5
        exact ⟨_, h4, rfl, h6, takeK_ok h7, rfl, fun j d hj => h8 j d (takeK_get hj)⟩
    · have : mget q.2.1 b = .dead := by
        rw [mget, gets_eq, List.getD_eq_getElem?_getD, List.getElem?_eq_none (by omega)]
        rfl
      rw [this]
      trivial
  · obtain ⟨c, K, hc, h1⟩ := h.at_ b (inb b (by intro e; rw [e] at hb; cases hb))
    obtain ⟨c', K', hc', h1'⟩ := h.at_ b' (inb b' (by intro e; rw [e] at hb'; cases hb'))
    rw [Nat.zero_add] at h1 h1'
    rcases h1 with ⟨t1, l1, h2, h3, h4, h5⟩ | ⟨l1, h2, _⟩ | ⟨own, τ, ys, k, h2, _⟩
    · rw [hL] at h4
      cases h4
      have hw3 : (mget M c).wr = true := by rw [h3]; rfl
      rcases h1' with ⟨t2, l2, k2, k3, k4, k5⟩ | ⟨l2, k2, k3, k4, k5⟩ | ⟨own, τ, ys, k, k2, k3, k4, k5⟩
      · rw [hL'] at k4
        cases k4
        by_cases e : c = c'
        · subst e
          exact absurd (distinct_of hd h5 k5) hne
        · exact hM.sep c c' L L' e hw3 (by rw [k3]; rfl) hc hc'
      · rw [hL'] at k4
        cases k4
        by_cases e : c = c'
        · subst e
          exact absurd rfl (hs c k5 _ h5)
        · have hb2 : (Blk.ro l2).live = true := by rw [mget, k2] at hb'; exact hb'
          exact hM.sep c c' L K' e hw3 (live_of_data k3 hb2) hc hc'
      · rw [hL'] at k4
        cases k4
        by_cases e : c = c'
        · subst e
          exact absurd rfl (hs c k5 _ h5)
        · have hb2 : (Blk.arr none τ (takeK k ys)).live = true := by rw [mget, k2] at hb'; exact hb'
          exact hM.sep c c' L K' e hw3 (by rw [k3]; exact live_takeK hb2) hc hc'
    · rw [mget, h2] at hb
      cases hb
    · rw [mget, h2] at hb
      cases hb

theorem PassOK.glob {xs : List AV} {vs : List Value} {q : List AV × List Blk × List (Nat × Nat)} {ρ : Sg} (hM : MRel w0 W σ M w) (hG : Glob G gb W w0) (h : PassOK σ M xs vs 0 q ρ) : Glob G gb (Wof ρ q.2.1) w := by
  refine ⟨Nat.le_trans hG.le hM.kept.size, fun k hk => ?_, fun g l hg => ⟨(hG.cell g l hg).1, hG.now hM.kept hg⟩⟩
  obtain ⟨b, L, hb, hL, rfl⟩ := hk
  have hlt : b < q.2.1.length := by
    rcases Nat.lt_or_ge b q.2.1.length with h1 | h1
    · exact h1
    · rw [mget, gets_eq, List.getD_eq_getElem?_getD, List.getElem?_eq_none h1] at hb
      cases hb
  obtain ⟨c, K, hc, h1⟩ := h.at_ b hlt
  rw [Nat.zero_add] at h1
  rcases h1 with ⟨t1, l1, h2, h3, h4, _⟩ | ⟨l1, h2, _⟩ | ⟨own, τ, ys, k, h2, _⟩
  · rw [hL] at h4
    cases h4
    rcases hM.own c L (by rw [h3]; rfl) hc with h5 | h5
    · exact hG.high _ h5
    · exact Nat.le_trans hG.le h5
  · rw [mget, h2] at hb
    cases hb
  · rw [mget, h2] at hb
    cases hb

theorem backSets_mem {M' : List Blk} : ∀ {ws : List (Nat × Nat)} {s : Sets}, backSets M' ws = some s →
    (∀ p ∈ ws, ∃ t l, mget M' p.2 = .rw t l ∧ (p.1, Blk.rw t l) ∈ s) ∧ (∀ y ∈ s, ∃ p ∈ ws, y.1 = p.1 ∧ y.2 = mget M' p.2)
  | [], s, h => by simp only [backSets, Option.some.injEq] at h; subst h; exact ⟨by simp, by simp⟩
  | p :: r, s, h => by
    simp only [backSets] at h
    split at h
    · rename_i t l s' hm hs
      cases h
      obtain ⟨h1, h2⟩ := backSets_mem hs
      constructor
      · intro p' hp'
        rcases List.mem_cons.1 hp' with rfl | hp'
        · exact ⟨t, l, hm, by simp⟩
        · obtain ⟨t', l', h3, h4⟩ := h1 p' hp'
          exact ⟨t', l', h3, by simp [h4]⟩
      · intro y hy
        rcases List.mem_cons.1 hy with rfl | hy
        · exact ⟨p, by simp, rfl, hm.symm⟩
        · obtain ⟨p', h3, h4⟩ := h2 y hy
          exact ⟨p', by simp [h3], h4⟩
    · cases h

theorem lastSet_some {s : Sets} {b : Nat} {y : Blk} (h : lastSet s b = some y) : (b, y) ∈ s := by
  induction s with
  | nil => cases h
  | cons p r ih =>
    simp only [lastSet] at h
    cases hr : lastSet r b with
    | some z => rw [hr] at h; cases h; exact List.mem_cons_of_mem _ (ih hr)
    | none =>
      rw [hr] at h
      simp only at h
      split at h
      · rename_i e
        cases h
        rw [← e]
        exact List.mem_cons_self
      · cases h

theorem lastSet_none_iff {s : Sets} {b : Nat} (h : lastSet s b = none) : ∀ p ∈ s, p.1 ≠ b := by
  induction s with
  | nil => simp
  | cons p r ih =>
    simp only [lastSet] at h
    cases hr : lastSet r b with
    | some z => rw [hr] at h; cases h
    | none =>
      rw [hr] at h
      simp only at h
      intro q hq
      rcases List.mem_cons.1 hq with rfl | hq
      · intro e; rw [if_pos e] at h; cases h
      · exact ih hr q hq

theorem PassOK.back {xs : List AV} {vs : List Value} {q : List AV × List Blk × List (Nat × Nat)} {ρ τ : Sg} {M' : List Blk} {w' : World} {s : Sets} (hM : MRel w0 W σ M w) (h : PassOK σ M xs vs 0 q ρ)
    (hle : ρ.le τ) (hM' : MRel w (Wof ρ q.2.1) τ M' w') (hs : backSets M' q.2.2 = some s) : MRel w0 W σ (puts M s) w' ∧
      (∀ b L, q.2.1.length ≤ b → (mget M' b).wr = true → τ b = some L → w.heap.size ≤ L.blk) := by
  obtain ⟨hs1, hs2⟩ := backSets_mem hs
  -- the blocks that may have been written are those of ws
  have hW : ∀ k, Wof ρ q.2.1 k → ∃ p ∈ q.2.2, ∃ t l L, mget M p.1 = .rw t l ∧ σ p.1 = some L ∧ ρ p.2 = some L ∧ L.blk = k := by
    rintro k ⟨b, L, hb, hL, rfl⟩
    have hlt : b < q.2.1.length := by
      rcases Nat.lt_or_ge b q.2.1.length with h1 | h1
      · exact h1
      · rw [mget, gets_eq, List.getD_eq_getElem?_getD, List.getElem?_eq_none h1] at hb
        cases hb
    obtain ⟨c, K, hc, h1⟩ := h.at_ b hlt
    rw [Nat.zero_add] at h1
    rcases h1 with ⟨t1, l1, h2, h3, h4, h5⟩ | ⟨l1, h2, _⟩ | ⟨own, τ, ys, k, h2, _⟩
    · rw [hL] at h4
      cases h4
      exact ⟨(c, b), h5, t1, l1, L, h3, hc, hL, rfl⟩
    · rw [mget, h2] at hb
      cases hb
    · rw [mget, h2] at hb
      cases hb
  have get : ∀ b, (∃ p ∈ q.2.2, p.1 = b ∧ mget (puts M s) b = mget M' p.2 ∧ ∃ t l, mget M' p.2 = .rw t l) ∨ ((∀ p ∈ q.2.2, p.1 ≠ b) ∧ mget (puts M s) b = mget M b) := by
    intro b
    rw [mget_puts]
    cases hl : lastSet s b with
    | some y =>
      obtain ⟨p, hp, h1, h2⟩ := hs2 _ (lastSet_some hl)
      obtain ⟨t, l, h3, _⟩ := hs1 p hp
      exact .inl ⟨p, hp, h1.symm, h2, t, l, h3⟩
    | none =>
      refine .inr ⟨fun p hp e => ?_, rfl⟩
      obtain ⟨t, l, _, h4⟩ := hs1 p hp
      exact lastSet_none_iff hl _ h4 e
  have keepb : ∀ b L, (∀ p ∈ q.2.2, p.1 ≠ b) → (mget M b).live = true → σ b = some L → L.blk < w.heap.size → w'.heap[L.blk]? = w.heap[L.blk]? := by
    intro b L hn hlive hL hlt
    refine hM'.kept.block _ hlt fun hw => ?_
    obtain ⟨p, hp, t, l, K, h1, h2, _, h3⟩ := hW _ hw
    exact hM.sep p.1 b K L (hn p hp) (by rw [h1]; rfl) hlive h2 hL h3
  refine ⟨⟨fun b => ?_, fun b b' L L' hne hb hb' hL hL' => ?_, fun b L hb hL => ?_, ?_⟩, fun b L hlen hb hL => ?_⟩
  · rcases get b with ⟨p, hp, rfl, h1, t, l, h2⟩ | ⟨hn, h1⟩
    · rw [h1, h2]
      have hB := hM'.blk p.2
      rw [h2] at hB
      obtain ⟨K, cur, h3, h4⟩ := hB
      obtain ⟨_, _, h5, t', l', h6⟩ := h.ws p hp
      have hK : σ p.1 = some K := by
        have hb0 := hM.blk p.1
        rw [h6] at hb0
        obtain ⟨K', _, h7, _⟩ := hb0
        have : τ p.2 = some K' := hle _ _ (by rw [h5]; exact h7)
        rw [h3] at this
        cases this
        exact h7
      exact ⟨K, cur, hK, h4⟩
    · rw [h1]
      exact (hM.blk b).of_block fun L hL hlive hlt => keepb b L hn hlive hL hlt
  · have k1 : (mget M b).wr = true := by
      rcases get b with ⟨p, hp, rfl, _⟩ | ⟨_, h1⟩
      · obtain ⟨_, _, _, t', l', h6⟩ := h.ws p hp
        rw [h6]; rfl
      · rw [← h1]; exact hb
    have k2 : (mget M b').live = true := by
      rcases get b' with ⟨p, hp, rfl, _⟩ | ⟨_, h1⟩
      · obtain ⟨_, _, _, t', l', h6⟩ := h.ws p hp
        rw [h6]; rfl
      · rw [← h1]; exact hb'
    exact hM.sep b b' L L' hne k1 k2 hL hL'
  · have k1 : (mget M b).wr = true := by
      rcases get b with ⟨p, hp, rfl, _⟩ | ⟨_, h1⟩
      · obtain ⟨_, _, _, t', l', h6⟩ := h.ws p hp
        rw [h6]; rfl
      · rw [← h1]; exact hb
    exact hM.own b L k1 hL
  · refine hM.kept.trans' hM'.kept fun k hk => ?_
    obtain ⟨p, hp, t, l, K, h1, h2, _, rfl⟩ := hW _ hk
    exact hM.own p.1 K (by rw [h1]; rfl) h2
  · rcases hM'.own b L hb hL with h1 | h1
    · exfalso
      obtain ⟨p, hp, t', l', K, h2, h3, h4, h5⟩ := hW _ h1
      obtain ⟨_, h6, _⟩ := h.ws p hp
      obtain ⟨t2, l2, h7, _⟩ := hs1 p hp
      exact hM'.sep b p.2 L K (by omega) hb (by rw [h7]; rfl) hL (hle _ _ h4) h5.symm
    · exact h1

theorem dataV_rel {σ τ : Sg} {x : V} {v : Value} (hd : dataV x = true) (h : VRel τ x v) : VRel σ x v := by
  cases x with
  | c c => cases c <;> first | exact h | cases hd
  | agg l => exact h

theorem dataVs_rel {σ τ : Sg} : ∀ {l : List V} {vs : List Value}, l.all dataV = true → VRels τ l vs → VRels σ l vs
  | [], [], _, _ => trivial
  | x :: r, v :: s, hd, ⟨h1, h2⟩ => by
    simp only [List.all_cons, Bool.and_eq_true] at hd
    exact ⟨dataV_rel hd.1 h1, dataVs_rel hd.2 h2⟩
  | [], _ :: _, _, hh => hh.elim
  | _ :: _, [], _, hh => hh.elim

theorem MRel.adopt {w' : World} {τ : Sg} {M' : List Blk} {V : Nat → Prop} {b : Nat} {y : Blk} {L : Loc} (hM : MRel w0 W σ M w') (hN : σ N = none) (h0 : y.wr = true → w0.heap.size ≤ L.blk) (hM' : MRel w V τ M' w') (hb : mget M' b = y) (hL : τ b = some L) (hy : ∀ t c, y ≠ .cell t c) (hyw : y.live = true → y.wr = true)
    (hfar : y.wr = true → ∀ c K, (mget M c).live = true → σ c = some K → K.blk ≠ L.blk) : MRel w0 W (sgSet σ N L) (mput M N y) w' := by
  have hBb := hM'.blk b
  rw [hb] at hBb
  have hB : BRel (sgSet σ N L) N y w' := by
    cases y with
    | dead => trivial
    | ro l => obtain ⟨K, h1, h2⟩ := hBb; rw [hL] at h1; cases h1; exact ⟨L, sgSet_self _ _ _, h2⟩
    | rw t l => obtain ⟨K, cur, h1, h2⟩ := hBb; rw [hL] at h1; cases h1; exact ⟨L, cur, sgSet_self _ _ _, h2⟩
    | arr own υ xs => obtain ⟨K, h1, h2⟩ := hBb; rw [hL] at h1; cases h1; exact ⟨L, sgSet_self _ _ _, h2⟩
    | cell t c => exact absurd rfl (hy t c)
  exact hM.put hN y L hB (fun _ _ _ _ _ => rfl) hM.kept (fun hw => .inr (h0 hw)) (fun hl c K hc hK => hfar (hyw hl) c K (wr_live hc) hK) fun hw c K hc hK => hfar hw c K hc hK

end
end Go.Ev

namespace Go.Ev
open Go

section
variable {P : Program} {G : Nat → Option (List D)} {gb : Nat} {EQ : Tab} {w0 : World} {W : Nat → Prop} {σ : Sg} {a : Act} {w : World} {T : TS} {M : List Blk} {N : Nat} {o : Oper}
  {next : Act → World → Prop} {Q : Exit → Act → World → Prop}

theorem caps_rel : ∀ {caps : List Nat} {vs : List Value}, PRel σ caps vs → AVRels σ (caps.map fun c => aptr c 0) vs
  | [], [], _ => trivial
  | _ :: _, _ :: _, ⟨⟨L, h1, h2⟩, h3⟩ => ⟨⟨L, h1, h2⟩, caps_rel h3⟩
  | [], _ :: _, hh => hh.elim
  | _ :: _, [], hh => hh.elim

theorem call_run {c : Call} {g : Operand} {f : Nat} {vs : Array Value} (ho : o.op = .call c) (hc : c.callee = .value g) (hg : a.eval g = .func (.func f) #[] vs) :
    (execOp a.eval o).run P w = (callFunc f (c.args.map a.eval ++ vs)).run P w := by
  unfold execOp
  simp only [ho, resolve, hc, hg, Deferred.ofValue, Sem.run_bind, Sem.run_pure, Result.andThen_ok, invoke]
  simp

theorem call_ok {c : Call} {g : Operand} {f : Nat} {caps : List Nat} {l : List AV} {v : AV} {s : Sets} (ho : o.op = .call c) (hc : c.callee = .value g) (hg : opdV T g = some (.v (.c (.fn f caps)))) (hl : opdVs T c.args.toList = some l)
    (hr : Reach P G gb (evCall f caps l M N) v s) (hT : TRel σ T a) (hM : MRel w0 W σ M w) (hG : Glob G gb W w0) (hN : σ N = none)
    (h : Goes w0 W σ M N a o.dst next v s) : o.wp P a w next Q := by
  obtain ⟨vs, he, hcaps⟩ := opdV_rel hT hg
  have hargs : AVRels σ (l ++ caps.map fun c => aptr c 0) (c.args.map a.eval ++ vs).toList := by
    rw [Array.toList_append, Array.toList_map]
    exact (opdVs_rel hT hl).append (caps_rel hcaps)
  unfold evCall at hr
  split at hr
  · exact hr.elim
  · rename_i q hq
    simp only [cond_eq_ite, Bool.and_eq_true] at hr
    split at hr
    · rename_i hch
      obtain ⟨hd, hsr⟩ := hch
      have hsr' : ∀ b ∈ sliceRefs (l ++ caps.map fun c => aptr c 0), ∀ p ∈ q.2.2, p.1 ≠ b := by
        intro b hb p hp e
        have := List.all_eq_true.1 hsr b hb
        simp only [Bool.not_eq_true', List.any_eq_false, beq_iff_eq] at this
        exact this p hp e
      obtain ⟨u, M', hent, hcall, hrest⟩ := hr
      obtain ⟨ρ, hp⟩ := pass_rel hM hargs hq
      have hcal := hcall ρ w (c.args.map a.eval ++ vs) hp.args (hp.mrel hM hd hsr') (hp.glob hM hG) (fun b hb => hp.out b (.inr (by omega)))
      unfold Oper.wp
      rw [call_run ho hc he, hent]
      refine Calls.mono hcal ?_
      rintro e w' ⟨v', τ, rfl, hle, hv, hM'⟩
      simp only at hrest
      split at hrest
      · rename_i s1 p hs1 hp1
        obtain ⟨rfl, rfl⟩ := hrest
        obtain ⟨hMb, hfar⟩ := hp.back hM hle hM' hs1
        -- the result
        have hset : ∀ y ∈ s1, y.1 ≠ N := by
          intro y hy e
          obtain ⟨p', hp', h1, _⟩ := (backSets_mem hs1).2 y hy
          obtain ⟨_, _, _, t', l', h6⟩ := hp.ws p' hp'
          have := hM.dead hN
          rw [← e, h1, h6] at this
          cases this
        have plain : p.2 = [] → AVRel σ p.1 v' → next (a.put o.dst v') w' := by
          intro e1 e2
          refine h σ v' w' (Sg.le_refl _) (fun _ _ => rfl) (fun _ => hN) e2 ?_
          rw [e1, List.append_nil]
          exact hMb
        have fresh : ∀ b y L, q.2.1.length ≤ b → mget M' b = y → (∀ t c, y ≠ .cell t c) → (y.live = true → y.wr = true) → τ b = some L → p.2 = [(N, y)] → AVRel (sgSet σ N L) p.1 v' → next (a.put o.dst v') w' := by
          intro b y L hb hm hy hyw hL e1 e2
          refine h (sgSet σ N L) v' w' (sgSet_le hN) (fun c hc => sgSet_ne _ _ _ _ hc) (fun hn => absurd rfl (hn (N, y) (by rw [e1]; simp))) e2 ?_
          rw [e1, puts_append]
          refine hMb.adopt hN (fun hw => Nat.le_trans hM.kept.size (hfar b L hb (by rw [hm]; exact hw) hL)) hM' hm hL hy hyw fun hw c K hlive hK => ?_
          have hlo := hfar b L hb (by rw [hm]; exact hw) hL
          -- an old block lies below
          have hlt : K.blk < w.heap.size := by
            by_cases hc : mget (puts M s1) c = mget M c
            · rw [hc] at hlive
              exact (hM.blk c).live_lt hlive hK
            · rw [mget_puts] at hc
              cases hls : lastSet s1 c with
              | none => rw [hls] at hc; exact absurd rfl hc
              | some y =>
                obtain ⟨p', hp', h1, _⟩ := (backSets_mem hs1).2 _ (lastSet_some hls)
                obtain ⟨_, _, _, t', l2, h6⟩ := hp.ws p' hp'
                simp only at h1
                subst h1
                exact hM.rw_lt h6 hK
          omega
        unfold backVal at hp1
        split at hp1
        · rename_i x
          split at hp1
          · rename_i b k n es
            simp only [cond_eq_ite, Nat.ble_eq] at hp1
            split at hp1
            · rename_i hb
              split at hp1
              · rename_i t l' hm
                cases hp1
                obtain ⟨L, cap, hL, he', hrest'⟩ := hv
                exact fresh b _ L hb hm (fun _ _ e => by cases e) (fun _ => rfl) hL rfl ⟨L, cap, sgSet_self _ _ _, he', hrest'⟩
              · cases hp1
            · cases hp1
          · rename_i b
            simp only [cond_eq_ite, Nat.ble_eq] at hp1
            split at hp1
            · rename_i hb
              split at hp1
              · rename_i t τ' xs hm
                cases hp1
                obtain ⟨L, hL, hrest'⟩ := hv
                exact fresh b _ L hb hm (fun _ _ e => by cases e) (fun hl => by cases xs with | nil => cases hl | cons _ _ => rfl) hL rfl ⟨L, sgSet_self _ _ _, hrest'⟩
              · cases hp1
            · cases hp1
          · rename_i f' b
            simp only [cond_eq_ite, Nat.ble_eq] at hp1
            split at hp1
            · rename_i hb
              split at hp1
              · rename_i t l' hm
                cases hp1
                obtain ⟨vs', he', hps⟩ := hv
                cases hvl : vs'.toList with
                | nil => rw [hvl] at hps; exact hps.elim
                | cons v1 vr =>
                  rw [hvl] at hps
                  obtain ⟨⟨L, hL, hv1⟩, hps'⟩ := hps
                  exact fresh b _ L hb hm (fun _ _ e => by cases e) (fun _ => rfl) hL rfl ⟨vs', he', by rw [hvl]; exact ⟨⟨L, sgSet_self _ _ _, hv1⟩, by cases vr with | nil => trivial | cons _ _ => exact hps'.elim⟩⟩
              · cases hp1
            · cases hp1
          · simp only [cond_eq_ite] at hp1
            split at hp1
            · rename_i hdv
              cases hp1
              exact plain rfl (dataV_rel hdv hv)
            · cases hp1
        · cases hp1
        · cases hp1
          exact plain rfl (by obtain ⟨vs', h1, h2⟩ := hv; exact ⟨vs', h1, dataVs_rel rfl h2⟩)
        · rename_i x r
          simp only [cond_eq_ite] at hp1
          split at hp1
          · rename_i hr1
            obtain ⟨vs', h1, h2⟩ := hv
            cases hvl : vs'.toList with
            | nil => rw [hvl] at h2; exact h2.elim
            | cons v1 vr =>
              rw [hvl] at h2
              obtain ⟨h3, h4⟩ := h2
              split at hp1
              · rename_i b k n es
                simp only [Nat.ble_eq] at hp1
                split at hp1
                · rename_i hb
                  split at hp1
                  · rename_i t l' hm
                    cases hp1
                    obtain ⟨L, cap, hL, he', hrest'⟩ := h3
                    exact fresh b _ L hb hm (fun _ _ e => by cases e) (fun _ => rfl) hL rfl ⟨vs', h1, by rw [hvl]; exact ⟨⟨L, cap, sgSet_self _ _ _, he', hrest'⟩, dataVs_rel hr1 h4⟩⟩
                  · cases hp1
                · cases hp1
              · rename_i b
                simp only [Nat.ble_eq] at hp1
                split at hp1
                · rename_i hb
                  split at hp1
                  · rename_i t τ' xs hm
                    cases hp1
                    obtain ⟨L, hL, hrest'⟩ := h3
                    exact fresh b _ L hb hm (fun _ _ e => by cases e) (fun hl => by cases xs with | nil => cases hl | cons _ _ => rfl) hL rfl ⟨vs', h1, by rw [hvl]; exact ⟨⟨L, sgSet_self _ _ _, hrest'⟩, dataVs_rel hr1 h4⟩⟩
                  · cases hp1
                · cases hp1
              · split at hp1
                · rename_i hdv
                  cases hp1
                  exact plain rfl ⟨vs', h1, by rw [hvl]; exact ⟨dataV_rel hdv h3, dataVs_rel hr1 h4⟩⟩
                · cases hp1
          · cases hp1
      · exact hrest.elim
    · exact hr.elim

theorem plain_data : ∀ {l : List AV} {vs : List Value} {τ : Sg}, plainArgs l = true → AVRels σ l vs → AVRels τ l vs
  | [], [], _, _, _ => trivial
  | x :: r, v :: s, τ, hp, ⟨h1, h2⟩ => by
    unfold plainArgs at hp
    split at hp
    · cases ‹_ = []›
    · rename_i heq; cases heq; exact ⟨h1, plain_data hp h2⟩
    · rename_i heq; cases heq; exact ⟨h1, plain_data hp h2⟩
    · cases hp
  | [], _ :: _, _, _, hh => hh.elim
  | _ :: _, [], _, _, hh => hh.elim

theorem builtin_ok {c : Call} {b : Builtin} {l : List AV} {v : AV} {s : Sets} (ho : o.op = .call c) (hc : c.callee = .builtin b) (hl : opdVs T c.args.toList = some l)
    (hr : Reach P G gb (evBuiltin P EQ b c.argTypes.toList l M N) v s) (hT : TRel σ T a) (hM : MRel w0 W σ M w) (hN : σ N = none)
    (h : Goes w0 W σ M N a o.dst next v s) : o.wp P a w next Q := by
  obtain ⟨callee, args, argTypes⟩ := c
  simp only at hc
  subst hc
  obtain ⟨argl⟩ := args
  obtain ⟨tyl⟩ := argTypes
  simp only at hl hr
  have hargs := opdVs_rel hT hl
  have hexec : ∀ (v' : Value) (w' : World), (builtin b tyl.toArray o.type ((argl.toArray.map fun | .const _ => true | _ => false)) (argl.map a.eval).toArray).run P w = .ok (.value v') w' → (execOp a.eval o).run P w = .ok (.value v') w' := by
    intro v' w' hrun
    unfold execOp
    simp only [ho, resolve, invoke, Sem.run_bind, Sem.run_pure, Result.andThen_ok]
    rw [show Array.map a.eval { toList := argl } = (argl.map a.eval).toArray from by simp]
    exact hrun
  unfold evBuiltin at hr
  split at hr
  · -- len
    rename_i t x
    cases hargl : argl.map a.eval with
    | nil => rw [hargl] at hargs; exact hargs.elim
    | cons u r =>
      rw [hargl] at hargs
      obtain ⟨h1, h2⟩ := hargs
      cases r with
      | cons _ _ => exact h2.elim
      | nil =>
        have lenrun : ∀ (n : Nat), n ≤ 9223372036854775807 → (Builtin.len_ #[t] o.type #[u]).run P w = .ok (goInt n) w → v = aint .i64 n → s = [] → o.wp P a w next Q := by
          intro n hn hrun hv hs
          subst hv
          subst hs
          refine h.value hM hN (v' := goInt n) (hexec _ _ ?_) ⟨rfl, by simp only [D.ok, inR, Bool.and_eq_true, decide_eq_true_eq]; omega⟩
          rw [hargl]
          simp [builtin, hrun]
        split at hr
        · rename_i st hu
          obtain ⟨rfl, rfl⟩ := hr
          obtain ⟨e, hok⟩ := h1
          change u = .string st at e
          subst e
          exact lenrun _ hok (by simp [Builtin.len_, underlying_run hu]) rfl rfl
        · rename_i e b k n es hu
          obtain ⟨rfl, rfl⟩ := hr
          obtain ⟨L, cap, _, rfl, _, hml, _⟩ := h1
          exact lenrun _ (by simp only [maxLen] at hml; omega) (by simp [Builtin.len_, underlying_run hu]) rfl rfl
        · rename_i e hu
          obtain ⟨rfl, rfl⟩ := hr
          have e : u = .slice none 0 0 := h1
          subst e
          exact lenrun 0 (by omega) (by simp [Builtin.len_, underlying_run hu]) rfl rfl
        · rename_i e b k hu
          split at hr
          · rename_i own τ xs hm
            obtain ⟨rfl, rfl⟩ := hr
            obtain ⟨L, hL, hv⟩ := h1
            have hB := hM.blk b
            rw [hm] at hB
            obtain ⟨L', g1, g2, _⟩ := hB.elems
            rw [hL] at g1
            cases g1
            cases k with
            | none =>
              rcases hv with ⟨h0, rfl⟩ | ⟨cap, rfl, _, hml, _⟩
              · exact lenrun 0 (by omega) (by simp [Builtin.len_, underlying_run hu]) (by simp only [lenK, ← g2, h0]) rfl
              · exact lenrun L.n (by simp only [maxLen] at hml; omega) (by simp [Builtin.len_, underlying_run hu]) (by simp only [lenK, ← g2]) rfl
            | some m =>
              obtain ⟨_, _, cap, rfl, _, hml⟩ := hv
              exact lenrun m (by simp only [maxLen] at hml; omega) (by simp [Builtin.len_, underlying_run hu]) rfl rfl
          · exact hr.elim
        · rename_i n hu
          rcases hr with ⟨hb, rfl, rfl⟩ | ⟨_, hf⟩
          · exact lenrun _ (by simp only [Nat.ble_eq, roomD] at hb; omega) (by simp [Builtin.len_, underlying_run hu]) rfl rfl
          · exact hf.elim
        · exact hr.elim
  · -- max
    rename_i k x r
    split at hr
    · rename_i y hy
      obtain ⟨rfl, rfl⟩ := hr
      cases hargl : argl.map a.eval with
      | nil => rw [hargl] at hargs; exact hargs.elim
      | cons u rest =>
        rw [hargl] at hargs
        obtain ⟨h1, h2⟩ := hargs
        obtain ⟨e, hok⟩ := h1
        change u = .int k x at e
        subst e
        have hm := maxL_run (P := P) (w := w) h2 hok hy
        refine h.value hM hN (v' := .int k y) (hexec _ _ ?_) ⟨rfl, hm.2⟩
        rw [hargl]
        simp [builtin, Builtin.max_, hm.1]
    · exact hr.elim
  · -- min
    rename_i k x r
    split at hr
    · rename_i y hy
      obtain ⟨rfl, rfl⟩ := hr
      cases hargl : argl.map a.eval with
      | nil => rw [hargl] at hargs; exact hargs.elim
      | cons u rest =>
        rw [hargl] at hargs
        obtain ⟨h1, h2⟩ := hargs
        obtain ⟨e, hok⟩ := h1
        change u = .int k x at e
        subst e
        have hm := minL_run (P := P) (w := w) h2 hok hy
        refine h.value hM hN (v' := .int k y) (hexec _ _ ?_) ⟨rfl, hm.2⟩
        rw [hargl]
        simp [builtin, Builtin.min_, hm.1]
    · exact hr.elim
  · -- append
    rename_i t t' sv xv
    simp only [cond_eq_ite, beq_iff_eq] at hr
    split at hr
    · rename_i ht
      subst ht
      cases argl with
      | nil => exact hargs.elim
      | cons sx r =>
        obtain ⟨h1, h2⟩ := hargs
        cases r with
        | nil => exact h2.elim
        | cons xx r =>
          obtain ⟨h2, h3⟩ := h2
          cases r with
          | nil =>
            split at hr
            · rename_i e hu
              split at hr
              · exact appendA_ok ho hu h1 h2 hr hM hN h
              · exact append_ok ho h1 h2 hr hM hN h
            · exact hr.elim
          | cons _ _ => exact h3.elim
    · exact hr.elim
  · exact hr.elim

theorem op_sound (hEQ : ∀ t, t ∈ EQ.eq → EqOK P t) {v : AV} {s : Sets} (hr : Reach P G gb (opR P G EQ o.op T M N) v s) (hT : TRel σ T a) (hM : MRel w0 W σ M w) (hG : Glob G gb W w0) (hN : σ N = none)
    (h : Goes w0 W σ M N a o.dst next v s) : o.wp P a w next Q := by
  cases ho : o.op <;> rw [ho] at hr
  case move x => exact move_ok (EQ := EQ) (.inl ho) hr hT hM hN h
  case assign x => exact move_ok (EQ := EQ) (.inr ho) hr hT hM hN h
  case pick c x y => exact pick_ok ho hr hT hM hN h
  case alloc t => exact alloc_ok ho hr hM hN h
  case box t x => exact box_ok ho hr hT hM hN h
  case build t ps => exact build_ok ho hr hT hM hN h
  case buildSlice t n ps => exact buildSlice_ok ho hr hT hM hN h
  case load t x => exact load_ok ho hr hT hM hG hN h
  case store t x y => exact store_ok ho hr hT hM hN h
  case nilCheck x => exact nilCheck_ok ho hr hT hM hN h
  case binOp op t x y u => exact binOp_ok hEQ ho hr hT hM hN h
  case unOp op t x => exact unOp_ok ho hr hT hM hN h
  case convert t u x => exact convert_ok ho hr hT hM hN h
  case makeFunc fn first caps => exact makeFunc_ok ho hr hT hM hN h
  case makeSlice t x y => exact makeSlice_ok ho hr hT hM hN h
  case slice t x lo hi mx => exact slice_ok ho hr hT hM hN h
  case fieldAddr t x f => exact fieldAddr_ok ho hr hT hM hN h
  case field t x f => exact field_ok ho hr hT hM hN h
  case indexAddr t x i => exact indexAddr_ok ho hr hT hM hN h
  case index t x i => exact index_ok ho hr hT hM hN h
  case extract x i => exact extract_ok ho hr hT hM hN h
  case call c =>
    simp only [opR] at hr
    split at hr
    · rename_i b hb
      split at hr
      · rename_i l hl
        exact builtin_ok ho hb hl hr hT hM hN h
      · exact hr.elim
    · rename_i g hg
      split at hr
      · rename_i f caps l hgv hl
        split at hr
        · rename_i fn hfn
          split at hr
          · exact call_ok ho hg hgv hl hr hT hM hG hN h
          · split at hr
            · simp only [cond_eq_ite] at hr
              split at hr
              · obtain ⟨u, hx, rfl, rfl⟩ := hr
                obtain ⟨vs, he, hcaps⟩ := opdV_rel hT hgv
                have hvs : vs = #[] := by
                  cases hv : vs.toList with
                  | nil => exact Array.ext' hv
                  | cons _ _ => rw [hv] at hcaps; exact hcaps.elim
                subst hvs
                obtain ⟨v', hrun, hv⟩ := hx σ (c.args.map a.eval) w (by rw [Array.toList_map]; exact opdVs_rel hT hl)
                refine h.value hM hN ?_ hv
                rw [call_run ho hg he]
                simpa using hrun
              · exact hr.elim
            · exact hr.elim
        · exact hr.elim
      · exact hr.elim
    · exact hr.elim
  all_goals exact hr.elim

theorem isNil_op {o : Op} (h : isNil o = true) : o = .assign (.const (.slice none 0 0)) ∨ o = .move (.const (.slice none 0 0)) := by
  unfold isNil at h
  split at h
  · exact .inl rfl
  · exact .inr rfl
  · cases h

theorem opO_sound (hEQ : ∀ t, t ∈ EQ.eq → EqOK P t) {v : AV} {s : Sets} (hr : Reach P G gb (opO P G EQ o T M N) v s) (hT : TRel σ T a) (hM : MRel w0 W σ M w) (hG : Glob G gb W w0) (hN : σ N = none)
    (h : Goes w0 W σ M N a o.dst next v s) : o.wp P a w next Q := by
  unfold opO at hr
  cases hn : isNil o.op with
  | false =>
    rw [hn] at hr
    exact op_sound hEQ hr hT hM hG hN h
  | true =>
    rw [hn] at hr
    simp only [cond_true] at hr
    split at hr
    · rename_i p hp
      obtain ⟨rfl, rfl⟩ := hr
      have hrun : (execOp a.eval o).run P w = .ok (.value (.slice none 0 0)) w := by
        unfold execOp
        rcases isNil_op hn with e | e <;> rw [e] <;> rfl
      unfold Oper.wp
      rw [hrun]
      refine h (sgSet σ N ⟨0, 0, 0, true, 0, p.2.len⟩) _ _ (sgSet_le hN) (fun b hb => sgSet_ne _ _ _ _ hb) (fun hp' => absurd rfl (hp' (N, .arr (some p.1) p.2 []) (by simp))) ⟨_, sgSet_self _ _ _, .inl ⟨rfl, rfl⟩⟩ ?_
      exact hM.put hN _ _ ⟨_, sgSet_self _ _ _, rfl, rfl, by simp [ET.flat], rfl, rfl, .inl rfl⟩ (fun _ _ _ _ _ => rfl) hM.kept (fun h => by cases h) (fun h => by cases h) (fun h => by cases h)
    · exact op_sound hEQ hr hT hM hG hN h

end
end Go.Ev

namespace Go.Ev
open Go

structure GOK (P : Program) (G : Nat → Option (List D)) (gb : Nat) (Γ : Nat → List AV → List Blk → (AV → List Blk → Ans) → Ans) (X : Nat → List AV → (AV → Ans) → Ans) : Prop where
  call : ∀ f as bs K r, Γ f as bs K = some r → ∃ v M, Enters P f ∧ CallsA P G gb f as bs v M ∧ K v M = some r
  ext : ∀ f as K r, X f as K = some r → ∃ v, ExtA P f as v ∧ K v = some r

def wantA (ops : List Oper) (o : Oper) (T : TS) : Option Bool :=
  match o.guard with
  | none => some true
  | some g => match dstOf ops g.1 with
    | none => none
    | some d => match tget T d with
      | .v (.c (.d (.bool b))) => some (b == g.2)
      | .tup [] => some false
      | _ => none

inductive Trace (P : Program) (G : Nat → Option (List D)) (gb : Nat) (EQ : Tab) (dr : Bool) (ops : List Oper) : List Oper → TS → List Blk → Nat → List Tr → TS → List Blk → Nat → Prop
  | nil {T M N} : Trace P G gb EQ dr ops [] T M N [] T M N
  | did {o r T M N v s tr T' M' N'} : wantA ops o T = some true → Reach P G gb (opO P G EQ o T M N) v s →
      Trace P G gb EQ dr ops r (setT T o.dst v) (puts M s) (nextN dr N s) tr T' M' N' → Trace P G gb EQ dr ops (o :: r) T M N (⟨true, v, s, readsOf o.op T⟩ :: tr) T' M' N'
  | skip {o r T M N tr T' M' N'} : wantA ops o T = some false → Trace P G gb EQ dr ops r (setT T o.dst undefA) M (nextN dr N []) tr T' M' N' → Trace P G gb EQ dr ops (o :: r) T M N (.skip :: tr) T' M' N'

section
variable {P : Program} {G : Nat → Option (List D)} {gb : Nat} {EQ : Tab} {Γ : Nat → List AV → List Blk → (AV → List Blk → Ans) → Ans} {X : Nat → List AV → (AV → Ans) → Ans}

theorem run_reach (hΓ : GOK P G gb Γ X) : ∀ (t : Tm) (K : AV → Sets → Ans) (r : Res), t.run Γ X K = some r → ∃ v s, Reach P G gb t v s ∧ K v s = some r
  | .fail, K, r, h => by cases h
  | .leaf v s, K, r, h => ⟨v, s, ⟨rfl, rfl⟩, h⟩
  | .br b x y, K, r, h => by
    cases b with
    | true => obtain ⟨v, s, h1, h2⟩ := run_reach hΓ x K r h; exact ⟨v, s, .inl ⟨rfl, h1⟩, h2⟩
    | false => obtain ⟨v, s, h1, h2⟩ := run_reach hΓ y K r h; exact ⟨v, s, .inr ⟨rfl, h1⟩, h2⟩
  | .call f as bs k, K, r, h => by
    obtain ⟨v, M, h1, h2, h3⟩ := hΓ.call f as bs _ r h
    obtain ⟨u, s, h4, h5⟩ := run_reach hΓ (k v M) K r h3
    exact ⟨u, s, ⟨v, M, h1, h2, h4⟩, h5⟩
  | .ext f as k, K, r, h => by
    obtain ⟨v, h1, h2⟩ := hΓ.ext f as _ r h
    obtain ⟨u, s, h4, h5⟩ := run_reach hΓ (k v) K r h2
    exact ⟨u, s, ⟨v, h1, h4⟩, h5⟩

theorem evOps_trace (hΓ : GOK P G gb Γ X) (dr : Bool) (ops : List Oper) : ∀ (l : List Oper) (T : TS) (M : List Blk) (N : Nat) (tr0 : List Tr) (K : TS → List Blk → Nat → List Tr → Ans) (r : Res),
    evOps P G EQ Γ X dr ops l T M N tr0 K = some r → ∃ tr T' M' N', Trace P G gb EQ dr ops l T M N tr T' M' N' ∧ K T' M' N' (tr.reverse ++ tr0) = some r
  | [], T, M, N, tr0, K, r, h => ⟨[], T, M, N, .nil, h⟩
  | o :: l, T, M, N, tr0, K, r, h => by
    unfold evOps at h
    split at h
    · rename_i hg
      obtain ⟨v, s, h1, h2⟩ := run_reach hΓ _ _ _ h
      obtain ⟨tr, T', M', N', h3, h4⟩ := evOps_trace hΓ dr ops l _ _ _ _ K r h2
      exact ⟨_, T', M', N', .did (by simp [wantA, hg]) h1 h3, by simpa using h4⟩
    · rename_i g hg
      split at h
      · cases h
      · rename_i d hd
        split at h
        · rename_i b hb
          cases b with
          | true =>
            have hT : tfix (abool true) T d = T := tfix_same hb
            simp only [cond_true, hT] at h
            split at h
            · rename_i hw
              obtain ⟨v, s, h1, h2⟩ := run_reach hΓ _ _ _ h
              obtain ⟨tr, T', M', N', h3, h4⟩ := evOps_trace hΓ dr ops l _ _ _ _ K r h2
              exact ⟨_, T', M', N', .did (by simp [wantA, hg, hd, hb, hw]) h1 h3, by simpa using h4⟩
            · rename_i hw
              obtain ⟨tr, T', M', N', h3, h4⟩ := evOps_trace hΓ dr ops l _ _ _ _ K r h
              exact ⟨_, T', M', N', .skip (by simp [wantA, hg, hd, hb, hw]) h3, by simpa using h4⟩
          | false =>
            have hT : tfix (abool false) T d = T := tfix_same hb
            simp only [cond_false, hT] at h
            split at h
            · rename_i hw
              obtain ⟨v, s, h1, h2⟩ := run_reach hΓ _ _ _ h
              obtain ⟨tr, T', M', N', h3, h4⟩ := evOps_trace hΓ dr ops l _ _ _ _ K r h2
              exact ⟨_, T', M', N', .did (by simp [wantA, hg, hd, hb, hw]) h1 h3, by simpa using h4⟩
            · rename_i hw
              obtain ⟨tr, T', M', N', h3, h4⟩ := evOps_trace hΓ dr ops l _ _ _ _ K r h
              exact ⟨_, T', M', N', .skip (by simp [wantA, hg, hd, hb, hw]) h3, by simpa using h4⟩
        · rename_i hb
          obtain ⟨tr, T', M', N', h3, h4⟩ := evOps_trace hΓ dr ops l _ _ _ _ K r h
          exact ⟨_, T', M', N', .skip (by simp [wantA, hg, hd, hb]) h3, by simpa using h4⟩
        · cases h

theorem wanted_of {ops : Array Oper} {o : Oper} {T : TS} {σ : Sg} {a : Act} {b : Bool} (hT : TRel σ T a) (h : wantA ops.toList o T = some b) : Region.wanted o (yielded ops a.tmps) = b := by
  unfold wantA at h
  unfold Region.wanted
  split at h
  · rename_i hg; cases h; rw [hg]
  · rename_i g hg
    rw [hg]
    obtain ⟨j, want⟩ := g
    simp only at h ⊢
    split at h
    · cases h
    · rename_i d hd
      have hd' : (ops[j]?).bind (·.dst) = some d := by simpa [dstOf] using hd
      have hv := hT.val d
      unfold yielded
      rw [hd']
      simp only [Option.bind_some]
      split at h
      · rename_i x hx
        rw [hx] at hv
        have hv' : a.tmps.getD d undef = .bool x := hv.1
        have : a.tmps[d]? = some (.bool x) := by
          cases ht : a.tmps[d]? with
          | none => rw [Array.getD_eq_getD_getElem?, ht] at hv'; cases hv'
          | some u => rw [Array.getD_eq_getD_getElem?, ht] at hv'; simp only [Option.getD_some] at hv'; rw [hv']
        rw [this]
        cases h
        cases x <;> cases want <;> rfl
      · rename_i hx
        rw [hx] at hv
        cases h
        obtain ⟨vs, h1, h2⟩ := hv
        cases ht : a.tmps[d]? with
        | none => rfl
        | some u =>
          rw [Array.getD_eq_getD_getElem?, ht] at h1
          simp only [Option.getD_some] at h1
          subst h1
          rfl
      · cases h

theorem undef_rel (σ : Sg) : AVRel σ undefA undef := ⟨#[], rfl, trivial⟩

theorem nextN_fresh {dr : Bool} {σ τ : Sg} {N : Nat} {s : Sets} (hN : ∀ b, N ≤ b → σ b = none) (h1 : ∀ b, b ≠ N → τ b = σ b) (h2 : (∀ p ∈ s, p.1 ≠ N) → τ N = none) : ∀ b, nextN dr N s ≤ b → τ b = none := by
  intro b hb
  by_cases e : b = N
  · subst e
    refine h2 fun p hp e => ?_
    have : s.any (fun x => x.1 == b) = true := List.any_eq_true.2 ⟨p, hp, by simp [e]⟩
    simp only [nextN, this, Bool.or_true, cond_true] at hb
    omega
  · rw [h1 b e]
    refine hN b ?_
    unfold nextN at hb
    cases h : (dr || s.any (fun x => x.1 == N)) <;> simp only [h, cond_true, cond_false] at hb <;> omega

theorem trace_seq (hEQ : ∀ t, t ∈ EQ.eq → EqOK P t) {dr : Bool} {ops : Array Oper} {w0 : World} {W : Nat → Prop} (hG : Glob G gb W w0) {Q : Exit → Act → World → Prop} {l : List Oper} {T T' : TS} {M M' : List Blk} {N N' : Nat} {tr : List Tr}
    (h : Trace P G gb EQ dr ops.toList l T M N tr T' M' N') : ∀ {σ : Sg} {a : Act} {w : World}, TRel σ T a → MRel w0 W σ M w → (∀ b, N ≤ b → σ b = none) →
      (∀ τ a' w', σ.le τ → TRel τ T' a' → MRel w0 W τ M' w' → (∀ b, N' ≤ b → τ b = none) → Q .normal a' w') → wpList P ops Q l a w := by
  induction h with
  | nil =>
    intro σ a w hT hM hN hQ
    exact hQ σ a w (Sg.le_refl _) hT hM hN
  | did hwant hr _ ih =>
    intro σ a w hT hM hN hQ
    unfold wpList
    rw [if_pos (wanted_of hT hwant)]
    refine .inl (opO_sound hEQ hr hT hM hG (hN _ (Nat.le_refl _)) ?_)
    intro τ v' w' hle h1 h2 hv hM'
    exact ih ((hT.mono hle).put _ hv) hM' (nextN_fresh hN h1 h2) fun υ a' w'' hle' => hQ υ a' w'' (Sg.le_trans hle hle')
  | skip hwant _ ih =>
    intro σ a w hT hM hN hQ
    unfold wpList
    rw [if_neg (by rw [wanted_of hT hwant]; simp)]
    exact ih (hT.put _ (undef_rel σ)) hM (nextN_fresh (s := []) hN (fun _ _ => rfl) (fun _ => hN _ (Nat.le_refl _))) hQ

end
end Go.Ev

namespace Go.Ev
open Go

/-! ### What an operation depends on -/

theorem opdV_congr {T T' : TS} {x : Operand} (h : ∀ t ∈ looksO [x], tget T t = tget T' t) : opdV T x = opdV T' x := by
  cases x with
  | tmp t => simp only [opdV]; rw [h t (by simp [looksO])]
  | const _ => rfl
  | global _ => rfl
  | func _ => rfl

theorem looksO_sub {x : Operand} : ∀ {l : List Operand}, x ∈ l → ∀ t ∈ looksO [x], t ∈ looksO l
  | [], h, _, _ => by cases h
  | y :: r, h, t, ht => by
    rcases List.mem_cons.1 h with rfl | h
    · cases x <;> simp [looksO] at ht ⊢
      exact .inl ht
    · have := looksO_sub h t ht
      cases y <;> simp [looksO, this]

section
variable {P : Program} {G : Nat → Option (List D)} {gb : Nat} {EQ : Tab} {T T' : TS} {M M' : List Blk} {N : Nat}

theorem opdVs_congr : ∀ {l : List Operand}, (∀ x ∈ l, opdV T x = opdV T' x) → opdVs T l = opdVs T' l
  | [], _ => rfl
  | x :: r, h => by simp only [opdVs]; rw [h x (by simp), opdVs_congr fun y hy => h y (by simp [hy])]

theorem partVs_congr : ∀ {l : List (Nat × Operand)}, (∀ x ∈ l, opdV T x.2 = opdV T' x.2) → partVs T l = partVs T' l
  | [], _ => rfl
  | x :: r, h => by simp only [partVs]; rw [h x (by simp), partVs_congr fun y hy => h y (by simp [hy])]

theorem boundO_congr {n : Nat} {x : Option Operand} (h : ∀ y ∈ x.toList, opdV T y = opdV T' y) : boundO T n x = boundO T' n x := by
  cases x with
  | none => rfl
  | some y => simp only [boundO]; rw [h y (by simp)]

theorem passArgs_congr : ∀ {xs : List AV} {j : Nat}, (∀ x ∈ xs, ∀ b ∈ refsA x, mget M b = mget M' b) → passArgs M xs j = passArgs M' xs j
  | [], _, _ => rfl
  | x :: r, j, h => by
    have ih : ∀ j, passArgs M r j = passArgs M' r j := fun j => passArgs_congr fun y hy => h y (by simp [hy])
    have hx := h x (by simp)
    unfold passArgs
    cases x with
    | tup l => rfl
    | any => rfl
    | v x =>
      cases x with
      | agg l => simp only [ih]
      | c c =>
        cases c with
        | d x => simp only [ih]
        | nilS => simp only [ih]
        | ptr b o =>
          have := hx b (by simp [refsA])
          simp only [this, ih]
        | slice b o n e =>
          have := hx b (by simp [refsA])
          simp only [this, ih]
        | aslice b k =>
          have := hx b (by simp [refsA])
          simp only [this, ih]
        | eptr b i o => rfl
        | fn f caps =>
          match caps, hx with
          | [], _ => simp only [ih]
          | [c], hx => have := hx c (by simp [refsA]); simp only [this, ih]
          | [c, c'], hx => have h1 := hx c (by simp [refsA]); have h2 := hx c' (by simp [refsA]); simp only [h1, h2, ih]
          | _ :: _ :: _ :: _, _ => rfl

theorem opdVs_mem : ∀ {l : List Operand} {vs : List AV}, opdVs T l = some vs → ∀ v ∈ vs, ∃ x ∈ l, opdV T x = some v
  | [], vs, h, v, hv => by simp only [opdVs, Option.some.injEq] at h; subst h; cases hv
  | x :: r, vs, h, v, hv => by
    simp only [opdVs] at h
    split at h
    · rename_i u l h1 h2
      cases h
      rcases List.mem_cons.1 hv with rfl | hv
      · exact ⟨x, by simp, h1⟩
      · obtain ⟨y, hy, h3⟩ := opdVs_mem h2 v hv
        exact ⟨y, by simp [hy], h3⟩
    · cases h

theorem evCall_congr {f : Nat} {caps : List Nat} {l : List AV} (h : ∀ x ∈ l ++ caps.map fun c => aptr c 0, ∀ b ∈ refsA x, mget M b = mget M' b) : evCall f caps l M N = evCall f caps l M' N := by
  unfold evCall
  rw [passArgs_congr h]

theorem srcD_congr {sz : Nat} {x : AV} (h : ∀ b ∈ refsA x, mget M b = mget M' b) : srcD M sz x = srcD M' sz x := by
  unfold srcD
  split
  · rename_i b o n e
    rw [h b (by simp [refsA])]
  · rfl
  · rfl

theorem baseD_congr {sz e : Nat} {x : AV} (h : ∀ b ∈ refsA x, mget M b = mget M' b) : baseD M sz e x = baseD M' sz e x := by
  unfold baseD
  split
  · rfl
  · rename_i b o n e
    rw [h b (by simp [refsA])]
  · rfl

theorem srcA_congr {sz : Nat} {τ : ET} {x : AV} (h : ∀ b ∈ refsA x, mget M b = mget M' b) : srcA M sz τ x = srcA M' sz τ x := by
  unfold srcA
  split
  · rename_i b k
    rw [h b (by simp [refsA])]
  · rename_i b o n e
    rw [h b (by simp [refsA])]
  · rfl
  · rfl

theorem baseA_congr {e : Nat} {τ : ET} {x : AV} (h : ∀ b ∈ refsA x, mget M b = mget M' b) : baseA M e τ x = baseA M' e τ x := by
  unfold baseA
  split
  · rfl
  · rename_i b
    rw [h b (by simp [refsA])]
  · rfl

theorem evBuiltin_congr {b : Builtin} {ts : List TypeId} {l : List AV} (h : ∀ x ∈ l, ∀ b ∈ refsA x, mget M b = mget M' b) : evBuiltin P EQ b ts l M N = evBuiltin P EQ b ts l M' N := by
  unfold evBuiltin
  split
  · rename_i t x
    split
    · rfl
    · rfl
    · rfl
    · rename_i b k _
      rw [h (.v (.c (.aslice b k))) (by simp) b (by simp [refsA])]
    · rfl
    · rfl
  · rfl
  · rfl
  · rename_i t t' s x
    unfold evAppend evAppendA
    simp only [fun sz => srcD_congr (sz := sz) (h x (by simp)), fun sz e => baseD_congr (sz := sz) (e := e) (h s (by simp)), fun sz τ => srcA_congr (sz := sz) (τ := τ) (h x (by simp)), fun e τ => baseA_congr (e := e) (τ := τ) (h s (by simp))]
  · rfl

theorem refsO_some {x : Operand} {v : AV} (h : opdV T x = some v) : refsO T x = refsA v := by simp [refsO, h]

theorem opR_congr {o : Op} (hT : ∀ t ∈ looksO o.operands.toList, tget T t = tget T' t) (hM : ∀ b ∈ readsOf o T, mget M b = mget M' b) :
    opR P G EQ o T M N = opR P G EQ o T' M' N := by
  have hx : ∀ x ∈ o.operands.toList, opdV T x = opdV T' x := fun x hx => opdV_congr fun t ht => hT t (looksO_sub hx t ht)
  cases o <;> simp only [Op.operands] at hx <;> try rfl
  case move x => simp only [opR, hx x (by simp)]
  case assign x => simp only [opR, hx x (by simp)]
  case pick c x y => simp only [opR, hx c (by simp), hx x (by simp), hx y (by simp)]
  case box t x => simp only [opR, hx x (by simp)]
  case build t ps =>
    have : partVs T ps.toList = partVs T' ps.toList := partVs_congr fun p hp => hx p.2 (by simp; exact ⟨p.1, by simpa using hp⟩)
    simp only [opR, this]
  case buildSlice t n ps =>
    have : partVs T ps.toList = partVs T' ps.toList := partVs_congr fun p hp => hx p.2 (by simp; exact ⟨p.1, by simpa using hp⟩)
    simp only [opR, this]
  case load t x =>
    have h1 := hx x (by simp)
    cases x with
    | global g => rfl
    | tmp r =>
      simp only [opR]
      rw [← h1]
      split
      · rename_i b k hb
        rw [hM b (by simp [readsOf, refsO_some hb, refsA])]
      · rename_i b i k hb
        rw [hM b (by simp [readsOf, refsO_some hb, refsA])]
      · rfl
    | const c =>
      simp only [opR]
      rw [← h1]
      split
      · rename_i b k hb
        rw [hM b (by simp [readsOf, refsO_some hb, refsA])]
      · rename_i b i k hb
        rw [hM b (by simp [readsOf, refsO_some hb, refsA])]
      · rfl
    | func f =>
      simp only [opR]
      rw [← h1]
      split
      · rename_i b k hb
        rw [hM b (by simp [readsOf, refsO_some hb, refsA])]
      · rename_i b i k hb
        rw [hM b (by simp [readsOf, refsO_some hb, refsA])]
      · rfl
  case store t x y =>
    have h1 := hx x (by simp)
    have h2 := hx y (by simp)
    simp only [opR]
    rw [← h1, ← h2]
    split
    · rename_i b k v hb hv
      rw [hM b (by simp [readsOf, refsO_some hb, refsA])]
    · rename_i b i k v hb hv
      rw [hM b (by simp [readsOf, refsO_some hb, refsA])]
    · rfl
  case nilCheck x => simp only [opR, hx x (by simp)]
  case binOp op t x y u => simp only [opR, hx x (by simp), hx y (by simp)]
  case unOp op t x => simp only [opR, hx x (by simp)]
  case convert t u x => simp only [opR, hx x (by simp)]
  case makeFunc fn first caps =>
    have : opdVs T caps.toList = opdVs T' caps.toList := opdVs_congr fun x h => hx x (by simp at h ⊢; exact .inr h)
    simp only [opR, this]
  case makeSlice t x y => simp only [opR, hx x (by simp), hx y (by simp)]
  case slice t x lo hi mx =>
    have h1 := hx x (by simp)
    have h2 : ∀ n, boundO T n lo = boundO T' n lo := fun n => boundO_congr fun y hy => hx y (by cases lo <;> simp at hy ⊢; exact .inr (.inl hy))
    have h3 : ∀ n, boundO T n hi = boundO T' n hi := fun n => boundO_congr fun y hy => hx y (by cases hi <;> simp at hy ⊢; exact .inr (.inr (.inl hy)))
    simp only [opR, ← h2, ← h3]
    rw [← h1]
    split
    · rfl
    · rename_i e b _ hb
      rw [hM b (by simp [readsOf, refsO_some hb, refsA])]
    · rename_i n e b k _ hb
      rw [hM b (by simp [readsOf, refsO_some hb, refsA])]
    · rfl
  case fieldAddr t x f => simp only [opR, hx x (by simp)]
  case field t x f => simp only [opR, hx x (by simp)]
  case indexAddr t x i =>
    have h1 := hx x (by simp)
    have h2 := hx i (by simp)
    simp only [opR]
    rw [← h1, ← h2]
    split
    · rfl
    · rename_i e b k ki j _ hb _
      rw [hM b (by simp [readsOf, refsO_some hb, refsA])]
    · rfl
    · rfl
  case index t x i => simp only [opR, hx x (by simp), hx i (by simp)]
  case extract x i => simp only [opR, hx x (by simp)]
  case call c =>
    have hargs : opdVs T c.args.toList = opdVs T' c.args.toList := opdVs_congr fun x h => hx x (by simp [Call.operands] at h ⊢; exact .inr h)
    have hrd : ∀ l, opdVs T c.args.toList = some l → ∀ x ∈ l, ∀ b ∈ refsA x, mget M b = mget M' b := by
      intro l hl x hxl b hb
      obtain ⟨y, hy, h3⟩ := opdVs_mem hl x hxl
      refine hM b ?_
      simp only [readsOf, List.mem_append, List.mem_flatMap]
      exact .inr ⟨y, hy, by rw [refsO_some h3]; exact hb⟩
    simp only [opR]
    split
    · rename_i b hb
      rw [← hargs]
      split
      · rename_i l hl
        exact evBuiltin_congr (hrd l hl)
      · rfl
    · rename_i g hg
      have h1 : opdV T g = opdV T' g := hx g (by simp [Call.operands, hg])
      rw [← hargs, ← h1]
      split
      · rename_i f caps l hgv hl
        split
        · split
          · refine evCall_congr fun x hxl b hb => ?_
            rcases List.mem_append.1 hxl with h2 | h2
            · exact hrd l hl x h2 b hb
            · obtain ⟨c', hc', rfl⟩ := List.mem_map.1 h2
              simp only [aptr, refsA, List.mem_singleton] at hb
              subst hb
              refine hM b ?_
              simp only [readsOf, hg, List.mem_append]
              exact .inl (by rw [refsO_some hgv]; exact hc')
          · rfl
        · rfl
      · rfl
    · rfl

theorem opO_congr {o : Oper} (hT : ∀ t ∈ looksO o.op.operands.toList, tget T t = tget T' t) (hM : ∀ b ∈ readsOf o.op T, mget M b = mget M' b) :
    opO P G EQ o T M N = opO P G EQ o T' M' N := by
  unfold opO
  rw [opR_congr hT hM]

theorem wantA_congr {ops : List Oper} {o : Oper} (hT : ∀ t ∈ looksOf ops o, tget T t = tget T' t) : wantA ops o T = wantA ops o T' := by
  unfold wantA
  split
  · rfl
  · rename_i g hg
    split
    · rfl
    · rename_i d hd
      rw [hT d (by simp [looksOf, hg, hd])]

/-! ### The state when some operations have run -/

def stT (d : Nat → Bool) : List Oper → List Tr → Nat → TS → TS
  | o :: r, t :: tr, i, T => stT d r tr (i + 1) (bif d i then setT T o.dst t.val else T)
  | _, _, _, T => T

def stM (d : Nat → Bool) : List Tr → Nat → List Blk → List Blk
  | t :: tr, i, M => stM d tr (i + 1) (bif d i then puts M t.ss else M)
  | _, _, M => M

theorem length_setT (T : TS) (d : Option Tmp) (v : AV) : (setT T d v).length = T.length := by
  cases d <;> simp [setT, length_tset]

theorem length_stT (d : Nat → Bool) : ∀ (ops : List Oper) (tr : List Tr) (i : Nat) (T : TS), (stT d ops tr i T).length = T.length
  | [], _, _, _ => by simp [stT]
  | _ :: _, [], _, _ => by simp [stT]
  | o :: r, t :: tr, i, T => by
    simp only [stT, length_stT d r tr]
    cases d i <;> simp [length_setT]

theorem gets_setT (T : TS) (d : Option Tmp) (v : AV) (t : Nat) : tget (setT T d v) t = if d = some t ∧ t < T.length then v else tget T t := by
  cases d with
  | none => simp [setT]
  | some d =>
    simp only [setT, tget_tset]
    by_cases h : t = d
    · subst h; simp
    · have : ¬ (some d = some t) := by simp; exact fun e => h e.symm
      simp [h, this]

theorem stT_congr {d d' : Nat → Bool} {t : Nat} : ∀ (ops : List Oper) (tr : List Tr) (i : Nat) (T T' : TS), T.length = T'.length → tget T t = tget T' t →
    (∀ j o, ops[j]? = some o → o.dst = some t → d (i + j) = d' (i + j)) → tget (stT d ops tr i T) t = tget (stT d' ops tr i T') t
  | [], _, _, _, _, _, h, _ => by simpa [stT] using h
  | _ :: _, [], _, _, _, _, h, _ => by simpa [stT] using h
  | o :: r, u :: tr, i, T, T', hl, h, hd => by
    simp only [stT]
    refine stT_congr r tr (i + 1) _ _ ?_ ?_ fun j o' ho' hdst => by have := hd (j + 1) o' (by simpa using ho') hdst; rwa [show i + (j + 1) = i + 1 + j from by omega] at this
    · cases d i <;> cases d' i <;> simp [length_setT, hl]
    · by_cases hdst : o.dst = some t
      · have := hd 0 o rfl hdst
        simp only [Nat.add_zero] at this
        rw [← this]
        cases d i
        · exact h
        · simp only [cond_true, gets_setT, hl, h]
      · have e1 : ∀ (b : Bool) (T : TS), tget (bif b then setT T o.dst u.val else T) t = tget T t := by
          intro b T
          cases b
          · rfl
          · simp [gets_setT, hdst]
        rw [e1, e1]
        exact h

theorem stT_insert {d d' : Nat → Bool} {k : Nat} {o : Oper} {u : Tr} {t : Nat} : ∀ (ops : List Oper) (tr : List Tr) (i : Nat) (T : TS), ops[k]? = some o → tr[k]? = some u → d (i + k) = false → d' (i + k) = true → (∀ j, j ≠ i + k → d' j = d j) →
    (∀ j o', k < j → ops[j]? = some o' → d (i + j) = true → o.dst ≠ none → o'.dst ≠ o.dst) → tget (stT d' ops tr i T) t = tget (setT (stT d ops tr i T) o.dst u.val) t
  | [], _, _, _, h, _, _, _, _, _ => by simp at h
  | _ :: _, [], _, _, _, h, _, _, _, _ => by simp at h
  | o0 :: r, u0 :: tr, i, T, ho, hu, h0, h1, hd, hw => by
    cases k with
    | zero =>
      simp only [List.getElem?_cons_zero, Option.some.injEq] at ho hu
      subst ho
      subst hu
      simp only [Nat.add_zero] at h0 h1
      simp only [stT, h0, h1, cond_true, cond_false]
      rw [gets_setT, length_stT]
      by_cases hdst : o0.dst = some t ∧ t < T.length
      · rw [if_pos hdst]
        -- nobody behind it writes the slot
        have key : ∀ (ops : List Oper) (tr : List Tr) (i : Nat) (T : TS), (∀ j o', ops[j]? = some o' → d' (i + j) = true → o'.dst ≠ some t) → tget (stT d' ops tr i T) t = tget T t := by
          intro ops
          induction ops with
          | nil => intro tr i T _; simp [stT]
          | cons o1 r1 ih =>
            intro tr i T hh
            cases tr with
            | nil => simp [stT]
            | cons u1 tr1 =>
              simp only [stT]
              rw [ih tr1 (i + 1) _ fun j o' ho' hd' => hh (j + 1) o' (by simpa using ho') (by rw [show i + (j + 1) = i + 1 + j from by omega]; exact hd')]
              cases hdi : d' i with
              | false => rfl
              | true =>
                have := hh 0 o1 rfl (by simpa using hdi)
                simp [gets_setT, this]
        rw [key r tr (i + 1) _ fun j o' ho' hd' => ?_]
        · rw [gets_setT, if_pos hdst]
        · rw [← hdst.1]
          refine hw (j + 1) o' (by omega) (by simpa using ho') ?_ (by rw [hdst.1]; simp)
          rw [show i + (j + 1) = i + 1 + j from by omega]
          rw [← hd (i + 1 + j) (by omega)]
          exact hd'
      · rw [if_neg hdst]
        refine stT_congr r tr (i + 1) _ _ (by simp [length_setT]) (by rw [gets_setT, if_neg hdst]) fun j o' _ _ => hd _ (by omega)
    | succ k =>
      simp only [List.getElem?_cons_succ] at ho hu
      simp only [stT]
      have e0 : d' i = d i := hd i (by omega)
      rw [e0]
      refine stT_insert r tr (i + 1) _ ho hu ?_ ?_ (fun j hj => hd j (by omega)) fun j o' hj ho' hdj hne => ?_
      · rw [show i + 1 + k = i + (k + 1) from by omega]; exact h0
      · rw [show i + 1 + k = i + (k + 1) from by omega]; exact h1
      · exact hw (j + 1) o' (by omega) (by simpa using ho') (by rw [show i + (j + 1) = i + 1 + j from by omega]; exact hdj) hne

theorem mget_puts_ne {s : Sets} {M : List Blk} {b : Nat} (h : ∀ p ∈ s, p.1 ≠ b) : mget (puts M s) b = mget M b := by
  rw [mget_puts, lastSet_none h]
  rfl

theorem mget_puts_congr {s : Sets} {M M' : List Blk} {b : Nat} (h : mget M b = mget M' b) : mget (puts M s) b = mget (puts M' s) b := by
  rw [mget_puts, mget_puts, h]

theorem stM_congr {d d' : Nat → Bool} {b : Nat} : ∀ (tr : List Tr) (i : Nat) (M M' : List Blk), mget M b = mget M' b →
    (∀ j u, tr[j]? = some u → (∃ p ∈ u.ss, p.1 = b) → d (i + j) = d' (i + j)) → mget (stM d tr i M) b = mget (stM d' tr i M') b
  | [], _, _, _, h, _ => by simpa [stM] using h
  | u :: tr, i, M, M', h, hd => by
    simp only [stM]
    refine stM_congr tr (i + 1) _ _ ?_ fun j u' hu' hp => by have := hd (j + 1) u' (by simpa using hu') hp; rwa [show i + (j + 1) = i + 1 + j from by omega] at this
    by_cases hp : ∃ p ∈ u.ss, p.1 = b
    · have := hd 0 u rfl hp
      simp only [Nat.add_zero] at this
      rw [← this]
      cases d i
      · exact h
      · exact mget_puts_congr h
    · have e1 : ∀ (c : Bool) (M : List Blk), mget (bif c then puts M u.ss else M) b = mget M b := by
        intro c M
        cases c
        · rfl
        · exact mget_puts_ne fun p hp' e => hp ⟨p, hp', e⟩
      rw [e1, e1]
      exact h

theorem stM_insert {d d' : Nat → Bool} {k : Nat} {u : Tr} {b : Nat} : ∀ (tr : List Tr) (i : Nat) (M : List Blk), tr[k]? = some u → d (i + k) = false → d' (i + k) = true → (∀ j, j ≠ i + k → d' j = d j) →
    (∀ j u', k < j → tr[j]? = some u' → d (i + j) = true → ∀ p ∈ u.ss, ∀ p' ∈ u'.ss, p.1 ≠ p'.1) → mget (stM d' tr i M) b = mget (puts (stM d tr i M) u.ss) b
  | [], _, _, h, _, _, _, _ => by simp at h
  | u0 :: tr, i, M, hu, h0, h1, hd, hw => by
    cases k with
    | zero =>
      simp only [List.getElem?_cons_zero, Option.some.injEq] at hu
      subst hu
      simp only [Nat.add_zero] at h0 h1
      simp only [stM, h0, h1, cond_true, cond_false]
      by_cases hp : ∃ p ∈ u0.ss, p.1 = b
      · have key : ∀ (tr : List Tr) (i : Nat) (M : List Blk), (∀ j u', tr[j]? = some u' → d' (i + j) = true → ∀ p ∈ u'.ss, p.1 ≠ b) → mget (stM d' tr i M) b = mget M b := by
          intro tr
          induction tr with
          | nil => intro i M _; simp [stM]
          | cons u1 tr1 ih =>
            intro i M hh
            simp only [stM]
            rw [ih (i + 1) _ fun j u' hu' hd' => hh (j + 1) u' (by simpa using hu') (by rw [show i + (j + 1) = i + 1 + j from by omega]; exact hd')]
            cases hdi : d' i with
            | false => rfl
            | true => exact mget_puts_ne (hh 0 u1 rfl (by simpa using hdi))
        obtain ⟨p, hp1, hp2⟩ := hp
        rw [key tr (i + 1) _ fun j u' hu' hd' p' hp' e => ?_]
        · rw [mget_puts, mget_puts]
          cases hl : lastSet u0.ss b with
          | some y => rfl
          | none => exact absurd hp2 (lastSet_none_iff hl p hp1)
        · refine hw (j + 1) u' (by omega) (by simpa using hu') ?_ p hp1 p' hp' (by rw [hp2, e])
          rw [show i + (j + 1) = i + 1 + j from by omega, ← hd (i + 1 + j) (by omega)]
          exact hd'
      · have hn : ∀ p ∈ u0.ss, p.1 ≠ b := fun p hp' e => hp ⟨p, hp', e⟩
        rw [mget_puts_ne hn]
        exact stM_congr tr (i + 1) _ _ (mget_puts_ne hn) fun j u' _ _ => hd _ (by omega)
    | succ k =>
      simp only [List.getElem?_cons_succ] at hu
      simp only [stM]
      have e0 : d' i = d i := hd i (by omega)
      rw [e0]
      refine stM_insert tr (i + 1) _ hu ?_ ?_ (fun j hj => hd j (by omega)) fun j u' hj hu' hdj => ?_
      · rw [show i + 1 + k = i + (k + 1) from by omega]; exact h0
      · rw [show i + 1 + k = i + (k + 1) from by omega]; exact h1
      · exact hw (j + 1) u' (by omega) (by simpa using hu') (by rw [show i + (j + 1) = i + 1 + j from by omega]; exact hdj)

end
end Go.Ev

