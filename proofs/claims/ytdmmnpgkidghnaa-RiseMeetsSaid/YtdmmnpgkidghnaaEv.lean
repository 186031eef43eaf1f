/-
  An evaluator of the model's code over plain data: definitions only. It is proved sound in the text that follows it. No condition.
-/
import Derived.Calls
import Derived.LoopN
namespace Go.Ev

/-- Plain data: what one cell of an evaluator's block holds. -/
inductive D where
  | bool (b : Bool)
  | int (k : IntKind) (n : Int)
  | str (s : ByteArray)

def D.val : D → Value
  | .bool b => .bool b
  | .int k n => .int k n
  | .str s => .string s

structure Span where
  lo : Int
  hi : Int
  deriving DecidableEq

structure Frac where
  num : Int
  den : Int
  deriving DecidableEq

structure Delay where
  whole : Int
  part : Span
  deriving DecidableEq

structure Dir where
  x : Span
  y : Span
  z : Span
  deriving DecidableEq

structure Vec where
  x : Frac
  y : Frac
  z : Frac
  deriving DecidableEq

structure Window where
  frm : Int
  too : Int
  deriving DecidableEq

structure Site where
  name : ByteArray
  s : Frac
  t : Frac

structure Placed where
  site : Site
  at_ : Vec

structure View where
  up : Vec
  bound : Span

structure Trk where
  tick : Int
  u : Span
  v : Span
  w : Span
  deriving DecidableEq

/-- The kinds of elements of arrays whose length is open. -/
inductive ET where
  | site | win | vec | frac | placed | view | trk | dir | delay | bool | int
  deriving DecidableEq

@[reducible] def ET.T : ET → Type
  | .site => Site
  | .win => Window
  | .vec => Vec
  | .frac => Frac
  | .placed => Placed
  | .view => View
  | .trk => Trk
  | .dir => Dir
  | .delay => Delay
  | .bool => Bool
  | .int => Int

def ET.len : ET → Nat
  | .site => 5
  | .win => 2
  | .vec => 6
  | .frac => 2
  | .placed => 11
  | .view => 8
  | .trk => 7
  | .dir => 6
  | .delay => 3
  | .bool => 1
  | .int => 1

def Frac.zero : Frac := ⟨0, 0⟩
def Span.zero : Span := ⟨0, 0⟩
def Vec.zero : Vec := ⟨.zero, .zero, .zero⟩
def Site.zero : Site := ⟨ByteArray.empty, .zero, .zero⟩

def ET.z : (τ : ET) → τ.T
  | .site => Site.zero
  | .win => (⟨0, 0⟩ : Window)
  | .vec => Vec.zero
  | .frac => Frac.zero
  | .placed => (⟨.zero, .zero⟩ : Placed)
  | .view => (⟨.zero, .zero⟩ : View)
  | .trk => (⟨0, .zero, .zero, .zero⟩ : Trk)
  | .dir => (⟨.zero, .zero, .zero⟩ : Dir)
  | .delay => (⟨0, .zero⟩ : Delay)
  | .bool => false
  | .int => (0 : Int)

def ET.cells : (τ : ET) → τ.T → List D
  | .site, x => [.str x.name, .int .i64 x.s.num, .int .i64 x.s.den, .int .i64 x.t.num, .int .i64 x.t.den]
  | .win, x => [.int .i64 x.frm, .int .i64 x.too]
  | .vec, x => [.int .i64 x.x.num, .int .i64 x.x.den, .int .i64 x.y.num, .int .i64 x.y.den, .int .i64 x.z.num, .int .i64 x.z.den]
  | .frac, x => [.int .i64 x.num, .int .i64 x.den]
  | .placed, x => [.str x.site.name, .int .i64 x.site.s.num, .int .i64 x.site.s.den, .int .i64 x.site.t.num, .int .i64 x.site.t.den, .int .i64 x.at_.x.num, .int .i64 x.at_.x.den, .int .i64 x.at_.y.num, .int .i64 x.at_.y.den, .int .i64 x.at_.z.num, .int .i64 x.at_.z.den]
  | .view, x => [.int .i64 x.up.x.num, .int .i64 x.up.x.den, .int .i64 x.up.y.num, .int .i64 x.up.y.den, .int .i64 x.up.z.num, .int .i64 x.up.z.den, .int .i64 x.bound.lo, .int .i64 x.bound.hi]
  | .trk, x => [.int .i64 x.tick, .int .i64 x.u.lo, .int .i64 x.u.hi, .int .i64 x.v.lo, .int .i64 x.v.hi, .int .i64 x.w.lo, .int .i64 x.w.hi]
  | .dir, x => [.int .i64 x.x.lo, .int .i64 x.x.hi, .int .i64 x.y.lo, .int .i64 x.y.hi, .int .i64 x.z.lo, .int .i64 x.z.hi]
  | .delay, x => [.int .i64 x.whole, .int .i64 x.part.lo, .int .i64 x.part.hi]
  | .bool, x => [.bool x]
  | .int, x => [.int .i64 x]

def of_site : List D → Option Site
  | [.str n, .int .i64 a, .int .i64 b, .int .i64 c, .int .i64 d] => some (⟨n, ⟨a, b⟩, ⟨c, d⟩⟩ : Site)
  | _ => none

def of_win : List D → Option Window
  | [.int .i64 a, .int .i64 b] => some (⟨a, b⟩ : Window)
  | _ => none

def of_vec : List D → Option Vec
  | [.int .i64 a, .int .i64 b, .int .i64 c, .int .i64 d, .int .i64 e, .int .i64 f] => some (⟨⟨a, b⟩, ⟨c, d⟩, ⟨e, f⟩⟩ : Vec)
  | _ => none

def of_frac : List D → Option Frac
  | [.int .i64 a, .int .i64 b] => some (⟨a, b⟩ : Frac)
  | _ => none

def of_placed : List D → Option Placed
  | [.str n, .int .i64 a, .int .i64 b, .int .i64 c, .int .i64 d, .int .i64 e, .int .i64 f, .int .i64 g, .int .i64 h, .int .i64 i, .int .i64 j] => some (⟨⟨n, ⟨a, b⟩, ⟨c, d⟩⟩, ⟨⟨e, f⟩, ⟨g, h⟩, ⟨i, j⟩⟩⟩ : Placed)
  | _ => none

def of_view : List D → Option View
  | [.int .i64 a, .int .i64 b, .int .i64 c, .int .i64 d, .int .i64 e, .int .i64 f, .int .i64 g, .int .i64 h] => some (⟨⟨⟨a, b⟩, ⟨c, d⟩, ⟨e, f⟩⟩, ⟨g, h⟩⟩ : View)
  | _ => none

def of_trk : List D → Option Trk
  | [.int .i64 t, .int .i64 a, .int .i64 b, .int .i64 c, .int .i64 d, .int .i64 e, .int .i64 f] => some (⟨t, ⟨a, b⟩, ⟨c, d⟩, ⟨e, f⟩⟩ : Trk)
  | _ => none

def of_dir : List D → Option Dir
  | [.int .i64 a, .int .i64 b, .int .i64 c, .int .i64 d, .int .i64 e, .int .i64 f] => some (⟨⟨a, b⟩, ⟨c, d⟩, ⟨e, f⟩⟩ : Dir)
  | _ => none

def of_delay : List D → Option Delay
  | [.int .i64 a, .int .i64 b, .int .i64 c] => some (⟨a, ⟨b, c⟩⟩ : Delay)
  | _ => none

def of_bool : List D → Option Bool
  | [.bool b] => some b
  | _ => none

def of_int : List D → Option Int
  | [.int .i64 a] => some a
  | _ => none

def ET.of : (τ : ET) → List D → Option τ.T
  | .site => of_site
  | .win => of_win
  | .vec => of_vec
  | .frac => of_frac
  | .placed => of_placed
  | .view => of_view
  | .trk => of_trk
  | .dir => of_dir
  | .delay => of_delay
  | .bool => of_bool
  | .int => of_int

/-- So many elements, from cells. -/
def ET.ofs (τ : ET) : Nat → List D → Option (List τ.T)
  | 0, [] => some []
  | 0, _ :: _ => none
  | n + 1, l => match τ.of (l.take τ.len), τ.ofs n (l.drop τ.len) with
    | some x, some r => some (x :: r)
    | _, _ => none

def ET.flat (τ : ET) : List τ.T → List D
  | [] => []
  | x :: r => τ.cells x ++ τ.flat r

/-- Elements of one kind as those of another, if it is the same. -/
def castL : (τ υ : ET) → List τ.T → Option (List υ.T)
  | .site, .site, xs => some xs
  | .win, .win, xs => some xs
  | .vec, .vec, xs => some xs
  | .frac, .frac, xs => some xs
  | .placed, .placed, xs => some xs
  | .view, .view, xs => some xs
  | .trk, .trk, xs => some xs
  | .dir, .dir, xs => some xs
  | .delay, .delay, xs => some xs
  | .bool, .bool, xs => some xs
  | .int, .int, xs => some xs
  | _, _, _ => none

/-- The first elements, or all. -/
def takeK {α : Type} (k : Option Nat) (xs : List α) : List α :=
  match k with
  | none => xs
  | some n => xs.take n

def lenK {α : Type} (k : Option Nat) (xs : List α) : Nat :=
  match k with
  | none => xs.length
  | some n => n

/-- What the evaluator is told of types: whose equality is that of all cells; the elements of slices of open length that are made or grown; those of slices written out. -/
structure Tab where
  eq : List Nat
  mks : Nat → Option ET
  lit : Nat → Option ET

/-- One cell's value: data, an address in a block, a slice of a block (offset, length, cells of an element), a function; the first elements of an array of open length (or nothing, where it has none), an address in such an array (element, offset). -/
inductive C where
  | d (x : D)
  | ptr (b o : Nat)
  | slice (b o n e : Nat)
  | nilS
  | fn (f : Nat) (caps : List Nat)
  | aslice (b : Nat) (k : Option Nat)
  | eptr (b i o : Nat)

inductive V where
  | c (x : C)
  | agg (l : List D)

inductive AV where
  | v (x : V)
  | tup (l : List V)
  | any

inductive Blk where
  | dead
  | ro (l : List D)
  | rw (t : Nat) (l : List D)
  | arr (own : Option Nat) (τ : ET) (xs : List τ.T)
  | cell (t : Nat) (v : C)

inductive Ex where
  | normal
  | exit (id : Nat)
  | ret

/-- Slots: how many, what those hold that are not listed, those that are listed (the last set first). -/
structure TS where
  n : Nat
  z : AV
  l : List (Nat × AV)

def TS.length (T : TS) : Nat := T.n

def tfind (z : AV) : List (Nat × AV) → Nat → AV
  | [], _ => z
  | p :: r, i => bif Nat.beq p.1 i then p.2 else tfind z r i

def tget (T : TS) (i : Nat) : AV := tfind T.z T.l i

def tset (v : AV) (T : TS) (i : Nat) : TS := bif Nat.blt i T.n then ⟨T.n, T.z, (i, v) :: T.l⟩ else T

/-- A slot's value, which is known to be v, written out as v. -/
def lfix (v : AV) : List (Nat × AV) → Nat → List (Nat × AV)
  | [], _ => []
  | p :: r, i => bif Nat.beq p.1 i then (p.1, v) :: r else p :: lfix v r i

def tfix (v : AV) (T : TS) (i : Nat) : TS := ⟨T.n, T.z, lfix v T.l i⟩

def numA : Nat → List AV → List (Nat × AV)
  | _, [] => []
  | i, x :: r => (i, x) :: numA (i + 1) r

/-- What an evaluation gives: a function's result, or a state. -/
inductive Res where
  | fin (v : AV) (M : List Blk)
  | st (x : Ex) (T : TS) (M : List Blk) (N : Nat)

abbrev Ans := Option Res
abbrev Sets := List (Nat × Blk)

/-- What an operation comes to: nothing, an effect, a choice by a test, a call of a function with a body, a call of one without. -/
inductive Tm where
  | fail
  | leaf (v : AV) (s : Sets)
  | br (b : Bool) (x y : Tm)
  | call (f : Nat) (as : List AV) (bs : List Blk) (k : AV → List Blk → Tm)
  | ext (f : Nat) (as : List AV) (k : AV → Tm)

def Tm.run (Γ : Nat → List AV → List Blk → (AV → List Blk → Ans) → Ans) (X : Nat → List AV → (AV → Ans) → Ans) : Tm → (AV → Sets → Ans) → Ans
  | .fail, _ => none
  | .leaf v s, K => K v s
  | .br b x y, K => bif b then x.run Γ X K else y.run Γ X K
  | .call f as bs k, K => Γ f as bs fun v M => (k v M).run Γ X K
  | .ext f as k, K => X f as fun v => (k v).run Γ X K

def undefA : AV := .tup []
def aint (k : IntKind) (n : Int) : AV := .v (.c (.d (.int k n)))
def abool (b : Bool) : AV := .v (.c (.d (.bool b)))
def aptr (b o : Nat) : AV := .v (.c (.ptr b o))

def gets {α : Type} (z : α) : List α → Nat → α
  | [], _ => z
  | x :: _, 0 => x
  | _ :: t, n + 1 => gets z t n

def sets {α : Type} (y : α) : List α → Nat → List α
  | [], _ => []
  | _ :: t, 0 => y :: t
  | x :: t, n + 1 => x :: sets y t n

def mget (M : List Blk) (b : Nat) : Blk := gets .dead M b

def mput : List Blk → Nat → Blk → List Blk
  | [], 0, y => [y]
  | [], n + 1, y => .dead :: mput [] n y
  | _ :: t, 0, y => y :: t
  | x :: t, n + 1, y => x :: mput t n y

def puts (M : List Blk) : Sets → List Blk
  | [] => M
  | (b, y) :: r => puts (mput M b y) r

def Blk.data : Blk → Option (List D)
  | .dead => none
  | .ro l => some l
  | .rw _ l => some l
  | .arr _ _ _ => none
  | .cell _ _ => none

/-- Something may be read or written there. -/
def Blk.live : Blk → Bool
  | .dead => false
  | .ro [] => false
  | .ro (_ :: _) => true
  | .rw _ _ => true
  | .arr _ _ [] => false
  | .arr _ _ (_ :: _) => true
  | .cell _ _ => true

/-- The call may write there. -/
def Blk.wr : Blk → Bool
  | .rw _ _ => true
  | .arr (some _) _ (_ :: _) => true
  | .cell _ _ => true
  | _ => false

/-- Within the kind's range, by its bounds written out. -/
def inR (k : IntKind) (n : Int) : Bool :=
  match k with
  | .i8 => decide (-128 ≤ n) && decide (n ≤ 127)
  | .i16 => decide (-32768 ≤ n) && decide (n ≤ 32767)
  | .i32 => decide (-2147483648 ≤ n) && decide (n ≤ 2147483647)
  | .i64 => decide (-9223372036854775808 ≤ n) && decide (n ≤ 9223372036854775807)
  | .u8 => decide (0 ≤ n) && decide (n ≤ 255)
  | .u16 => decide (0 ≤ n) && decide (n ≤ 65535)
  | .u32 => decide (0 ≤ n) && decide (n ≤ 4294967295)
  | .u64 => decide (0 ≤ n) && decide (n ≤ 18446744073709551615)

def D.ok : D → Prop
  | .bool _ => True
  | .int k n => inR k n = true
  | .str s => s.size ≤ 9223372036854775807

def toD : Value → Option D
  | .bool b => some (.bool b)
  | .int k n => bif inR k n then some (.int k n) else none
  | .string s => bif Nat.ble s.size 65536 then some (.str s) else none
  | _ => none

def toDs : List Value → Option (List D)
  | [] => some []
  | x :: r => match toD x, toDs r with
    | some d, some l => some (d :: l)
    | _, _ => none

def ofValue : Value → Option AV
  | .bool b => some (abool b)
  | .int k n => bif inR k n then some (aint k n) else none
  | .string s => bif Nat.ble s.size 65536 then some (.v (.c (.d (.str s)))) else none
  | .slice none 0 0 => some (.v (.c .nilS))
  | .agg cs => match toDs cs.toList with | some l => some (.v (.agg l)) | none => none
  | _ => none

/-- The wrap of an integer kind, with the powers written out. -/
def wr (k : IntKind) (n : Int) : Int :=
  match k with
  | .i64 => (n + 9223372036854775808) % 18446744073709551616 - 9223372036854775808
  | .u64 => n % 18446744073709551616
  | .u8 => n % 256
  | k => k.wrap n

def splice (l : List D) (o : Nat) (r : List D) : List D := l.take o ++ (r ++ l.drop (o + r.length))

def cellsA : AV → Option (List D)
  | .v (.agg l) => some l
  | .v (.c (.d x)) => some [x]
  | _ => none

def D.same : D → D → Bool
  | .bool _, .bool _ => true
  | .int k _, .int k' _ => decide (k = k')
  | .str _, .str _ => true
  | _, _ => false

def fitsTo : List D → List D → Bool
  | [], [] => true
  | x :: r, y :: s => D.same x y && fitsTo r s
  | _, _ => false

def D.eq : D → D → Bool
  | .bool a, .bool b => a == b
  | .int _ a, .int _ b => a == b
  | .str a, .str b => a.data.toList == b.data.toList
  | _, _ => false

def eqAll : List D → List D → Bool
  | [], [] => true
  | x :: r, y :: s => D.eq x y && eqAll r s
  | _, _ => false

def intBin (op : BinOp) (k : IntKind) (a b : Int) : Tm :=
  match op with
  | .add => .leaf (aint k (wr k (a + b))) []
  | .sub => .leaf (aint k (wr k (a - b))) []
  | .mul => .leaf (aint k (wr k (a * b))) []
  | .quo => .br (b == 0) .fail (.leaf (aint k (wr k (a.tdiv b))) [])
  | .rem => .br (b == 0) .fail (.leaf (aint k (a.tmod b)) [])
  | .eql => .leaf (abool (a == b)) []
  | .neq => .leaf (abool (a != b)) []
  | .lss => .leaf (abool (decide (a < b))) []
  | .leq => .leaf (abool (decide (a ≤ b))) []
  | .gtr => .leaf (abool (decide (b < a))) []
  | .geq => .leaf (abool (decide (b ≤ a))) []
  | .and => .leaf (aint k (wr k ((BitVec.ofInt k.bits a &&& BitVec.ofInt k.bits b).toNat : Nat))) []
  | .or => .leaf (aint k (wr k ((BitVec.ofInt k.bits a ||| BitVec.ofInt k.bits b).toNat : Nat))) []
  | _ => .fail

def shiftBin (op : BinOp) (k : IntKind) (a b : Int) : Tm :=
  match op with
  | .shl => .br (decide (b < 0)) .fail (.leaf (aint k (wr k (a * 2 ^ (min b.toNat k.bits)))) [])
  | .shr => .br (decide (b < 0)) .fail (.leaf (aint k (a.fdiv (2 ^ (min b.toNat k.bits)))) [])
  | _ => .fail

section
variable (P : Program) (G : Nat → Option (List D)) (EQ : Tab)

def opdV (T : TS) : Operand → Option AV
  | .tmp t => some (tget T t)
  | .const v => ofValue v
  | .global _ => none
  | .func f => some (.v (.c (.fn f [])))

def opdVs (T : TS) : List Operand → Option (List AV)
  | [] => some []
  | x :: r => match opdV T x, opdVs T r with
    | some v, some l => some (v :: l)
    | _, _ => none

def partVs (T : TS) : List (Nat × Operand) → Option (List (Nat × List D))
  | [] => some []
  | p :: r => match opdV T p.2, partVs T r with
    | some v, some l => match cellsA v with
      | some cs => some ((p.1, cs) :: l)
      | none => none
    | _, _ => none

def zeroD (t : TypeId) : Option (List D) :=
  match P.info? t with
  | some i => match i.zero with
    | some z => toDs z.cells.toList
    | none => none
  | none => none

def sizeD (t : TypeId) : Option Nat :=
  match P.info? t with
  | some i => some i.size
  | none => none

def aggD (t : TypeId) : Option Bool :=
  match P.underlying t with
  | some (.struct _) => some true
  | some (.array _ _) => some true
  | some _ => some false
  | none => none

/-- Lay parts into cells: the place of part i is given. -/
def fillD (place : Nat → Option (Nat × Nat)) (cells : List D) : List (Nat × List D) → Option (List D)
  | [] => some cells
  | p :: r => match place p.1 with
    | none => none
    | some q =>
      bif (p.2.length == q.2) && Nat.ble (q.1 + p.2.length) cells.length then fillD place (splice cells q.1 p.2) r else none

def fieldPlaces : List Field → Option (List (Nat × Nat))
  | [] => some []
  | f :: r => match sizeD P f.type, fieldPlaces r with
    | some s, some l => some ((f.offset, s) :: l)
    | _, _ => none

def partD (t : TypeId) (l : List D) (o : Nat) : Option V :=
  match aggD P t, sizeD P t with
  | some true, some n => bif ((l.drop o).take n).length == n then some (.agg ((l.drop o).take n)) else none
  | some false, some _ => match l.drop o with
    | x :: _ => some (.c (.d x))
    | [] => none
  | _, _ => none

def leafO : Option V → Tm
  | some v => .leaf (.v v) []
  | none => .fail

def evBin (op : BinOp) (t : TypeId) (x y : AV) : Tm :=
  match x, y with
  | .v (.c (.d (.int k a))), .v (.c (.d (.int k' b))) =>
    match op with
    | .shl => shiftBin .shl k a b
    | .shr => shiftBin .shr k a b
    | op => bif decide (k = k') then intBin op k a b else .fail
  | .v (.c (.d (.bool a))), .v (.c (.d (.bool b))) =>
    match op, P.underlying t with
    | .eql, some .bool => .leaf (abool (a == b)) []
    | .neq, some .bool => .leaf (abool (!(a == b))) []
    | _, _ => .fail
  | .v (.c (.d (.str a))), .v (.c (.d (.str b))) =>
    match op with
    | .eql => .leaf (abool (a.data.toList == b.data.toList)) []
    | .neq => .leaf (abool (!(a.data.toList == b.data.toList))) []
    | _ => .fail
  | .v (.agg a), .v (.agg b) =>
    match zeroD P t with
    | some z => bif EQ.eq.contains t && (fitsTo z a && fitsTo z b) then
        match op with
        | .eql => .leaf (abool (eqAll a b)) []
        | .neq => .leaf (abool (!(eqAll a b))) []
        | _ => .fail
      else .fail
    | none => .fail
  | _, _ => .fail

/-- The callee's view of the arguments: each block that is named is handed over, numbered anew from j on; the last list: which of the caller's blocks may be written. -/
def passArgs (M : List Blk) : List AV → Nat → Option (List AV × List Blk × List (Nat × Nat))
  | [], _ => some ([], [], [])
  | x :: r, j => match x with
    | .v (.c (.slice b o n e)) => match (mget M b).data, passArgs M r (j + 1) with
      | some l, some q => some (.v (.c (.slice j o n e)) :: q.1, .ro l :: q.2.1, q.2.2)
      | _, _ => none
    | .v (.c (.aslice b k)) => match mget M b, passArgs M r (j + 1) with
      | .arr _ τ xs, some q => some (.v (.c (.aslice j none)) :: q.1, .arr none τ (takeK k xs) :: q.2.1, q.2.2)
      | _, _ => none
    | .v (.c (.eptr _ _ _)) => none
    | .v (.c (.fn f caps)) => match caps with
      | [] => match passArgs M r j with
        | some q => some (.v (.c (.fn f [])) :: q.1, q.2)
        | none => none
      | [c] => match mget M c, passArgs M r (j + 1) with
        | .rw t l, some q => some (.v (.c (.fn f [j])) :: q.1, .rw t l :: q.2.1, (c, j) :: q.2.2)
        | _, _ => none
      | [c, c'] => match mget M c, mget M c', passArgs M r (j + 2) with
        | .rw t l, .rw t' l', some q => some (.v (.c (.fn f [j, j + 1])) :: q.1, .rw t l :: .rw t' l' :: q.2.1, (c, j) :: (c', j + 1) :: q.2.2)
        | _, _, _ => none
      | _ => none
    | .v (.c (.ptr b o)) => match o with
      | 0 => match mget M b, passArgs M r (j + 1) with
        | .rw t l, some q => some (.v (.c (.ptr j 0)) :: q.1, .rw t l :: q.2.1, (b, j) :: q.2.2)
        | _, _ => none
      | _ + 1 => none
    | .v (.c (.d x)) => match passArgs M r j with
      | some q => some (.v (.c (.d x)) :: q.1, q.2)
      | none => none
    | .v (.c .nilS) => match passArgs M r j with
      | some q => some (.v (.c .nilS) :: q.1, q.2)
      | none => none
    | .v (.agg l) => match passArgs M r j with
      | some q => some (.v (.agg l) :: q.1, q.2)
      | none => none
    | .tup _ => none
    | .any => none

/-- The written blocks handed back. -/
def backSets (M' : List Blk) : List (Nat × Nat) → Option Sets
  | [] => some []
  | p :: r => match mget M' p.2, backSets M' r with
    | .rw t l, some s => some ((p.1, .rw t l) :: s)
    | _, _ => none

def distinctFst : List (Nat × Nat) → Bool
  | [] => true
  | p :: r => !(r.any fun x => x.1 == p.1) && distinctFst r

def dataV : V → Bool
  | .c (.d _) => true
  | .c .nilS => true
  | .agg _ => true
  | _ => false

/-- A result as the caller sees it: data as it is; one slice of a new block becomes the caller's new block N. -/
def backVal (M' : List Blk) (j N : Nat) : AV → Option (AV × Sets)
  | .v x => match x with
    | .c (.slice b o n e) => bif Nat.ble j b then (match mget M' b with | .rw t l => some (.v (.c (.slice N o n e)), [(N, .rw t l)]) | _ => none) else none
    | .c (.aslice b none) => bif Nat.ble j b then (match mget M' b with | .arr (some t) τ xs => some (.v (.c (.aslice N none)), [(N, .arr (some t) τ xs)]) | _ => none) else none
    | x => bif dataV x then some (.v x, []) else none
  | .any => none
  | .tup [] => some (.tup [], [])
  | .tup (x :: r) => bif r.all dataV then (match x with
    | .c (.slice b o n e) => bif Nat.ble j b then (match mget M' b with | .rw t l => some (.tup (.c (.slice N o n e) :: r), [(N, .rw t l)]) | _ => none) else none
    | .c (.aslice b none) => bif Nat.ble j b then (match mget M' b with | .arr (some t) τ xs => some (.tup (.c (.aslice N none) :: r), [(N, .arr (some t) τ xs)]) | _ => none) else none
    | x => bif dataV x then some (.tup (x :: r), []) else none) else none

/-- The blocks that are handed over to be read alone. -/
def sliceRefs : List AV → List Nat
  | [] => []
  | .v (.c (.slice b _ _ _)) :: r => b :: sliceRefs r
  | .v (.c (.aslice b _)) :: r => b :: sliceRefs r
  | _ :: r => sliceRefs r

def evCall (f : Nat) (caps : List Nat) (args : List AV) (M : List Blk) (N : Nat) : Tm :=
  match passArgs M (args ++ caps.map fun c => aptr c 0) 0 with
  | none => .fail
  | some q =>
    bif distinctFst q.2.2 && (sliceRefs (args ++ caps.map fun c => aptr c 0)).all (fun b => !(q.2.2.any fun p => p.1 == b)) then
      .call f q.1 q.2.1 fun v M' => match backSets M' q.2.2, backVal M' q.2.1.length N v with
        | some s, some p => .leaf p.1 (s ++ p.2)
        | _, _ => .fail
    else .fail

def plainArgs : List AV → Bool
  | [] => true
  | .v (.c (.d _)) :: r => plainArgs r
  | .v (.agg _) :: r => plainArgs r
  | _ => false

def maxL (k : IntKind) (x : Int) : List AV → Option Int
  | [] => some x
  | .v (.c (.d (.int k' y))) :: r => bif decide (k' = k) then maxL k (if y > x then y else x) r else none
  | _ => none

def minL (k : IntKind) (x : Int) : List AV → Option Int
  | [] => some x
  | .v (.c (.d (.int k' y))) :: r => bif decide (k' = k) then minL k (if y < x then y else x) r else none
  | _ => none

def roomD : Nat := 1048576

/-- The appended elements: how many, their cells. -/
def srcD (M : List Blk) (size : Nat) : AV → Option (Nat × List D)
  | .v (.c (.slice b o n es)) => match (mget M b).data with
    | some l => bif (es == size) && (((l.drop o).take (n * es)).length == n * es) then some (n, (l.drop o).take (n * es)) else none
    | none => none
  | .v (.c .nilS) => some (0, [])
  | _ => none

/-- What is appended to: nothing, or a whole block of the call's own. -/
def baseD (M : List Blk) (size e : Nat) : AV → Option (Nat × List D × Sets)
  | .v (.c .nilS) => some (0, [], [])
  | .v (.c (.slice b o n es)) => match mget M b with
    | .rw ty l => bif (o == 0) && ((es == size) && ((ty == e) && (l.length == n * es))) then some (n, l, [(b, .dead)]) else none
    | _ => none
  | _ => none

/-- The appended elements, where the elements are of a listed kind. -/
def srcA (M : List Blk) (size : Nat) (τ : ET) : AV → Option (List τ.T)
  | .v (.c (.aslice b k)) => match mget M b with
    | .arr _ υ xs => castL υ τ (takeK k xs)
    | _ => none
  | .v (.c (.slice b o n es)) => match (mget M b).data with
    | some l => bif (es == size) && (size == τ.len) then τ.ofs n ((l.drop o).take (n * es)) else none
    | none => none
  | .v (.c .nilS) => some []
  | _ => none

def baseA (M : List Blk) (e : Nat) (τ : ET) : AV → Option (List τ.T × Sets)
  | .v (.c .nilS) => some ([], [])
  | .v (.c (.aslice b none)) => match mget M b with
    | .arr (some ty) υ xs => bif ty == e then (match castL υ τ xs with | some ys => some (ys, [(b, .dead)]) | none => none) else none
    | _ => none
  | _ => none

def evAppendA (e : TypeId) (τ : ET) (s x : AV) (M : List Blk) (N : Nat) : Tm :=
  match P.info? e with
  | none => .fail
  | some i => match srcA M i.size τ x, baseA M e τ s, zeroD P e with
    | some ys, some base, some z =>
      .br (ys.length == 0) (.leaf s [])
        (.br (Nat.blt 0 i.size && ((i.size == τ.len) && ((z.length == i.size) && (Nat.ble (base.1.length + ys.length) roomD && Nat.ble i.bytes 4096))))
          (.leaf (.v (.c (.aslice N none))) (base.2 ++ [(N, .arr (some e) τ (base.1 ++ ys))])) .fail)
    | _, _, _ => .fail

def evAppend (t : TypeId) (s x : AV) (M : List Blk) (N : Nat) : Tm :=
  match P.underlying t with
  | some (.slice e) => match P.info? e with
    | none => .fail
    | some i => match srcD M i.size x, baseD M i.size e s, zeroD P e with
      | some src, some base, some z =>
        .br (src.1 == 0) (.leaf s [])
          (.br (Nat.blt 0 i.size && ((z.length == i.size) && (Nat.ble (base.1 + src.1) roomD && Nat.ble i.bytes 4096)))
            (.leaf (.v (.c (.slice N 0 (base.1 + src.1) i.size))) (base.2.2 ++ [(N, .rw e (base.2.1 ++ src.2))])) .fail)
      | _, _, _ => .fail
  | _ => .fail

def evBuiltin (b : Builtin) (ts : List TypeId) (args : List AV) (M : List Blk) (N : Nat) : Tm :=
  match b, ts, args with
  | .len, [t], [x] => match P.underlying t, x with
    | some .string, .v (.c (.d (.str s))) => .leaf (aint .i64 s.size) []
    | some (.slice _), .v (.c (.slice _ _ n _)) => .leaf (aint .i64 n) []
    | some (.slice _), .v (.c .nilS) => .leaf (aint .i64 0) []
    | some (.slice _), .v (.c (.aslice b k)) => match mget M b with
      | .arr _ _ xs => .leaf (aint .i64 (lenK k xs : Nat)) []
      | _ => .fail
    | some (.array n _), _ => .br (Nat.ble n roomD) (.leaf (aint .i64 n) []) .fail
    | _, _ => .fail
  | .max, _, .v (.c (.d (.int k x))) :: r => match maxL k x r with | some y => .leaf (aint k y) [] | none => .fail
  | .min, _, .v (.c (.d (.int k x))) :: r => match minL k x r with | some y => .leaf (aint k y) [] | none => .fail
  | .append, [t, t'], [s, x] => bif t == t' then (match P.underlying t with
    | some (.slice e) => match EQ.mks e with
      | some τ => evAppendA P e τ s x M N
      | none => evAppend P t s x M N
    | _ => .fail) else .fail
  | _, _, _ => .fail

/-- A bound of a slice expression: what was written, as a number. -/
def boundO (T : TS) (dflt : Nat) : Option Operand → Option Nat
  | none => some dflt
  | some x => match opdV T x with
    | some (.v (.c (.d (.int _ i)))) => bif decide (0 ≤ i) then some i.toNat else none
    | _ => none

def capsOf : List AV → Option (List Nat)
  | [] => some []
  | .v (.c (.ptr b 0)) :: r => match capsOf r with | some l => some (b :: l) | none => none
  | _ => none

/-- A byte of a string. -/
def byteAt (s : ByteArray) (j : Int) : Int := ((s.data.toList.getD j.toNat 0).toNat : Nat)

def opR (o : Op) (T : TS) (M : List Blk) (N : Nat) : Tm :=
  match o with
  | .move x => match opdV T x with | some a => .leaf a [] | none => .fail
  | .assign x => match opdV T x with | some a => .leaf a [] | none => .fail
  | .pick c a b => match opdV T c, opdV T a, opdV T b with
    | some (.v (.c (.d (.bool x)))), some va, some vb => .br x (.leaf va []) (.leaf vb [])
    | _, _, _ => .fail
  | .alloc t => match zeroD P t with
    | some l => .leaf (aptr N 0) [(N, .rw t l)]
    | none => match P.underlying t, P.info? t with
      | some (.slice _), some i => match i.zero with
        | some (.slice none 0 0) => .leaf (aptr N 0) [(N, .cell t .nilS)]
        | _ => .fail
      | _, _ => .fail
  | .box t x => match opdV T x with
    | some v => match cellsA v with
      | some l => .leaf (aptr N 0) [(N, .rw t l)]
      | none => .fail
    | none => .fail
  | .build t ps => match partVs T ps.toList, zeroD P t, P.underlying t with
    | some l, some z, some (.struct fs) => match fieldPlaces P fs.toList with
      | some pl => match fillD (fun i => pl[i]?) z l with
        | some cs => .leaf (.v (.agg cs)) []
        | none => .fail
      | none => .fail
    | some l, some z, some (.array _ e) => match sizeD P e with
      | some s => match fillD (fun i => some (i * s, s)) z l with
        | some cs => .leaf (.v (.agg cs)) []
        | none => .fail
      | none => .fail
    | _, _, _ => .fail
  | .buildSlice t len ps => match partVs T ps.toList, P.underlying t with
    | some l, some (.slice e) => match zeroD P e, sizeD P e with
      | some z, some s => bif (z.length == s) && (Nat.ble (len * s) 16777216 && Nat.ble len roomD) then
          match fillD (fun i => some (i * s, s)) ((List.replicate len z).flatten) l with
          | some cs => match EQ.lit e with
            | none => .leaf (.v (.c (.slice N 0 len s))) [(N, .rw e cs)]
            | some τ => match bif s == τ.len then τ.ofs len cs else none with
              | some xs => .leaf (.v (.c (.aslice N none))) [(N, .arr (some e) τ xs)]
              | none => .fail
          | none => .fail
        else .fail
      | _, _ => .fail
    | _, _ => .fail
  | .load t a => match a with
    | .global g => match G g with
      | some l => leafO (partD P t l 0)
      | none => .fail
    | a => match opdV T a with
      | some (.v (.c (.ptr b o))) => match mget M b with
        | .cell _ c => match o, aggD P t with
          | 0, some false => .leaf (.v (.c c)) []
          | _, _ => .fail
        | y => match y.data with
          | some l => leafO (partD P t l o)
          | none => .fail
      | some (.v (.c (.eptr b i o))) => match mget M b with
        | .arr _ τ xs => leafO (partD P t (τ.cells (xs.getD i τ.z)) o)
        | _ => .fail
      | _ => .fail
  | .store t a x => match opdV T a, opdV T x with
    | some (.v (.c (.ptr b o))), some v => match mget M b with
      | .cell ty _ => match o, v, sizeD P t with
        | 0, .v (.c .nilS), some 1 => .leaf undefA [(b, .cell ty .nilS)]
        | 0, .v (.c (.aslice c k)), some 1 => .leaf undefA [(b, .cell ty (.aslice c k))]
        | _, _, _ => .fail
      | .rw ty l => match cellsA v, sizeD P t with
        | some cs, some n => bif (cs.length == n) && Nat.ble (o + n) l.length then .leaf undefA [(b, .rw ty (splice l o cs))] else .fail
        | _, _ => .fail
      | _ => .fail
    | some (.v (.c (.eptr b i o))), some v => match mget M b with
      | .arr (some ty) τ xs => match cellsA v, sizeD P t with
        | some cs, some n => match bif (cs.length == n) && Nat.ble (o + n) τ.len then τ.of (splice (τ.cells (xs.getD i τ.z)) o cs) else none with
          | some y => .leaf undefA [(b, .arr (some ty) τ (xs.set i y))]
          | none => .fail
        | _, _ => .fail
      | _ => .fail
    | _, _ => .fail
  | .nilCheck x => match opdV T x with
    | some (.v (.c (.ptr b o))) => .leaf (aptr b o) []
    | some (.v (.c (.eptr b i o))) => .leaf (.v (.c (.eptr b i o))) []
    | some (.v (.c (.fn f l))) => .leaf (.v (.c (.fn f l))) []
    | _ => .fail
  | .binOp op t x y _ => match opdV T x, opdV T y with
    | some a, some b => evBin P EQ op t a b
    | _, _ => .fail
  | .unOp op _ x => match op, opdV T x with
    | .neg, some (.v (.c (.d (.int k n)))) => .leaf (aint k (wr k (0 - n))) []
    | .not, some (.v (.c (.d (.bool b)))) => .leaf (abool (!b)) []
    | _, _ => .fail
  | .convert s d x => match P.underlying s, P.underlying d, opdV T x with
    | some _, some (.int k), some (.v (.c (.d (.int _ n)))) => .leaf (aint k (wr k n)) []
    | _, _, _ => .fail
  | .makeFunc fn first caps => match fn, first.toList, opdVs T caps.toList with
    | .func f, [], some l => match capsOf l with
      | some cs => .leaf (.v (.c (.fn f cs))) []
      | none => .fail
    | _, _, _ => .fail
  | .makeSlice t l c => match P.underlying t, opdV T l, opdV T c with
    | some (.slice e), some (.v (.c (.d (.int _ n)))), some (.v (.c (.d (.int _ n')))) => match zeroD P e, P.info? e with
      | some z, some i => .br (decide (n = n') && (decide (0 ≤ n) && (decide (n ≤ 1048576) && ((z.length == i.size) && (Nat.blt 0 i.size && Nat.ble i.bytes 4096)))))
          (match EQ.mks e with
           | none => .leaf (.v (.c (.slice N 0 n.toNat i.size))) [(N, .rw e ((List.replicate n.toNat z).flatten))]
           | some τ => match bif i.size == τ.len then τ.of z else none with
             | some x => .leaf (.v (.c (.aslice N none))) [(N, .arr (some e) τ (List.replicate n.toNat x))]
             | none => .fail) .fail
      | _, _ => .fail
    | _, _, _ => .fail
  | .slice t x lo hi mx => match mx, P.underlying t, opdV T x with
    | none, some (.slice e), some (.v (.c (.slice b o n s))) => match sizeD P e, boundO T 0 lo, boundO T n hi with
      | some s', some l, some h =>
        bif (s == s') && (Nat.ble l h && (Nat.ble h n && Nat.blt l n)) then .leaf (.v (.c (.slice b (o + l * s) (h - l) s))) [] else .fail
      | _, _, _ => .fail
    | none, some (.slice e), some (.v (.c (.aslice b none))) => match sizeD P e, lo, boundO T 0 hi, mget M b with
      | some s, none, some h, .arr _ τ xs => bif s == τ.len then .br (Nat.blt 0 h && Nat.ble h xs.length) (.leaf (.v (.c (.aslice b (some h)))) []) .fail else .fail
      | _, _, _, _ => .fail
    | none, some (.array n e), some (.v (.c (.ptr b o))) => match sizeD P e, lo, hi, mget M b with
      | some s, none, none, .rw _ l => bif Nat.blt 0 n && ((o == 0) && ((l.length == n * s) && Nat.ble n roomD)) then .leaf (.v (.c (.slice b o n s))) [] else .fail
      | _, _, _, _ => .fail
    | _, _, _ => .fail
  | .fieldAddr s x f => match P.underlying s, opdV T x with
    | some (.struct fs), some (.v (.c (.ptr b o))) => match fs[f]? with
      | some fd => match sizeD P fd.type with
        | some (_ + 1) => .leaf (aptr b (o + fd.offset)) []
        | _ => .fail
      | none => .fail
    | some (.struct fs), some (.v (.c (.eptr b i o))) => match fs[f]? with
      | some fd => match sizeD P fd.type with
        | some (_ + 1) => .leaf (.v (.c (.eptr b i (o + fd.offset)))) []
        | _ => .fail
      | none => .fail
    | _, _ => .fail
  | .field t x f => match P.underlying t, opdV T x with
    | some (.struct fs), some (.v (.agg l)) => match fs[f]? with
      | some fd => leafO (partD P fd.type l fd.offset)
      | none => .fail
    | _, _ => .fail
  | .indexAddr t x i => match P.underlying t, opdV T x, opdV T i with
    | some (.slice e), some (.v (.c (.slice b o n _))), some (.v (.c (.d (.int _ j)))) => match sizeD P e with
      | some s => .br (decide (0 ≤ j) && decide (j < (n : Int))) (.leaf (aptr b (o + j.toNat * s)) []) .fail
      | none => .fail
    | some (.slice e), some (.v (.c (.aslice b k))), some (.v (.c (.d (.int _ j)))) => match sizeD P e, mget M b with
      | some s, .arr _ τ xs => bif s == τ.len then .br (decide (0 ≤ j) && decide (j < ((lenK k xs : Nat) : Int))) (.leaf (.v (.c (.eptr b j.toNat 0))) []) .fail else .fail
      | _, _ => .fail
    | some (.array n e), some (.v (.c (.ptr b o))), some (.v (.c (.d (.int _ j)))) => match sizeD P e with
      | some s => .br (decide (0 ≤ j) && decide (j < (n : Int))) (.leaf (aptr b (o + j.toNat * s)) []) .fail
      | none => .fail
    | _, _, _ => .fail
  | .index t x i => match P.underlying t, opdV T x, opdV T i with
    | some (.array n e), some (.v (.agg l)), some (.v (.c (.d (.int _ j)))) => match sizeD P e with
      | some s => .br (decide (0 ≤ j) && decide (j < (n : Int))) (leafO (partD P e l (j.toNat * s))) .fail
      | none => .fail
    | some .string, some (.v (.c (.d (.str s)))), some (.v (.c (.d (.int _ j)))) =>
      .br (decide (0 ≤ j) && decide (j < (s.size : Int))) (.leaf (aint .u8 (byteAt s j)) []) .fail
    | _, _, _ => .fail
  | .extract x i => match opdV T x with
    | some (.tup l) => match l[i]? with
      | some v => .leaf (.v v) []
      | none => .fail
    | _ => .fail
  | .call c => match c.callee with
    | .builtin b => match opdVs T c.args.toList with
      | some l => evBuiltin P EQ b c.argTypes.toList l M N
      | none => .fail
    | .value g => match opdV T g, opdVs T c.args.toList with
      | some (.v (.c (.fn f caps))), some l => match P.funcs[f]? with
        | some fn => match fn.body with
          | some _ => evCall f caps l M N
          | none => match caps with
            | [] => bif plainArgs l then .ext f l fun v => .leaf v [] else .fail
            | _ => .fail
        | none => .fail
      | _, _ => .fail
    | _ => .fail
  | _ => .fail

def isNil : Op → Bool
  | .assign (.const (.slice none 0 0)) => true
  | .move (.const (.slice none 0 0)) => true
  | _ => false

/-- The kind of the elements of a slice type, where its slices are arrays of open length. -/
def nilE (t : TypeId) : Option (Nat × ET) :=
  match P.underlying t with
  | some (.slice e) => match EQ.mks e with
    | some τ => some (e, τ)
    | none => none
  | _ => none

/-- An operation; a slice without elements is an array without elements. -/
def opO (o : Oper) (T : TS) (M : List Blk) (N : Nat) : Tm :=
  bif isNil o.op then (match nilE P EQ o.type with
    | some p => .leaf (.v (.c (.aslice N none))) [(N, .arr (some p.1) p.2 [])]
    | none => opR P G EQ o.op T M N)
  else opR P G EQ o.op T M N

/-- The blocks that an operation may read or write through its operands. -/
def refsA : AV → List Nat
  | .v (.c (.ptr b _)) => [b]
  | .v (.c (.slice b _ _ _)) => [b]
  | .v (.c (.aslice b _)) => [b]
  | .v (.c (.eptr b _ _)) => [b]
  | .v (.c (.fn _ l)) => l
  | _ => []

def refsO (T : TS) (x : Operand) : List Nat :=
  match opdV T x with
  | some v => refsA v
  | none => []

def readsOf (o : Op) (T : TS) : List Nat :=
  match o with
  | .load _ a => refsO T a
  | .store _ a _ => refsO T a
  | .slice _ x _ _ _ => refsO T x
  | .indexAddr _ x _ => refsO T x
  | .call c => (match c.callee with | .value g => refsO T g | _ => []) ++ c.args.toList.flatMap (refsO T)
  | _ => []

def looksO : List Operand → List Tmp
  | [] => []
  | .tmp t :: r => t :: looksO r
  | _ :: r => looksO r

/-- What one operation of a region did: its number, the value, the blocks set, the blocks read. -/
structure Tr where
  did : Bool
  val : AV
  ss : Sets
  rd : List Nat

def Tr.skip : Tr := ⟨false, undefA, [], []⟩

/-- The next free number of a block: where the order is open ('dr'), each operation has a number of its own. -/
def nextN (dr : Bool) (N : Nat) (s : Sets) : Nat := bif dr || s.any (fun x => x.1 == N) then N + 1 else N

def dstOf (ops : List Oper) (j : Nat) : Option Tmp := (ops[j]?).bind (·.dst)

def setT (T : TS) (d : Option Tmp) (v : AV) : TS :=
  match d with
  | some t => tset v T t
  | none => T

/-- Which earlier operations must have run: sets of numbers as bits. -/
def befores : List Oper → List Nat → List Nat
  | [], acc => acc
  | o :: r, acc => befores r (acc ++ [o.after.toList.foldl (fun s e => bif Region.binds .any e then s ||| (2 ^ e.on) ||| acc.getD e.on 0 else s) 0])

def edgesBack : List Oper → Nat → Bool
  | [], _ => true
  | o :: r, i => o.after.toList.all (fun e => !(Region.binds .any e) || Nat.blt e.on i) && edgesBack r (i + 1)

def looksOf (ops : List Oper) (o : Oper) : List Tmp :=
  looksO o.op.operands.toList ++ (match o.guard with
    | some (g, _) => (dstOf ops g).toList
    | none => [])

def memD (l : List Nat) (x : Nat) : Bool := l.any (· == x)

def meetsL (l r : List Nat) : Bool := l.any (memD r)

/-- Two operations whose order is open do not look at each other's slots and blocks. -/
def freeT (ops : List Oper) (x y : Oper) : Bool :=
  (match x.dst with
   | some d => !(memD (looksOf ops y) d) && (match y.dst with | some d' => !(d == d') | none => true)
   | none => true) &&
  (match y.dst with
   | some d => !(memD (looksOf ops x) d)
   | none => true)

def freeM (x y : Tr) : Bool :=
  !(meetsL (x.ss.map (·.1)) (y.rd ++ y.ss.map (·.1))) && !(meetsL (y.ss.map (·.1)) x.rd)

def pairsOk (ops : List Oper) (bef : List Nat) (tr : List Tr) : Bool :=
  (List.range ops.length).all fun j => (List.range j).all fun i =>
    (bef.getD j 0).testBit i ||
    (match ops[i]?, ops[j]?, tr[i]?, tr[j]? with
     | some x, some y, some t, some u => freeT ops x y && freeM t u
     | _, _, _, _ => false)

/-- The same where no operation has set a block: this does not depend on what they did. -/
def pairsStill (ops : List Oper) (bef : List Nat) : Bool :=
  (List.range ops.length).all fun j => (List.range j).all fun i =>
    (bef.getD j 0).testBit i ||
    (match ops[i]?, ops[j]? with
     | some x, some y => freeT ops x y
     | _, _ => false)

def quietT : List Tr → Bool
  | [] => true
  | u :: r => match u.ss with
    | [] => quietT r
    | _ :: _ => false

def drawOk (ops : List Oper) (tr : List Tr) : Bool :=
  edgesBack ops 0 && ((quietT tr && pairsStill ops (befores ops [])) || pairsOk ops (befores ops []) tr)

/-- No operation of the region has made a block. -/
def noNew : Nat → List Tr → Bool
  | _, [] => true
  | N, u :: r => !(u.ss.any fun p => p.1 == N) && noNew (N + 1) r

def endN (N N' : Nat) (tr : List Tr) : Nat := bif noNew N tr then N else N'

/-- What a loop comes to, by a contract of it: nothing known, a state, a choice by a test. -/
inductive LT where
  | no
  | st (x : Ex) (T : TS) (M : List Blk) (N : Nat)
  | br (b : Bool) (x y : LT)

def LT.run : LT → (Ex → TS → List Blk → Nat → Ans) → Ans
  | .no, _ => none
  | .st x T M N, K => K x T M N
  | .br b x y, K => bif b then x.run K else y.run K

/-- The first region's number: by it a loop is known within its function. -/
def loopKey : Code → Nat
  | .region id _ _ => id
  | .seq a _ => loopKey a
  | .block _ b => loopKey b
  | .loop b => loopKey b
  | _ => 0

def loopsIn : Code → List Code
  | .seq a b => loopsIn a ++ loopsIn b
  | .cond _ a b => loopsIn a ++ loopsIn b
  | .block _ b => loopsIn b
  | .loop b => b :: loopsIn b
  | _ => []

def resD (T : TS) (M : List Blk) : ResultVar → Option V
  | .tmp t => match tget T t with
    | .v x => some x
    | _ => none
  | .cell a t => match tget T a with
    | .v (.c (.ptr b o)) => match mget M b with
      | .cell _ c => match o, aggD P t with
        | 0, some false => some (.c c)
        | _, _ => none
      | y => match y.data with
        | some l => partD P t l o
        | none => none
    | _ => none

def resDs (T : TS) (M : List Blk) : List ResultVar → Option (List V)
  | [] => some []
  | x :: r => match resD P T M x, resDs T M r with
    | some v, some l => some (v :: l)
    | _, _ => none

def tupD : List V → AV
  | [x] => .v x
  | l => .tup l

/-- The slots of a call: its arguments, and so many more. -/
def frameT (args : List AV) (k : Nat) : TS := ⟨args.length + k, undefA, numA 0 args⟩

section
variable (Γ : Nat → List AV → List Blk → (AV → List Blk → Ans) → Ans) (X : Nat → List AV → (AV → Ans) → Ans) (Λ : Nat → TS → List Blk → Nat → LT)

/-- The operations in the order of the text; 'tr' collects what they did, the last first. -/
def evOps (dr : Bool) (ops : List Oper) : List Oper → TS → List Blk → Nat → List Tr → (TS → List Blk → Nat → List Tr → Ans) → Ans
  | [], T, M, N, tr, K => K T M N tr
  | o :: r, T, M, N, tr, K =>
    match o.guard with
    | none => (opO P G EQ o T M N).run Γ X fun v s => evOps dr ops r (setT T o.dst v) (puts M s) (nextN dr N s) (⟨true, v, s, readsOf o.op T⟩ :: tr) K
    | some g => match dstOf ops g.1 with
      | none => none
      | some d => match tget T d with
        | .v (.c (.d (.bool b))) =>
          bif b then
            (match g.2 with
             | true => (opO P G EQ o (tfix (abool true) T d) M N).run Γ X fun v s => evOps dr ops r (setT (tfix (abool true) T d) o.dst v) (puts M s) (nextN dr N s) (⟨true, v, s, readsOf o.op T⟩ :: tr) K
             | false => evOps dr ops r (setT (tfix (abool true) T d) o.dst undefA) M (nextN dr N []) (.skip :: tr) K)
          else
            (match g.2 with
             | false => (opO P G EQ o (tfix (abool false) T d) M N).run Γ X fun v s => evOps dr ops r (setT (tfix (abool false) T d) o.dst v) (puts M s) (nextN dr N s) (⟨true, v, s, readsOf o.op T⟩ :: tr) K
             | true => evOps dr ops r (setT (tfix (abool false) T d) o.dst undefA) M (nextN dr N []) (.skip :: tr) K)
        | .tup [] => evOps dr ops r (setT T o.dst undefA) M (nextN dr N []) (.skip :: tr) K
        | _ => none

def evCode : Nat → Code → TS → List Blk → Nat → (Ex → TS → List Blk → Nat → Ans) → Ans
  | 0, _, _, _, _, _ => none
  | n + 1, c, T, M, N0, K =>
    match c with
    | .skip => K .normal T M N0
    | .region _ ops false => evOps P G EQ Γ X false ops.toList ops.toList T M N0 [] fun T M N _ => K .normal T M N
    | .region _ ops true => evOps P G EQ Γ X true ops.toList ops.toList T M N0 [] fun T M N tr =>
        bif drawOk ops.toList tr.reverse then K .normal T M (endN N0 N tr.reverse) else none
    | .seq a b => evCode n a T M N0 fun x T M N => match x with
      | .normal => evCode n b T M N K
      | x => K x T M N
    | .cond c a b => match opdV T c with
      | some (.v (.c (.d (.bool x)))) => bif x then evCode n a T M N0 K else evCode n b T M N0 K
      | _ => none
    | .block id b => evCode n b T M N0 fun x T M N => match x with
      | .exit id' => bif id' == id then K .normal T M N else K (.exit id') T M N
      | x => K x T M N
    | .loop b => match Λ (loopKey b) T M N0 with
      | .no => evCode n b T M N0 fun x T M N => match x with
        | .normal => evCode n (.loop b) T M N K
        | x => K x T M N
      | t => t.run K
    | .exit id => K (.exit id) T M N0
    | .ret => K .ret T M N0
    | _ => none

def evFn (n f : Nat) (args : List AV) (M : List Blk) (K : AV → List Blk → Ans) : Ans :=
  match P.funcs[f]? with
  | none => none
  | some fn => match fn.body with
    | none => none
    | some c => evCode P G EQ Γ X Λ n c (frameT args (fn.ntmps - args.length)) M M.length fun x T M _ => match x with
      | .exit _ => none
      | _ => match resDs P T M fn.results.toList with
        | some l => K (tupD l) M
        | none => none
end
end
end Go.Ev
