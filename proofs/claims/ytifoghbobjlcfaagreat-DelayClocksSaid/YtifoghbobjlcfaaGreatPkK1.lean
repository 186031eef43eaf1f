/-
  An evaluator of the model's code over plain data: definitions only. It is proved sound in the text that follows it. No condition.
  The evaluator's relations: when abstract values, blocks and slots stand for those of the model. Lemmas only. No condition.
  The evaluator's operations are sound: what an operation comes to is what the model's operation does. No condition beyond those of the statements.
  The evaluator's operations are sound, one by one: the operations that call nothing.
  The evaluator's operations are sound, one by one: building, indexing, comparing, built-in functions.
-/
import Derived.Calls
import Derived.LoopN
import Derived.WalkKit
import Derived.Laws.BitsLemmas
import Derived.Laws.Bits64
import Derived.Laws.CopyRow
import Derived.Laws.AppendOwn
import Derived.Laws.StructEq
import Derived.Orders
set_option maxRecDepth 100000
namespace Go.Ev
inductive D where
  | bool (b : Bool)
  | int (k : IntKind) (n : Int)
  | str (s : ByteArray)
def D.val : D → Value
  | .bool b => .bool b
  | .int k n => .int k n
  | .str s => .string s
structure Span where
  lo : Int
  hi : Int
  deriving DecidableEq
structure Frac where
  num : Int
  den : Int
  deriving DecidableEq
structure Delay where
  whole : Int
  part : Span
  deriving DecidableEq
structure Dir where
  x : Span
  y : Span
  z : Span
  deriving DecidableEq
structure Vec where
  x : Frac
  y : Frac
  z : Frac
  deriving DecidableEq
structure Window where
  frm : Int
  too : Int
  deriving DecidableEq
structure Site where
  name : ByteArray
  s : Frac
  t : Frac
structure Placed where
  site : Site
  at_ : Vec
structure View where
  up : Vec
  bound : Span
structure Trk where
  tick : Int
  u : Span
  v : Span
  w : Span
  deriving DecidableEq
inductive ET where
  | site | win | vec | frac | placed | view | trk | dir | delay | bool | int
  deriving DecidableEq
@[reducible] def ET.T : ET → Type
  | .site => Site
  | .win => Window
  | .vec => Vec
  | .frac => Frac
  | .placed => Placed
  | .view => View
  | .trk => Trk
  | .dir => Dir
  | .delay => Delay
  | .bool => Bool
  | .int => Int
def ET.len : ET → Nat
  | .site => 5
  | .win => 2
  | .vec => 6
  | .frac => 2
  | .placed => 11
  | .view => 8
  | .trk => 7
  | .dir => 6
  | .delay => 3
  | .bool => 1
  | .int => 1
def Frac.zero : Frac := ⟨0, 0⟩
def Span.zero : Span := ⟨0, 0⟩
def Vec.zero : Vec := ⟨.zero, .zero, .zero⟩
def Site.zero : Site := ⟨ByteArray.empty, .zero, .zero⟩
def ET.z : (τ : ET) → τ.T
  | .site => Site.zero
  | .win => (⟨0, 0⟩ : Window)
  | .vec => Vec.zero
  | .frac => Frac.zero
  | .placed => (⟨.zero, .zero⟩ : Placed)
  | .view => (⟨.zero, .zero⟩ : View)
  | .trk => (⟨0, .zero, .zero, .zero⟩ : Trk)
  | .dir => (⟨.zero, .zero, .zero⟩ : Dir)
  | .delay => (⟨0, .zero⟩ : Delay)
  | .bool => false
  | .int => (0 : Int)
def ET.cells : (τ : ET) → τ.T → List D
  | .site, x => [.str x.name, .int .i64 x.s.num, .int .i64 x.s.den, .int .i64 x.t.num, .int .i64 x.t.den]
  | .win, x => [.int .i64 x.frm, .int .i64 x.too]
  | .vec, x => [.int .i64 x.x.num, .int .i64 x.x.den, .int .i64 x.y.num, .int .i64 x.y.den, .int .i64 x.z.num, .int .i64 x.z.den]
  | .frac, x => [.int .i64 x.num, .int .i64 x.den]
  | .placed, x => [.str x.site.name, .int .i64 x.site.s.num, .int .i64 x.site.s.den, .int .i64 x.site.t.num, .int .i64 x.site.t.den, .int .i64 x.at_.x.num, .int .i64 x.at_.x.den, .int .i64 x.at_.y.num, .int .i64 x.at_.y.den, .int .i64 x.at_.z.num, .int .i64 x.at_.z.den]
  | .view, x => [.int .i64 x.up.x.num, .int .i64 x.up.x.den, .int .i64 x.up.y.num, .int .i64 x.up.y.den, .int .i64 x.up.z.num, .int .i64 x.up.z.den, .int .i64 x.bound.lo, .int .i64 x.bound.hi]
  | .trk, x => [.int .i64 x.tick, .int .i64 x.u.lo, .int .i64 x.u.hi, .int .i64 x.v.lo, .int .i64 x.v.hi, .int .i64 x.w.lo, .int .i64 x.w.hi]
  | .dir, x => [.int .i64 x.x.lo, .int .i64 x.x.hi, .int .i64 x.y.lo, .int .i64 x.y.hi, .int .i64 x.z.lo, .int .i64 x.z.hi]
  | .delay, x => [.int .i64 x.whole, .int .i64 x.part.lo, .int .i64 x.part.hi]
  | .bool, x => [.bool x]
  | .int, x => [.int .i64 x]
def of_site : List D → Option Site
  | [.str n, .int .i64 a, .int .i64 b, .int .i64 c, .int .i64 d] => some (⟨n, ⟨a, b⟩, ⟨c, d⟩⟩ : Site)
  | _ => none
def of_win : List D → Option Window
  | [.int .i64 a, .int .i64 b] => some (⟨a, b⟩ : Window)
  | _ => none
def of_vec : List D → Option Vec
  | [.int .i64 a, .int .i64 b, .int .i64 c, .int .i64 d, .int .i64 e, .int .i64 f] => some (⟨⟨a, b⟩, ⟨c, d⟩, ⟨e, f⟩⟩ : Vec)
  | _ => none
def of_frac : List D → Option Frac
  | [.int .i64 a, .int .i64 b] => some (⟨a, b⟩ : Frac)
  | _ => none
def of_placed : List D → Option Placed
  | [.str n, .int .i64 a, .int .i64 b, .int .i64 c, .int .i64 d, .int .i64 e, .int .i64 f, .int .i64 g, .int .i64 h, .int .i64 i, .int .i64 j] => some (⟨⟨n, ⟨a, b⟩, ⟨c, d⟩⟩, ⟨⟨e, f⟩, ⟨g, h⟩, ⟨i, j⟩⟩⟩ : Placed)
  | _ => none
def of_view : List D → Option View
  | [.int .i64 a, .int .i64 b, .int .i64 c, .int .i64 d, .int .i64 e, .int .i64 f, .int .i64 g, .int .i64 h] => some (⟨⟨⟨a, b⟩, ⟨c, d⟩, ⟨e, f⟩⟩, ⟨g, h⟩⟩ : View)
  | _ => none
def of_trk : List D → Option Trk
  | [.int .i64 t, .int .i64 a, .int .i64 b, .int .i64 c, .int .i64 d, .int .i64 e, .int .i64 f] => some (⟨t, ⟨a, b⟩, ⟨c, d⟩, ⟨e, f⟩⟩ : Trk)
  | _ => none
def of_dir : List D → Option Dir
  | [.int .i64 a, .int .i64 b, .int .i64 c, .int .i64 d, .int .i64 e, .int .i64 f] => some (⟨⟨a, b⟩, ⟨c, d⟩, ⟨e, f⟩⟩ : Dir)
  | _ => none
def of_delay : List D → Option Delay
  | [.int .i64 a, .int .i64 b, .int .i64 c] => some (⟨a, ⟨b, c⟩⟩ : Delay)
  | _ => none
def of_bool : List D → Option Bool
  | [.bool b] => some b
  | _ => none
def of_int : List D → Option Int
  | [.int .i64 a] => some a
  | _ => none
def ET.of : (τ : ET) → List D → Option τ.T
  | .site => of_site
  | .win => of_win
  | .vec => of_vec
  | .frac => of_frac
  | .placed => of_placed
  | .view => of_view
  | .trk => of_trk
  | .dir => of_dir
  | .delay => of_delay
  | .bool => of_bool
  | .int => of_int
def ET.ofs (τ : ET) : Nat → List D → Option (List τ.T)
  | 0, [] => some []
  | 0, _ :: _ => none
  | n + 1, l => match τ.of (l.take τ.len), τ.ofs n (l.drop τ.len) with
    | some x, some r => some (x :: r)
    | _, _ => none
def ET.flat (τ : ET) : List τ.T → List D
  | [] => []
  | x :: r => τ.cells x ++ τ.flat r
def castL : (τ υ : ET) → List τ.T → Option (List υ.T)
  | .site, .site, xs => some xs
  | .win, .win, xs => some xs
  | .vec, .vec, xs => some xs
  | .frac, .frac, xs => some xs
  | .placed, .placed, xs => some xs
  | .view, .view, xs => some xs
  | .trk, .trk, xs => some xs
  | .dir, .dir, xs => some xs
  | .delay, .delay, xs => some xs
  | .bool, .bool, xs => some xs
  | .int, .int, xs => some xs
  | _, _, _ => none
def takeK {α : Type} (k : Option Nat) (xs : List α) : List α :=
  match k with
  | none => xs
  | some n => xs.take n
def lenK {α : Type} (k : Option Nat) (xs : List α) : Nat :=
  match k with
  | none => xs.length
  | some n => n
structure Tab where
  eq : List Nat
  mks : Nat → Option ET
  lit : Nat → Option ET
inductive C where
  | d (x : D)
  | ptr (b o : Nat)
  | slice (b o n e : Nat)
  | nilS
  | fn (f : Nat) (caps : List Nat)
  | aslice (b : Nat) (k : Option Nat)
  | eptr (b i o : Nat)
inductive V where
  | c (x : C)
  | agg (l : List D)
inductive AV where
  | v (x : V)
  | tup (l : List V)
  | any
inductive Blk where
  | dead
  | ro (l : List D)
  | rw (t : Nat) (l : List D)
  | arr (own : Option Nat) (τ : ET) (xs : List τ.T)
  | cell (t : Nat) (v : C)
inductive Ex where
  | normal
  | exit (id : Nat)
  | ret
structure TS where
  n : Nat
  z : AV
  l : List (Nat × AV)
def TS.length (T : TS) : Nat := T.n
def tfind (z : AV) : List (Nat × AV) → Nat → AV
  | [], _ => z
  | p :: r, i => bif Nat.beq p.1 i then p.2 else tfind z r i
def tget (T : TS) (i : Nat) : AV := tfind T.z T.l i
def tset (v : AV) (T : TS) (i : Nat) : TS := bif Nat.blt i T.n then ⟨T.n, T.z, (i, v) :: T.l⟩ else T
def lfix (v : AV) : List (Nat × AV) → Nat → List (Nat × AV)
  | [], _ => []
  | p :: r, i => bif Nat.beq p.1 i then (p.1, v) :: r else p :: lfix v r i
def tfix (v : AV) (T : TS) (i : Nat) : TS := ⟨T.n, T.z, lfix v T.l i⟩
def numA : Nat → List AV → List (Nat × AV)
  | _, [] => []
  | i, x :: r => (i, x) :: numA (i + 1) r
inductive Res where
  | fin (v : AV) (M : List Blk)
  | st (x : Ex) (T : TS) (M : List Blk) (N : Nat)
abbrev Ans := Option Res
abbrev Sets := List (Nat × Blk)
inductive Tm where
  | fail
  | leaf (v : AV) (s : Sets)
  | br (b : Bool) (x y : Tm)
  | call (f : Nat) (as : List AV) (bs : List Blk) (k : AV → List Blk → Tm)
  | ext (f : Nat) (as : List AV) (k : AV → Tm)
def Tm.run (Γ : Nat → List AV → List Blk → (AV → List Blk → Ans) → Ans) (X : Nat → List AV → (AV → Ans) → Ans) : Tm → (AV → Sets → Ans) → Ans
  | .fail, _ => none
  | .leaf v s, K => K v s
  | .br b x y, K => bif b then x.run Γ X K else y.run Γ X K
  | .call f as bs k, K => Γ f as bs fun v M => (k v M).run Γ X K
  | .ext f as k, K => X f as fun v => (k v).run Γ X K
def undefA : AV := .tup []
def aint (k : IntKind) (n : Int) : AV := .v (.c (.d (.int k n)))
def abool (b : Bool) : AV := .v (.c (.d (.bool b)))
def aptr (b o : Nat) : AV := .v (.c (.ptr b o))
def gets {α : Type} (z : α) : List α → Nat → α
  | [], _ => z
  | x :: _, 0 => x
  | _ :: t, n + 1 => gets z t n
def sets {α : Type} (y : α) : List α → Nat → List α
  | [], _ => []
  | _ :: t, 0 => y :: t
  | x :: t, n + 1 => x :: sets y t n
def mget (M : List Blk) (b : Nat) : Blk := gets .dead M b
def mput : List Blk → Nat → Blk → List Blk
  | [], 0, y => [y]
  | [], n + 1, y => .dead :: mput [] n y
  | _ :: t, 0, y => y :: t
  | x :: t, n + 1, y => x :: mput t n y
def puts (M : List Blk) : Sets → List Blk
  | [] => M
  | (b, y) :: r => puts (mput M b y) r
def Blk.data : Blk → Option (List D)
  | .dead => none
  | .ro l => some l
  | .rw _ l => some l
  | .arr _ _ _ => none
  | .cell _ _ => none
def Blk.live : Blk → Bool
  | .dead => false
  | .ro [] => false
  | .ro (_ :: _) => true
  | .rw _ _ => true
  | .arr _ _ [] => false
  | .arr _ _ (_ :: _) => true
  | .cell _ _ => true
def Blk.wr : Blk → Bool
  | .rw _ _ => true
  | .arr (some _) _ (_ :: _) => true
  | .cell _ _ => true
  | _ => false
def inR (k : IntKind) (n : Int) : Bool :=
  match k with
  | .i8 => decide (-128 ≤ n) && decide (n ≤ 127)
  | .i16 => decide (-32768 ≤ n) && decide (n ≤ 32767)
  | .i32 => decide (-2147483648 ≤ n) && decide (n ≤ 2147483647)
  | .i64 => decide (-9223372036854775808 ≤ n) && decide (n ≤ 9223372036854775807)
  | .u8 => decide (0 ≤ n) && decide (n ≤ 255)
  | .u16 => decide (0 ≤ n) && decide (n ≤ 65535)
  | .u32 => decide (0 ≤ n) && decide (n ≤ 4294967295)
  | .u64 => decide (0 ≤ n) && decide (n ≤ 18446744073709551615)
def D.ok : D → Prop
  | .bool _ => True
  | .int k n => inR k n = true
  | .str s => s.size ≤ 9223372036854775807
def toD : Value → Option D
  | .bool b => some (.bool b)
  | .int k n => bif inR k n then some (.int k n) else none
  | .string s => bif Nat.ble s.size 65536 then some (.str s) else none
  | _ => none
def toDs : List Value → Option (List D)
  | [] => some []
  | x :: r => match toD x, toDs r with
    | some d, some l => some (d :: l)
    | _, _ => none
def ofValue : Value → Option AV
  | .bool b => some (abool b)
  | .int k n => bif inR k n then some (aint k n) else none
  | .string s => bif Nat.ble s.size 65536 then some (.v (.c (.d (.str s)))) else none
  | .slice none 0 0 => some (.v (.c .nilS))
  | .agg cs => match toDs cs.toList with | some l => some (.v (.agg l)) | none => none
  | _ => none
def wr (k : IntKind) (n : Int) : Int :=
  match k with
  | .i64 => (n + 9223372036854775808) % 18446744073709551616 - 9223372036854775808
  | .u64 => n % 18446744073709551616
  | .u8 => n % 256
  | k => k.wrap n
def splice (l : List D) (o : Nat) (r : List D) : List D := l.take o ++ (r ++ l.drop (o + r.length))
def cellsA : AV → Option (List D)
  | .v (.agg l) => some l
  | .v (.c (.d x)) => some [x]
  | _ => none
def D.same : D → D → Bool
  | .bool _, .bool _ => true
  | .int k _, .int k' _ => decide (k = k')
  | .str _, .str _ => true
  | _, _ => false
def fitsTo : List D → List D → Bool
  | [], [] => true
  | x :: r, y :: s => D.same x y && fitsTo r s
  | _, _ => false
def D.eq : D → D → Bool
  | .bool a, .bool b => a == b
  | .int _ a, .int _ b => a == b
  | .str a, .str b => a.data.toList == b.data.toList
  | _, _ => false
def eqAll : List D → List D → Bool
  | [], [] => true
  | x :: r, y :: s => D.eq x y && eqAll r s
  | _, _ => false
def intBin (op : BinOp) (k : IntKind) (a b : Int) : Tm :=
  match op with
  | .add => .leaf (aint k (wr k (a + b))) []
  | .sub => .leaf (aint k (wr k (a - b))) []
  | .mul => .leaf (aint k (wr k (a * b))) []
  | .quo => .br (b == 0) .fail (.leaf (aint k (wr k (a.tdiv b))) [])
  | .rem => .br (b == 0) .fail (.leaf (aint k (a.tmod b)) [])
  | .eql => .leaf (abool (a == b)) []
  | .neq => .leaf (abool (a != b)) []
  | .lss => .leaf (abool (decide (a < b))) []
  | .leq => .leaf (abool (decide (a ≤ b))) []
  | .gtr => .leaf (abool (decide (b < a))) []
  | .geq => .leaf (abool (decide (b ≤ a))) []
  | .and => .leaf (aint k (wr k ((BitVec.ofInt k.bits a &&& BitVec.ofInt k.bits b).toNat : Nat))) []
  | .or => .leaf (aint k (wr k ((BitVec.ofInt k.bits a ||| BitVec.ofInt k.bits b).toNat : Nat))) []
  | _ => .fail
def shiftBin (op : BinOp) (k : IntKind) (a b : Int) : Tm :=
  match op with
  | .shl => .br (decide (b < 0)) .fail (.leaf (aint k (wr k (a * 2 ^ (min b.toNat k.bits)))) [])
  | .shr => .br (decide (b < 0)) .fail (.leaf (aint k (a.fdiv (2 ^ (min b.toNat k.bits)))) [])
  | _ => .fail
section
variable (P : Program) (G : Nat → Option (List D)) (EQ : Tab)
def opdV (T : TS) : Operand → Option AV
  | .tmp t => some (tget T t)
  | .const v => match ofValue v with
    | some x => some x
    | none => some .any
  | .global _ => none
  | .func f => some (.v (.c (.fn f [])))
def opdVs (T : TS) : List Operand → Option (List AV)
  | [] => some []
  | x :: r => match opdV T x, opdVs T r with
    | some v, some l => some (v :: l)
    | _, _ => none
def partVs (T : TS) : List (Nat × Operand) → Option (List (Nat × List D))
  | [] => some []
  | p :: r => match opdV T p.2, partVs T r with
    | some v, some l => match cellsA v with
      | some cs => some ((p.1, cs) :: l)
      | none => none
    | _, _ => none
def zeroD (t : TypeId) : Option (List D) :=
  match P.info? t with
  | some i => match i.zero with
    | some z => toDs z.cells.toList
    | none => none
  | none => none
def sizeD (t : TypeId) : Option Nat :=
  match P.info? t with
  | some i => some i.size
  | none => none
def aggD (t : TypeId) : Option Bool :=
  match P.underlying t with
  | some (.struct _) => some true
  | some (.array _ _) => some true
  | some _ => some false
  | none => none
def fillD (place : Nat → Option (Nat × Nat)) (cells : List D) : List (Nat × List D) → Option (List D)
  | [] => some cells
  | p :: r => match place p.1 with
    | none => none
    | some q =>
      bif (p.2.length == q.2) && Nat.ble (q.1 + p.2.length) cells.length then fillD place (splice cells q.1 p.2) r else none
def fieldPlaces : List Field → Option (List (Nat × Nat))
  | [] => some []
  | f :: r => match sizeD P f.type, fieldPlaces r with
    | some s, some l => some ((f.offset, s) :: l)
    | _, _ => none
def partD (t : TypeId) (l : List D) (o : Nat) : Option V :=
  match aggD P t, sizeD P t with
  | some true, some n => bif ((l.drop o).take n).length == n then some (.agg ((l.drop o).take n)) else none
  | some false, some _ => match l.drop o with
    | x :: _ => some (.c (.d x))
    | [] => none
  | _, _ => none
def leafO : Option V → Tm
  | some v => .leaf (.v v) []
  | none => .fail
def evBin (op : BinOp) (t : TypeId) (x y : AV) : Tm :=
  match x, y with
  | .v (.c (.d (.int k a))), .v (.c (.d (.int k' b))) =>
    match op with
    | .shl => shiftBin .shl k a b
    | .shr => shiftBin .shr k a b
    | op => bif decide (k = k') then intBin op k a b else .fail
  | .v (.c (.d (.bool a))), .v (.c (.d (.bool b))) =>
    match op, P.underlying t with
    | .eql, some .bool => .leaf (abool (a == b)) []
    | .neq, some .bool => .leaf (abool (!(a == b))) []
    | _, _ => .fail
  | .v (.c (.d (.str a))), .v (.c (.d (.str b))) =>
    match op with
    | .eql => .leaf (abool (a.data.toList == b.data.toList)) []
    | .neq => .leaf (abool (!(a.data.toList == b.data.toList))) []
    | _ => .fail
  | .v (.agg a), .v (.agg b) =>
    match zeroD P t with
    | some z => bif EQ.eq.contains t && (fitsTo z a && fitsTo z b) then
        match op with
        | .eql => .leaf (abool (eqAll a b)) []
        | .neq => .leaf (abool (!(eqAll a b))) []
        | _ => .fail
      else .fail
    | none => .fail
  | _, _ => .fail
def passArgs (M : List Blk) : List AV → Nat → Option (List AV × List Blk × List (Nat × Nat))
  | [], _ => some ([], [], [])
  | x :: r, j => match x with
    | .v (.c (.slice b o n e)) => match (mget M b).data, passArgs M r (j + 1) with
      | some l, some q => some (.v (.c (.slice j o n e)) :: q.1, .ro l :: q.2.1, q.2.2)
      | _, _ => none
    | .v (.c (.aslice b k)) => match mget M b, passArgs M r (j + 1) with
      | .arr _ τ xs, some q => some (.v (.c (.aslice j none)) :: q.1, .arr none τ (takeK k xs) :: q.2.1, q.2.2)
      | _, _ => none
    | .v (.c (.eptr _ _ _)) => none
    | .v (.c (.fn f caps)) => match caps with
      | [] => match passArgs M r j with
        | some q => some (.v (.c (.fn f [])) :: q.1, q.2)
        | none => none
      | [c] => match mget M c, passArgs M r (j + 1) with
        | .rw t l, some q => some (.v (.c (.fn f [j])) :: q.1, .rw t l :: q.2.1, (c, j) :: q.2.2)
        | _, _ => none
      | [c, c'] => match mget M c, mget M c', passArgs M r (j + 2) with
        | .rw t l, .rw t' l', some q => some (.v (.c (.fn f [j, j + 1])) :: q.1, .rw t l :: .rw t' l' :: q.2.1, (c, j) :: (c', j + 1) :: q.2.2)
        | _, _, _ => none
      | _ => none
    | .v (.c (.ptr b o)) => match o with
      | 0 => match mget M b, passArgs M r (j + 1) with
        | .rw t l, some q => some (.v (.c (.ptr j 0)) :: q.1, .rw t l :: q.2.1, (b, j) :: q.2.2)
        | _, _ => none
      | _ + 1 => none
    | .v (.c (.d x)) => match passArgs M r j with
      | some q => some (.v (.c (.d x)) :: q.1, q.2)
      | none => none
    | .v (.c .nilS) => match passArgs M r j with
      | some q => some (.v (.c .nilS) :: q.1, q.2)
      | none => none
    | .v (.agg l) => match passArgs M r j with
      | some q => some (.v (.agg l) :: q.1, q.2)
      | none => none
    | .tup _ => none
    | .any => none
def backSets (M' : List Blk) : List (Nat × Nat) → Option Sets
  | [] => some []
  | p :: r => match mget M' p.2, backSets M' r with
    | .rw t l, some s => some ((p.1, .rw t l) :: s)
    | _, _ => none
def distinctFst : List (Nat × Nat) → Bool
  | [] => true
  | p :: r => !(r.any fun x => x.1 == p.1) && distinctFst r
def dataV : V → Bool
  | .c (.d _) => true
  | .c .nilS => true
  | .agg _ => true
  | _ => false
def backVal (M' : List Blk) (j N : Nat) : AV → Option (AV × Sets)
  | .v x => match x with
    | .c (.slice b o n e) => bif Nat.ble j b then (match mget M' b with | .rw t l => some (.v (.c (.slice N o n e)), [(N, .rw t l)]) | _ => none) else none
    | .c (.aslice b none) => bif Nat.ble j b then (match mget M' b with | .arr (some t) τ xs => some (.v (.c (.aslice N none)), [(N, .arr (some t) τ xs)]) | _ => none) else none
    | .c (.fn f [b]) => bif Nat.ble j b then (match mget M' b with | .rw t l => some (.v (.c (.fn f [N])), [(N, .rw t l)]) | _ => none) else none
    | x => bif dataV x then some (.v x, []) else none
  | .any => none
  | .tup [] => some (.tup [], [])
  | .tup (x :: r) => bif r.all dataV then (match x with
    | .c (.slice b o n e) => bif Nat.ble j b then (match mget M' b with | .rw t l => some (.tup (.c (.slice N o n e) :: r), [(N, .rw t l)]) | _ => none) else none
    | .c (.aslice b none) => bif Nat.ble j b then (match mget M' b with | .arr (some t) τ xs => some (.tup (.c (.aslice N none) :: r), [(N, .arr (some t) τ xs)]) | _ => none) else none
    | x => bif dataV x then some (.tup (x :: r), []) else none) else (match r with
    | [.c (.aslice b none), y] => bif dataV x && (dataV y && Nat.ble j b) then (match mget M' b with | .arr (some t) τ xs => some (.tup [x, .c (.aslice N none), y], [(N, .arr (some t) τ xs)]) | _ => none) else none
    | _ => none)
def sliceRefs : List AV → List Nat
  | [] => []
  | .v (.c (.slice b _ _ _)) :: r => b :: sliceRefs r
  | .v (.c (.aslice b _)) :: r => b :: sliceRefs r
  | _ :: r => sliceRefs r
def evCall (f : Nat) (caps : List Nat) (args : List AV) (M : List Blk) (N : Nat) : Tm :=
  match passArgs M (args ++ caps.map fun c => aptr c 0) 0 with
  | none => .fail
  | some q =>
    bif distinctFst q.2.2 && (sliceRefs (args ++ caps.map fun c => aptr c 0)).all (fun b => !(q.2.2.any fun p => p.1 == b)) then
      .call f q.1 q.2.1 fun v M' => match backSets M' q.2.2, backVal M' q.2.1.length N v with
        | some s, some p => .leaf p.1 (s ++ p.2)
        | _, _ => .fail
    else .fail
def plainArgs : List AV → Bool
  | [] => true
  | .v (.c (.d _)) :: r => plainArgs r
  | .v (.agg _) :: r => plainArgs r
  | _ => false
def maxL (k : IntKind) (x : Int) : List AV → Option Int
  | [] => some x
  | .v (.c (.d (.int k' y))) :: r => bif decide (k' = k) then maxL k (if y > x then y else x) r else none
  | _ => none
def minL (k : IntKind) (x : Int) : List AV → Option Int
  | [] => some x
  | .v (.c (.d (.int k' y))) :: r => bif decide (k' = k) then minL k (if y < x then y else x) r else none
  | _ => none
def roomD : Nat := 1048576
def srcD (M : List Blk) (size : Nat) : AV → Option (Nat × List D)
  | .v (.c (.slice b o n es)) => match (mget M b).data with
    | some l => bif (es == size) && (((l.drop o).take (n * es)).length == n * es) then some (n, (l.drop o).take (n * es)) else none
    | none => none
  | .v (.c .nilS) => some (0, [])
  | _ => none
def baseD (M : List Blk) (size e : Nat) : AV → Option (Nat × List D × Sets)
  | .v (.c .nilS) => some (0, [], [])
  | .v (.c (.slice b o n es)) => match mget M b with
    | .rw ty l => bif (o == 0) && ((es == size) && ((ty == e) && (l.length == n * es))) then some (n, l, [(b, .dead)]) else none
    | _ => none
  | _ => none
def srcA (M : List Blk) (size : Nat) (τ : ET) : AV → Option (List τ.T)
  | .v (.c (.aslice b k)) => match mget M b with
    | .arr _ υ xs => castL υ τ (takeK k xs)
    | _ => none
  | .v (.c (.slice b o n es)) => match (mget M b).data with
    | some l => bif (es == size) && (size == τ.len) then τ.ofs n ((l.drop o).take (n * es)) else none
    | none => none
  | .v (.c .nilS) => some []
  | _ => none
def baseA (M : List Blk) (e : Nat) (τ : ET) : AV → Option (List τ.T × Sets)
  | .v (.c .nilS) => some ([], [])
  | .v (.c (.aslice b none)) => match mget M b with
    | .arr (some ty) υ xs => bif ty == e then (match castL υ τ xs with | some ys => some (ys, [(b, .dead)]) | none => none) else none
    | _ => none
  | _ => none
def evAppendA (e : TypeId) (τ : ET) (s x : AV) (M : List Blk) (N : Nat) : Tm :=
  match P.info? e with
  | none => .fail
  | some i => match srcA M i.size τ x, baseA M e τ s, zeroD P e with
    | some ys, some base, some z =>
      .br (ys.length == 0) (.leaf s [])
        (.br (Nat.blt 0 i.size && ((i.size == τ.len) && ((z.length == i.size) && (Nat.ble (base.1.length + ys.length) roomD && Nat.ble i.bytes 4096))))
          (.leaf (.v (.c (.aslice N none))) (base.2 ++ [(N, .arr (some e) τ (base.1 ++ ys))])) .fail)
    | _, _, _ => .fail
def evAppend (t : TypeId) (s x : AV) (M : List Blk) (N : Nat) : Tm :=
  match P.underlying t with
  | some (.slice e) => match P.info? e with
    | none => .fail
    | some i => match srcD M i.size x, baseD M i.size e s, zeroD P e with
      | some src, some base, some z =>
        .br (src.1 == 0) (.leaf s [])
          (.br (Nat.blt 0 i.size && ((z.length == i.size) && (Nat.ble (base.1 + src.1) roomD && Nat.ble i.bytes 4096)))
            (.leaf (.v (.c (.slice N 0 (base.1 + src.1) i.size))) (base.2.2 ++ [(N, .rw e (base.2.1 ++ src.2))])) .fail)
      | _, _, _ => .fail
  | _ => .fail
def evBuiltin (b : Builtin) (ts : List TypeId) (args : List AV) (M : List Blk) (N : Nat) : Tm :=
  match b, ts, args with
  | .len, [t], [x] => match P.underlying t, x with
    | some .string, .v (.c (.d (.str s))) => .leaf (aint .i64 s.size) []
    | some (.slice _), .v (.c (.slice _ _ n _)) => .leaf (aint .i64 n) []
    | some (.slice _), .v (.c .nilS) => .leaf (aint .i64 0) []
    | some (.slice _), .v (.c (.aslice b k)) => match mget M b with
      | .arr _ _ xs => .leaf (aint .i64 (lenK k xs : Nat)) []
      | _ => .fail
    | some (.array n _), _ => .br (Nat.ble n roomD) (.leaf (aint .i64 n) []) .fail
    | _, _ => .fail
  | .max, _, .v (.c (.d (.int k x))) :: r => match maxL k x r with | some y => .leaf (aint k y) [] | none => .fail
  | .min, _, .v (.c (.d (.int k x))) :: r => match minL k x r with | some y => .leaf (aint k y) [] | none => .fail
  | .append, [t, t'], [s, x] => bif t == t' then (match P.underlying t with
    | some (.slice e) => match EQ.mks e with
      | some τ => evAppendA P e τ s x M N
      | none => evAppend P t s x M N
    | _ => .fail) else .fail
  | _, _, _ => .fail
def boundO (T : TS) (dflt : Nat) : Option Operand → Option Nat
  | none => some dflt
  | some x => match opdV T x with
    | some (.v (.c (.d (.int _ i)))) => bif decide (0 ≤ i) then some i.toNat else none
    | _ => none
def capsOf : List AV → Option (List Nat)
  | [] => some []
  | .v (.c (.ptr b 0)) :: r => match capsOf r with | some l => some (b :: l) | none => none
  | _ => none
def byteAt (s : ByteArray) (j : Int) : Int := ((s.data.toList.getD j.toNat 0).toNat : Nat)
def opR (o : Op) (T : TS) (M : List Blk) (N : Nat) : Tm :=
  match o with
  | .move x => match opdV T x with | some a => .leaf a [] | none => .fail
  | .assign x => match opdV T x with | some a => .leaf a [] | none => .fail
  | .pick c a b => match opdV T c, opdV T a, opdV T b with
    | some (.v (.c (.d (.bool x)))), some va, some vb => .br x (.leaf va []) (.leaf vb [])
    | _, _, _ => .fail
  | .alloc t => match zeroD P t with
    | some l => .leaf (aptr N 0) [(N, .rw t l)]
    | none => match P.underlying t, P.info? t with
      | some (.slice _), some i => match i.zero with
        | some (.slice none 0 0) => .leaf (aptr N 0) [(N, .cell t .nilS)]
        | _ => .fail
      | _, _ => .fail
  | .box t x => match opdV T x with
    | some v => match cellsA v with
      | some l => .leaf (aptr N 0) [(N, .rw t l)]
      | none => .fail
    | none => .fail
  | .build t ps => match partVs T ps.toList, zeroD P t, P.underlying t with
    | some l, some z, some (.struct fs) => match fieldPlaces P fs.toList with
      | some pl => match fillD (fun i => pl[i]?) z l with
        | some cs => .leaf (.v (.agg cs)) []
        | none => .fail
      | none => .fail
    | some l, some z, some (.array _ e) => match sizeD P e with
      | some s => match fillD (fun i => some (i * s, s)) z l with
        | some cs => .leaf (.v (.agg cs)) []
        | none => .fail
      | none => .fail
    | _, _, _ => .fail
  | .buildSlice t len ps => match partVs T ps.toList, P.underlying t with
    | some l, some (.slice e) => match zeroD P e, sizeD P e with
      | some z, some s => bif (z.length == s) && (Nat.ble (len * s) 16777216 && Nat.ble len roomD) then
          match fillD (fun i => some (i * s, s)) ((List.replicate len z).flatten) l with
          | some cs => match EQ.lit e with
            | none => .leaf (.v (.c (.slice N 0 len s))) [(N, .rw e cs)]
            | some τ => match bif s == τ.len then τ.ofs len cs else none with
              | some xs => .leaf (.v (.c (.aslice N none))) [(N, .arr (some e) τ xs)]
              | none => .fail
          | none => .fail
        else .fail
      | _, _ => .fail
    | _, _ => .fail
  | .load t a => match a with
    | .global g => match G g with
      | some l => leafO (partD P t l 0)
      | none => .fail
    | a => match opdV T a with
      | some (.v (.c (.ptr b o))) => match mget M b with
        | .cell _ c => match o, aggD P t with
          | 0, some false => .leaf (.v (.c c)) []
          | _, _ => .fail
        | y => match y.data with
          | some l => leafO (partD P t l o)
          | none => .fail
      | some (.v (.c (.eptr b i o))) => match mget M b with
        | .arr _ τ xs => leafO (partD P t (τ.cells (xs.getD i τ.z)) o)
        | _ => .fail
      | _ => .fail
  | .store t a x => match opdV T a, opdV T x with
    | some (.v (.c (.ptr b o))), some v => match mget M b with
      | .cell ty _ => match o, v, sizeD P t with
        | 0, .v (.c .nilS), some 1 => .leaf undefA [(b, .cell ty .nilS)]
        | 0, .v (.c (.aslice c k)), some 1 => .leaf undefA [(b, .cell ty (.aslice c k))]
        | _, _, _ => .fail
      | .rw ty l => match cellsA v, sizeD P t with
        | some cs, some n => bif (cs.length == n) && Nat.ble (o + n) l.length then .leaf undefA [(b, .rw ty (splice l o cs))] else .fail
        | _, _ => .fail
      | _ => .fail
    | some (.v (.c (.eptr b i o))), some v => match mget M b with
      | .arr (some ty) τ xs => match cellsA v, sizeD P t with
        | some cs, some n => match bif (cs.length == n) && Nat.ble (o + n) τ.len then τ.of (splice (τ.cells (xs.getD i τ.z)) o cs) else none with
          | some y => .leaf undefA [(b, .arr (some ty) τ (xs.set i y))]
          | none => .fail
        | _, _ => .fail
      | _ => .fail
    | _, _ => .fail
  | .nilCheck x => match opdV T x with
    | some (.v (.c (.ptr b o))) => .leaf (aptr b o) []
    | some (.v (.c (.eptr b i o))) => .leaf (.v (.c (.eptr b i o))) []
    | some (.v (.c (.fn f l))) => .leaf (.v (.c (.fn f l))) []
    | _ => .fail
  | .binOp op t x y _ => match opdV T x, opdV T y with
    | some a, some b => evBin P EQ op t a b
    | _, _ => .fail
  | .unOp op _ x => match op, opdV T x with
    | .neg, some (.v (.c (.d (.int k n)))) => .leaf (aint k (wr k (0 - n))) []
    | .not, some (.v (.c (.d (.bool b)))) => .leaf (abool (!b)) []
    | _, _ => .fail
  | .convert s d x => match P.underlying s, P.underlying d, opdV T x with
    | some _, some (.int k), some (.v (.c (.d (.int _ n)))) => .leaf (aint k (wr k n)) []
    | _, _, _ => .fail
  | .makeFunc fn first caps => match fn, first.toList, opdVs T caps.toList with
    | .func f, [], some l => match capsOf l with
      | some cs => .leaf (.v (.c (.fn f cs))) []
      | none => .fail
    | _, _, _ => .fail
  | .makeSlice t l c => match P.underlying t, opdV T l, opdV T c with
    | some (.slice e), some (.v (.c (.d (.int _ n)))), some (.v (.c (.d (.int _ n')))) => match zeroD P e, P.info? e with
      | some z, some i => .br (decide (n = n') && (decide (0 ≤ n) && (decide (n ≤ 1048576) && ((z.length == i.size) && (Nat.blt 0 i.size && Nat.ble i.bytes 4096)))))
          (match EQ.mks e with
           | none => .leaf (.v (.c (.slice N 0 n.toNat i.size))) [(N, .rw e ((List.replicate n.toNat z).flatten))]
           | some τ => match bif i.size == τ.len then τ.of z else none with
             | some x => .leaf (.v (.c (.aslice N none))) [(N, .arr (some e) τ (List.replicate n.toNat x))]
             | none => .fail) .fail
      | _, _ => .fail
    | _, _, _ => .fail
  | .slice t x lo hi mx => match mx, P.underlying t, opdV T x with
    | none, some (.slice e), some (.v (.c (.slice b o n s))) => match sizeD P e, boundO T 0 lo, boundO T n hi with
      | some s', some l, some h =>
        bif (s == s') && (Nat.ble l h && (Nat.ble h n && Nat.blt l n)) then .leaf (.v (.c (.slice b (o + l * s) (h - l) s))) [] else .fail
      | _, _, _ => .fail
    | none, some (.slice e), some (.v (.c (.aslice b none))) => match sizeD P e, lo, boundO T 0 hi, mget M b with
      | some s, none, some h, .arr _ τ xs => bif s == τ.len then .br (Nat.blt 0 h && Nat.ble h xs.length) (.leaf (.v (.c (.aslice b (some h)))) []) .fail else .fail
      | _, _, _, _ => .fail
    | none, some (.array n e), some (.v (.c (.ptr b o))) => match sizeD P e, lo, hi, mget M b with
      | some s, none, none, .rw _ l => bif Nat.blt 0 n && ((o == 0) && ((l.length == n * s) && Nat.ble n roomD)) then .leaf (.v (.c (.slice b o n s))) [] else .fail
      | _, _, _, _ => .fail
    | _, _, _ => .fail
  | .fieldAddr s x f => match P.underlying s, opdV T x with
    | some (.struct fs), some (.v (.c (.ptr b o))) => match fs[f]? with
      | some fd => match sizeD P fd.type with
        | some (_ + 1) => .leaf (aptr b (o + fd.offset)) []
        | _ => .fail
      | none => .fail
    | some (.struct fs), some (.v (.c (.eptr b i o))) => match fs[f]? with
      | some fd => match sizeD P fd.type with
        | some (_ + 1) => .leaf (.v (.c (.eptr b i (o + fd.offset)))) []
        | _ => .fail
      | none => .fail
    | _, _ => .fail
  | .field t x f => match P.underlying t, opdV T x with
    | some (.struct fs), some (.v (.agg l)) => match fs[f]? with
      | some fd => leafO (partD P fd.type l fd.offset)
      | none => .fail
    | _, _ => .fail
  | .indexAddr t x i => match P.underlying t, opdV T x, opdV T i with
    | some (.slice e), some (.v (.c (.slice b o n _))), some (.v (.c (.d (.int _ j)))) => match sizeD P e with
      | some s => .br (decide (0 ≤ j) && decide (j < (n : Int))) (.leaf (aptr b (o + j.toNat * s)) []) .fail
      | none => .fail
    | some (.slice e), some (.v (.c (.aslice b k))), some (.v (.c (.d (.int _ j)))) => match sizeD P e, mget M b with
      | some s, .arr _ τ xs => bif s == τ.len then .br (decide (0 ≤ j) && decide (j < ((lenK k xs : Nat) : Int))) (.leaf (.v (.c (.eptr b j.toNat 0))) []) .fail else .fail
      | _, _ => .fail
    | some (.array n e), some (.v (.c (.ptr b o))), some (.v (.c (.d (.int _ j)))) => match sizeD P e with
      | some s => .br (decide (0 ≤ j) && decide (j < (n : Int))) (.leaf (aptr b (o + j.toNat * s)) []) .fail
      | none => .fail
    | _, _, _ => .fail
  | .index t x i => match P.underlying t, opdV T x, opdV T i with
    | some (.array n e), some (.v (.agg l)), some (.v (.c (.d (.int _ j)))) => match sizeD P e with
      | some s => .br (decide (0 ≤ j) && decide (j < (n : Int))) (leafO (partD P e l (j.toNat * s))) .fail
      | none => .fail
    | some .string, some (.v (.c (.d (.str s)))), some (.v (.c (.d (.int _ j)))) =>
      .br (decide (0 ≤ j) && decide (j < (s.size : Int))) (.leaf (aint .u8 (byteAt s j)) []) .fail
    | _, _, _ => .fail
  | .extract x i => match opdV T x with
    | some (.tup l) => match l[i]? with
      | some v => .leaf (.v v) []
      | none => .fail
    | _ => .fail
  | .call c => match c.callee with
    | .builtin b => match opdVs T c.args.toList with
      | some l => evBuiltin P EQ b c.argTypes.toList l M N
      | none => .fail
    | .value g => match opdV T g, opdVs T c.args.toList with
      | some (.v (.c (.fn f caps))), some l => match P.funcs[f]? with
        | some fn => match fn.body with
          | some _ => evCall f caps l M N
          | none => match caps with
            | [] => bif plainArgs l then .ext f l fun v => .leaf v [] else .fail
            | _ => .fail
        | none => .fail
      | _, _ => .fail
    | _ => .fail
  | _ => .fail
def isNil : Op → Bool
  | .assign (.const (.slice none 0 0)) => true
  | .move (.const (.slice none 0 0)) => true
  | _ => false
def nilE (t : TypeId) : Option (Nat × ET) :=
  match P.underlying t with
  | some (.slice e) => match EQ.mks e with
    | some τ => some (e, τ)
    | none => none
  | _ => none
def opO (o : Oper) (T : TS) (M : List Blk) (N : Nat) : Tm :=
  bif isNil o.op then (match nilE P EQ o.type with
    | some p => .leaf (.v (.c (.aslice N none))) [(N, .arr (some p.1) p.2 [])]
    | none => opR P G EQ o.op T M N)
  else opR P G EQ o.op T M N
def refsA : AV → List Nat
  | .v (.c (.ptr b _)) => [b]
  | .v (.c (.slice b _ _ _)) => [b]
  | .v (.c (.aslice b _)) => [b]
  | .v (.c (.eptr b _ _)) => [b]
  | .v (.c (.fn _ l)) => l
  | _ => []
def refsO (T : TS) (x : Operand) : List Nat :=
  match opdV T x with
  | some v => refsA v
  | none => []
def readsOf (o : Op) (T : TS) : List Nat :=
  match o with
  | .load _ a => refsO T a
  | .store _ a _ => refsO T a
  | .slice _ x _ _ _ => refsO T x
  | .indexAddr _ x _ => refsO T x
  | .call c => (match c.callee with | .value g => refsO T g | _ => []) ++ c.args.toList.flatMap (refsO T)
  | _ => []
def looksO : List Operand → List Tmp
  | [] => []
  | .tmp t :: r => t :: looksO r
  | _ :: r => looksO r
structure Tr where
  did : Bool
  val : AV
  ss : Sets
  rd : List Nat
def Tr.skip : Tr := ⟨false, undefA, [], []⟩
def nextN (dr : Bool) (N : Nat) (s : Sets) : Nat := bif dr || s.any (fun x => x.1 == N) then N + 1 else N
def dstOf (ops : List Oper) (j : Nat) : Option Tmp := (ops[j]?).bind (·.dst)
def setT (T : TS) (d : Option Tmp) (v : AV) : TS :=
  match d with
  | some t => tset v T t
  | none => T
def befores : List Oper → List Nat → List Nat
  | [], acc => acc
  | o :: r, acc => befores r (acc ++ [o.after.toList.foldl (fun s e => bif Region.binds .any e then s ||| (2 ^ e.on) ||| acc.getD e.on 0 else s) 0])
def edgesBack : List Oper → Nat → Bool
  | [], _ => true
  | o :: r, i => o.after.toList.all (fun e => !(Region.binds .any e) || Nat.blt e.on i) && edgesBack r (i + 1)
def looksOf (ops : List Oper) (o : Oper) : List Tmp :=
  looksO o.op.operands.toList ++ (match o.guard with
    | some (g, _) => (dstOf ops g).toList
    | none => [])
def memD (l : List Nat) (x : Nat) : Bool := l.any (· == x)
def meetsL (l r : List Nat) : Bool := l.any (memD r)
def freeT (ops : List Oper) (x y : Oper) : Bool :=
  (match x.dst with
   | some d => !(memD (looksOf ops y) d) && (match y.dst with | some d' => !(d == d') | none => true)
   | none => true) &&
  (match y.dst with
   | some d => !(memD (looksOf ops x) d)
   | none => true)
def freeM (x y : Tr) : Bool :=
  !(meetsL (x.ss.map (·.1)) (y.rd ++ y.ss.map (·.1))) && !(meetsL (y.ss.map (·.1)) x.rd)
def pairsOk (ops : List Oper) (bef : List Nat) (tr : List Tr) : Bool :=
  (List.range ops.length).all fun j => (List.range j).all fun i =>
    (bef.getD j 0).testBit i ||
    (match ops[i]?, ops[j]?, tr[i]?, tr[j]? with
     | some x, some y, some t, some u => freeT ops x y && freeM t u
     | _, _, _, _ => false)
def pairsStill (ops : List Oper) (bef : List Nat) : Bool :=
  (List.range ops.length).all fun j => (List.range j).all fun i =>
    (bef.getD j 0).testBit i ||
    (match ops[i]?, ops[j]? with
     | some x, some y => freeT ops x y
     | _, _ => false)
def quietT : List Tr → Bool
  | [] => true
  | u :: r => match u.ss with
    | [] => quietT r
    | _ :: _ => false
def drawOk (ops : List Oper) (tr : List Tr) : Bool :=
  edgesBack ops 0 && ((quietT tr && pairsStill ops (befores ops [])) || pairsOk ops (befores ops []) tr)
def noNew : Nat → List Tr → Bool
  | _, [] => true
  | N, u :: r => !(u.ss.any fun p => p.1 == N) && noNew (N + 1) r
def endN (N N' : Nat) (tr : List Tr) : Nat := bif noNew N tr then N else N'
inductive LT where
  | no
  | st (x : Ex) (T : TS) (M : List Blk) (N : Nat)
  | br (b : Bool) (x y : LT)
def LT.run : LT → (Ex → TS → List Blk → Nat → Ans) → Ans
  | .no, _ => none
  | .st x T M N, K => K x T M N
  | .br b x y, K => bif b then x.run K else y.run K
def loopKey : Code → Nat
  | .region id _ _ => id
  | .seq a _ => loopKey a
  | .block _ b => loopKey b
  | .loop b => loopKey b
  | _ => 0
def loopsIn : Code → List Code
  | .seq a b => loopsIn a ++ loopsIn b
  | .cond _ a b => loopsIn a ++ loopsIn b
  | .block _ b => loopsIn b
  | .loop b => b :: loopsIn b
  | _ => []
def resD (T : TS) (M : List Blk) : ResultVar → Option V
  | .tmp t => match tget T t with
    | .v x => some x
    | _ => none
  | .cell a t => match tget T a with
    | .v (.c (.ptr b o)) => match mget M b with
      | .cell _ c => match o, aggD P t with
        | 0, some false => some (.c c)
        | _, _ => none
      | y => match y.data with
        | some l => partD P t l o
        | none => none
    | _ => none
def resDs (T : TS) (M : List Blk) : List ResultVar → Option (List V)
  | [] => some []
  | x :: r => match resD P T M x, resDs T M r with
    | some v, some l => some (v :: l)
    | _, _ => none
def tupD : List V → AV
  | [x] => .v x
  | l => .tup l
def frameT (args : List AV) (k : Nat) : TS := ⟨args.length + k, undefA, numA 0 args⟩
section
variable (Γ : Nat → List AV → List Blk → (AV → List Blk → Ans) → Ans) (X : Nat → List AV → (AV → Ans) → Ans) (Λ : Nat → TS → List Blk → Nat → LT)
def evOps (dr : Bool) (ops : List Oper) : List Oper → TS → List Blk → Nat → List Tr → (TS → List Blk → Nat → List Tr → Ans) → Ans
  | [], T, M, N, tr, K => K T M N tr
  | o :: r, T, M, N, tr, K =>
    match o.guard with
    | none => (opO P G EQ o T M N).run Γ X fun v s => evOps dr ops r (setT T o.dst v) (puts M s) (nextN dr N s) (⟨true, v, s, readsOf o.op T⟩ :: tr) K
    | some g => match dstOf ops g.1 with
      | none => none
      | some d => match tget T d with
        | .v (.c (.d (.bool b))) =>
          bif b then
            (match g.2 with
             | true => (opO P G EQ o (tfix (abool true) T d) M N).run Γ X fun v s => evOps dr ops r (setT (tfix (abool true) T d) o.dst v) (puts M s) (nextN dr N s) (⟨true, v, s, readsOf o.op T⟩ :: tr) K
             | false => evOps dr ops r (setT (tfix (abool true) T d) o.dst undefA) M (nextN dr N []) (.skip :: tr) K)
          else
            (match g.2 with
             | false => (opO P G EQ o (tfix (abool false) T d) M N).run Γ X fun v s => evOps dr ops r (setT (tfix (abool false) T d) o.dst v) (puts M s) (nextN dr N s) (⟨true, v, s, readsOf o.op T⟩ :: tr) K
             | true => evOps dr ops r (setT (tfix (abool false) T d) o.dst undefA) M (nextN dr N []) (.skip :: tr) K)
        | .tup [] => evOps dr ops r (setT T o.dst undefA) M (nextN dr N []) (.skip :: tr) K
        | _ => none
def evCode : Nat → Code → TS → List Blk → Nat → (Ex → TS → List Blk → Nat → Ans) → Ans
  | 0, _, _, _, _, _ => none
  | n + 1, c, T, M, N0, K =>
    match c with
    | .skip => K .normal T M N0
    | .region _ ops false => evOps P G EQ Γ X false ops.toList ops.toList T M N0 [] fun T M N _ => K .normal T M N
    | .region _ ops true => evOps P G EQ Γ X true ops.toList ops.toList T M N0 [] fun T M N tr =>
        bif drawOk ops.toList tr.reverse then K .normal T M (endN N0 N tr.reverse) else none
    | .seq a b => evCode n a T M N0 fun x T M N => match x with
      | .normal => evCode n b T M N K
      | x => K x T M N
    | .cond c a b => match opdV T c with
      | some (.v (.c (.d (.bool x)))) => bif x then evCode n a T M N0 K else evCode n b T M N0 K
      | _ => none
    | .block id b => evCode n b T M N0 fun x T M N => match x with
      | .exit id' => bif id' == id then K .normal T M N else K (.exit id') T M N
      | x => K x T M N
    | .loop b => match Λ (loopKey b) T M N0 with
      | .no => evCode n b T M N0 fun x T M N => match x with
        | .normal => evCode n (.loop b) T M N K
        | x => K x T M N
      | t => t.run K
    | .exit id => K (.exit id) T M N0
    | .ret => K .ret T M N0
    | _ => none
def evFn (n f : Nat) (args : List AV) (M : List Blk) (K : AV → List Blk → Ans) : Ans :=
  match P.funcs[f]? with
  | none => none
  | some fn => match fn.body with
    | none => none
    | some c => evCode P G EQ Γ X Λ n c (frameT args (fn.ntmps - args.length)) M M.length fun x T M _ => match x with
      | .exit _ => none
      | _ => match resDs P T M fn.results.toList with
        | some l => K (tupD l) M
        | none => none
end
end
end Go.Ev

namespace Go.Ev
theorem wr_eq (k : IntKind) (n : Int) : wr k n = k.wrap n := by
  cases k
  case i64 => exact (IntKind.wrap_i64 n).symm
  case u64 => exact (IntKind.wrap_u64 n).symm
  case u8 => exact (IntKind.wrap_u8 n).symm
  all_goals rfl
theorem inR_iff {k : IntKind} {n : Int} : inR k n = true ↔ k.has n := by
  unfold IntKind.has
  cases k <;> simp only [inR, Bool.and_eq_true, decide_eq_true_eq] <;> rfl
theorem wr_ok (k : IntKind) (n : Int) : inR k (wr k n) = true := by
  rw [inR_iff, wr_eq]
  cases k <;> simp only [IntKind.has, IntKind.wrap, IntKind.min, IntKind.max, IntKind.bits, IntKind.signed] <;> simp <;> (try split) <;> omega
structure Loc where
  blk : Nat
  off : Nat
  size : Nat
  own : Bool
  n : Nat
  es : Nat
abbrev Sg := Nat → Option Loc
def Sg.le (σ τ : Sg) : Prop := ∀ b L, σ b = some L → τ b = some L
theorem Sg.le_refl (σ : Sg) : σ.le σ := fun _ _ h => h
theorem Sg.le_trans {σ τ υ : Sg} (h : σ.le τ) (k : τ.le υ) : σ.le υ := fun b L e => k b L (h b L e)
def PRel (σ : Sg) : List Nat → List Value → Prop
  | [], [] => True
  | c :: r, v :: s => (∃ L, σ c = some L ∧ v = .pointer (some ⟨L.blk, L.off, none⟩)) ∧ PRel σ r s
  | _, _ => False
def CRel (σ : Sg) : C → Value → Prop
  | .d x, v => v = x.val ∧ x.ok
  | .ptr b o, v => ∃ L, σ b = some L ∧ v = .pointer (some ⟨L.blk, L.off + o, none⟩)
  | .slice b o n e, v => ∃ L cap, σ b = some L ∧ v = .slice (some ⟨L.blk, L.off + o, none⟩) n cap ∧ n ≤ cap ∧ n ≤ maxLen ∧ (L.own = true → o = 0 → cap * e ≤ L.size ∧ cap ≤ maxLen)
  | .nilS, v => v = .slice none 0 0
  | .fn f caps, v => ∃ vs, v = .func (.func f) #[] vs ∧ PRel σ caps vs.toList
  | .aslice b k, v => ∃ L, σ b = some L ∧ match k with
    | none => (L.n = 0 ∧ v = .slice none 0 0) ∨ ∃ cap, v = .slice (some ⟨L.blk, L.off, none⟩) L.n cap ∧ L.n ≤ cap ∧ L.n ≤ maxLen ∧ (L.own = true → cap * L.es ≤ L.size ∧ cap ≤ maxLen ∧ (L.n = 0 → cap = 0))
    | some h => 0 < h ∧ h ≤ L.n ∧ ∃ cap, v = .slice (some ⟨L.blk, L.off, none⟩) h cap ∧ h ≤ cap ∧ h ≤ maxLen
  | .eptr b i o, v => ∃ L, σ b = some L ∧ v = .pointer (some ⟨L.blk, L.off + (i * L.es + o), none⟩) ∧ i < L.n
def VRel (σ : Sg) : V → Value → Prop
  | .c x, v => CRel σ x v
  | .agg l, v => v = .agg (l.map D.val).toArray ∧ ∀ d ∈ l, d.ok
def VRels (σ : Sg) : List V → List Value → Prop
  | [], [] => True
  | x :: r, v :: s => VRel σ x v ∧ VRels σ r s
  | _, _ => False
def AVRel (σ : Sg) : AV → Value → Prop
  | .v x, v => VRel σ x v
  | .tup l, v => ∃ vs, v = .tuple vs ∧ VRels σ l vs.toList
  | .any, _ => True
def AVRels (σ : Sg) : List AV → List Value → Prop
  | [], [] => True
  | x :: r, v :: s => AVRel σ x v ∧ AVRels σ r s
  | _, _ => False
theorem PRel.mono {σ τ : Sg} (h : σ.le τ) : ∀ {l : List Nat} {vs : List Value}, PRel σ l vs → PRel τ l vs
  | [], [], _ => trivial
  | _ :: _, _ :: _, ⟨⟨L, h1, h2⟩, h3⟩ => ⟨⟨L, h _ _ h1, h2⟩, PRel.mono h h3⟩
  | [], _ :: _, hh => hh.elim
  | _ :: _, [], hh => hh.elim
theorem CRel.mono {σ τ : Sg} (h : σ.le τ) : ∀ {x : C} {v : Value}, CRel σ x v → CRel τ x v
  | .d _, _, hh => hh
  | .ptr _ _, _, ⟨L, h1, h2⟩ => ⟨L, h _ _ h1, h2⟩
  | .slice _ _ _ _, _, ⟨L, cap, h1, h2⟩ => ⟨L, cap, h _ _ h1, h2⟩
  | .nilS, _, hh => hh
  | .fn _ _, _, ⟨vs, h1, h2⟩ => ⟨vs, h1, h2.mono h⟩
  | .aslice _ _, _, ⟨L, h1, h2⟩ => ⟨L, h _ _ h1, h2⟩
  | .eptr _ _ _, _, ⟨L, h1, h2⟩ => ⟨L, h _ _ h1, h2⟩
theorem VRel.mono {σ τ : Sg} (h : σ.le τ) : ∀ {x : V} {v : Value}, VRel σ x v → VRel τ x v
  | .c _, _, hh => CRel.mono h hh
  | .agg _, _, hh => hh
theorem VRels.mono {σ τ : Sg} (h : σ.le τ) : ∀ {x : List V} {v : List Value}, VRels σ x v → VRels τ x v
  | [], [], _ => trivial
  | _ :: _, _ :: _, ⟨h1, h2⟩ => ⟨VRel.mono h h1, VRels.mono h h2⟩
  | [], _ :: _, hh => hh.elim
  | _ :: _, [], hh => hh.elim
theorem AVRel.mono {σ τ : Sg} (h : σ.le τ) : ∀ {x : AV} {v : Value}, AVRel σ x v → AVRel τ x v
  | .v _, _, hh => VRel.mono h hh
  | .tup _, _, ⟨vs, h1, h2⟩ => ⟨vs, h1, h2.mono h⟩
  | .any, _, _ => trivial
theorem AVRels.mono {σ τ : Sg} (h : σ.le τ) : ∀ {x : List AV} {v : List Value}, AVRels σ x v → AVRels τ x v
  | [], [], _ => trivial
  | _ :: _, _ :: _, ⟨h1, h2⟩ => ⟨AVRel.mono h h1, AVRels.mono h h2⟩
  | [], _ :: _, hh => hh.elim
  | _ :: _, [], hh => hh.elim
theorem AVRels.length {σ : Sg} : ∀ {x : List AV} {v : List Value}, AVRels σ x v → x.length = v.length
  | [], [], _ => rfl
  | _ :: _, _ :: _, ⟨_, h2⟩ => by simp [AVRels.length h2]
  | [], _ :: _, hh => hh.elim
  | _ :: _, [], hh => hh.elim
theorem AVRels.append {σ : Sg} : ∀ {x y : List AV} {v u : List Value}, AVRels σ x v → AVRels σ y u → AVRels σ (x ++ y) (v ++ u)
  | [], _, [], _, _, h => h
  | _ :: _, _, _ :: _, _, ⟨h1, h2⟩, h => ⟨h1, AVRels.append h2 h⟩
  | [], _, _ :: _, _, hh, _ => hh.elim
  | _ :: _, _, [], _, hh, _ => hh.elim
theorem gets_eq {α : Type} (z : α) : ∀ (l : List α) (n : Nat), gets z l n = l.getD n z
  | [], _ => by simp [gets]
  | _ :: _, 0 => rfl
  | _ :: t, n + 1 => by simpa [gets] using gets_eq z t n
theorem tget_tset (y : AV) (T : TS) (n m : Nat) : tget (tset y T n) m = if m = n ∧ n < T.length then y else tget T m := by
  unfold tset TS.length
  by_cases h : n < T.n
  · rw [show Nat.blt n T.n = true from (by rw [Nat.blt_eq]; exact h), cond_true]
    simp only [tget, tfind, h, and_true]
    by_cases e : m = n
    · subst e; simp
    · have : Nat.beq n m = false := by
        cases hb : Nat.beq n m with
        | false => rfl
        | true => exact absurd (Nat.eq_of_beq_eq_true hb).symm e
      rw [this, cond_false, if_neg e]
  · have : Nat.blt n T.n = false := by
      cases hb : Nat.blt n T.n with
      | false => rfl
      | true => rw [Nat.blt_eq] at hb; exact absurd hb h
    rw [this, cond_false, if_neg (fun hh => h hh.2)]
theorem lfix_same {z v : AV} : ∀ {l : List (Nat × AV)} {i : Nat}, tfind z l i = v → lfix v l i = l
  | [], _, _ => rfl
  | p :: r, i, h => by
    rw [tfind] at h
    rw [lfix]
    cases hb : Nat.beq p.1 i with
    | true => rw [hb, cond_true] at h; rw [cond_true, ← h]
    | false => rw [hb, cond_false] at h; rw [cond_false, lfix_same h]
theorem tfix_same {v : AV} {T : TS} {i : Nat} (h : tget T i = v) : tfix v T i = T := by
  cases T
  simp only [tget] at h
  simp only [tfix, lfix_same h]
theorem length_tset (y : AV) (T : TS) (n : Nat) : (tset y T n).length = T.length := by
  unfold tset TS.length
  cases Nat.blt n T.n <;> rfl
theorem mget_mput : ∀ (M : List Blk) (b b' : Nat) (y : Blk), mget (mput M b y) b' = if b' = b then y else mget M b'
  | [], 0, 0, y => by simp [mput, mget, gets]
  | [], 0, b' + 1, y => by simp [mput, mget, gets]
  | [], b + 1, 0, y => by simp [mput, mget, gets]
  | [], b + 1, b' + 1, y => by
    have := mget_mput [] b b' y
    simp only [mput, mget, gets] at this ⊢
    rw [this]
    simp
  | x :: t, 0, 0, y => by simp [mput, mget, gets]
  | x :: t, 0, b' + 1, y => by simp [mput, mget, gets]
  | x :: t, b + 1, 0, y => by simp [mput, mget, gets]
  | x :: t, b + 1, b' + 1, y => by
    have := mget_mput t b b' y
    simp only [mput, mget, gets] at this ⊢
    rw [this]
    simp
def lastSet : Sets → Nat → Option Blk
  | [], _ => none
  | p :: r, b => match lastSet r b with
    | some y => some y
    | none => if p.1 = b then some p.2 else none
theorem mget_puts : ∀ (s : Sets) (M : List Blk) (b : Nat), mget (puts M s) b = (lastSet s b).getD (mget M b)
  | [], M, b => rfl
  | p :: r, M, b => by
    rw [show puts M (p :: r) = puts (mput M p.1 p.2) r from rfl, mget_puts r, mget_mput]
    simp only [lastSet]
    cases h : lastSet r b with
    | some y => rfl
    | none =>
      by_cases hb : p.1 = b
      · simp [hb]
      · simp [hb, Ne.symm hb]
theorem puts_append : ∀ (s r : Sets) (M : List Blk), puts M (s ++ r) = puts (puts M s) r
  | [], _, _ => rfl
  | p :: s, r, M => puts_append s r (mput M p.1 p.2)
theorem lastSet_none {s : Sets} {b : Nat} (h : ∀ p ∈ s, p.1 ≠ b) : lastSet s b = none := by
  induction s with
  | nil => rfl
  | cons p r ih => simp [lastSet, ih (fun q hq => h q (by simp [hq])), h p (by simp)]
def BRel (σ : Sg) (b : Nat) (y : Blk) (w : World) : Prop :=
  match y with
  | .dead => True
  | .ro l => ∃ L, σ b = some L ∧ L.own = false ∧ (∀ d ∈ l, d.ok) ∧ ∀ j d, l[j]? = some d → w.cell? ⟨L.blk, L.off + j, none⟩ = some d.val
  | .rw t l => ∃ L cur, σ b = some L ∧ L.off = 0 ∧ L.own = true ∧ w.heap[L.blk]? = some (.cells cur t (0, 0)) ∧ cur.size = L.size ∧ (∀ d ∈ l, d.ok) ∧ cur.toList.take l.length = l.map D.val
  | .arr own τ xs => ∃ L, σ b = some L ∧ L.n = xs.length ∧ L.es = τ.len ∧ (∀ d ∈ τ.flat xs, d.ok) ∧ (match own with
    | none => L.own = false ∧ ∀ j d, (τ.flat xs)[j]? = some d → w.cell? ⟨L.blk, L.off + j, none⟩ = some d.val
    | some t => L.own = true ∧ L.off = 0 ∧ (xs = [] ∨ ∃ cur, w.heap[L.blk]? = some (.cells cur t (0, 0)) ∧ cur.size = L.size ∧ cur.toList.take (τ.flat xs).length = (τ.flat xs).map D.val))
  | .cell t c => ∃ L v, σ b = some L ∧ L.off = 0 ∧ L.own = true ∧ L.size = 1 ∧ w.heap[L.blk]? = some (.cells #[v] t (0, 0)) ∧ CRel σ c v
structure Kept (W : Nat → Prop) (w w' : World) : Prop where
  os : w'.os = w.os
  tape : w'.tape = w.tape
  output : w'.output = w.output
  size : w.heap.size ≤ w'.heap.size
  block : ∀ k, k < w.heap.size → ¬ W k → w'.heap[k]? = w.heap[k]?
theorem Kept.refl (W : Nat → Prop) (w : World) : Kept W w w := ⟨rfl, rfl, rfl, Nat.le_refl _, fun _ _ _ => rfl⟩
theorem Kept.trans {W : Nat → Prop} {a b c : World} (h : Kept W a b) (k : Kept W b c) : Kept W a c :=
  ⟨k.os.trans h.os, k.tape.trans h.tape, k.output.trans h.output, Nat.le_trans h.size k.size,
   fun i hi hn => (k.block i (Nat.lt_of_lt_of_le hi h.size) hn).trans (h.block i hi hn)⟩
theorem Kept.trans' {W V : Nat → Prop} {a b c : World} (h : Kept W a b) (k : Kept V b c) (hv : ∀ i, V i → W i ∨ a.heap.size ≤ i) : Kept W a c :=
  ⟨k.os.trans h.os, k.tape.trans h.tape, k.output.trans h.output, Nat.le_trans h.size k.size,
   fun i hi hn => (k.block i (Nat.lt_of_lt_of_le hi h.size) (fun hV => by rcases hv i hV with h1 | h1; exact hn h1; omega)).trans (h.block i hi hn)⟩
structure Glob (G : Nat → Option (List D)) (gb : Nat) (W : Nat → Prop) (w : World) : Prop where
  le : gb ≤ w.heap.size
  high : ∀ k, W k → gb ≤ k
  cell : ∀ g l, G g = some l → g < gb ∧ (∀ d ∈ l, d.ok) ∧ ∀ j d, l[j]? = some d → w.cell? ⟨g, j, none⟩ = some d.val
structure MRel (w0 : World) (W : Nat → Prop) (σ : Sg) (M : List Blk) (w : World) : Prop where
  blk : ∀ b, BRel σ b (mget M b) w
  sep : ∀ b b' L L', b ≠ b' → (mget M b).wr = true → (mget M b').live = true → σ b = some L → σ b' = some L' → L.blk ≠ L'.blk
  own : ∀ b L, (mget M b).wr = true → σ b = some L → W L.blk ∨ w0.heap.size ≤ L.blk
  kept : Kept W w0 w
theorem BRel.mono {σ τ : Sg} (h : σ.le τ) {b : Nat} {y : Blk} {w : World} (hh : BRel σ b y w) : BRel τ b y w := by
  cases y with
  | dead => trivial
  | ro l => obtain ⟨L, h1, h2⟩ := hh; exact ⟨L, h _ _ h1, h2⟩
  | rw t l => obtain ⟨L, cur, h1, h2⟩ := hh; exact ⟨L, cur, h _ _ h1, h2⟩
  | arr own τ' xs => obtain ⟨L, h1, h2⟩ := hh; exact ⟨L, h _ _ h1, h2⟩
  | cell t c => obtain ⟨L, v, h1, h2, h3, h4, h5, h6⟩ := hh; exact ⟨L, v, h _ _ h1, h2, h3, h4, h5, h6.mono h⟩
theorem wr_live {y : Blk} (h : y.wr = true) : y.live = true := by
  cases y with
  | dead => cases h
  | ro l => cases h
  | rw t l => rfl
  | arr own τ xs => cases xs with | nil => cases own <;> cases h | cons _ _ => rfl
  | cell t c => rfl
theorem cell_of_heap {w : World} {B o : Nat} {cur : Array Value} {t : TypeId} {fr : Nat × Nat} (h : w.heap[B]? = some (.cells cur t fr)) : w.cell? ⟨B, o, none⟩ = cur[o]? := by
  simp [World.cell?, h]
theorem BRel.elems {σ : Sg} {b : Nat} {own : Option Nat} {τ : ET} {xs : List τ.T} {w : World} (hh : BRel σ b (.arr own τ xs) w) :
    ∃ L, σ b = some L ∧ L.n = xs.length ∧ L.es = τ.len ∧ L.own = own.isSome ∧ (∀ d ∈ τ.flat xs, d.ok) ∧ ∀ j d, (τ.flat xs)[j]? = some d → w.cell? ⟨L.blk, L.off + j, none⟩ = some d.val := by
  obtain ⟨L, h1, h2, h3, h4, h5⟩ := hh
  cases own with
  | none => exact ⟨L, h1, h2, h3, h5.1, h4, h5.2⟩
  | some t =>
    obtain ⟨h6, h7, h8⟩ := h5
    refine ⟨L, h1, h2, h3, h6, h4, fun j d hj => ?_⟩
    rcases h8 with rfl | ⟨cur, h8, h9, h10⟩
    · simp [ET.flat] at hj
    · rw [cell_of_heap h8, h7, Nat.zero_add]
      have hlt : j < (τ.flat xs).length := (List.getElem?_eq_some_iff.1 hj).1
      have : (cur.toList.take (τ.flat xs).length)[j]? = ((τ.flat xs).map D.val)[j]? := by rw [h10]
      rw [List.getElem?_take, if_pos hlt, List.getElem?_map, hj] at this
      simpa using this
theorem BRel.cell {σ : Sg} {b : Nat} {y : Blk} {w : World} {l : List D} (hh : BRel σ b y w) (hl : y.data = some l) :
    ∃ L, σ b = some L ∧ (∀ d ∈ l, d.ok) ∧ ∀ j d, l[j]? = some d → w.cell? ⟨L.blk, L.off + j, none⟩ = some d.val := by
  cases y with
  | dead => simp [Blk.data] at hl
  | arr own τ xs => simp [Blk.data] at hl
  | cell t c => simp [Blk.data] at hl
  | ro l' =>
    simp only [Blk.data, Option.some.injEq] at hl
    subst hl
    obtain ⟨L, h1, _, h2⟩ := hh
    exact ⟨L, h1, h2⟩
  | rw t l' =>
    simp only [Blk.data, Option.some.injEq] at hl
    subst hl
    obtain ⟨L, cur, h1, h2, _, h4, _, hok, h6⟩ := hh
    refine ⟨L, h1, hok, fun j d hj => ?_⟩
    rw [cell_of_heap h4, h2, Nat.zero_add]
    have hlt : j < l'.length := (List.getElem?_eq_some_iff.1 hj).1
    have : (cur.toList.take l'.length)[j]? = (l'.map D.val)[j]? := by rw [h6]
    rw [List.getElem?_take, if_pos hlt, List.getElem?_map, hj] at this
    simpa using this
theorem oneCell_val (d : D) : d.val.oneCell' = true := by cases d <;> rfl
theorem toD_val {v : Value} {d : D} (h : toD v = some d) : v = d.val ∧ d.ok := by
  unfold toD at h
  split at h
  · cases h; exact ⟨rfl, trivial⟩
  · simp only [cond_eq_ite] at h
    split at h
    · rename_i hr; cases h; exact ⟨rfl, hr⟩
    · cases h
  · simp only [cond_eq_ite, Nat.ble_eq] at h
    split at h
    · rename_i hr; cases h; exact ⟨rfl, by simp only [D.ok]; omega⟩
    · cases h
  · cases h
theorem toDs_val : ∀ {vs : List Value} {l : List D}, toDs vs = some l → vs = l.map D.val ∧ ∀ d ∈ l, d.ok
  | [], l, h => by simp [toDs] at h; subst h; exact ⟨rfl, by simp⟩
  | v :: r, l, h => by
    simp only [toDs] at h
    split at h
    · rename_i d l' h1 h2
      simp only [Option.some.injEq] at h
      subst h
      obtain ⟨e1, o1⟩ := toD_val h1
      obtain ⟨e2, o2⟩ := toDs_val h2
      exact ⟨by simp [e1, e2], by simp only [List.mem_cons]; rintro d (rfl | hd); exact o1; exact o2 d hd⟩
    · cases h
theorem ofValue_rel {σ : Sg} {v : Value} {x : AV} (h : ofValue v = some x) : AVRel σ x v := by
  unfold ofValue at h
  split at h
  · cases h; exact ⟨rfl, trivial⟩
  · simp only [cond_eq_ite] at h
    split at h
    · rename_i hr; cases h; exact ⟨rfl, hr⟩
    · cases h
  · simp only [cond_eq_ite, Nat.ble_eq] at h
    split at h
    · rename_i hr; cases h; exact ⟨rfl, by simp only [D.ok]; omega⟩
    · cases h
  · cases h; rfl
  · split at h
    · rename_i cs l hl
      cases h
      obtain ⟨e, o⟩ := toDs_val hl
      exact ⟨by rw [← e], o⟩
    · cases h
  · cases h
structure TRel (σ : Sg) (T : TS) (a : Act) : Prop where
  len : T.length = a.tmps.size
  val : ∀ t, AVRel σ (tget T t) (a.tmps.getD t undef)
  df : a.defers = []
theorem TRel.mono {σ τ : Sg} (h : σ.le τ) {T : TS} {a : Act} (hh : TRel σ T a) : TRel τ T a := ⟨hh.len, fun t => (hh.val t).mono h, hh.df⟩
theorem TRel.put {σ : Sg} {T : TS} {a : Act} (hh : TRel σ T a) (d : Option Tmp) {x : AV} {v : Value} (hx : AVRel σ x v) : TRel σ (setT T d x) (a.put d v) := by
  cases d with
  | none => exact hh
  | some d =>
    refine ⟨?_, fun t => ?_, ?_⟩
    · simp [setT, length_tset, Act.put, hh.len]
    · simp only [setT, tget_tset, Act.put, Array.getD_eq_getD_getElem?, Array.getElem?_setIfInBounds]
      by_cases h : t = d
      · subst h
        by_cases hl : t < T.length
        · have hl' : t < a.tmps.size := by rw [← hh.len]; exact hl
          simp [hl, hl', hx]
        · have hl' : ¬ t < a.tmps.size := by rw [← hh.len]; exact hl
          have := hh.val t
          simp only [Array.getD_eq_getD_getElem?] at this
          simp [hl, hl']
          simpa [hl'] using this
      · have := hh.val t
        simp only [Array.getD_eq_getD_getElem?] at this
        have h' : ¬ d = t := fun e => h e.symm
        simp [h, h']
        exact this
    · exact hh.df
theorem opdV_rel {σ : Sg} {T : TS} {a : Act} (hh : TRel σ T a) {x : Operand} {v : AV} (h : opdV T x = some v) : AVRel σ v (a.eval x) := by
  cases x with
  | tmp t => simp only [opdV, Option.some.injEq] at h; subst h; exact hh.val t
  | const c =>
    simp only [opdV] at h
    split at h
    · rename_i x hx; cases h; exact ofValue_rel hx
    · cases h; trivial
  | global g => cases h
  | func f => simp only [opdV, Option.some.injEq] at h; subst h; exact ⟨#[], rfl, trivial⟩
theorem opdVs_rel {σ : Sg} {T : TS} {a : Act} (hh : TRel σ T a) : ∀ {xs : List Operand} {vs : List AV}, opdVs T xs = some vs → AVRels σ vs (xs.map a.eval)
  | [], vs, h => by simp only [opdVs, Option.some.injEq] at h; subst h; trivial
  | x :: r, vs, h => by
    simp only [opdVs] at h
    split at h
    · rename_i v l h1 h2
      simp only [Option.some.injEq] at h
      subst h
      exact ⟨opdV_rel hh h1, opdVs_rel hh h2⟩
    · cases h
theorem cellsA_rel {σ : Sg} {x : AV} {v : Value} {l : List D} (h : cellsA x = some l) (hr : AVRel σ x v) : v.cells = (l.map D.val).toArray ∧ ∀ d ∈ l, d.ok := by
  unfold cellsA at h
  split at h
  · cases h; obtain ⟨rfl, o⟩ := hr; exact ⟨rfl, o⟩
  · cases h
    rename_i d
    obtain ⟨rfl, o⟩ := hr
    refine ⟨by cases d <;> rfl, by simpa using o⟩
  · cases h
theorem BRel.of_block {σ : Sg} {b : Nat} {y : Blk} {w w' : World} (hh : BRel σ b y w) (hk : ∀ L, σ b = some L → y.live = true → L.blk < w.heap.size → w'.heap[L.blk]? = w.heap[L.blk]?) : BRel σ b y w' := by
  cases y with
  | dead => trivial
  | ro l =>
    obtain ⟨L, h1, h2, hok, h3⟩ := hh
    refine ⟨L, h1, h2, hok, fun j d hj => ?_⟩
    have hc := h3 j d hj
    have hlt := World.block_lt_of_cell? w _ hc
    have hlive : (Blk.ro l).live = true := by cases l with | nil => simp at hj | cons _ _ => rfl
    rw [World.cell?_of_block (w := w) (hk L h1 hlive hlt)]
    exact hc
  | rw t l =>
    obtain ⟨L, cur, h1, h2, h3, h4, h5⟩ := hh
    refine ⟨L, cur, h1, h2, h3, ?_, h5⟩
    rw [hk L h1 rfl (Array.getElem?_eq_some_iff.1 h4).1]
    exact h4
  | arr own τ xs =>
    obtain ⟨L, h1, h2, h3, h4, h5⟩ := hh
    refine ⟨L, h1, h2, h3, h4, ?_⟩
    cases own with
    | none =>
      refine ⟨h5.1, fun j d hj => ?_⟩
      have hc := h5.2 j d hj
      have hlt := World.block_lt_of_cell? w _ hc
      have hlive : (Blk.arr none τ xs).live = true := by cases xs with | nil => simp [ET.flat] at hj | cons _ _ => rfl
      rw [World.cell?_of_block (w := w) (hk L h1 hlive hlt)]
      exact hc
    | some t =>
      obtain ⟨h6, h7, h8⟩ := h5
      refine ⟨h6, h7, ?_⟩
      cases xs with
      | nil => exact .inl rfl
      | cons x r =>
        rcases h8 with h8 | ⟨cur, h8, h9⟩
        · cases h8
        · refine .inr ⟨cur, ?_, h9⟩
          rw [hk L h1 rfl (Array.getElem?_eq_some_iff.1 h8).1]
          exact h8
  | cell t c =>
    obtain ⟨L, v, h1, h2, h3, h4, h5, h6⟩ := hh
    refine ⟨L, v, h1, h2, h3, h4, ?_, h6⟩
    rw [hk L h1 rfl (Array.getElem?_eq_some_iff.1 h5).1]
    exact h5
theorem cells_len (τ : ET) (x : τ.T) : (τ.cells x).length = τ.len := by cases τ <;> rfl
theorem len_pos (τ : ET) : 0 < τ.len := by cases τ <;> decide
theorem flat_len (τ : ET) : ∀ xs : List τ.T, (τ.flat xs).length = xs.length * τ.len
  | [] => by simp [ET.flat]
  | x :: r => by
    rw [ET.flat, List.length_append, cells_len, flat_len τ r, List.length_cons, Nat.succ_mul, Nat.add_comm]
theorem BRel.live_lt {σ : Sg} {b : Nat} {y : Blk} {w : World} {L : Loc} (hh : BRel σ b y w) (hl : y.live = true) (hL : σ b = some L) : L.blk < w.heap.size := by
  cases y with
  | dead => cases hl
  | ro l =>
    cases l with
    | nil => cases hl
    | cons d r =>
      obtain ⟨L', h1, _, _, h3⟩ := hh
      rw [hL] at h1
      cases h1
      exact World.block_lt_of_cell? w _ (h3 0 d rfl)
  | rw t l =>
    obtain ⟨L', cur, h1, _, _, h4, _⟩ := hh
    rw [hL] at h1
    cases h1
    exact (Array.getElem?_eq_some_iff.1 h4).1
  | arr own τ xs =>
    cases xs with
    | nil => cases hl
    | cons x r =>
      obtain ⟨L', h1, _, _, _, _, h3⟩ := hh.elems
      rw [hL] at h1
      cases h1
      have hlt : 0 < (τ.flat (x :: r)).length := by rw [flat_len]; exact Nat.mul_pos (Nat.succ_pos _) (len_pos τ)
      exact World.block_lt_of_cell? w _ (h3 0 _ (List.getElem?_eq_getElem hlt))
  | cell t c =>
    obtain ⟨L', v, h1, _, _, _, h4, _⟩ := hh
    rw [hL] at h1
    cases h1
    exact (Array.getElem?_eq_some_iff.1 h4).1
end Go.Ev

namespace Go.Ev
open Go
def sgSet (σ : Sg) (N : Nat) (L : Loc) : Sg := fun b => if b = N then some L else σ b
theorem sgSet_le {σ : Sg} {N : Nat} {L : Loc} (h : σ N = none) : σ.le (sgSet σ N L) := by
  intro b K hb
  unfold sgSet
  split
  · rename_i e; subst e; rw [h] at hb; cases hb
  · exact hb
theorem sgSet_self (σ : Sg) (N : Nat) (L : Loc) : sgSet σ N L N = some L := by simp [sgSet]
theorem sgSet_ne (σ : Sg) (N : Nat) (L : Loc) (b : Nat) (h : b ≠ N) : sgSet σ N L b = σ b := by simp [sgSet, h]
theorem MRel.dead {w0 : World} {W : Nat → Prop} {σ : Sg} {M : List Blk} {w : World} (h : MRel w0 W σ M w) {N : Nat} (hN : σ N = none) : mget M N = .dead := by
  have := h.blk N
  cases hm : mget M N with
  | dead => rfl
  | ro l => rw [hm] at this; obtain ⟨L, h1, _⟩ := this; rw [hN] at h1; cases h1
  | rw t l => rw [hm] at this; obtain ⟨L, cur, h1, _⟩ := this; rw [hN] at h1; cases h1
  | arr own τ xs => rw [hm] at this; obtain ⟨L, h1, _⟩ := this; rw [hN] at h1; cases h1
  | cell t c => rw [hm] at this; obtain ⟨L, v, h1, _⟩ := this; rw [hN] at h1; cases h1
theorem MRel.wr_lt {w0 : World} {W : Nat → Prop} {σ : Sg} {M : List Blk} {w : World} (h : MRel w0 W σ M w) {b : Nat} {L : Loc} (hb : (mget M b).wr = true) (hL : σ b = some L) : L.blk < w.heap.size :=
  (h.blk b).live_lt (wr_live hb) hL
theorem MRel.rw_lt {w0 : World} {W : Nat → Prop} {σ : Sg} {M : List Blk} {w : World} (h : MRel w0 W σ M w) {b t : Nat} {l : List D} {L : Loc} (hb : mget M b = .rw t l) (hL : σ b = some L) : L.blk < w.heap.size :=
  h.wr_lt (by rw [hb]; rfl) hL
theorem MRel.congr {w0 : World} {W : Nat → Prop} {σ : Sg} {M M' : List Blk} {w : World} (h : MRel w0 W σ M w) (he : ∀ b, mget M' b = mget M b ∨ mget M' b = .dead) : MRel w0 W σ M' w := by
  have k1 : ∀ b, (mget M' b).wr = true → (mget M b).wr = true := fun b hb => by rcases he b with e | e; rw [← e]; exact hb; rw [e] at hb; cases hb
  have k2 : ∀ b, (mget M' b).live = true → (mget M b).live = true := fun b hb => by rcases he b with e | e; rw [← e]; exact hb; rw [e] at hb; cases hb
  refine ⟨fun b => ?_, fun b b' L L' hne hb hb' hL hL' => h.sep b b' L L' hne (k1 b hb) (k2 b' hb') hL hL', fun b L hb hL => h.own b L (k1 b hb) hL, h.kept⟩
  rcases he b with e | e
  · rw [e]; exact h.blk b
  · rw [e]; trivial
theorem heap_push_lt (w : World) (o : Obj) (k : Nat) (h : k < w.heap.size) : (w.heap.push o)[k]? = w.heap[k]? := by
  rw [Array.getElem?_push, if_neg (by omega)]
theorem alloc_heap (w : World) (o : Obj) : (w.alloc o).heap = w.heap.push o := rfl
theorem MRel.put {w0 : World} {W : Nat → Prop} {σ : Sg} {M : List Blk} {w w' : World} (h : MRel w0 W σ M w) {N : Nat} (hN : σ N = none) (y : Blk) (L : Loc) (hB : BRel (sgSet σ N L) N y w')
    (hk : ∀ c K, (mget M c).live = true → σ c = some K → K.blk < w.heap.size → w'.heap[K.blk]? = w.heap[K.blk]?) (hkept : Kept W w0 w') (h0 : y.wr = true → W L.blk ∨ w0.heap.size ≤ L.blk)
    (hfar : y.live = true → ∀ c K, (mget M c).wr = true → σ c = some K → K.blk ≠ L.blk) (hfar' : y.wr = true → ∀ c K, (mget M c).live = true → σ c = some K → K.blk ≠ L.blk) :
    MRel w0 W (sgSet σ N L) (mput M N y) w' := by
  refine ⟨fun b => ?_, fun b b' L1 L2 hne hb hb' hL1 hL2 => ?_, fun b L1 hb hL1 => ?_, hkept⟩
  · rw [mget_mput]
    by_cases e : b = N
    · subst e
      rw [if_pos rfl]
      exact hB
    · rw [if_neg e]
      exact ((h.blk b).of_block (fun K hK hl hlt => hk b K hl hK hlt)).mono (sgSet_le hN)
  · rw [mget_mput] at hb hb'
    by_cases e : b = N
    · subst e
      rw [sgSet_self] at hL1
      cases hL1
      rw [if_pos rfl] at hb
      rw [if_neg (Ne.symm hne)] at hb'
      rw [sgSet_ne _ _ _ _ (Ne.symm hne)] at hL2
      exact (hfar' hb b' L2 hb' hL2).symm
    · rw [if_neg e] at hb
      rw [sgSet_ne _ _ _ _ e] at hL1
      by_cases e' : b' = N
      · subst e'
        rw [sgSet_self] at hL2
        cases hL2
        rw [if_pos rfl] at hb'
        exact hfar hb' b L1 hb hL1
      · rw [if_neg e'] at hb'
        rw [sgSet_ne _ _ _ _ e'] at hL2
        exact h.sep b b' L1 L2 hne hb hb' hL1 hL2
  · rw [mget_mput] at hb
    by_cases e : b = N
    · subst e
      rw [sgSet_self] at hL1
      cases hL1
      rw [if_pos rfl] at hb
      exact h0 hb
    · rw [if_neg e] at hb
      rw [sgSet_ne _ _ _ _ e] at hL1
      exact h.own b L1 hb hL1
theorem MRel.new {w0 : World} {W : Nat → Prop} {σ : Sg} {M : List Blk} {w : World} (h : MRel w0 W σ M w) {N : Nat} (hN : σ N = none) (y : Blk) (L : Loc) (hL : L.blk = w.heap.size) (o : Obj) (w' : World) (hw : w'.heap = w.heap.push o) (ho : w'.os = w.os) (ht : w'.tape = w.tape) (hu : w'.output = w.output)
    (hB : BRel (sgSet σ N L) N y w') : MRel w0 W (sgSet σ N L) (mput M N y) w' := by
  have hk : ∀ k, k < w.heap.size → w'.heap[k]? = w.heap[k]? := fun k hk => by rw [hw]; exact heap_push_lt w _ k hk
  refine h.put hN y L hB (fun _ _ _ _ hlt => hk _ hlt) (h.kept.trans ⟨ho, ht, hu, by rw [hw]; simp, fun k hk' _ => hk k hk'⟩) (fun _ => .inr (by rw [hL]; exact h.kept.size)) (fun _ c K hc hK => ?_) fun _ c K hc hK => ?_
  · have := h.wr_lt hc hK
    omega
  · have := (h.blk c).live_lt hc hK
    omega
theorem MRel.alloc {w0 : World} {W : Nat → Prop} {σ : Sg} {M : List Blk} {w : World} (h : MRel w0 W σ M w) {N : Nat} (hN : σ N = none) (t : Nat) (l : List D) (cur : Array Value)
    (hcur : cur.toList.take l.length = l.map D.val) (hok : ∀ d ∈ l, d.ok) (w' : World) (hw : w'.heap = w.heap.push (.cells cur t (0, 0))) (ho : w'.os = w.os) (ht : w'.tape = w.tape) (hu : w'.output = w.output) :
    MRel w0 W (sgSet σ N ⟨w.heap.size, 0, cur.size, true, 0, 0⟩) (mput M N (.rw t l)) w' :=
  h.new hN _ _ rfl _ w' hw ho ht hu ⟨_, cur, sgSet_self _ _ _, rfl, rfl, by rw [hw]; simp, rfl, hok, hcur⟩
theorem MRel.allocA {w0 : World} {W : Nat → Prop} {σ : Sg} {M : List Blk} {w : World} (h : MRel w0 W σ M w) {N : Nat} (hN : σ N = none) (t : Nat) (τ : ET) (xs : List τ.T) (cur : Array Value)
    (hcur : cur.toList.take (τ.flat xs).length = (τ.flat xs).map D.val) (hok : ∀ d ∈ τ.flat xs, d.ok) (w' : World) (hw : w'.heap = w.heap.push (.cells cur t (0, 0))) (ho : w'.os = w.os) (ht : w'.tape = w.tape) (hu : w'.output = w.output) :
    MRel w0 W (sgSet σ N ⟨w.heap.size, 0, cur.size, true, xs.length, τ.len⟩) (mput M N (.arr (some t) τ xs)) w' :=
  h.new hN _ _ rfl _ w' hw ho ht hu ⟨_, sgSet_self _ _ _, rfl, rfl, hok, rfl, rfl, .inr ⟨cur, by rw [hw]; simp, rfl, hcur⟩⟩
theorem MRel.write {w0 : World} {W : Nat → Prop} {σ : Sg} {M : List Blk} {w : World} (h : MRel w0 W σ M w) {b : Nat} (hb : (mget M b).wr = true) {L : Loc} (hL : σ b = some L) (y : Blk)
    (w' : World) (hB : BRel σ b y w') (hoth : ∀ k, k ≠ L.blk → w'.heap[k]? = w.heap[k]?) (hs : w'.heap.size = w.heap.size) (ho : w'.os = w.os) (ht : w'.tape = w.tape) (hu : w'.output = w.output) :
    MRel w0 W σ (mput M b y) w' := by
  have k1 : ∀ c, (mget (mput M b y) c).wr = true → (mget M c).wr = true := by
    intro c hc
    rw [mget_mput] at hc
    by_cases e : c = b
    · subst e; exact hb
    · rw [if_neg e] at hc; exact hc
  have k2 : ∀ c, (mget (mput M b y) c).live = true → (mget M c).live = true := by
    intro c hc
    rw [mget_mput] at hc
    by_cases e : c = b
    · subst e; exact wr_live hb
    · rw [if_neg e] at hc; exact hc
  refine ⟨fun c => ?_, fun c c' L1 L2 hne hc hc' hL1 hL2 => h.sep c c' L1 L2 hne (k1 c hc) (k2 c' hc') hL1 hL2, fun c L1 hc hL1 => h.own c L1 (k1 c hc) hL1, ?_⟩
  · rw [mget_mput]
    by_cases e : c = b
    · subst e
      rw [if_pos rfl]
      exact hB
    · rw [if_neg e]
      refine (h.blk c).of_block fun L1 hL1 hlive _ => hoth _ ?_
      exact fun e1 => h.sep b c L L1 (Ne.symm e) hb hlive hL hL1 e1.symm
  · have hlt := h.wr_lt hb hL
    refine h.kept.trans' (V := fun k => k = L.blk) ⟨ho, ht, hu, by omega, fun k _ hk => hoth k hk⟩ fun k hk => ?_
    subst hk
    exact h.own b L hb hL
theorem MRel.store {w0 : World} {W : Nat → Prop} {σ : Sg} {M : List Blk} {w : World} (h : MRel w0 W σ M w) {b t : Nat} {l l' : List D} (hb : mget M b = .rw t l) {L : Loc} (hL : σ b = some L)
    {cur' : Array Value} (w' : World) (hat : w'.heap[L.blk]? = some (.cells cur' t (0, 0))) (hsz : cur'.size = L.size) (hcur : cur'.toList.take l'.length = l'.map D.val) (hok : ∀ d ∈ l', d.ok)
    (hoth : ∀ k, k ≠ L.blk → w'.heap[k]? = w.heap[k]?) (hs : w'.heap.size = w.heap.size) (ho : w'.os = w.os) (ht : w'.tape = w.tape) (hu : w'.output = w.output) :
    MRel w0 W σ (mput M b (.rw t l')) w' := by
  have hBb := h.blk b
  rw [hb] at hBb
  obtain ⟨L0, cur, h1, h2, h3, _⟩ := hBb
  rw [hL] at h1
  cases h1
  exact h.write (by rw [hb]; rfl) hL _ w' ⟨L, cur', hL, h2, h3, hat, hsz, hok, hcur⟩ hoth hs ho ht hu
theorem MRel.movedTo {w0 : World} {W : Nat → Prop} {σ : Sg} {M : List Blk} {w : World} (h : MRel w0 W σ M w) {b N : Nat} (hb : (mget M b).wr = true) {L L' : Loc} (hL : σ b = some L) (hN : σ N = none) (hp : L'.blk = L.blk) (y : Blk)
    (hB : BRel (sgSet σ N L') N y w) : MRel w0 W (sgSet σ N L') (mput (mput M b .dead) N y) w := by
  have h' : MRel w0 W σ (mput M b .dead) w := h.congr fun c => by rw [mget_mput]; split; exact .inr rfl; exact .inl rfl
  have get : ∀ c, c ≠ b → mget (mput M b .dead) c = mget M c := fun c e => by rw [mget_mput, if_neg e]
  refine h'.put hN y L' hB (fun _ _ _ _ _ => rfl) h'.kept (fun _ => by rw [hp]; exact h.own b L hb hL) (fun _ c K hc hK => ?_) fun _ c K hc hK => ?_
  · by_cases e : c = b
    · subst e; rw [mget_mput, if_pos rfl] at hc; cases hc
    · rw [get c e] at hc
      rw [hp]
      exact h.sep c b K L e hc (wr_live hb) hK hL
  · by_cases e : c = b
    · subst e; rw [mget_mput, if_pos rfl] at hc; cases hc
    · rw [get c e] at hc
      rw [hp]
      exact (h.sep b c L K (Ne.symm e) hb hc hL hK).symm
theorem MRel.moved {w0 : World} {W : Nat → Prop} {σ : Sg} {M : List Blk} {w : World} (h : MRel w0 W σ M w) {b N t : Nat} {l : List D} (hb : mget M b = .rw t l) {L : Loc} (hL : σ b = some L) (hN : σ N = none) :
    MRel w0 W (sgSet σ N L) (mput (mput M b .dead) N (.rw t l)) w := by
  have hBb := h.blk b
  rw [hb] at hBb
  obtain ⟨L', cur, h1, h2⟩ := hBb
  rw [hL] at h1
  cases h1
  exact h.movedTo (by rw [hb]; rfl) hL hN rfl _ ⟨L, cur, sgSet_self _ _ _, h2⟩
end Go.Ev

namespace Go.Ev
open Go
def Wof (σ : Sg) (bs : List Blk) (k : Nat) : Prop := ∃ b L, (mget bs b).wr = true ∧ σ b = some L ∧ L.blk = k
def CallsA (P : Program) (G : Nat → Option (List D)) (gb : Nat) (f : Nat) (as : List AV) (bs : List Blk) (v : AV) (M' : List Blk) : Prop :=
  ∀ (σ : Sg) (w : World) (args : Array Value), AVRels σ as args.toList → MRel w (Wof σ bs) σ bs w → Glob G gb (Wof σ bs) w → (∀ b, bs.length ≤ b → σ b = none) →
    Calls P f args w fun e w' => ∃ v' τ, e = .returned v' ∧ σ.le τ ∧ AVRel τ v v' ∧ MRel w (Wof σ bs) τ M' w'
def Enters (P : Program) (f : Nat) : Prop := ∀ (args : Array Value) (w : World), (callFunc f args).run P w = .ok (.enter f args) w
def ExtA (P : Program) (f : Nat) (as : List AV) (v : AV) : Prop :=
  ∀ (σ : Sg) (args : Array Value) (w : World), AVRels σ as args.toList → ∃ v', (callFunc f args).run P w = .ok (.value v') w ∧ AVRel σ v v'
def Reach (P : Program) (G : Nat → Option (List D)) (gb : Nat) : Tm → AV → Sets → Prop
  | .fail, _, _ => False
  | .leaf v s, v', s' => v' = v ∧ s' = s
  | .br b x y, v, s => (b = true ∧ Reach P G gb x v s) ∨ (b = false ∧ Reach P G gb y v s)
  | .call f as bs k, v, s => ∃ u M, Enters P f ∧ CallsA P G gb f as bs u M ∧ Reach P G gb (k u M) v s
  | .ext f as k, v, s => ∃ u, ExtA P f as u ∧ Reach P G gb (k u) v s
def EqOK (P : Program) (t : TypeId) : Prop :=
  ∀ (z a b : List D) (x y : Operand) (w : World), zeroD P t = some z → fitsTo z a = true → fitsTo z b = true →
    (do eqGuard .eql t x y (.agg (a.map D.val).toArray) (.agg (b.map D.val).toArray); binOp .eql t (.agg (a.map D.val).toArray) (.agg (b.map D.val).toArray) : Sem Value).run P w = .ok (.bool (eqAll a b)) w ∧
    (do eqGuard .neq t x y (.agg (a.map D.val).toArray) (.agg (b.map D.val).toArray); binOp .neq t (.agg (a.map D.val).toArray) (.agg (b.map D.val).toArray) : Sem Value).run P w = .ok (.bool (!(eqAll a b))) w
section
variable {P : Program} {G : Nat → Option (List D)} {gb : Nat} {EQ : Tab} {w0 : World} {W : Nat → Prop} {σ : Sg} {a : Act} {w : World} {T : TS} {M : List Blk} {N : Nat} {o : Oper}
  {next : Act → World → Prop} {Q : Exit → Act → World → Prop}
def Goes (w0 : World) (W : Nat → Prop) (σ : Sg) (M : List Blk) (N : Nat) (a : Act) (d : Option Tmp) (next : Act → World → Prop) (v : AV) (s : Sets) : Prop :=
  ∀ τ v' w', σ.le τ → (∀ b, b ≠ N → τ b = σ b) → ((∀ p ∈ s, p.1 ≠ N) → τ N = none) → AVRel τ v v' → MRel w0 W τ (puts M s) w' → next (a.put d v') w'
theorem Goes.value {v : AV} {v' : Value} (h : Goes w0 W σ M N a o.dst next v []) (hM : MRel w0 W σ M w) (hN : σ N = none) (hrun : (execOp a.eval o).run P w = .ok (.value v') w) (hv : AVRel σ v v') : o.wp P a w next Q := by
  unfold Oper.wp
  rw [hrun]
  exact h σ v' w (Sg.le_refl σ) (fun _ _ => rfl) (fun _ => hN) hv hM
theorem underlying_run {t : TypeId} {d : TypeDesc} (h : P.underlying t = some d) (w : World) : (underlying t).run P w = .ok d w := by
  simp [underlying, program, Sem.run, h]
theorem typeInfo_run {t : TypeId} {i : TypeInfo} (h : P.info? t = some i) (w : World) : (typeInfo t).run P w = .ok i w := by
  simp [typeInfo, program, Sem.run, h]
theorem sizeOf_run {t : TypeId} {n : Nat} (h : sizeD P t = some n) (w : World) : (sizeOf t).run P w = .ok n w := by
  unfold sizeD at h
  cases hi : P.info? t with
  | none => rw [hi] at h; cases h
  | some i =>
    rw [hi] at h
    cases h
    simp [sizeOf, typeInfo_run hi]
theorem isAgg_run {t : TypeId} {b : Bool} (h : aggD P t = some b) (w : World) : (isAgg t).run P w = .ok b w := by
  unfold aggD at h
  cases hu : P.underlying t with
  | none => rw [hu] at h; cases h
  | some d =>
    rw [hu] at h
    simp only [isAgg, Sem.run_bind, underlying_run hu, Result.andThen_ok]
    cases d <;> cases h <;> rfl
theorem zero_run {t : TypeId} {l : List D} (h : zeroD P t = some l) (w : World) : ∃ z : Value, (zeroValue t).run P w = .ok z w ∧ (z.cells = (l.map D.val).toArray ∧ ∀ d ∈ l, d.ok) ∧ ∃ i, P.info? t = some i ∧ i.zero = some z := by
  unfold zeroD at h
  cases hi : P.info? t with
  | none => rw [hi] at h; cases h
  | some i =>
    rw [hi] at h
    simp only at h
    cases hz : i.zero with
    | none => rw [hz] at h; cases h
    | some z =>
      rw [hz] at h
      refine ⟨z, by simp [zeroValue, typeInfo_run hi, hz], ?_, i, rfl, hz⟩
      obtain ⟨e, o⟩ := toDs_val h
      exact ⟨by rw [← e], o⟩
theorem add_mk (b o n : Nat) : (⟨b, o, none⟩ : Addr).add n = ⟨b, o + n, none⟩ := by
  unfold Addr.add
  split
  · rename_i h; subst h; rfl
  · rfl
theorem take_drop_get {l : List D} {o n j : Nat} {d : D} (h : ((l.drop o).take n)[j]? = some d) : l[o + j]? = some d := by
  rw [List.getElem?_take] at h
  split at h
  · rw [List.getElem?_drop] at h; exact h
  · cases h
theorem loadVar_run {t : TypeId} {l : List D} {B k : Nat} {v : V} (h : partD P t l k = some v) (hok : ∀ d ∈ l, d.ok) (o : Nat) (hc : ∀ j d, l[j]? = some d → w.cell? ⟨B, o + j, none⟩ = some d.val) :
    ∃ v', (loadVar t ⟨B, o + k, none⟩).run P w = .ok v' w ∧ VRel σ v v' := by
  unfold partD at h
  split at h
  · rename_i n ha hs
    simp only [cond_eq_ite, beq_iff_eq] at h
    split at h
    · rename_i hlen
      cases h
      refine ⟨.agg (((l.drop k).take n).map D.val).toArray, ?_, rfl, fun d hd => hok d (List.mem_of_mem_drop (List.mem_of_mem_take hd))⟩
      have hl := run_loadCells_list (P := P) w ⟨B, o + k, none⟩ (((l.drop k).take n).map D.val) (fun j v hj => by
        rw [List.getElem?_map] at hj
        cases hd : ((l.drop k).take n)[j]? with
        | none => rw [hd] at hj; cases hj
        | some d =>
          rw [hd] at hj
          cases hj
          rw [add_mk, Nat.add_assoc]
          exact hc (k + j) d (take_drop_get hd))
      rw [List.length_map, hlen] at hl
      simp only [loadVar, Sem.run_bind, isAgg_run ha, Result.andThen_ok, sizeOf_run hs, hl, if_true]
      rfl
    · cases h
  · rename_i n ha hs
    cases hd : l.drop k with
    | nil => rw [hd] at h; cases h
    | cons d r =>
      rw [hd] at h
      cases h
      have hk : l[k]? = some d := by
        have : (l.drop k)[0]? = some d := by rw [hd]; rfl
        rw [List.getElem?_drop] at this
        exact this
      refine ⟨d.val, ?_, rfl, hok d (List.mem_of_getElem? hk)⟩
      simp only [loadVar, Sem.run_bind, isAgg_run ha, Result.andThen_ok]
      simp only [Bool.false_eq_true, if_false, load, Sem.run, hc k d hk]
  · cases h
theorem part_run {t : TypeId} {l : List D} {k : Nat} {v : V} (h : partD P t l k = some v) (hok : ∀ d ∈ l, d.ok) : ∃ v', (part t (l.map D.val).toArray k).run P w = .ok v' w ∧ VRel σ v v' := by
  unfold partD at h
  split at h
  · rename_i n ha hs
    simp only [cond_eq_ite, beq_iff_eq] at h
    split at h
    · cases h
      refine ⟨.agg (((l.drop k).take n).map D.val).toArray, ?_, rfl, fun d hd => hok d (List.mem_of_mem_drop (List.mem_of_mem_take hd))⟩
      simp only [part, Sem.run_bind, isAgg_run ha, Result.andThen_ok, sizeOf_run hs, if_true, Sem.run_pure]
      congr 2
      apply Array.ext'
      simp only [Array.toList_extract, List.map_take, List.map_drop]
      simp
    · cases h
  · rename_i n ha hs
    cases hd : l.drop k with
    | nil => rw [hd] at h; cases h
    | cons d r =>
      rw [hd] at h
      cases h
      have hk : l[k]? = some d := by
        have : (l.drop k)[0]? = some d := by rw [hd]; rfl
        rw [List.getElem?_drop] at this
        exact this
      refine ⟨d.val, ?_, rfl, hok d (List.mem_of_getElem? hk)⟩
      simp only [part, Sem.run_bind, isAgg_run ha, Result.andThen_ok, Bool.false_eq_true, if_false]
      simp [hk]
  · cases h
theorem take_all (l : List D) : (l.map D.val).toArray.toList.take l.length = l.map D.val := List.take_of_length_le (by simp)
theorem move_ok {x : Operand} {v : AV} {s : Sets} (ho : o.op = .move x ∨ o.op = .assign x) (hr : Reach P G gb (opR P G EQ (.move x) T M N) v s) (hT : TRel σ T a) (hM : MRel w0 W σ M w) (hN : σ N = none)
    (h : Goes w0 W σ M N a o.dst next v s) : o.wp P a w next Q := by
  simp only [opR] at hr
  split at hr
  · rename_i u hu
    obtain ⟨rfl, rfl⟩ := hr
    refine h.value hM hN (v' := a.eval x) ?_ (opdV_rel hT hu)
    unfold execOp
    rcases ho with ho | ho <;> rw [ho] <;> rfl
  · exact hr.elim
theorem pick_ok {c x y : Operand} {v : AV} {s : Sets} (ho : o.op = .pick c x y) (hr : Reach P G gb (opR P G EQ (.pick c x y) T M N) v s) (hT : TRel σ T a) (hM : MRel w0 W σ M w) (hN : σ N = none)
    (h : Goes w0 W σ M N a o.dst next v s) : o.wp P a w next Q := by
  simp only [opR] at hr
  split at hr
  · rename_i t va vb hc hx hy
    have hc' : a.eval c = .bool t := (opdV_rel hT hc).1
    have hrun : (execOp a.eval o).run P w = .ok (.value (if t then a.eval x else a.eval y)) w := by
      unfold execOp
      rw [ho]
      simp [hc', asBool]
    rcases hr with ⟨ht, rfl, rfl⟩ | ⟨ht, rfl, rfl⟩
    · subst ht
      exact h.value hM hN hrun (opdV_rel hT hx)
    · subst ht
      exact h.value hM hN hrun (opdV_rel hT hy)
  · exact hr.elim
theorem alloc_ok {t : TypeId} {v : AV} {s : Sets} (ho : o.op = .alloc t) (hr : Reach P G gb (opR P G EQ (.alloc t) T M N) v s) (hM : MRel w0 W σ M w) (hN : σ N = none)
    (h : Goes w0 W σ M N a o.dst next v s) : o.wp P a w next Q := by
  simp only [opR] at hr
  split at hr
  · rename_i l hl
    obtain ⟨rfl, rfl⟩ := hr
    obtain ⟨z, hz, ⟨hcells, hok⟩, _⟩ := zero_run (w := w) hl
    have hrun : (execOp a.eval o).run P w = .ok (.value (.pointer (some ⟨w.heap.size, 0, none⟩))) (w.alloc (.cells (l.map D.val).toArray t)) := by
      unfold execOp
      rw [ho]
      simp [Instr.alloc, hz, newVar, newRow, newObj, Sem.run, hcells]
    unfold Oper.wp
    rw [hrun]
    refine h (sgSet σ N ⟨w.heap.size, 0, (l.map D.val).toArray.size, true, 0, 0⟩) _ _ (sgSet_le hN) (fun b hb => sgSet_ne _ _ _ _ hb) (fun hp => absurd rfl (hp (N, .rw t l) (by simp))) ⟨_, sgSet_self _ _ _, rfl⟩ ?_
    exact hM.alloc hN t l _ (take_all l) hok _ rfl rfl rfl rfl
  · split at hr
    · rename_i e i hu hi
      split at hr
      · rename_i hz
        obtain ⟨rfl, rfl⟩ := hr
        have hrun : (execOp a.eval o).run P w = .ok (.value (.pointer (some ⟨w.heap.size, 0, none⟩))) (w.alloc (.cells #[.slice none 0 0] t)) := by
          unfold execOp
          rw [ho]
          simp [Instr.alloc, zeroValue, typeInfo_run hi, hz, newVar, newRow, newObj, Sem.run, Value.cells]
        unfold Oper.wp
        rw [hrun]
        refine h (sgSet σ N ⟨w.heap.size, 0, 1, true, 0, 0⟩) _ _ (sgSet_le hN) (fun b hb => sgSet_ne _ _ _ _ hb) (fun hp => absurd rfl (hp (N, .cell t .nilS) (by simp))) ⟨_, sgSet_self _ _ _, rfl⟩ ?_
        refine hM.new hN _ _ rfl (.cells #[.slice none 0 0] t) _ rfl rfl rfl rfl ⟨_, .slice none 0 0, sgSet_self _ _ _, rfl, rfl, rfl, ?_, rfl⟩
        rw [alloc_heap]
        simp
      · exact hr.elim
    · exact hr.elim
theorem box_ok {t : TypeId} {x : Operand} {v : AV} {s : Sets} (ho : o.op = .box t x) (hr : Reach P G gb (opR P G EQ (.box t x) T M N) v s) (hT : TRel σ T a) (hM : MRel w0 W σ M w) (hN : σ N = none)
    (h : Goes w0 W σ M N a o.dst next v s) : o.wp P a w next Q := by
  simp only [opR] at hr
  split at hr
  · rename_i u hu
    split at hr
    · rename_i l hl
      obtain ⟨rfl, rfl⟩ := hr
      obtain ⟨hcells, hok⟩ := cellsA_rel hl (opdV_rel hT hu)
      have hrun : (execOp a.eval o).run P w = .ok (.value (.pointer (some ⟨w.heap.size, 0, none⟩))) (w.alloc (.cells (l.map D.val).toArray t)) := by
        unfold execOp
        rw [ho]
        simp [Instr.box, newVar, newRow, newObj, Sem.run, hcells]
      unfold Oper.wp
      rw [hrun]
      refine h (sgSet σ N ⟨w.heap.size, 0, (l.map D.val).toArray.size, true, 0, 0⟩) _ _ (sgSet_le hN) (fun b hb => sgSet_ne _ _ _ _ hb) (fun hp => absurd rfl (hp (N, .rw t l) (by simp))) ⟨_, sgSet_self _ _ _, rfl⟩ ?_
      exact hM.alloc hN t l _ (take_all l) hok _ rfl rfl rfl rfl
    · exact hr.elim
  · exact hr.elim
theorem leafO_reach {x : Option V} {v : AV} {s : Sets} (h : Reach P G gb (leafO x) v s) : ∃ u, x = some u ∧ v = .v u ∧ s = [] := by
  cases x with
  | none => exact h.elim
  | some u => obtain ⟨rfl, rfl⟩ := h; exact ⟨u, rfl, rfl, rfl⟩
theorem Glob.now {w : World} (hG : Glob G gb W w0) (hk : Kept W w0 w) {g : Nat} {l : List D} (h : G g = some l) : (∀ d ∈ l, d.ok) ∧ ∀ j d, l[j]? = some d → w.cell? ⟨g, j, none⟩ = some d.val := by
  obtain ⟨h1, hok, h2⟩ := hG.cell g l h
  refine ⟨hok, fun j d hj => ?_⟩
  have hlt : g < w0.heap.size := Nat.lt_of_lt_of_le h1 hG.le
  rw [World.cell?_of_block (w := w0) (hk.block g hlt (fun hW => by have := hG.high g hW; omega))]
  exact h2 j d hj
theorem flat_get {τ : ET} {d : D} {j : Nat} : ∀ {xs : List τ.T} {i : Nat}, i < xs.length → (τ.cells (xs.getD i τ.z))[j]? = some d → (τ.flat xs)[i * τ.len + j]? = some d
  | [], _, hi, _ => by simp at hi
  | x :: r, 0, _, hj => by
    rw [show (x :: r).getD 0 τ.z = x from rfl] at hj
    have hlt : j < (τ.cells x).length := (List.getElem?_eq_some_iff.1 hj).1
    rw [Nat.zero_mul, Nat.zero_add, ET.flat, List.getElem?_append_left hlt]
    exact hj
  | x :: r, i + 1, hi, hj => by
    have ih := flat_get (xs := r) (i := i) (by simpa using hi) (by simpa using hj)
    rw [ET.flat, List.getElem?_append_right (by rw [cells_len, Nat.succ_mul]; omega), cells_len, Nat.succ_mul]
    rw [show i * τ.len + τ.len + j - τ.len = i * τ.len + j by omega]
    exact ih
theorem flat_mem {τ : ET} {d : D} {xs : List τ.T} {i : Nat} (hi : i < xs.length) (hd : d ∈ τ.cells (xs.getD i τ.z)) : d ∈ τ.flat xs := by
  obtain ⟨j, hj⟩ := List.getElem?_of_mem hd
  exact List.mem_of_getElem? (flat_get hi hj)
theorem load_ok {t : TypeId} {x : Operand} {v : AV} {s : Sets} (ho : o.op = .load t x) (hr : Reach P G gb (opR P G EQ (.load t x) T M N) v s) (hT : TRel σ T a) (hM : MRel w0 W σ M w) (hG : Glob G gb W w0) (hN : σ N = none)
    (h : Goes w0 W σ M N a o.dst next v s) : o.wp P a w next Q := by
  have key : ∀ (B k : Nat) (l : List D) (off : Nat), a.eval x = .pointer (some ⟨B, off + k, none⟩) → (∀ d ∈ l, d.ok) → (∀ j d, l[j]? = some d → w.cell? ⟨B, off + j, none⟩ = some d.val) → Reach P G gb (leafO (partD P t l k)) v s → o.wp P a w next Q := by
    intro B k l off he hok hc hr
    obtain ⟨u, hu, rfl, rfl⟩ := leafO_reach hr
    obtain ⟨v', hrun, hv⟩ := loadVar_run (σ := σ) hu hok off hc
    refine h.value hM hN (v' := v') ?_ hv
    unfold execOp
    rw [ho]
    simp [Instr.loadAt, Instr.sureAddr, he, hrun]
  simp only [opR] at hr
  split at hr
  · rename_i g
    split at hr
    · rename_i l hl
      exact key g 0 l 0 rfl (hG.now hM.kept hl).1 (fun j d hj => by rw [Nat.zero_add]; exact (hG.now hM.kept hl).2 j d hj) hr
    · exact hr.elim
  · split at hr
    · rename_i b k hb
      split at hr
      · rename_i t' c hm
        split at hr
        · rename_i ha
          obtain ⟨rfl, rfl⟩ := hr
          obtain ⟨L, hL, he⟩ := opdV_rel hT hb
          have hB := hM.blk b
          rw [hm] at hB
          obtain ⟨L', u, h1, h2, _, _, h5, h6⟩ := hB
          rw [hL] at h1
          cases h1
          refine h.value hM hN (v' := u) ?_ h6
          unfold execOp
          rw [ho]
          have hcell : w.cell? ⟨L.blk, L.off + 0, none⟩ = some u := by
            rw [cell_of_heap h5, h2]
            rfl
          simp only [Instr.loadAt, Instr.sureAddr, he, Sem.run_bind, Sem.run_pure, Result.andThen_ok, loadVar, isAgg_run ha]
          simp only [Bool.false_eq_true, if_false, load, Sem.run, hcell, Result.andThen]
        · exact hr.elim
      · split at hr
        · rename_i l hl
          obtain ⟨L, hL, he⟩ := opdV_rel hT hb
          obtain ⟨L', hL', hok, hc⟩ := (hM.blk b).cell hl
          rw [hL] at hL'
          cases hL'
          exact key L.blk k l L.off he hok hc hr
        · exact hr.elim
    · rename_i b i k hb
      split at hr
      · rename_i own τ xs hm
        obtain ⟨L, hL, he, hi⟩ := opdV_rel hT hb
        have hB := hM.blk b
        rw [hm] at hB
        obtain ⟨L', h1, h2, h3, _, hok, hc⟩ := hB.elems
        rw [hL] at h1
        cases h1
        rw [h2] at hi
        rw [← Nat.add_assoc, h3] at he
        refine key L.blk k (τ.cells (xs.getD i τ.z)) (L.off + i * τ.len) he (fun d hd => hok d (flat_mem hi hd)) (fun j d hj => ?_) hr
        rw [Nat.add_assoc]
        exact hc _ d (flat_get hi hj)
      · exact hr.elim
    · exact hr.elim
theorem splice_ok {l r : List D} {o : Nat} (hl : ∀ d ∈ l, d.ok) (hr : ∀ d ∈ r, d.ok) : ∀ d ∈ splice l o r, d.ok := by
  intro d hd
  simp only [splice, List.mem_append] at hd
  rcases hd with h | h | h
  · exact hl d (List.mem_of_mem_take h)
  · exact hr d h
  · exact hl d (List.mem_of_mem_drop h)
theorem splice_len {l r : List D} {o : Nat} (h : o + r.length ≤ l.length) : (splice l o r).length = l.length := by
  simp [splice]; omega
theorem flat_set {τ : ET} {y : τ.T} : ∀ {xs : List τ.T} {i : Nat}, i < xs.length → τ.flat (xs.set i y) = splice (τ.flat xs) (i * τ.len) (τ.cells y)
  | [], _, hi => by simp at hi
  | x :: r, 0, _ => by
    simp only [List.set_cons_zero, ET.flat, splice, Nat.zero_mul, List.take_zero, List.nil_append, Nat.zero_add]
    rw [cells_len, ← cells_len τ x, List.drop_left]
  | x :: r, i + 1, hi => by
    simp only [List.set_cons_succ, ET.flat]
    rw [flat_set (xs := r) (i := i) (by simpa using hi)]
    have e1 : (i + 1) * τ.len = (τ.cells x).length + i * τ.len := by rw [cells_len, Nat.succ_mul]; omega
    simp only [splice, e1]
    rw [List.take_length_add_append, Nat.add_assoc, List.drop_length_add_append]
    simp
theorem of_cells {τ : ET} {l : List D} {x : τ.T} (h : τ.of l = some x) : τ.cells x = l := by
  cases τ
  case site =>
    change of_site l = some x at h
    unfold of_site at h
    split at h
    · cases h; rfl
    · cases h
  case win =>
    change of_win l = some x at h
    unfold of_win at h
    split at h
    · cases h; rfl
    · cases h
  case vec =>
    change of_vec l = some x at h
    unfold of_vec at h
    split at h
    · cases h; rfl
    · cases h
  case frac =>
    change of_frac l = some x at h
    unfold of_frac at h
    split at h
    · cases h; rfl
    · cases h
  case placed =>
    change of_placed l = some x at h
    unfold of_placed at h
    split at h
    · cases h; rfl
    · cases h
  case view =>
    change of_view l = some x at h
    unfold of_view at h
    split at h
    · cases h; rfl
    · cases h
  case trk =>
    change of_trk l = some x at h
    unfold of_trk at h
    split at h
    · cases h; rfl
    · cases h
  case dir =>
    change of_dir l = some x at h
    unfold of_dir at h
    split at h
    · cases h; rfl
    · cases h
  case delay =>
    change of_delay l = some x at h
    unfold of_delay at h
    split at h
    · cases h; rfl
    · cases h
  case bool =>
    change of_bool l = some x at h
    unfold of_bool at h
    split at h
    · cases h; rfl
    · cases h
  case int =>
    change of_int l = some x at h
    unfold of_int at h
    split at h
    · cases h; rfl
    · cases h
theorem splice_parts {l m : List D} {i k : Nat} {cs : List D} (hm : ∀ j d, m[j]? = some d → l[i + j]? = some d) (hk : k + cs.length ≤ m.length) : splice l i (splice m k cs) = splice l (i + k) cs := by
  have em : m = (l.drop i).take m.length := by
    apply List.ext_getElem?
    intro j
    rw [List.getElem?_take]
    split
    · rename_i hj
      rw [List.getElem?_drop]
      have := hm j m[j] (List.getElem?_eq_getElem hj)
      rw [this, List.getElem?_eq_getElem hj]
    · rename_i hj
      exact List.getElem?_eq_none (by omega)
  have lm : (splice m k cs).length = m.length := splice_len hk
  unfold splice
  unfold splice at lm
  rw [lm]
  have e1 : l.take (i + k) = l.take i ++ m.take k := by
    rw [em, List.take_take, Nat.min_eq_left (by omega), List.take_add]
  have e2 : l.drop (i + k + cs.length) = m.drop (k + cs.length) ++ l.drop (i + m.length) := by
    have h1 : l.drop i = m ++ l.drop (i + m.length) := by
      conv => lhs; rw [← List.take_append_drop m.length (l.drop i)]
      rw [← em, List.drop_drop]
    rw [Nat.add_assoc, ← List.drop_drop, h1, List.drop_append_of_le_length (by omega)]
    try rw [List.drop_drop]
  rw [e1, e2]
  simp only [List.append_assoc]
theorem store_run {t : TypeId} {x y : Operand} {n : Nat} {u : AV} {cs l : List D} {ty B k : Nat} {cur : Array Value} (ho : o.op = .store t x y) (he : a.eval x = .pointer (some ⟨B, k, none⟩)) (hn : sizeD P t = some n) (hcs : cellsA u = some cs) (hu : AVRel σ u (a.eval y)) (hlen : cs.length = n) (hfit : k + n ≤ l.length)
    (h4 : w.heap[B]? = some (.cells cur ty (0, 0))) (h6 : cur.toList.take l.length = l.map D.val) :
    ∃ cur', (execOp a.eval o).run P w = .ok .skip (w.setRow B cur') ∧ cur'.size = cur.size ∧ cur'.toList.take (splice l k cs).length = (splice l k cs).map D.val ∧ (w.setRow B cur').heap[B]? = some (.cells cur' ty (0, 0)) := by
  obtain ⟨hcells, _⟩ := cellsA_rel hcs hu
  subst hlen
  have hll : l.length ≤ cur.size := by
    have := congrArg List.length h6
    simp at this
    omega
  have hst := run_storeCells_at (P := P) B k ty (cs.map D.val) 0 cur w h4 (by simp; omega) (by simp only [List.mem_map]; rintro v ⟨d, _, rfl⟩; exact oneCell_val d)
  simp only [Nat.add_zero, List.length_map] at hst
  refine ⟨(cur.toList.take k ++ cs.map D.val ++ cur.toList.drop (k + cs.length)).toArray, ?_, ?_, ?_, setRow_heap w B cur _ ty _ h4⟩
  · unfold execOp
    rw [ho]
    simp only [Instr.storeAt, Instr.sureAddr, he, storeVar, Sem.run_bind, sizeOf_run hn, Result.andThen_ok, Sem.run_pure, hcells]
    simp [hst]
  · simp only [List.size_toArray, List.length_append, List.length_take, List.length_drop, List.length_map, Array.length_toList]
    omega
  · rw [splice_len (by omega)]
    have e1 : cur.toList.take k = (l.take k).map D.val := by
      rw [List.map_take, ← h6, List.take_take, Nat.min_eq_left (by omega)]
    have e2 : (cur.toList.drop (k + cs.length)).take (l.length - (k + cs.length)) = (l.drop (k + cs.length)).map D.val := by
      rw [List.map_drop, ← h6, List.drop_take]
    rw [e1]
    simp only [splice, List.map_append, List.append_assoc]
    rw [List.take_append, List.take_of_length_le (by simp; omega)]
    congr 1
    rw [List.take_append, List.take_of_length_le (by simp; omega)]
    congr 1
    rw [← e2]
    congr 1
    simp
    omega
theorem storeC_ok {t : TypeId} {x y : Operand} {b ty : Nat} {c c' : C} (ho : o.op = .store t x y) (hb : opdV T x = some (.v (.c (.ptr b 0)))) (hy : opdV T y = some (.v (.c c'))) (hm : mget M b = .cell ty c) (hn : sizeD P t = some 1) (h1c : ∀ v, CRel σ c' v → v.cells = #[v] ∧ v.oneCell' = true) (hT : TRel σ T a) (hM : MRel w0 W σ M w) (hN : σ N = none)
    (h : Goes w0 W σ M N a o.dst next undefA [(b, .cell ty c')]) : o.wp P a w next Q := by
  obtain ⟨L, hL, he⟩ := opdV_rel hT hb
  have hv : CRel σ c' (a.eval y) := opdV_rel hT hy
  obtain ⟨hcells, hone⟩ := h1c _ hv
  have hBb := hM.blk b
  rw [hm] at hBb
  obtain ⟨L', u, h1, h2, h3, h4, h5, h6⟩ := hBb
  rw [hL] at h1
  cases h1
  have hst := run_storeCells_at (P := P) L.blk 0 ty [a.eval y] 0 #[u] w h5 (by simp) (by simp [hone])
  have hrun : (execOp a.eval o).run P w = .ok .skip (w.setRow L.blk #[a.eval y]) := by
    unfold execOp
    rw [ho]
    simp only [Instr.storeAt, Instr.sureAddr, he, h2, Nat.zero_add, storeVar, Sem.run_bind, sizeOf_run hn, Result.andThen_ok, Sem.run_pure, hcells]
    simp at hst
    simp [hst]
  unfold Oper.wp
  rw [hrun]
  refine h σ _ _ (Sg.le_refl σ) (fun _ _ => rfl) (fun _ => hN) ⟨#[], rfl, trivial⟩ ?_
  refine hM.write (by rw [hm]; rfl) hL _ _ ⟨L, a.eval y, hL, h2, h3, h4, setRow_heap w L.blk #[u] _ ty _ h5, hv⟩ (fun k hk => setRow_other w L.blk k _ hk) (by simp) rfl rfl rfl
theorem store_ok {t : TypeId} {x y : Operand} {v : AV} {s : Sets} (ho : o.op = .store t x y) (hr : Reach P G gb (opR P G EQ (.store t x y) T M N) v s) (hT : TRel σ T a) (hM : MRel w0 W σ M w) (hN : σ N = none)
    (h : Goes w0 W σ M N a o.dst next v s) : o.wp P a w next Q := by
  simp only [opR] at hr
  split at hr
  · rename_i b k u hb hu
    split at hr
    · rename_i ty c hm
      split at hr
      · rename_i hn
        obtain ⟨rfl, rfl⟩ := hr
        exact storeC_ok ho hb hu hm hn (fun v hv => by have e : v = .slice none 0 0 := hv; subst e; exact ⟨rfl, rfl⟩) hT hM hN h
      · rename_i c' k' hn
        obtain ⟨rfl, rfl⟩ := hr
        refine storeC_ok ho hb hu hm hn (fun v hv => ?_) hT hM hN h
        obtain ⟨L, _, h2⟩ := hv
        cases k' with
        | none =>
          rcases h2 with ⟨_, rfl⟩ | ⟨cap, rfl, _⟩
          · exact ⟨rfl, rfl⟩
          · exact ⟨rfl, rfl⟩
        | some m =>
          obtain ⟨_, _, cap, rfl, _⟩ := h2
          exact ⟨rfl, rfl⟩
      · exact hr.elim
    · rename_i ty l hm
      split at hr
      · rename_i cs n hcs hn
        simp only [cond_eq_ite, Bool.and_eq_true, beq_iff_eq, Nat.ble_eq] at hr
        split at hr
        · rename_i hlen
          obtain ⟨rfl, rfl⟩ := hr
          obtain ⟨hlen, hfit⟩ := hlen
          obtain ⟨L, hL, he⟩ := opdV_rel hT hb
          have hBb := hM.blk b
          rw [hm] at hBb
          obtain ⟨L', cur, h1, h2, h3, h4, h5, hlok, h6⟩ := hBb
          rw [hL] at h1
          cases h1
          rw [h2, Nat.zero_add] at he
          obtain ⟨cur', hrun, hsz, htake, hat⟩ := store_run ho he hn hcs (opdV_rel hT hu) hlen hfit h4 h6
          unfold Oper.wp
          rw [hrun]
          refine h σ _ _ (Sg.le_refl σ) (fun _ _ => rfl) (fun _ => hN) ⟨#[], rfl, trivial⟩ ?_
          exact hM.store hm hL _ hat (by omega) htake (splice_ok hlok (cellsA_rel hcs (opdV_rel hT hu)).2) (fun k hk => setRow_other w L.blk k _ hk) (by simp) rfl rfl rfl
        · exact hr.elim
      · exact hr.elim
    · exact hr.elim
  · rename_i b i k u hb hu
    split at hr
    · rename_i ty τ xs hm
      split at hr
      · rename_i cs n hcs hn
        split at hr
        · rename_i y' hy'
          obtain ⟨rfl, rfl⟩ := hr
          simp only [cond_eq_ite, Bool.and_eq_true, beq_iff_eq, Nat.ble_eq] at hy'
          split at hy'
          · rename_i hlen
            obtain ⟨hlen, hfit⟩ := hlen
            obtain ⟨L, hL, he, hi⟩ := opdV_rel hT hb
            have hBb := hM.blk b
            rw [hm] at hBb
            obtain ⟨L', h1, h2, h3, hlok, h4, h5, h6⟩ := id hBb
            rw [hL] at h1
            cases h1
            rw [h2] at hi
            rw [h5, Nat.zero_add, h3] at he
            have hne : xs ≠ [] := fun e => by subst e; simp at hi
            rcases h6 with h6 | ⟨cur, h6, h7, h8⟩
            · exact absurd h6 hne
            have hcl : (τ.cells (xs.getD i τ.z)).length = τ.len := cells_len τ _
            have hfl : i * τ.len + τ.len ≤ (τ.flat xs).length := by
              rw [flat_len, ← Nat.succ_mul]
              exact Nat.mul_le_mul_right _ hi
            obtain ⟨cur', hrun, hsz, htake, hat⟩ := store_run (l := τ.flat xs) ho he hn hcs (opdV_rel hT hu) hlen (by omega) h6 h8
            have hsp : splice (τ.flat xs) (i * τ.len + k) cs = τ.flat (xs.set i y') := by
              rw [flat_set hi, of_cells hy']
              exact (splice_parts (fun j d hj => flat_get hi hj) (by rw [hcl, hlen]; exact hfit)).symm
            have hwr : (mget M b).wr = true := by
              rw [hm]
              cases xs with
              | nil => exact absurd rfl hne
              | cons _ _ => rfl
            unfold Oper.wp
            rw [hrun]
            refine h σ _ _ (Sg.le_refl σ) (fun _ _ => rfl) (fun _ => hN) ⟨#[], rfl, trivial⟩ ?_
            refine hM.write hwr hL _ _ ⟨L, hL, by rw [h2, List.length_set], h3, ?_, h4, h5, .inr ⟨cur', hat, by omega, ?_⟩⟩ (fun k hk => setRow_other w L.blk k _ hk) (by simp) rfl rfl rfl
            · rw [← hsp]
              exact splice_ok hlok (cellsA_rel hcs (opdV_rel hT hu)).2
            · rw [← hsp]
              exact htake
          · cases hy'
        · exact hr.elim
      · exact hr.elim
    · exact hr.elim
  · exact hr.elim
theorem nilCheck_ok {x : Operand} {v : AV} {s : Sets} (ho : o.op = .nilCheck x) (hr : Reach P G gb (opR P G EQ (.nilCheck x) T M N) v s) (hT : TRel σ T a) (hM : MRel w0 W σ M w) (hN : σ N = none)
    (h : Goes w0 W σ M N a o.dst next v s) : o.wp P a w next Q := by
  simp only [opR] at hr
  split at hr
  · rename_i b k hb
    obtain ⟨rfl, rfl⟩ := hr
    have hv := opdV_rel hT hb
    obtain ⟨L, hL, he⟩ := id hv
    refine h.value hM hN (v' := a.eval x) ?_ hv
    unfold execOp
    rw [ho]
    simp only [he]
    rfl
  · rename_i b i k hb
    obtain ⟨rfl, rfl⟩ := hr
    have hv := opdV_rel hT hb
    obtain ⟨L, hL, he, _⟩ := id hv
    refine h.value hM hN (v' := a.eval x) ?_ hv
    unfold execOp
    rw [ho]
    simp only [he]
    rfl
  · rename_i f l hb
    obtain ⟨rfl, rfl⟩ := hr
    have hv := opdV_rel hT hb
    obtain ⟨vs, he, _⟩ := id hv
    refine h.value hM hN (v' := a.eval x) ?_ hv
    unfold execOp
    rw [ho]
    simp only [he]
    rfl
  · exact hr.elim
theorem unOp_ok {op : UnOp} {t : TypeId} {x : Operand} {v : AV} {s : Sets} (ho : o.op = .unOp op t x) (hr : Reach P G gb (opR P G EQ (.unOp op t x) T M N) v s) (hT : TRel σ T a) (hM : MRel w0 W σ M w) (hN : σ N = none)
    (h : Goes w0 W σ M N a o.dst next v s) : o.wp P a w next Q := by
  simp only [opR] at hr
  split at hr
  · rename_i k n hx
    obtain ⟨rfl, rfl⟩ := hr
    have he : a.eval x = .int k n := (opdV_rel hT hx).1
    refine h.value hM hN (v' := .int k (wr k (0 - n))) ?_ ⟨rfl, wr_ok _ _⟩
    unfold execOp
    rw [ho]
    simp [Op.unary, he, Op.intArith, wr_eq]
  · rename_i b hx
    obtain ⟨rfl, rfl⟩ := hr
    have he : a.eval x = .bool b := (opdV_rel hT hx).1
    refine h.value hM hN (v' := .bool (!b)) ?_ ⟨rfl, trivial⟩
    unfold execOp
    rw [ho]
    simp [Op.unary, he]
  · exact hr.elim
theorem convert_ok {t u : TypeId} {x : Operand} {v : AV} {s : Sets} (ho : o.op = .convert t u x) (hr : Reach P G gb (opR P G EQ (.convert t u x) T M N) v s) (hT : TRel σ T a) (hM : MRel w0 W σ M w) (hN : σ N = none)
    (h : Goes w0 W σ M N a o.dst next v s) : o.wp P a w next Q := by
  simp only [opR] at hr
  split at hr
  · rename_i d k k' n h1 h2 hx
    obtain ⟨rfl, rfl⟩ := hr
    have he : a.eval x = .int k' n := (opdV_rel hT hx).1
    refine h.value hM hN (v' := .int k (wr k n)) ?_ ⟨rfl, wr_ok _ _⟩
    unfold execOp
    rw [ho]
    simp [convert, he, underlying_run h1, underlying_run h2, Conv.intToInt, wr_eq]
  · exact hr.elim
theorem extract_ok {x : Operand} {i : Nat} {v : AV} {s : Sets} (ho : o.op = .extract x i) (hr : Reach P G gb (opR P G EQ (.extract x i) T M N) v s) (hT : TRel σ T a) (hM : MRel w0 W σ M w) (hN : σ N = none)
    (h : Goes w0 W σ M N a o.dst next v s) : o.wp P a w next Q := by
  have get : ∀ (l : List V) (vs : List Value) (i : Nat) (u : V), VRels σ l vs → l[i]? = some u → ∃ v', vs[i]? = some v' ∧ VRel σ u v' := by
    intro l
    induction l with
    | nil => intro vs i u _ h; simp at h
    | cons x r ih =>
      intro vs i u hv hu
      cases vs with
      | nil => exact hv.elim
      | cons y s =>
        cases i with
        | zero => simp at hu; subst hu; exact ⟨y, rfl, hv.1⟩
        | succ i => exact ih s i u hv.2 (by simpa using hu)
  simp only [opR] at hr
  split at hr
  · rename_i l hx
    split at hr
    · rename_i u hu
      obtain ⟨rfl, rfl⟩ := hr
      obtain ⟨vs, he, hvs⟩ := opdV_rel hT hx
      obtain ⟨v', h1, h2⟩ := get l vs.toList i u hvs hu
      refine h.value hM hN (v' := v') ?_ h2
      unfold execOp
      rw [ho]
      have h1' : vs[i]? = some v' := by rw [← Array.getElem?_toList]; exact h1
      simp [he, Instr.extract, h1']
    · exact hr.elim
  · exact hr.elim
theorem fieldAddr_ok {t : TypeId} {x : Operand} {f : Nat} {v : AV} {s : Sets} (ho : o.op = .fieldAddr t x f) (hr : Reach P G gb (opR P G EQ (.fieldAddr t x f) T M N) v s) (hT : TRel σ T a) (hM : MRel w0 W σ M w) (hN : σ N = none)
    (h : Goes w0 W σ M N a o.dst next v s) : o.wp P a w next Q := by
  simp only [opR] at hr
  split at hr
  · rename_i fs b k h1 hx
    split at hr
    · rename_i fd hf
      split at hr
      · rename_i n hn
        obtain ⟨rfl, rfl⟩ := hr
        obtain ⟨L, hL, he⟩ := opdV_rel hT hx
        refine h.value hM hN (v' := .pointer (some ⟨L.blk, L.off + (k + fd.offset), none⟩)) ?_ ⟨L, hL, rfl⟩
        unfold execOp
        rw [ho]
        simp [Instr.fieldAt, underlying_run h1, hf, he, Instr.sureAddr, fieldPlace, sizeOf_run hn, add_mk, Nat.add_assoc]
      · exact hr.elim
    · exact hr.elim
  · rename_i fs b i k h1 hx
    split at hr
    · rename_i fd hf
      split at hr
      · rename_i n hn
        obtain ⟨rfl, rfl⟩ := hr
        obtain ⟨L, hL, he, hi⟩ := opdV_rel hT hx
        refine h.value hM hN (v' := .pointer (some ⟨L.blk, L.off + (i * L.es + (k + fd.offset)), none⟩)) ?_ ⟨L, hL, rfl, hi⟩
        unfold execOp
        rw [ho]
        simp [Instr.fieldAt, underlying_run h1, hf, he, Instr.sureAddr, fieldPlace, sizeOf_run hn, add_mk, Nat.add_assoc]
      · exact hr.elim
    · exact hr.elim
  · exact hr.elim
end
end Go.Ev

namespace Go.Ev
open Go
section
variable {P : Program} {G : Nat → Option (List D)} {gb : Nat} {EQ : Tab} {w0 : World} {W : Nat → Prop} {σ : Sg} {a : Act} {w : World} {T : TS} {M : List Blk} {N : Nat} {o : Oper}
  {next : Act → World → Prop} {Q : Exit → Act → World → Prop}
theorem field_ok {t : TypeId} {x : Operand} {f : Nat} {v : AV} {s : Sets} (ho : o.op = .field t x f) (hr : Reach P G gb (opR P G EQ (.field t x f) T M N) v s) (hT : TRel σ T a) (hM : MRel w0 W σ M w) (hN : σ N = none)
    (h : Goes w0 W σ M N a o.dst next v s) : o.wp P a w next Q := by
  simp only [opR] at hr
  split at hr
  · rename_i fs l h1 hx
    split at hr
    · rename_i fd hf
      obtain ⟨u, hu, rfl, rfl⟩ := leafO_reach hr
      obtain ⟨he, hok⟩ := opdV_rel hT hx
      obtain ⟨v', hrun, hv⟩ := part_run (σ := σ) (w := w) hu hok
      refine h.value hM hN (v' := v') ?_ hv
      unfold execOp
      rw [ho]
      simp only [Instr.field, Sem.run_bind, underlying_run h1, Result.andThen_ok, hf, he, asAgg, Sem.run_pure, hrun]
    · exact hr.elim
  · exact hr.elim
theorem indexAddr_ok {t : TypeId} {x i : Operand} {v : AV} {s : Sets} (ho : o.op = .indexAddr t x i) (hr : Reach P G gb (opR P G EQ (.indexAddr t x i) T M N) v s) (hT : TRel σ T a) (hM : MRel w0 W σ M w) (hN : σ N = none)
    (h : Goes w0 W σ M N a o.dst next v s) : o.wp P a w next Q := by
  simp only [opR] at hr
  split at hr
  · rename_i e b k n es ki j h1 hx hi
    split at hr
    · rename_i sz hs
      rcases hr with ⟨hb, rfl, rfl⟩ | ⟨_, hf⟩
      · simp only [Bool.and_eq_true, decide_eq_true_eq] at hb
        obtain ⟨L, cap, hL, he, _⟩ := opdV_rel hT hx
        have hj : a.eval i = .int ki j := (opdV_rel hT hi).1
        refine h.value hM hN (v' := .pointer (some ⟨L.blk, L.off + (k + j.toNat * sz), none⟩)) ?_ ⟨L, hL, rfl⟩
        unfold execOp
        rw [ho]
        simp [Instr.indexAt, asIntOf, hj, he, underlying_run h1, hb, sizeOf_run hs, add_mk, Nat.add_assoc]
      · exact hf.elim
    · exact hr.elim
  · rename_i e b k ki j h1 hx hi
    split at hr
    · rename_i sz own τ xs hs hm
      simp only [cond_eq_ite, beq_iff_eq] at hr
      split at hr
      · rename_i hsz
        rcases hr with ⟨hb, rfl, rfl⟩ | ⟨_, hf⟩
        · simp only [Bool.and_eq_true, decide_eq_true_eq] at hb
          have hj : a.eval i = .int ki j := (opdV_rel hT hi).1
          obtain ⟨L, hL, hv⟩ := opdV_rel hT hx
          have hB := hM.blk b
          rw [hm] at hB
          obtain ⟨L', g1, g2, g3, _⟩ := hB.elems
          rw [hL] at g1
          cases g1
          obtain ⟨n, cap, he, hlt, hjn⟩ : ∃ n cap, a.eval x = .slice (some ⟨L.blk, L.off, none⟩) n cap ∧ j.toNat < L.n ∧ j < (n : Int) := by
            cases k with
            | none =>
              rcases hv with ⟨h0, _⟩ | ⟨cap, he, _⟩
              · simp only [lenK] at hb; omega
              · exact ⟨L.n, cap, he, by simp only [lenK] at hb; omega, by simp only [lenK] at hb; omega⟩
            | some m =>
              obtain ⟨_, h2, cap, he, _⟩ := hv
              exact ⟨m, cap, he, by simp only [lenK] at hb; omega, by simp only [lenK] at hb; omega⟩
          refine h.value hM hN (v' := .pointer (some ⟨L.blk, L.off + (j.toNat * L.es + 0), none⟩)) ?_ ⟨L, hL, rfl, hlt⟩
          unfold execOp
          rw [ho]
          simp [Instr.indexAt, asIntOf, hj, he, underlying_run h1, hb.1, hjn, sizeOf_run hs, add_mk, hsz, g3]
        · exact hf.elim
      · exact hr.elim
    · exact hr.elim
  · rename_i n e b k ki j h1 hx hi
    split at hr
    · rename_i sz hs
      rcases hr with ⟨hb, rfl, rfl⟩ | ⟨_, hf⟩
      · simp only [Bool.and_eq_true, decide_eq_true_eq] at hb
        obtain ⟨L, hL, he⟩ := opdV_rel hT hx
        have hj : a.eval i = .int ki j := (opdV_rel hT hi).1
        refine h.value hM hN (v' := .pointer (some ⟨L.blk, L.off + (k + j.toNat * sz), none⟩)) ?_ ⟨L, hL, rfl⟩
        unfold execOp
        rw [ho]
        simp [Instr.indexAt, asIntOf, hj, he, underlying_run h1, Instr.sureAddr, hb, sizeOf_run hs, add_mk, Nat.add_assoc]
      · exact hf.elim
    · exact hr.elim
  · exact hr.elim
theorem byteAt_ok (s : ByteArray) (j : Int) : inR .u8 (byteAt s j) = true := by
  unfold byteAt
  have h := (s.data.toList.getD j.toNat 0).toNat_lt
  generalize (s.data.toList.getD j.toNat 0).toNat = m at h
  simp only [inR, Bool.and_eq_true, decide_eq_true_eq]
  omega
theorem index_ok {t : TypeId} {x i : Operand} {v : AV} {s : Sets} (ho : o.op = .index t x i) (hr : Reach P G gb (opR P G EQ (.index t x i) T M N) v s) (hT : TRel σ T a) (hM : MRel w0 W σ M w) (hN : σ N = none)
    (h : Goes w0 W σ M N a o.dst next v s) : o.wp P a w next Q := by
  simp only [opR] at hr
  split at hr
  · rename_i n e l ki j h1 hx hi
    split at hr
    · rename_i sz hs
      rcases hr with ⟨hb, hr⟩ | ⟨_, hf⟩
      · simp only [Bool.and_eq_true, decide_eq_true_eq] at hb
        obtain ⟨u, hu, rfl, rfl⟩ := leafO_reach hr
        obtain ⟨he, hok⟩ := opdV_rel hT hx
        have hj : a.eval i = .int ki j := (opdV_rel hT hi).1
        obtain ⟨v', hrun, hv⟩ := part_run (σ := σ) (w := w) hu hok
        refine h.value hM hN (v' := v') ?_ hv
        unfold execOp
        rw [ho]
        simp [Instr.index, asIntOf, hj, he, underlying_run h1, hb, sizeOf_run hs, hrun]
      · exact hf.elim
    · exact hr.elim
  · rename_i st ki j h1 hx hi
    rcases hr with ⟨hb, hr⟩ | ⟨_, hf⟩
    · simp only [Bool.and_eq_true, decide_eq_true_eq] at hb
      obtain ⟨rfl, rfl⟩ := hr
      have he : a.eval x = .string st := (opdV_rel hT hx).1
      have hj : a.eval i = .int ki j := (opdV_rel hT hi).1
      refine h.value hM hN (v' := .int .u8 (byteAt st j)) ?_ ⟨rfl, byteAt_ok st j⟩
      unfold execOp
      rw [ho]
      simp [Instr.index, asIntOf, hj, he, underlying_run h1, hb, byteAt]
      rfl
    · exact hf.elim
  · exact hr.elim
end
end Go.Ev

