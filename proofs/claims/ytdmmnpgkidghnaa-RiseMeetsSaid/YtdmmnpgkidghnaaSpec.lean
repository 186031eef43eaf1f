/-
  Plain data of the program's types, as the evaluator's cells. Definitions only.
-/
import Derived.Test.YtdmmnpgkidghnaaEqual
namespace Go.Ev

structure Source where
  name : ByteArray
  ra : Int
  dec : Int

def i64 (n : Int) : D := .int .i64 n
def u64 (n : Int) : D := .int .u64 n

def Span.cells (a : Span) : List D := [.int .i64 a.lo, .int .i64 a.hi]
def Frac.cells (a : Frac) : List D := [.int .i64 a.num, .int .i64 a.den]
def Delay.cells (a : Delay) : List D := [.int .i64 a.whole, .int .i64 a.part.lo, .int .i64 a.part.hi]
def Dir.cells (a : Dir) : List D := [.int .i64 a.x.lo, .int .i64 a.x.hi, .int .i64 a.y.lo, .int .i64 a.y.hi, .int .i64 a.z.lo, .int .i64 a.z.hi]
def Vec.cells (a : Vec) : List D := [.int .i64 a.x.num, .int .i64 a.x.den, .int .i64 a.y.num, .int .i64 a.y.den, .int .i64 a.z.num, .int .i64 a.z.den]
def Window.cells (a : Window) : List D := [.int .i64 a.frm, .int .i64 a.too]
def Source.cells (a : Source) : List D := [.str a.name, .int .i64 a.ra, .int .i64 a.dec]

def w64 (n : Int) : Int := wr .i64 n
def wu64 (n : Int) : Int := wr .u64 n

/-- Results: a value with an error's number. -/
def rSpan (a : Span) : AV := .v (.agg a.cells)
def rFrac (a : Frac) : AV := .v (.agg a.cells)
def rVec (a : Vec) : AV := .v (.agg a.cells)
def rSpanE (r : Span × Int) : AV := .tup [.agg r.1.cells, .c (.d (.int .i64 r.2))]
def rFracE (r : Frac × Int) : AV := .tup [.agg r.1.cells, .c (.d (.int .i64 r.2))]
def rDelayE (r : Delay × Int) : AV := .tup [.agg r.1.cells, .c (.d (.int .i64 r.2))]
def rDirE (r : Dir × Int) : AV := .tup [.agg r.1.cells, .c (.d (.int .i64 r.2))]
def rVecE (r : Vec × Int) : AV := .tup [.agg r.1.cells, .c (.d (.int .i64 r.2))]
def rIntE (r : Int × Int) : AV := .tup [.c (.d (.int .i64 r.1)), .c (.d (.int .i64 r.2))]
def rIB (r : Int × Bool) : AV := .tup [.c (.d (.int .i64 r.1)), .c (.d (.bool r.2))]
def rBoolE (r : Bool × Int) : AV := .tup [.c (.d (.bool r.1)), .c (.d (.int .i64 r.2))]
def rSpanB (r : Span × Bool) : AV := .tup [.agg r.1.cells, .c (.d (.bool r.2))]
def rI (n : Int) : AV := aint .i64 n
def rU (n : Int) : AV := aint .u64 n
def rUU (r : Int × Int) : AV := .tup [.c (.d (.int .u64 r.1)), .c (.d (.int .u64 r.2))]
def rB (b : Bool) : AV := abool b

def spanZ : Span := ⟨0, 0⟩
def fracZ : Frac := ⟨0, 0⟩
def delayZ : Delay := ⟨0, spanZ⟩
def dirZ : Dir := ⟨spanZ, spanZ, spanZ⟩
def vecZ : Vec := ⟨fracZ, fracZ, fracZ⟩

end Go.Ev
