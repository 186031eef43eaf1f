/-
  Matrices of fractions and turns, as the program and the reference find them. No program here.
-/
import Derived.Test.YtglifoijcdfjaaaGreatDoorVecW
namespace Go.Ev
open Go

structure Mat where
  a : Vec
  b : Vec
  c : Vec

def Mat.cells (m : Mat) : List D := [.int .i64 m.a.x.num, .int .i64 m.a.x.den, .int .i64 m.a.y.num, .int .i64 m.a.y.den, .int .i64 m.a.z.num, .int .i64 m.a.z.den,
  .int .i64 m.b.x.num, .int .i64 m.b.x.den, .int .i64 m.b.y.num, .int .i64 m.b.y.den, .int .i64 m.b.z.num, .int .i64 m.b.z.den,
  .int .i64 m.c.x.num, .int .i64 m.c.x.den, .int .i64 m.c.y.num, .int .i64 m.c.y.den, .int .i64 m.c.z.num, .int .i64 m.c.z.den]
def matZ : Mat := ⟨vecZ, vecZ, vecZ⟩
def rMat (m : Mat) : AV := .v (.agg m.cells)
def rMatE (r : Mat × Int) : AV := .tup [.agg r.1.cells, .c (.d (.int .i64 r.2))]

def oneF : Frac := ⟨1, 1⟩
def zeroF : Frac := ⟨0, 1⟩
def unitM : Mat := ⟨⟨oneF, zeroF, zeroF⟩, ⟨zeroF, oneF, zeroF⟩, ⟨zeroF, zeroF, oneF⟩⟩
def matOkB (m : Mat) : Bool := vecOkB m.a && (vecOkB m.b && vecOkB m.c)
def Mat.list (m : Mat) : List Frac := [m.a.x, m.a.y, m.a.z, m.b.x, m.b.y, m.b.z, m.c.x, m.c.y, m.c.z]

structure MatOk (m : Mat) : Prop where
  a : VecOk m.a
  b : VecOk m.b
  c : VecOk m.c
theorem matOkB_iff {m : Mat} : matOkB m = true ↔ MatOk m := by
  unfold matOkB
  simp only [Bool.and_eq_true, vecOkB_iff]
  exact ⟨fun h => ⟨h.1, h.2.1, h.2.2⟩, fun h => ⟨h.a, h.b, h.c⟩⟩

def goodAns (bad more : Ans) : List Frac → Ans
  | [] => more
  | f :: r => bif checkF f != 0 then bad else goodAns bad more r
theorem goodAns_ok {bad more : Ans} : ∀ {l : List Frac}, goodAns bad more l = bif l.all fracOkB then more else bad
  | [] => rfl
  | f :: r => by
    rw [goodAns, goodAns_ok, List.all_cons]
    unfold checkF
    cases fracOkB f <;> rfl
theorem mat_list (m : Mat) : m.list.all fracOkB = matOkB m := by
  unfold Mat.list matOkB vecOkB
  simp only [List.all_cons, List.all_nil, Bool.and_true, Bool.and_assoc]
theorem mat_lists (m n : Mat) : (m.list ++ n.list).all fracOkB = (matOkB m && matOkB n) := by rw [List.all_append, mat_list, mat_list]

def andG {α β : Type} (x : α × Int) (z : β) (k : α → β × Int) : β × Int := bif x.2 == 0 then k x.1 else (z, x.2)

/-! ### Matrix and vector -/

def applyF (m : Mat) (v : Vec) : Vec × Int := eachV (dotF m.a v) (dotF m.b v) (dotF m.c v)
def applyV (m : Mat) (v : Vec) : Vec × Int := bif matOkB m && vecOkB v then applyF m v else (vecZ, 8)
def applyAns (K : AV → List Blk → Ans) (m : Mat) (v : Vec) : Ans :=
  goodAns (K (rVecE (vecZ, 8)) []) (bif checkV v != 0 then K (rVecE (vecZ, checkV v)) [] else eachAns K (dotF m.a v) (dotF m.b v) (dotF m.c v)) m.list
theorem applyAns_ok {K : AV → List Blk → Ans} {m : Mat} {v : Vec} : applyAns K m v = K (rVecE (applyV m v)) [] := by
  unfold applyAns applyV checkV
  rw [goodAns_ok, mat_list, eachAns_ok]
  cases matOkB m <;> cases vecOkB v <;> rfl

theorem dotV_ok {v w : Vec} (hv : VecOk v) (hw : VecOk w) : dotV v w = dotF v w := by unfold dotV; rw [vecOkB_iff.2 hv, vecOkB_iff.2 hw]; rfl
theorem crossV_ok {v w : Vec} (hv : VecOk v) (hw : VecOk w) : crossV v w = crossF v w := by unfold crossV; rw [vecOkB_iff.2 hv, vecOkB_iff.2 hw]; rfl

def checkM (m : Mat) : Int := bif matOkB m then 0 else 8
def checkMRaw (m : Mat) : Int := bif checkV m.a != 0 then 8 else bif checkV m.b != 0 then 8 else bif checkV m.c != 0 then 8 else 0
theorem checkMRaw_ok (m : Mat) : checkMRaw m = checkM m := by
  unfold checkMRaw checkM checkV matOkB
  cases vecOkB m.a <;> cases vecOkB m.b <;> cases vecOkB m.c <;> rfl

def applyRef (K : AV → List Blk → Ans) (m : Mat) (v : Vec) : Ans := bif checkM m != 0 then K (rVecE (vecZ, 8)) [] else bif checkV v != 0 then K (rVecE (vecZ, 8)) [] else
  K (rVecE (vecR (dotV m.a v).1 (dotV m.b v).1 (dotV m.c v).1 (firstI (dotV m.a v).2 (dotV m.b v).2 (dotV m.c v).2))) []
theorem applyRef_ok {K : AV → List Blk → Ans} {m : Mat} {v : Vec} : applyRef K m v = K (rVecE (applyV m v)) [] := by
  unfold applyRef applyV checkM checkV
  rw [vecR_each]
  cases hm : matOkB m with
  | false => rfl
  | true =>
    cases hv : vecOkB v with
    | false => rfl
    | true =>
      have km := matOkB_iff.1 hm
      have kv := vecOkB_iff.1 hv
      rw [dotV_ok km.a kv, dotV_ok km.b kv, dotV_ok km.c kv]
      rfl

/-! ### Products -/

def flipM (m : Mat) : Mat := ⟨⟨m.a.x, m.b.x, m.c.x⟩, ⟨m.a.y, m.b.y, m.c.y⟩, ⟨m.a.z, m.b.z, m.c.z⟩⟩
theorem flip_ok {m : Mat} (h : MatOk m) : MatOk (flipM m) := ⟨⟨h.a.x, h.b.x, h.c.x⟩, ⟨h.a.y, h.b.y, h.c.y⟩, ⟨h.a.z, h.b.z, h.c.z⟩⟩

def eachK (x y z : Frac × Int) (bad : Int → Ans) (more : Vec → Ans) : Ans := bif x.2 != 0 then bad x.2 else bif y.2 != 0 then bad y.2 else bif z.2 != 0 then bad z.2 else more ⟨x.1, y.1, z.1⟩
theorem eachK_ok {x y z : Frac × Int} {bad : Int → Ans} {more : Vec → Ans} : eachK x y z bad more = bif (eachV x y z).2 != 0 then bad (eachV x y z).2 else more (eachV x y z).1 := by
  unfold eachK eachV
  cases hx : x.2 != 0 <;> cases hy : y.2 != 0 <;> cases hz : z.2 != 0 <;> simp [hx, hy, hz]

def rowF (v : Vec) (c : Mat) : Vec × Int := eachV (dotF v c.a) (dotF v c.b) (dotF v c.c)
def prodC (m c : Mat) : Mat × Int := andG (rowF m.a c) matZ fun x => andG (rowF m.b c) matZ fun y => andG (rowF m.c c) matZ fun z => (⟨x, y, z⟩, 0)
def prodF (m n : Mat) : Mat × Int := prodC m (flipM n)
def prodMAns (K : AV → List Blk → Ans) (m n : Mat) : Ans :=
  eachK (dotF m.a (flipM n).a) (dotF m.a (flipM n).b) (dotF m.a (flipM n).c) (fun e => K (rMatE (matZ, e)) []) fun x =>
  eachK (dotF m.b (flipM n).a) (dotF m.b (flipM n).b) (dotF m.b (flipM n).c) (fun e => K (rMatE (matZ, e)) []) fun y =>
  eachK (dotF m.c (flipM n).a) (dotF m.c (flipM n).b) (dotF m.c (flipM n).c) (fun e => K (rMatE (matZ, e)) []) fun z => K (rMatE (⟨x, y, z⟩, 0)) []
theorem prodMAns_ok {K : AV → List Blk → Ans} {m n : Mat} : prodMAns K m n = K (rMatE (prodF m n)) [] := by
  unfold prodMAns prodF prodC rowF
  simp only [eachK_ok]
  generalize eachV (dotF m.a (flipM n).a) (dotF m.a (flipM n).b) (dotF m.a (flipM n).c) = x
  generalize eachV (dotF m.b (flipM n).a) (dotF m.b (flipM n).b) (dotF m.b (flipM n).c) = y
  generalize eachV (dotF m.c (flipM n).a) (dotF m.c (flipM n).b) (dotF m.c (flipM n).c) = z
  unfold andG
  cases hx : x.2 == 0 <;> cases hy : y.2 == 0 <;> cases hz : z.2 == 0 <;> simp [bne, hx, hy, hz]

def prodM (m n : Mat) : Mat × Int := bif matOkB m && matOkB n then prodF m n else (matZ, 8)
def prodVAns (K : AV → List Blk → Ans) (m n : Mat) : Ans := goodAns (K (rMatE (matZ, 8)) []) (K (rMatE (prodF m n)) []) (m.list ++ n.list)
theorem prodVAns_ok {K : AV → List Blk → Ans} {m n : Mat} : prodVAns K m n = K (rMatE (prodM m n)) [] := by
  unfold prodVAns prodM
  rw [goodAns_ok, mat_lists]
  cases matOkB m && matOkB n <;> rfl
def prodRef (K : AV → List Blk → Ans) (m n : Mat) : Ans := bif checkM m != 0 then K (rMatE (matZ, 8)) [] else bif checkM n != 0 then K (rMatE (matZ, 8)) [] else
  eachK (dotV m.a (flipM n).a) (dotV m.a (flipM n).b) (dotV m.a (flipM n).c) (fun e => K (rMatE (matZ, e)) []) fun x =>
  eachK (dotV m.b (flipM n).a) (dotV m.b (flipM n).b) (dotV m.b (flipM n).c) (fun e => K (rMatE (matZ, e)) []) fun y =>
  eachK (dotV m.c (flipM n).a) (dotV m.c (flipM n).b) (dotV m.c (flipM n).c) (fun e => K (rMatE (matZ, e)) []) fun z => K (rMatE (⟨x, y, z⟩, 0)) []
theorem prodRef_ok {K : AV → List Blk → Ans} {m n : Mat} : prodRef K m n = K (rMatE (prodM m n)) [] := by
  unfold prodRef prodM checkM
  cases hm : matOkB m with
  | false => rfl
  | true =>
    cases hn : matOkB n with
    | false => rfl
    | true =>
      have km := matOkB_iff.1 hm
      have kn := flip_ok (matOkB_iff.1 hn)
      simp only [dotV_ok km.a kn.a, dotV_ok km.a kn.b, dotV_ok km.a kn.c, dotV_ok km.b kn.a, dotV_ok km.b kn.b, dotV_ok km.b kn.c, dotV_ok km.c kn.a, dotV_ok km.c kn.b, dotV_ok km.c kn.c]
      exact prodMAns_ok

def flipV (m : Mat) : Mat × Int := bif matOkB m then (flipM m, 0) else (matZ, 8)
def flipAns (K : AV → List Blk → Ans) (m : Mat) : Ans := goodAns (K (rMatE (matZ, 8)) []) (K (rMatE (flipM m, 0)) []) m.list
theorem flipAns_ok {K : AV → List Blk → Ans} {m : Mat} : flipAns K m = K (rMatE (flipV m)) [] := by
  unfold flipAns flipV
  rw [goodAns_ok, mat_list]
  cases matOkB m <;> rfl
def flipRef (K : AV → List Blk → Ans) (m : Mat) : Ans := bif checkM m != 0 then K (rMatE (matZ, 8)) [] else K (rMatE (flipM m, 0)) []
theorem flipRef_ok {K : AV → List Blk → Ans} {m : Mat} : flipRef K m = K (rMatE (flipV m)) [] := by
  unfold flipRef flipV checkM
  cases matOkB m <;> rfl

def detF (m : Mat) : Frac × Int := andG (crossF m.b m.c) fracZ fun c => dotF m.a c
def detV (m : Mat) : Frac × Int := bif matOkB m then detF m else (fracZ, 8)
def detAns (K : AV → List Blk → Ans) (m : Mat) : Ans := goodAns (K (rFracE (fracZ, 8)) []) (bif (crossF m.b m.c).2 != 0 then K (rFracE (fracZ, (crossF m.b m.c).2)) [] else K (rFracE (dotF m.a (crossF m.b m.c).1)) []) m.list
theorem detAns_ok {K : AV → List Blk → Ans} {m : Mat} : detAns K m = K (rFracE (detV m)) [] := by
  unfold detAns detV detF andG
  rw [goodAns_ok, mat_list]
  cases matOkB m with
  | false => rfl
  | true => cases hx : (crossF m.b m.c).2 == 0 <;> simp [bne, hx]

theorem crossC_cases {a b c d : Frac} (ha : FracOk a) (hb : FracOk b) (hc : FracOk c) (hd : FracOk d) : (∃ r, crossC a b c d = (r, 0) ∧ FracOk r) ∨ crossC a b c d = (fracZ, 16) := by
  unfold crossC andF
  rcases mulF_cases ha hb with ⟨p, e1, k1⟩ | e1
  · rcases mulF_cases hc hd with ⟨q, e2, k2⟩ | e2
    · rw [e1, e2]; exact subF_cases k1 k2
    · rw [e1, e2]; exact .inr rfl
  · rw [e1]; exact .inr rfl
theorem eachV_cases {x y z : Frac × Int} (hx : (∃ r, x = (r, 0) ∧ FracOk r) ∨ x = (fracZ, 16)) (hy : (∃ r, y = (r, 0) ∧ FracOk r) ∨ y = (fracZ, 16)) (hz : (∃ r, z = (r, 0) ∧ FracOk r) ∨ z = (fracZ, 16)) :
    (∃ v, eachV x y z = (v, 0) ∧ VecOk v ∧ x = (v.x, 0) ∧ y = (v.y, 0) ∧ z = (v.z, 0)) ∨ eachV x y z = (vecZ, 16) := by
  unfold eachV
  rcases hx with ⟨a, rfl, ka⟩ | rfl
  · rcases hy with ⟨b, rfl, kb⟩ | rfl
    · rcases hz with ⟨c, rfl, kc⟩ | rfl
      · exact .inl ⟨⟨a, b, c⟩, rfl, ⟨ka, kb, kc⟩, rfl, rfl, rfl⟩
      · exact .inr rfl
    · exact .inr rfl
  · exact .inr rfl
theorem crossF_cases {v w : Vec} (hv : VecOk v) (hw : VecOk w) : (∃ u, crossF v w = (u, 0) ∧ VecOk u ∧ crossC v.y w.z v.z w.y = (u.x, 0) ∧ crossC v.z w.x v.x w.z = (u.y, 0) ∧ crossC v.x w.y v.y w.x = (u.z, 0)) ∨ crossF v w = (vecZ, 16) :=
  eachV_cases (crossC_cases hv.y hw.z hv.z hw.y) (crossC_cases hv.z hw.x hv.x hw.z) (crossC_cases hv.x hw.y hv.y hw.x)

def detRef (K : AV → List Blk → Ans) (m : Mat) : Ans := bif checkM m != 0 then K (rFracE (fracZ, 8)) [] else bif (crossV m.b m.c).2 != 0 then K (rFracE (fracZ, (crossV m.b m.c).2)) [] else K (rFracE (dotV m.a (crossV m.b m.c).1)) []
theorem detRef_ok {K : AV → List Blk → Ans} {m : Mat} : detRef K m = K (rFracE (detV m)) [] := by
  unfold detRef detV detF checkM andG
  cases hm : matOkB m with
  | false => rfl
  | true =>
    have km := matOkB_iff.1 hm
    rw [crossV_ok km.b km.c]
    rcases crossF_cases km.b km.c with ⟨u, e, ku, _⟩ | e
    · rw [e]; simp [dotV_ok km.a ku]
    · rw [e]; rfl

/-! ### Turns -/

def doStep (failed : Int) (f : Frac → Frac → Frac × Int) (a b : Frac) (k : Int → Frac → Ans) : Ans := bif failed != 0 then k failed zeroF else k (f a b).2 (f a b).1
theorem doStep_bad {e : Int} (he : e ≠ 0) {f : Frac → Frac → Frac × Int} {a b : Frac} {k : Int → Frac → Ans} : doStep e f a b k = k e zeroF := by
  unfold doStep
  rw [show (e != 0) = true by simpa using he]
  rfl
theorem doStep_good {f : Frac → Frac → Frac × Int} {a b : Frac} {k : Int → Frac → Ans} : doStep 0 f a b k = k (f a b).2 (f a b).1 := rfl

def pairZ : Frac × Frac := (fracZ, fracZ)
def pairF (t : Frac) : (Frac × Frac) × Int := andG (mulF t t) pairZ fun q => andG (subF oneF q) pairZ fun lo => andG (addF oneF q) pairZ fun hi => andG (divF lo hi) pairZ fun c => andG (addF t t) pairZ fun tw => andG (divF tw hi) pairZ fun s => ((c, s), 0)

def turnOf (axis : Int) (c s : Frac) : Mat := bif axis == 0 then ⟨⟨oneF, zeroF, zeroF⟩, ⟨zeroF, c, negR s⟩, ⟨zeroF, s, c⟩⟩ else bif axis == 1 then ⟨⟨c, zeroF, s⟩, ⟨zeroF, oneF, zeroF⟩, ⟨negR s, zeroF, c⟩⟩ else ⟨⟨c, negR s, zeroF⟩, ⟨s, c, zeroF⟩, ⟨zeroF, zeroF, oneF⟩⟩
def turnW (axis : Int) (c b s : Frac) : Mat := bif axis == 0 then ⟨⟨oneF, zeroF, zeroF⟩, ⟨zeroF, c, b⟩, ⟨zeroF, s, c⟩⟩ else bif axis == 1 then ⟨⟨c, zeroF, s⟩, ⟨zeroF, oneF, zeroF⟩, ⟨b, zeroF, c⟩⟩ else ⟨⟨c, b, zeroF⟩, ⟨s, c, zeroF⟩, ⟨zeroF, zeroF, oneF⟩⟩
theorem turnW_eq (axis : Int) (c s : Frac) : turnW axis c (negR s) s = turnOf axis c s := rfl

def turnF (axis : Int) (t : Frac) : Mat × Int := bif fracOkB t then (bif decide (0 ≤ axis) && decide (axis ≤ 2) then (bif (pairF t).2 == 0 then (turnOf axis (pairF t).1.1 (pairF t).1.2, 0) else (matZ, 16)) else (matZ, 2)) else (matZ, 8)

/-- The turn's own steps. -/
def turnSteps (K : AV → List Blk → Ans) (axis : Int) (t : Frac) : Ans :=
  doStep 0 mulF t t fun e q => doStep e subF oneF q fun e lo => doStep e addF oneF q fun e hi => doStep e divF lo hi fun e c => doStep e addF t t fun e tw => doStep e divF tw hi fun e s => doStep e subF zeroF s fun e b =>
    bif e != 0 then K (rMatE (matZ, 16)) [] else K (rMatE (turnW axis c b s, 0)) []
def turnMAns (K : AV → List Blk → Ans) (axis : Int) (t : Frac) : Ans := bif checkF t != 0 then K (rMatE (matZ, 8)) [] else turnSteps K axis t
def turnMAns0 (K : AV → List Blk → Ans) (axis : Int) (t : Frac) : Ans := bif checkF t != 0 then K (rMatE (matZ, 8)) [] else bif decide (axis < 0) then K (rMatE (matZ, 2)) [] else bif decide (axis > 2) then K (rMatE (matZ, 2)) [] else none

theorem one_ok : FracOk oneF := fracOkB_iff.1 (by decide)
theorem zero_ok : FracOk zeroF := fracOkB_iff.1 (by decide)

theorem subF_nought {p : Frac} (hp : FracOk p) : subF zeroF p = (negR p, 0) := by
  rw [← addF_neg zero_ok hp]
  exact addF_nought (negR_ok hp)

theorem divF_cases {a b : Frac} (ha : FracOk a) (hb : FracOk b) (h : b.num ≠ 0) : (∃ c, divF a b = (c, 0) ∧ FracOk c) ∨ divF a b = (fracZ, 16) := by
  unfold divF
  rw [fracOkB_iff.2 ha, fracOkB_iff.2 hb, show (b.num == 0) = false by simpa using h]
  simp only [Bool.and_self, cond_true, cond_false]
  have h1 := ha.denlo
  by_cases hn : b.num < 0
  · rw [decide_eq_true hn]
    simp only [cond_true]
    rcases fracOf_err (a.num * -b.den) (a.den * -b.num) with e | e
    · exact .inl ⟨_, fst_of e, (frac_val (Int.mul_pos (by omega) (by omega)) (fst_of e)).1⟩
    · exact .inr e
  · rw [decide_eq_false hn]
    simp only [cond_false]
    rcases fracOf_err (a.num * b.den) (a.den * b.num) with e | e
    · exact .inl ⟨_, fst_of e, (frac_val (Int.mul_pos (by omega) (by omega)) (fst_of e)).1⟩
    · exact .inr e

theorem mulF_val {a b c : Frac} (ha : FracOk a) (hb : FracOk b) (h : mulF a b = (c, 0)) : FracOk c ∧ c.num * (a.den * b.den) = (a.num * b.num) * c.den := by
  rw [mulF_ok ha hb] at h
  exact frac_val (den_pos ha hb) h
theorem addF_vl {a b c : Frac} (ha : FracOk a) (hb : FracOk b) (h : addF a b = (c, 0)) : FracOk c ∧ c.num * (a.den * b.den) = (a.num * b.den + b.num * a.den) * c.den := by
  rw [addF_ok ha hb] at h
  exact frac_val (den_pos ha hb) h

theorem sq_nn (n : Int) : 0 ≤ n * n := by
  rcases Int.le_total 0 n with h | h
  · exact Int.mul_nonneg h h
  · exact Int.mul_nonneg_of_nonpos_of_nonpos h h

/-- One and a square: above nought. -/
theorem hi_pos {t q hi : Frac} (ht : FracOk t) (h1 : mulF t t = (q, 0)) (h2 : addF oneF q = (hi, 0)) : 0 < hi.num := by
  obtain ⟨kq, e1⟩ := mulF_val ht ht h1
  obtain ⟨kh, e2⟩ := addF_vl one_ok kq h2
  have hq := kq.denlo; have hh := kh.denlo; have hd := ht.denlo
  have p1 : 0 ≤ q.num := by
    rcases Int.lt_or_le q.num 0 with n | n
    · have := Int.mul_neg_of_neg_of_pos n (Int.mul_pos (show 0 < t.den by omega) (show 0 < t.den by omega))
      have := Int.mul_nonneg (sq_nn t.num) (show 0 ≤ q.den by omega)
      omega
    · exact n
  simp only [oneF, Int.one_mul, Int.mul_one] at e2
  rcases Int.lt_or_le 0 hi.num with n | n
  · exact n
  · have := Int.mul_nonpos_of_nonpos_of_nonneg n (show 0 ≤ q.den by omega)
    have := Int.mul_pos (show 0 < q.den + q.num by omega) (show 0 < hi.den by omega)
    omega

theorem turnSteps_ok {K : AV → List Blk → Ans} {axis : Int} {t : Frac} (ht : FracOk t) : turnSteps K axis t = bif (pairF t).2 == 0 then K (rMatE (turnOf axis (pairF t).1.1 (pairF t).1.2, 0)) [] else K (rMatE (matZ, 16)) [] := by
  have h16 : (16 : Int) ≠ 0 := by omega
  unfold turnSteps pairF andG
  rw [doStep_good]
  rcases mulF_cases ht ht with ⟨q, e1, kq⟩ | e1
  · rw [e1]; simp only [doStep_good]
    rcases subF_cases one_ok kq with ⟨lo, e2, klo⟩ | e2
    · rw [e2]; simp only [doStep_good]
      rcases addF_cases one_ok kq with ⟨hi, e3, khi⟩ | e3
      · rw [e3]; simp only [doStep_good]
        have hp := hi_pos ht e1 e3
        rcases divF_cases klo khi (by omega) with ⟨c, e4, kc⟩ | e4
        · rw [e4]; simp only [doStep_good]
          rcases addF_cases ht ht with ⟨tw, e5, ktw⟩ | e5
          · rw [e5]; simp only [doStep_good]
            rcases divF_cases ktw khi (by omega) with ⟨s, e6, ks⟩ | e6
            · rw [e6]; simp only [doStep_good, subF_nought ks, turnW_eq]; rfl
            · rw [e6]; simp only [doStep_bad h16]; rfl
          · rw [e5]; simp only [doStep_bad h16]; rfl
        · rw [e4]; simp only [doStep_bad h16]; rfl
      · rw [e3]; simp only [doStep_bad h16]; rfl
    · rw [e2]; simp only [doStep_bad h16]; rfl
  · rw [e1]; simp only [doStep_bad h16]; rfl

theorem turnMAns_ok {K : AV → List Blk → Ans} {axis : Int} {t : Frac} (h : 0 ≤ axis ∧ axis ≤ 2) : turnMAns K axis t = K (rMatE (turnF axis t)) [] := by
  unfold turnMAns turnF checkF
  cases ht : fracOkB t with
  | false => rfl
  | true =>
    rw [turnSteps_ok (fracOkB_iff.1 ht), decide_eq_true h.1, decide_eq_true h.2]
    cases (pairF t).2 == 0 <;> rfl
theorem turnMAns0_ok {K : AV → List Blk → Ans} {axis : Int} {t : Frac} (h : axis ≠ 0 ∧ axis ≠ 1 ∧ axis ≠ 2) : turnMAns0 K axis t = K (rMatE (turnF axis t)) [] := by
  unfold turnMAns0 turnF checkF
  cases ht : fracOkB t with
  | false => rfl
  | true =>
    by_cases h1 : axis < 0
    · rw [decide_eq_true h1, decide_eq_false (show ¬ 0 ≤ axis by omega)]; rfl
    · rw [decide_eq_false h1, decide_eq_true (show axis > 2 by omega), decide_eq_false (show ¬ axis ≤ 2 by omega), Bool.and_false]; rfl

/-! ### Turns: the reference -/

def rPair (r : (Frac × Frac) × Int) : AV := .tup [.agg r.1.1.cells, .agg r.1.2.cells, .c (.d (.int .i64 r.2))]
def twoN : Frac := ⟨2, 1⟩
theorem two_ok : FracOk twoN := fracOkB_iff.1 (by decide)

def pairR (t : Frac) : (Frac × Frac) × Int :=
  bif firstI (mulF t t).2 (subF oneF (mulF t t).1).2 (addF oneF (mulF t t).1).2 != 0 then (pairZ, firstI (mulF t t).2 (subF oneF (mulF t t).1).2 (addF oneF (mulF t t).1).2) else
    (((divF (subF oneF (mulF t t).1).1 (addF oneF (mulF t t).1).1).1, (divF (mulF t twoN).1 (addF oneF (mulF t t).1).1).1),
      firstI (divF (subF oneF (mulF t t).1).1 (addF oneF (mulF t t).1).1).2 (mulF t twoN).2 (divF (mulF t twoN).1 (addF oneF (mulF t t).1).1).2)
def turnMR (axis : Int) (t : Frac) : Mat × Int := bif fracOkB t then (bif decide (0 ≤ axis) && decide (axis ≤ 2) then (bif (pairR t).2 == 0 then (turnOf axis (pairR t).1.1 (pairR t).1.2, 0) else (matZ, (pairR t).2)) else (matZ, 2)) else (matZ, 8)
def turnRef (K : AV → List Blk → Ans) (axis : Int) (t : Frac) : Ans := bif checkF t != 0 then K (rMatE (matZ, 8)) [] else bif (pairR t).2 != 0 then K (rMatE (matZ, (pairR t).2)) [] else K (rMatE (turnOf axis (pairR t).1.1 (pairR t).1.2, 0)) []

theorem gcdI_scale {c n d : Int} (hc : 0 < c) : gcdI (c * n) (c * d) = c * gcdI n d := by
  rw [gcdI_eq, gcdI_eq, Int.gcd_mul_left, Int.natCast_mul]
  congr 1
  omega
theorem fracOf_scale {c n d : Int} (hc : 0 < c) : fracOf (c * n) (c * d) = fracOf n d := by
  have ha : absI (c * n) = c * absI n := by rw [absI_eq, absI_eq, Int.natAbs_mul, Int.natCast_mul]; congr 1; omega
  unfold fracOf
  rw [gcdI_scale hc, ha, Int.mul_ediv_mul_of_pos _ _ hc, Int.mul_ediv_mul_of_pos _ _ hc, Int.mul_ediv_mul_of_pos _ _ hc]

theorem twice_eq {t : Frac} (ht : FracOk t) : mulF t twoN = addF t t := by
  rw [mulF_ok ht two_ok, addF_ok ht ht, show t.num * t.den + t.num * t.den = t.den * (t.num * 2) by grind, fracOf_scale (by have := ht.denlo; omega), twoN, Int.mul_one]

theorem pair_eq {t : Frac} (ht : FracOk t) : ((pairF t).2 = 0 ∧ pairR t = pairF t) ∨ ((pairF t).2 ≠ 0 ∧ (pairR t).2 = 16) := by
  unfold pairR pairF andG firstI
  rw [twice_eq ht]
  rcases mulF_cases ht ht with ⟨q, e1, kq⟩ | e1
  · rw [e1]; simp only
    rcases subF_cases one_ok kq with ⟨lo, e2, klo⟩ | e2
    · rw [e2]; simp only
      rcases addF_cases one_ok kq with ⟨hi, e3, khi⟩ | e3
      · rw [e3]; simp only
        have hp := hi_pos ht e1 e3
        rcases divF_cases klo khi (by omega) with ⟨c, e4, kc⟩ | e4
        · rw [e4]; simp only
          rcases addF_cases ht ht with ⟨tw, e5, ktw⟩ | e5
          · rw [e5]; simp only
            rcases divF_cases ktw khi (by omega) with ⟨s, e6, ks⟩ | e6
            · rw [e6]; simp
            · rw [e6]; simp
          · rw [e5]; simp
        · rw [e4]; simp
      · rw [e3]; simp
    · rw [e2]; simp
  · rw [e1]; simp

theorem turnMR_eq (axis : Int) (t : Frac) : turnMR axis t = turnF axis t := by
  unfold turnMR turnF
  cases ht : fracOkB t with
  | false => rfl
  | true =>
    rcases pair_eq (fracOkB_iff.1 ht) with ⟨h1, h2⟩ | ⟨h1, h2⟩
    · rw [h2, h1]; rfl
    · rw [h2, show ((pairF t).2 == 0) = false by simpa using h1]; rfl

theorem turnRef_ok {K : AV → List Blk → Ans} {axis : Int} {t : Frac} (h : 0 ≤ axis ∧ axis ≤ 2) : turnRef K axis t = K (rMatE (turnF axis t)) [] := by
  rw [← turnMR_eq]
  unfold turnRef turnMR checkF
  rw [decide_eq_true h.1, decide_eq_true h.2]
  cases ht : fracOkB t with
  | false => rfl
  | true => cases hp : (pairR t).2 == 0 <;> simp [bne, hp]

def turnRef0 (K : AV → List Blk → Ans) (axis : Int) (t : Frac) : Ans := bif checkF t != 0 then K (rMatE (matZ, 8)) [] else bif decide (axis < 0) then K (rMatE (matZ, 2)) [] else bif decide (axis > 2) then K (rMatE (matZ, 2)) [] else bif (pairR t).2 != 0 then none else none
theorem turnRef0_ok {K : AV → List Blk → Ans} {axis : Int} {t : Frac} (h : axis ≠ 0 ∧ axis ≠ 1 ∧ axis ≠ 2) : turnRef0 K axis t = K (rMatE (turnF axis t)) [] := by
  refine Eq.trans ?_ (turnMAns0_ok h)
  unfold turnRef0 turnMAns0
  cases (pairR t).2 != 0 <;> rfl

/-! ### Rotations -/

def isV (m : Mat) : Bool × Int := bif matOkB m then andG (prodF m (flipM m)) false fun p => andG (detF m) false fun d => (eqAll p.cells unitM.cells && eqAll d.cells oneF.cells, 0) else (false, 8)
def isTail (K : AV → List Blk → Ans) (p : Mat × Int) (d : Frac × Int) : Ans := bif p.2 != 0 then K (rBoolE (false, p.2)) [] else bif d.2 != 0 then K (rBoolE (false, d.2)) [] else
  bif eqAll p.1.cells unitM.cells then K (rBoolE (eqAll d.1.cells oneF.cells, 0)) [] else K (rBoolE (false, 0)) []
theorem isTail_ok {K : AV → List Blk → Ans} {p : Mat × Int} {d : Frac × Int} : isTail K p d = K (rBoolE (andG p false fun p => andG d false fun d => (eqAll p.cells unitM.cells && eqAll d.cells oneF.cells, 0))) [] := by
  unfold isTail andG
  cases hp : p.2 == 0 <;> cases hd : d.2 == 0 <;> simp [bne, hp, hd]
  cases eqAll p.1.cells unitM.cells <;> rfl
def isAns (K : AV → List Blk → Ans) (m : Mat) : Ans := goodAns (K (rBoolE (false, 8)) []) (isTail K (prodF m (flipM m)) (detV m)) m.list
theorem isAns_ok {K : AV → List Blk → Ans} {m : Mat} : isAns K m = K (rBoolE (isV m)) [] := by
  unfold isAns isV detV
  rw [goodAns_ok, mat_list, isTail_ok]
  cases matOkB m <;> rfl
def isRef (K : AV → List Blk → Ans) (m : Mat) : Ans := bif checkM m != 0 then K (rBoolE (false, 8)) [] else isTail K (prodM m (flipV m).1) (detV m)
theorem isRef_ok {K : AV → List Blk → Ans} {m : Mat} : isRef K m = K (rBoolE (isV m)) [] := by
  unfold isRef isV detV checkM prodM flipV
  rw [isTail_ok]
  cases hm : matOkB m with
  | false => rfl
  | true =>
    simp only [cond_true]
    rw [matOkB_iff.2 (flip_ok (matOkB_iff.1 hm))]
    rfl

def lawVecMatrices (K : AV → List Blk → Ans) (m n : Mat) (v : Vec) (axis : Int) (t : Frac) : Ans :=
  chain K [eqAll (applyV m v).1.cells (applyV m v).1.cells, (applyV m v).2 == (applyV m v).2, eqAll (prodM m n).1.cells (prodM m n).1.cells, (prodM m n).2 == (prodM m n).2,
    eqAll (flipV m).1.cells (flipV m).1.cells, (flipV m).2 == (flipV m).2, eqAll (detV m).1.cells (detV m).1.cells, (detV m).2 == (detV m).2,
    eqAll (turnF axis t).1.cells (turnF axis t).1.cells, (turnF axis t).2 == (turnF axis t).2, (isV m).1 == (isV m).1, (isV m).2 == (isV m).2]
theorem lawVecMatrices_ok {K : AV → List Blk → Ans} {m n : Mat} {v : Vec} {axis : Int} {t : Frac} : lawVecMatrices K m n v axis t = K (rB true) [] := by
  unfold lawVecMatrices
  refine chain_true fun c hc => ?_
  simp only [eqAll_self, beq_self_eq_true, List.mem_cons, List.not_mem_nil, or_false, or_self] at hc
  exact hc

end Go.Ev
