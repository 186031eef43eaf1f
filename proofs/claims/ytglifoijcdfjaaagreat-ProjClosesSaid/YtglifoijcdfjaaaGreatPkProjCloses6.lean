/-
  Plain functions that mirror functions of the program, and that it computes them. No condition beyond those of the statements.
  Arrays of stations as plain functions: which are valid, their places, their baselines; the program's and the reference's are the same. No condition.
  Baselines that close: opposite ones are opposite, two in a row sum to the third; the law ProjCloses. No condition.
-/
import Derived.Test.YtglifoijcdfjaaaGreatPkProjCloses5
namespace Go.Ev
open Go Go.Proofs

structure O_array_Line where
  ok : Bool
  r0 : Vec
  r1 : Int

def m_array_Line (a0 : Globe) (a1 : List Site) (a2 : Int) (a3 : Int) : O_array_Line := bif (m_array_place a0 a1).ok then (bif ((m_array_place a0 a1).r1 != (0 : Int)) then ⟨true, ⟨⟨(0 : Int), (0 : Int)⟩, ⟨(0 : Int), (0 : Int)⟩, ⟨(0 : Int), (0 : Int)⟩⟩, (m_array_place a0 a1).r1⟩ else (bif decide (a2 < (0 : Int)) then ⟨true, ⟨⟨(0 : Int), (0 : Int)⟩, ⟨(0 : Int), (0 : Int)⟩, ⟨(0 : Int), (0 : Int)⟩⟩, (2 : Int)⟩ else (bif decide ((((m_array_place a0 a1).r0).length : Int) ≤ a2) then ⟨true, ⟨⟨(0 : Int), (0 : Int)⟩, ⟨(0 : Int), (0 : Int)⟩, ⟨(0 : Int), (0 : Int)⟩⟩, (2 : Int)⟩ else (bif decide (a3 < (0 : Int)) then ⟨true, ⟨⟨(0 : Int), (0 : Int)⟩, ⟨(0 : Int), (0 : Int)⟩, ⟨(0 : Int), (0 : Int)⟩⟩, (2 : Int)⟩ else (bif decide ((((m_array_place a0 a1).r0).length : Int) ≤ a3) then ⟨true, ⟨⟨(0 : Int), (0 : Int)⟩, ⟨(0 : Int), (0 : Int)⟩, ⟨(0 : Int), (0 : Int)⟩⟩, (2 : Int)⟩ else (bif (decide ((0 : Int) ≤ a3) && decide (a3 < (((m_array_place a0 a1).r0).length : Int))) then (bif (decide ((0 : Int) ≤ a2) && decide (a2 < (((m_array_place a0 a1).r0).length : Int))) then ⟨true, (subV ⟨⟨((((((m_array_place a0 a1).r0).getD a3.toNat (ET.z .placed)).at_).x).num), ((((((m_array_place a0 a1).r0).getD a3.toNat (ET.z .placed)).at_).x).den)⟩, ⟨((((((m_array_place a0 a1).r0).getD a3.toNat (ET.z .placed)).at_).y).num), ((((((m_array_place a0 a1).r0).getD a3.toNat (ET.z .placed)).at_).y).den)⟩, ⟨((((((m_array_place a0 a1).r0).getD a3.toNat (ET.z .placed)).at_).z).num), ((((((m_array_place a0 a1).r0).getD a3.toNat (ET.z .placed)).at_).z).den)⟩⟩ ⟨⟨((((((m_array_place a0 a1).r0).getD a2.toNat (ET.z .placed)).at_).x).num), ((((((m_array_place a0 a1).r0).getD a2.toNat (ET.z .placed)).at_).x).den)⟩, ⟨((((((m_array_place a0 a1).r0).getD a2.toNat (ET.z .placed)).at_).y).num), ((((((m_array_place a0 a1).r0).getD a2.toNat (ET.z .placed)).at_).y).den)⟩, ⟨((((((m_array_place a0 a1).r0).getD a2.toNat (ET.z .placed)).at_).z).num), ((((((m_array_place a0 a1).r0).getD a2.toNat (ET.z .placed)).at_).z).den)⟩⟩).1, (subV ⟨⟨((((((m_array_place a0 a1).r0).getD a3.toNat (ET.z .placed)).at_).x).num), ((((((m_array_place a0 a1).r0).getD a3.toNat (ET.z .placed)).at_).x).den)⟩, ⟨((((((m_array_place a0 a1).r0).getD a3.toNat (ET.z .placed)).at_).y).num), ((((((m_array_place a0 a1).r0).getD a3.toNat (ET.z .placed)).at_).y).den)⟩, ⟨((((((m_array_place a0 a1).r0).getD a3.toNat (ET.z .placed)).at_).z).num), ((((((m_array_place a0 a1).r0).getD a3.toNat (ET.z .placed)).at_).z).den)⟩⟩ ⟨⟨((((((m_array_place a0 a1).r0).getD a2.toNat (ET.z .placed)).at_).x).num), ((((((m_array_place a0 a1).r0).getD a2.toNat (ET.z .placed)).at_).x).den)⟩, ⟨((((((m_array_place a0 a1).r0).getD a2.toNat (ET.z .placed)).at_).y).num), ((((((m_array_place a0 a1).r0).getD a2.toNat (ET.z .placed)).at_).y).den)⟩, ⟨((((((m_array_place a0 a1).r0).getD a2.toNat (ET.z .placed)).at_).z).num), ((((((m_array_place a0 a1).r0).getD a2.toNat (ET.z .placed)).at_).z).den)⟩⟩).2⟩ else ⟨false, ⟨⟨0, 0⟩, ⟨0, 0⟩, ⟨0, 0⟩⟩, 0⟩) else ⟨false, ⟨⟨0, 0⟩, ⟨0, 0⟩, ⟨0, 0⟩⟩, 0⟩)))))) else ⟨false, ⟨⟨0, 0⟩, ⟨0, 0⟩, ⟨0, 0⟩⟩, 0⟩

def F_array_Line (a0 : Globe) (a1 : List Site) (a2 : Int) (a3 : Int) (K : AV → List Blk → Ans) (r : O_array_Line) : Ans := bif r.ok then K (.tup [.agg [.int .i64 r.r0.x.num, .int .i64 r.r0.x.den, .int .i64 r.r0.y.num, .int .i64 r.r0.y.den, .int .i64 r.r0.z.num, .int .i64 r.r0.z.den], .c (.d (.int .i64 r.r1))]) [.arr none .site a1] else none

set_option maxRecDepth 100000 in
theorem e_array_Line (a0 : Globe) (a1 : List Site) (a2 : Int) (a3 : Int) (K : AV → List Blk → Ans) : evFn Tryz.prog GT EQT T_array_place XT noL 80 27 [.v (.agg [.int .i64 a0.a, .int .i64 a0.b]), .v (.c (.aslice 0 none)), .v (.c (.d (.int .i64 a2))), .v (.c (.d (.int .i64 a3)))] [.arr none .site a1] (fun v M => K (finR 1 v M).1 (finR 1 v M).2) = F_array_Line a0 a1 a2 a3 K (m_array_Line a0 a1 a2 a3) := by
  unfold m_array_Line
  refine Eq.trans ?_ (Eq.symm (pushT (pushT rfl (pushT rfl (pushT rfl (pushT rfl (pushT rfl (pushT (pushT rfl rfl) rfl)))))) rfl))
  kernel_rfl

theorem c_array_Line (a0 : Globe) (a1 : List Site) (a2 : Int) (a3 : Int) (hd : (m_array_Line a0 a1 a2 a3).ok = true) : CallsA Tryz.prog GT gbT 27 [.v (.agg [.int .i64 a0.a, .int .i64 a0.b]), .v (.c (.aslice 0 none)), .v (.c (.d (.int .i64 a2))), .v (.c (.d (.int .i64 a3)))] [.arr none .site a1] (.tup [.agg [.int .i64 ((((m_array_Line a0 a1 a2 a3).r0).x).num), .int .i64 ((((m_array_Line a0 a1 a2 a3).r0).x).den), .int .i64 ((((m_array_Line a0 a1 a2 a3).r0).y).num), .int .i64 ((((m_array_Line a0 a1 a2 a3).r0).y).den), .int .i64 ((((m_array_Line a0 a1 a2 a3).r0).z).num), .int .i64 ((((m_array_Line a0 a1 a2 a3).r0).z).den)], .c (.d (.int .i64 ((m_array_Line a0 a1 a2 a3).r1)))]) [.arr none .site a1] := by
  refine CallsA.ofEvR g_array_place hEQT hmT (n0 := 1) rfl (fun _ _ _ _ => LOKn.nil) ((e_array_Line a0 a1 a2 a3 (fun v M => some (Res.fin v M))).trans ?_)
  unfold F_array_Line
  rw [hd]
  rfl

def s_array_Line : List AV → List Blk → (AV → List Blk → Ans) → Ans := fun xs bs K => match xs, bs with
  | [.v (.agg [.int .i64 a0_0, .int .i64 a0_1]), .v (.c (.aslice 0 none)), .v (.c (.d (.int .i64 a2))), .v (.c (.d (.int .i64 a3)))], [.arr none .site a1] => F_array_Line (⟨a0_0, a0_1⟩ : Globe) a1 a2 a3 K (m_array_Line (⟨a0_0, a0_1⟩ : Globe) a1 a2 a3)
  | _, _ => none

def T_array_Line : Nat → List AV → List Blk → (AV → List Blk → Ans) → Ans := upd T_array_place 27 s_array_Line

theorem g_array_Line : GOK Tryz.prog GT gbT T_array_Line XT := by
  refine GOK.upd g_array_place (fun args w => Tryz.call27 args w) fun xs bs K r h => ?_
  unfold s_array_Line at h
  split at h
  · unfold F_array_Line at h
    simp only [cond_eq_ite] at h
    split at h
    · rename_i hd
      exact ⟨_, _, c_array_Line _ _ _ _ hd, h⟩
    · cases h
  · cases h

structure O_proj_Line where
  ok : Bool
  r0 : Dir
  r1 : Int

def m_proj_Line (a0 : Globe) (a1 : List Site) (a2 : Int) (a3 : Int) (a4 : Source) (a5 : Int) : O_proj_Line := bif (m_array_Line a0 a1 a2 a3).ok then (bif ((m_array_Line a0 a1 a2 a3).r1 != (0 : Int)) then ⟨true, ⟨⟨(0 : Int), (0 : Int)⟩, ⟨(0 : Int), (0 : Int)⟩, ⟨(0 : Int), (0 : Int)⟩⟩, (m_array_Line a0 a1 a2 a3).r1⟩ else ⟨true, (projV ((m_array_Line a0 a1 a2 a3).r0) a4 a5).1, (projV ((m_array_Line a0 a1 a2 a3).r0) a4 a5).2⟩) else ⟨false, ⟨⟨0, 0⟩, ⟨0, 0⟩, ⟨0, 0⟩⟩, 0⟩

def F_proj_Line (a0 : Globe) (a1 : List Site) (a2 : Int) (a3 : Int) (a4 : Source) (a5 : Int) (K : AV → List Blk → Ans) (r : O_proj_Line) : Ans := bif r.ok then K (.tup [.agg [.int .i64 r.r0.x.lo, .int .i64 r.r0.x.hi, .int .i64 r.r0.y.lo, .int .i64 r.r0.y.hi, .int .i64 r.r0.z.lo, .int .i64 r.r0.z.hi], .c (.d (.int .i64 r.r1))]) [.arr none .site a1] else none

set_option maxRecDepth 100000 in
theorem e_proj_Line (a0 : Globe) (a1 : List Site) (a2 : Int) (a3 : Int) (a4 : Source) (a5 : Int) (K : AV → List Blk → Ans) : evFn Tryz.prog GT EQT T_array_Line XT noL 80 9 [.v (.agg [.int .i64 a0.a, .int .i64 a0.b]), .v (.c (.aslice 0 none)), .v (.c (.d (.int .i64 a2))), .v (.c (.d (.int .i64 a3))), .v (.agg [.str a4.name, .int .i64 a4.ra, .int .i64 a4.dec]), .v (.c (.d (.int .i64 a5)))] [.arr none .site a1] (fun v M => K (finR 1 v M).1 (finR 1 v M).2) = F_proj_Line a0 a1 a2 a3 a4 a5 K (m_proj_Line a0 a1 a2 a3 a4 a5) := by
  unfold m_proj_Line
  refine Eq.trans ?_ (Eq.symm (pushT (pushT rfl rfl) rfl))
  kernel_rfl

theorem c_proj_Line (a0 : Globe) (a1 : List Site) (a2 : Int) (a3 : Int) (a4 : Source) (a5 : Int) (hd : (m_proj_Line a0 a1 a2 a3 a4 a5).ok = true) : CallsA Tryz.prog GT gbT 9 [.v (.agg [.int .i64 a0.a, .int .i64 a0.b]), .v (.c (.aslice 0 none)), .v (.c (.d (.int .i64 a2))), .v (.c (.d (.int .i64 a3))), .v (.agg [.str a4.name, .int .i64 a4.ra, .int .i64 a4.dec]), .v (.c (.d (.int .i64 a5)))] [.arr none .site a1] (.tup [.agg [.int .i64 ((((m_proj_Line a0 a1 a2 a3 a4 a5).r0).x).lo), .int .i64 ((((m_proj_Line a0 a1 a2 a3 a4 a5).r0).x).hi), .int .i64 ((((m_proj_Line a0 a1 a2 a3 a4 a5).r0).y).lo), .int .i64 ((((m_proj_Line a0 a1 a2 a3 a4 a5).r0).y).hi), .int .i64 ((((m_proj_Line a0 a1 a2 a3 a4 a5).r0).z).lo), .int .i64 ((((m_proj_Line a0 a1 a2 a3 a4 a5).r0).z).hi)], .c (.d (.int .i64 ((m_proj_Line a0 a1 a2 a3 a4 a5).r1)))]) [.arr none .site a1] := by
  refine CallsA.ofEvR g_array_Line hEQT hmT (n0 := 1) rfl (fun _ _ _ _ => LOKn.nil) ((e_proj_Line a0 a1 a2 a3 a4 a5 (fun v M => some (Res.fin v M))).trans ?_)
  unfold F_proj_Line
  rw [hd]
  rfl

def s_proj_Line : List AV → List Blk → (AV → List Blk → Ans) → Ans := fun xs bs K => match xs, bs with
  | [.v (.agg [.int .i64 a0_0, .int .i64 a0_1]), .v (.c (.aslice 0 none)), .v (.c (.d (.int .i64 a2))), .v (.c (.d (.int .i64 a3))), .v (.agg [.str a4_0, .int .i64 a4_1, .int .i64 a4_2]), .v (.c (.d (.int .i64 a5)))], [.arr none .site a1] => F_proj_Line (⟨a0_0, a0_1⟩ : Globe) a1 a2 a3 (⟨a4_0, a4_1, a4_2⟩ : Source) a5 K (m_proj_Line (⟨a0_0, a0_1⟩ : Globe) a1 a2 a3 (⟨a4_0, a4_1, a4_2⟩ : Source) a5)
  | _, _ => none

def T_proj_Line : Nat → List AV → List Blk → (AV → List Blk → Ans) → Ans := upd T_array_Line 9 s_proj_Line

theorem g_proj_Line : GOK Tryz.prog GT gbT T_proj_Line XT := by
  refine GOK.upd g_array_Line (fun args w => Tryz.call9 args w) fun xs bs K r h => ?_
  unfold s_proj_Line at h
  split at h
  · unfold F_proj_Line at h
    simp only [cond_eq_ite] at h
    split at h
    · rename_i hd
      exact ⟨_, _, c_proj_Line _ _ _ _ _ _ hd, h⟩
    · cases h
  · cases h

structure O_Q4_Valid where
  ok : Bool
  r0 : Bool

def m_Q4_Valid (a0 : Site) : O_Q4_Valid := bif (namedB a0.name) then ⟨true, (placedB a0.s a0.t)⟩ else ⟨true, false⟩

def F_Q4_Valid (a0 : Site) (K : AV → List Blk → Ans) (r : O_Q4_Valid) : Ans := bif r.ok then K (.v (.c (.d (.bool r.r0)))) [] else none

set_option maxRecDepth 100000 in
theorem e_Q4_Valid (a0 : Site) (K : AV → List Blk → Ans) : evFn Tryz.prog GT EQT T_proj_Line XT noL 80 19 [.v (.agg [.str a0.name, .int .i64 a0.s.num, .int .i64 a0.s.den, .int .i64 a0.t.num, .int .i64 a0.t.den])] [] (fun v M => K (finR 0 v M).1 (finR 0 v M).2) = F_Q4_Valid a0 K (m_Q4_Valid a0) := by
  unfold m_Q4_Valid
  refine Eq.trans ?_ (Eq.symm (pushT rfl rfl))
  kernel_rfl

theorem c_Q4_Valid (a0 : Site) (hd : (m_Q4_Valid a0).ok = true) : CallsA Tryz.prog GT gbT 19 [.v (.agg [.str a0.name, .int .i64 a0.s.num, .int .i64 a0.s.den, .int .i64 a0.t.num, .int .i64 a0.t.den])] [] (.v (.c (.d (.bool ((m_Q4_Valid a0).r0))))) [] := by
  refine CallsA.ofEvR g_proj_Line hEQT hmT (n0 := 0) rfl (fun _ _ _ _ => LOKn.nil) ((e_Q4_Valid a0 (fun v M => some (Res.fin v M))).trans ?_)
  unfold F_Q4_Valid
  rw [hd]
  rfl

def s_Q4_Valid : List AV → List Blk → (AV → List Blk → Ans) → Ans := fun xs bs K => match xs, bs with
  | [.v (.agg [.str a0_0, .int .i64 a0_1, .int .i64 a0_2, .int .i64 a0_3, .int .i64 a0_4])], [] => F_Q4_Valid (⟨a0_0, ⟨a0_1, a0_2⟩, ⟨a0_3, a0_4⟩⟩ : Site) K (m_Q4_Valid (⟨a0_0, ⟨a0_1, a0_2⟩, ⟨a0_3, a0_4⟩⟩ : Site))
  | _, _ => none

def T_Q4_Valid : Nat → List AV → List Blk → (AV → List Blk → Ans) → Ans := upd T_proj_Line 19 s_Q4_Valid

theorem g_Q4_Valid : GOK Tryz.prog GT gbT T_Q4_Valid XT := by
  refine GOK.upd g_proj_Line (fun args w => Tryz.call19 args w) fun xs bs K r h => ?_
  unfold s_Q4_Valid at h
  split at h
  · unfold F_Q4_Valid at h
    simp only [cond_eq_ite] at h
    split at h
    · rename_i hd
      exact ⟨_, _, c_Q4_Valid _ hd, h⟩
    · cases h
  · cases h

structure R_Q4_all_0 where
  k : Nat
  p6 : Int
  m2 : List Vec

def run_Q4_all_0 (m0 : List Site) (q1 : Globe) : Nat → Int → List Vec → R_Q4_all_0
  | 0, p6, m2 => ⟨1, p6, m2⟩
  | n + 1, p6, m2 => bif decide (p6 < (m0.length : Int)) then (bif (decide ((0 : Int) ≤ p6) && decide (p6 < (m0.length : Int))) then (bif (decide ((0 : Int) ≤ p6) && decide (p6 < (m0.length : Int))) then (bif (Nat.blt 0 6 && ((6 == 6) && ((6 == 6) && (Nat.ble (m2.length + ([placeR q1 ((m0.getD p6.toNat (ET.z .site)).s) ((m0.getD p6.toNat (ET.z .site)).t)] : List Vec).length) roomD && Nat.ble 48 4096)))) then run_Q4_all_0 m0 q1 n (w64 (p6 + (1 : Int))) (m2 ++ ([placeR q1 ((m0.getD p6.toNat (ET.z .site)).s) ((m0.getD p6.toNat (ET.z .site)).t)] : List Vec)) else ⟨1, p6, m2⟩) else ⟨1, p6, m2⟩) else ⟨1, p6, m2⟩) else ⟨0, p6, m2⟩

def lp_Q4_all_0 (m0 : List Site) (q1 : Globe) (p6 : Int) (m2 : List Vec) : R_Q4_all_0 := run_Q4_all_0 m0 q1 (2000 + (m0.length + m2.length)) p6 m2

abbrev H_Q4_all_0 (m0 : List Site) (q1 : Globe) (p6 : Int) (m2 : List Vec) : TS := headT [1, 2, 5, 6] 29 [.v (.c (.aslice 0 none)), .v (.c (.ptr 1 0)), .v (.c (.aslice 2 none)), .v (.c (.d (.int .i64 p6)))]

set_option maxRecDepth 100000 in
theorem b_Q4_all_0 (m0 : List Site) (q1 : Globe) (p6 : Int) (m2 : List Vec) : evCode Tryz.prog GT EQT T_Q4_Valid XT noL 80 (loopB Tryz.prog 20 0) (H_Q4_all_0 m0 q1 p6 m2) [.arr none .site m0, .rw 23 [.int .i64 q1.a, .int .i64 q1.b], .arr (some 62) .vec m2] 3 (normK 1 [1, 2, 5, 6]) =
    bif decide (p6 < (m0.length : Int)) then (bif (decide ((0 : Int) ≤ p6) && decide (p6 < (m0.length : Int))) then (bif (decide ((0 : Int) ≤ p6) && decide (p6 < (m0.length : Int))) then (bif (Nat.blt 0 6 && ((6 == 6) && ((6 == 6) && (Nat.ble (m2.length + ([placeR q1 ((m0.getD p6.toNat (ET.z .site)).s) ((m0.getD p6.toNat (ET.z .site)).t)] : List Vec).length) roomD && Nat.ble 48 4096)))) then some (.st .normal (headT [1, 2, 5, 6] 29 [.v (.c (.aslice 0 none)), .v (.c (.ptr 1 0)), .v (.c (.aslice 2 none)), .v (.c (.d (.int .i64 (w64 (p6 + (1 : Int))))))]) [.arr none .site m0, .rw 23 [.int .i64 q1.a, .int .i64 q1.b], .arr (some 62) .vec (m2 ++ ([placeR q1 ((m0.getD p6.toNat (ET.z .site)).s) ((m0.getD p6.toNat (ET.z .site)).t)] : List Vec))] 3) else none) else none) else none) else some (.st (.exit 0) (headT [1, 2, 5, 6] 29 [.v (.c (.aslice 0 none)), .v (.c (.ptr 1 0)), .v (.c (.aslice 2 none)), .v (.c (.d (.int .i64 p6)))]) [.arr none .site m0, .rw 23 [.int .i64 q1.a, .int .i64 q1.b], .arr (some 62) .vec m2] 3) := by
  kernel_rfl

def o_Q4_all_0 (m0 : List Site) (q1 : Globe) (r : R_Q4_all_0) : LT := .br (Nat.beq r.k 0) (.st (.exit 0) (headT [1, 2, 5, 6] 29 [.v (.c (.aslice 0 none)), .v (.c (.ptr 1 0)), .v (.c (.aslice 2 none)), .v (.c (.d (.int .i64 r.p6)))]) [.arr none .site m0, .rw 23 [.int .i64 q1.a, .int .i64 q1.b], .arr (some 62) .vec r.m2] 3) (.no)

set_option maxRecDepth 100000 in
theorem r_Q4_all_0 (m0 : List Site) (q1 : Globe) : ∀ (n : Nat) (p6 : Int) (m2 : List Vec) (x : Ex) (T' : TS) (M' : List Blk) (N' : Nat), LReach (o_Q4_all_0 m0 q1 (run_Q4_all_0 m0 q1 n p6 m2)) x T' M' N' → x ≠ .normal ∧ ∃ j, RoundsN Tryz.prog GT gbT 1 (loopB Tryz.prog 20 0) j (H_Q4_all_0 m0 q1 p6 m2) [.arr none .site m0, .rw 23 [.int .i64 q1.a, .int .i64 q1.b], .arr (some 62) .vec m2] 3 x T' M' N' := by
  have hL : LOKn Tryz.prog GT gbT 1 noL (loopsIn (loopB Tryz.prog 20 0)) := fun _ _ _ _ _ _ _ _ _ h => h.elim
  intro n
  induction n with
  | zero =>
    intro p6 m2 x T' M' N' hr
    exact False.elim (redF hr)
  | succ n ih =>
    intro p6 m2 x T' M' N'
    rw [run_Q4_all_0]
    exact viaE (b_Q4_all_0 m0 q1 p6 m2) (condG (o := o_Q4_all_0 m0 q1) (condG (o := o_Q4_all_0 m0 q1) (condG (o := o_Q4_all_0 m0 q1) (condG (o := o_Q4_all_0 m0 q1) (fun he hr => goN g_Q4_Valid hEQT hmT hL he (ih (w64 (p6 + (1 : Int))) (m2 ++ ([placeR q1 ((m0.getD p6.toNat (ET.z .site)).s) ((m0.getD p6.toNat (ET.z .site)).t)] : List Vec)) x T' M' N' hr)) (fun _ hr => False.elim (redF hr))) (fun _ hr => False.elim (redF hr))) (fun _ hr => False.elim (redF hr))) (fun he hr => stopN g_Q4_Valid hEQT hmT hL he (by simp) (redT hr)))

def f_Q4_all_0 : List AV → List Blk → LT := fun vs Ms => match vs, Ms with
  | [.v (.c (.aslice 0 none)), .v (.c (.ptr 1 0)), .v (.c (.aslice 2 none)), .v (.c (.d (.int .i64 p6)))], [.arr none .site m0, .rw 23 [.int .i64 q1_0, .int .i64 q1_1], .arr (some 62) .vec m2] => o_Q4_all_0 m0 (⟨q1_0, q1_1⟩ : Globe) (lp_Q4_all_0 m0 (⟨q1_0, q1_1⟩ : Globe) p6 m2)
  | _, _ => .no

def L_Q4_all_0 := LamN 3 29 1 [1, 2, 5, 6] f_Q4_all_0

set_option maxRecDepth 100000 in
theorem k_Q4_all_0 : LOKbn Tryz.prog GT gbT 1 L_Q4_all_0 (loopB Tryz.prog 20 0) := by
  refine LOKbn.lamN (by kernel_rfl) fun vs Ms x T' M' N' hr => ?_
  unfold f_Q4_all_0 at hr
  split at hr
  · obtain ⟨q1, j, q2⟩ := r_Q4_all_0 _ _ _ _ _ x T' M' N' hr
    exact ⟨q1, j, q2⟩
  · exact hr.elim

structure O_Q4_all where
  ok : Bool
  r0 : List Vec

def m_Q4_all (a0 : Globe) (a1 : List Site) : O_Q4_all := bif Nat.beq (lp_Q4_all_0 a1 a0 (0 : Int) ([] : List Vec)).k 0 then ⟨true, ((lp_Q4_all_0 a1 a0 (0 : Int) ([] : List Vec)).m2)⟩ else ⟨false, []⟩

def F_Q4_all (a0 : Globe) (a1 : List Site) (K : AV → List Blk → Ans) (r : O_Q4_all) : Ans := bif r.ok then K (.v (.c (.aslice 1 none))) [.arr none .site a1, .arr (some 62) .vec r.r0] else none

set_option maxRecDepth 100000 in
theorem e_Q4_all (a0 : Globe) (a1 : List Site) (K : AV → List Blk → Ans) : evFn Tryz.prog GT EQT T_Q4_Valid XT (orL L_Q4_all_0 noL) 80 20 [.v (.agg [.int .i64 a0.a, .int .i64 a0.b]), .v (.c (.aslice 0 none))] [.arr none .site a1] (fun v M => K (finR 1 v M).1 (finR 1 v M).2) = F_Q4_all a0 a1 K (m_Q4_all a0 a1) := by
  unfold m_Q4_all
  refine Eq.trans ?_ (Eq.symm (pushT rfl rfl))
  kernel_rfl

set_option maxRecDepth 100000 in
theorem lok_Q4_all : ∀ fn c, Tryz.prog.funcs[20]? = some fn → fn.body = some c → LOKn Tryz.prog GT gbT 1 (orL L_Q4_all_0 noL) (loopsIn c) := by
  refine LOKn.ofF fun b hb => ?_
  have e : loopsF Tryz.prog 20 = [loopB Tryz.prog 20 0] := by kernel_rfl
  rw [e] at hb
  simp only [List.mem_cons, List.not_mem_nil, or_false] at hb
  subst hb
  exact (LOKbn.or k_Q4_all_0 (fun _ _ _ _ _ _ _ h => h.elim))


theorem c_Q4_all (a0 : Globe) (a1 : List Site) (hd : (m_Q4_all a0 a1).ok = true) : CallsA Tryz.prog GT gbT 20 [.v (.agg [.int .i64 a0.a, .int .i64 a0.b]), .v (.c (.aslice 0 none))] [.arr none .site a1] (.v (.c (.aslice 1 none))) [.arr none .site a1, .arr (some 62) .vec ((m_Q4_all a0 a1).r0)] := by
  refine CallsA.ofEvR g_Q4_Valid hEQT hmT (n0 := 1) rfl lok_Q4_all ((e_Q4_all a0 a1 (fun v M => some (Res.fin v M))).trans ?_)
  unfold F_Q4_all
  rw [hd]
  rfl

def s_Q4_all : List AV → List Blk → (AV → List Blk → Ans) → Ans := fun xs bs K => match xs, bs with
  | [.v (.agg [.int .i64 a0_0, .int .i64 a0_1]), .v (.c (.aslice 0 none))], [.arr none .site a1] => F_Q4_all (⟨a0_0, a0_1⟩ : Globe) a1 K (m_Q4_all (⟨a0_0, a0_1⟩ : Globe) a1)
  | _, _ => none

def T_Q4_all : Nat → List AV → List Blk → (AV → List Blk → Ans) → Ans := upd T_Q4_Valid 20 s_Q4_all

theorem g_Q4_all : GOK Tryz.prog GT gbT T_Q4_all XT := by
  refine GOK.upd g_Q4_Valid (fun args w => Tryz.call20 args w) fun xs bs K r h => ?_
  unfold s_Q4_all at h
  split at h
  · unfold F_Q4_all at h
    simp only [cond_eq_ite] at h
    split at h
    · rename_i hd
      exact ⟨_, _, c_Q4_all _ _ hd, h⟩
    · cases h
  · cases h

structure R_Q4_Check_0 where
  k : Nat
  p5 : Int

def run_Q4_Check_0 (p4 : Int) (m0 : List Site) (q1 : Globe) : Nat → Int → R_Q4_Check_0
  | 0, p5 => ⟨2, p5⟩
  | n + 1, p5 => bif decide (p5 < (m0.length : Int)) then (bif (decide ((0 : Int) ≤ p5) && decide (p5 < (m0.length : Int))) then (bif (m_Q4_Valid (m0.getD p5.toNat (ET.z .site))).ok then (bif (!(m_Q4_Valid (m0.getD p5.toNat (ET.z .site))).r0) then ⟨0, p5⟩ else run_Q4_Check_0 p4 m0 q1 n (w64 (p5 + (1 : Int)))) else ⟨2, p5⟩) else ⟨2, p5⟩) else ⟨1, p5⟩

def lp_Q4_Check_0 (p4 : Int) (m0 : List Site) (q1 : Globe) (p5 : Int) : R_Q4_Check_0 := run_Q4_Check_0 p4 m0 q1 (2000 + (m0.length)) p5

abbrev H_Q4_Check_0 (p4 : Int) (m0 : List Site) (q1 : Globe) (p5 : Int) : TS := headT [1, 2, 4, 5] 65 [.v (.c (.aslice 0 none)), .v (.c (.ptr 1 0)), .v (.c (.d (.int .i64 p4))), .v (.c (.d (.int .i64 p5)))]

set_option maxRecDepth 100000 in
theorem b_Q4_Check_0 (p4 : Int) (m0 : List Site) (q1 : Globe) (p5 : Int) : evCode Tryz.prog GT EQT T_Q4_all XT noL 80 (loopB Tryz.prog 6 0) (H_Q4_Check_0 p4 m0 q1 p5) [.arr none .site m0, .rw 23 [.int .i64 q1.a, .int .i64 q1.b]] 2 (normK 1 [1, 2, 4, 5]) =
    bif decide (p5 < (m0.length : Int)) then (bif (decide ((0 : Int) ≤ p5) && decide (p5 < (m0.length : Int))) then (bif (m_Q4_Valid (m0.getD p5.toNat (ET.z .site))).ok then (bif (!(m_Q4_Valid (m0.getD p5.toNat (ET.z .site))).r0) then some (.st .ret (headT [1, 2, 4, 5] 65 [.v (.c (.aslice 0 none)), .v (.c (.ptr 1 0)), .v (.c (.d (.int .i64 (8 : Int)))), .v (.c (.d (.int .i64 p5)))]) [.arr none .site m0, .rw 23 [.int .i64 q1.a, .int .i64 q1.b]] 2) else some (.st .normal (headT [1, 2, 4, 5] 65 [.v (.c (.aslice 0 none)), .v (.c (.ptr 1 0)), .v (.c (.d (.int .i64 p4))), .v (.c (.d (.int .i64 (w64 (p5 + (1 : Int))))))]) [.arr none .site m0, .rw 23 [.int .i64 q1.a, .int .i64 q1.b]] 2)) else none) else none) else some (.st (.exit 0) (headT [1, 2, 4, 5] 65 [.v (.c (.aslice 0 none)), .v (.c (.ptr 1 0)), .v (.c (.d (.int .i64 p4))), .v (.c (.d (.int .i64 p5)))]) [.arr none .site m0, .rw 23 [.int .i64 q1.a, .int .i64 q1.b]] 2) := by
  kernel_rfl

def o_Q4_Check_0 (p4 : Int) (m0 : List Site) (q1 : Globe) (r : R_Q4_Check_0) : LT := .br (Nat.beq r.k 0) (.st .ret (headT [1, 2, 4, 5] 65 [.v (.c (.aslice 0 none)), .v (.c (.ptr 1 0)), .v (.c (.d (.int .i64 (8 : Int)))), .v (.c (.d (.int .i64 r.p5)))]) [.arr none .site m0, .rw 23 [.int .i64 q1.a, .int .i64 q1.b]] 2) (.br (Nat.beq r.k 1) (.st (.exit 0) (headT [1, 2, 4, 5] 65 [.v (.c (.aslice 0 none)), .v (.c (.ptr 1 0)), .v (.c (.d (.int .i64 p4))), .v (.c (.d (.int .i64 r.p5)))]) [.arr none .site m0, .rw 23 [.int .i64 q1.a, .int .i64 q1.b]] 2) (.no))

set_option maxRecDepth 100000 in
theorem r_Q4_Check_0 (p4 : Int) (m0 : List Site) (q1 : Globe) : ∀ (n : Nat) (p5 : Int) (x : Ex) (T' : TS) (M' : List Blk) (N' : Nat), LReach (o_Q4_Check_0 p4 m0 q1 (run_Q4_Check_0 p4 m0 q1 n p5)) x T' M' N' → x ≠ .normal ∧ ∃ j, RoundsN Tryz.prog GT gbT 1 (loopB Tryz.prog 6 0) j (H_Q4_Check_0 p4 m0 q1 p5) [.arr none .site m0, .rw 23 [.int .i64 q1.a, .int .i64 q1.b]] 2 x T' M' N' := by
  have hL : LOKn Tryz.prog GT gbT 1 noL (loopsIn (loopB Tryz.prog 6 0)) := fun _ _ _ _ _ _ _ _ _ h => h.elim
  intro n
  induction n with
  | zero =>
    intro p5 x T' M' N' hr
    exact False.elim (redF (redF hr))
  | succ n ih =>
    intro p5 x T' M' N'
    rw [run_Q4_Check_0]
    exact viaE (b_Q4_Check_0 p4 m0 q1 p5) (condG (o := o_Q4_Check_0 p4 m0 q1) (condG (o := o_Q4_Check_0 p4 m0 q1) (condG (o := o_Q4_Check_0 p4 m0 q1) (condG (o := o_Q4_Check_0 p4 m0 q1) (fun he hr => stopN g_Q4_all hEQT hmT hL he (by simp) (redT hr)) (fun he hr => goN g_Q4_all hEQT hmT hL he (ih (w64 (p5 + (1 : Int))) x T' M' N' hr))) (fun _ hr => False.elim (redF (redF hr)))) (fun _ hr => False.elim (redF (redF hr)))) (fun he hr => stopN g_Q4_all hEQT hmT hL he (by simp) (redT (redF hr))))

def f_Q4_Check_0 : List AV → List Blk → LT := fun vs Ms => match vs, Ms with
  | [.v (.c (.aslice 0 none)), .v (.c (.ptr 1 0)), .v (.c (.d (.int .i64 p4))), .v (.c (.d (.int .i64 p5)))], [.arr none .site m0, .rw 23 [.int .i64 q1_0, .int .i64 q1_1]] => o_Q4_Check_0 p4 m0 (⟨q1_0, q1_1⟩ : Globe) (lp_Q4_Check_0 p4 m0 (⟨q1_0, q1_1⟩ : Globe) p5)
  | _, _ => .no

def L_Q4_Check_0 := LamN 6 65 1 [1, 2, 4, 5] f_Q4_Check_0

set_option maxRecDepth 100000 in
theorem k_Q4_Check_0 : LOKbn Tryz.prog GT gbT 1 L_Q4_Check_0 (loopB Tryz.prog 6 0) := by
  refine LOKbn.lamN (by kernel_rfl) fun vs Ms x T' M' N' hr => ?_
  unfold f_Q4_Check_0 at hr
  split at hr
  · obtain ⟨q1, j, q2⟩ := r_Q4_Check_0 _ _ _ _ _ x T' M' N' hr
    exact ⟨q1, j, q2⟩
  · exact hr.elim

structure R_Q4_Check_2 where
  k : Nat
  p8 : Int

def run_Q4_Check_2 (p4 : Int) (p7 : Int) (m0 : List Site) (m1 : List Vec) : Nat → Int → R_Q4_Check_2
  | 0, p8 => ⟨2, p8⟩
  | n + 1, p8 => bif decide (p8 < p7) then (bif (decide ((0 : Int) ≤ p7) && decide (p7 < (m0.length : Int))) then (bif (decide ((0 : Int) ≤ p8) && decide (p8 < (m0.length : Int))) then (bif (((m0.getD p7.toNat (ET.z .site)).name).data.toList == ((m0.getD p8.toNat (ET.z .site)).name).data.toList) then ⟨0, p8⟩ else (bif (decide ((0 : Int) ≤ p7) && decide (p7 < (m1.length : Int))) then (bif (decide ((0 : Int) ≤ p8) && decide (p8 < (m1.length : Int))) then (bif eqAll [.int .i64 (((m1.getD p7.toNat (ET.z .vec)).x).num), .int .i64 (((m1.getD p7.toNat (ET.z .vec)).x).den), .int .i64 (((m1.getD p7.toNat (ET.z .vec)).y).num), .int .i64 (((m1.getD p7.toNat (ET.z .vec)).y).den), .int .i64 (((m1.getD p7.toNat (ET.z .vec)).z).num), .int .i64 (((m1.getD p7.toNat (ET.z .vec)).z).den)] [.int .i64 (((m1.getD p8.toNat (ET.z .vec)).x).num), .int .i64 (((m1.getD p8.toNat (ET.z .vec)).x).den), .int .i64 (((m1.getD p8.toNat (ET.z .vec)).y).num), .int .i64 (((m1.getD p8.toNat (ET.z .vec)).y).den), .int .i64 (((m1.getD p8.toNat (ET.z .vec)).z).num), .int .i64 (((m1.getD p8.toNat (ET.z .vec)).z).den)] then ⟨0, p8⟩ else run_Q4_Check_2 p4 p7 m0 m1 n (w64 (p8 + (1 : Int)))) else ⟨2, p8⟩) else ⟨2, p8⟩)) else ⟨2, p8⟩) else ⟨2, p8⟩) else ⟨1, p8⟩

def lp_Q4_Check_2 (p4 : Int) (p7 : Int) (m0 : List Site) (m1 : List Vec) (p8 : Int) : R_Q4_Check_2 := run_Q4_Check_2 p4 p7 m0 m1 (2000 + (m0.length + m1.length)) p8

abbrev H_Q4_Check_2 (p4 : Int) (p7 : Int) (m0 : List Site) (m1 : List Vec) (p8 : Int) : TS := headT [1, 4, 6, 7, 8] 65 [.v (.c (.aslice 0 none)), .v (.c (.d (.int .i64 p4))), .v (.c (.aslice 1 none)), .v (.c (.d (.int .i64 p7))), .v (.c (.d (.int .i64 p8)))]

set_option maxRecDepth 100000 in
theorem b_Q4_Check_2 (p4 : Int) (p7 : Int) (m0 : List Site) (m1 : List Vec) (p8 : Int) : evCode Tryz.prog GT EQT T_Q4_all XT noL 80 (loopB Tryz.prog 6 2) (H_Q4_Check_2 p4 p7 m0 m1 p8) [.arr none .site m0, .arr (some 62) .vec m1] 2 (normK 1 [1, 4, 6, 7, 8]) =
    bif decide (p8 < p7) then (bif (decide ((0 : Int) ≤ p7) && decide (p7 < (m0.length : Int))) then (bif (decide ((0 : Int) ≤ p8) && decide (p8 < (m0.length : Int))) then (bif (((m0.getD p7.toNat (ET.z .site)).name).data.toList == ((m0.getD p8.toNat (ET.z .site)).name).data.toList) then some (.st .ret (headT [1, 4, 6, 7, 8] 65 [.v (.c (.aslice 0 none)), .v (.c (.d (.int .i64 (14 : Int)))), .v (.c (.aslice 1 none)), .v (.c (.d (.int .i64 p7))), .v (.c (.d (.int .i64 p8)))]) [.arr none .site m0, .arr (some 62) .vec m1] 2) else (bif (decide ((0 : Int) ≤ p7) && decide (p7 < (m1.length : Int))) then (bif (decide ((0 : Int) ≤ p8) && decide (p8 < (m1.length : Int))) then (bif eqAll [.int .i64 (((m1.getD p7.toNat (ET.z .vec)).x).num), .int .i64 (((m1.getD p7.toNat (ET.z .vec)).x).den), .int .i64 (((m1.getD p7.toNat (ET.z .vec)).y).num), .int .i64 (((m1.getD p7.toNat (ET.z .vec)).y).den), .int .i64 (((m1.getD p7.toNat (ET.z .vec)).z).num), .int .i64 (((m1.getD p7.toNat (ET.z .vec)).z).den)] [.int .i64 (((m1.getD p8.toNat (ET.z .vec)).x).num), .int .i64 (((m1.getD p8.toNat (ET.z .vec)).x).den), .int .i64 (((m1.getD p8.toNat (ET.z .vec)).y).num), .int .i64 (((m1.getD p8.toNat (ET.z .vec)).y).den), .int .i64 (((m1.getD p8.toNat (ET.z .vec)).z).num), .int .i64 (((m1.getD p8.toNat (ET.z .vec)).z).den)] then some (.st .ret (headT [1, 4, 6, 7, 8] 65 [.v (.c (.aslice 0 none)), .v (.c (.d (.int .i64 (14 : Int)))), .v (.c (.aslice 1 none)), .v (.c (.d (.int .i64 p7))), .v (.c (.d (.int .i64 p8)))]) [.arr none .site m0, .arr (some 62) .vec m1] 2) else some (.st .normal (headT [1, 4, 6, 7, 8] 65 [.v (.c (.aslice 0 none)), .v (.c (.d (.int .i64 p4))), .v (.c (.aslice 1 none)), .v (.c (.d (.int .i64 p7))), .v (.c (.d (.int .i64 (w64 (p8 + (1 : Int))))))]) [.arr none .site m0, .arr (some 62) .vec m1] 2)) else none) else none)) else none) else none) else some (.st (.exit 4) (headT [1, 4, 6, 7, 8] 65 [.v (.c (.aslice 0 none)), .v (.c (.d (.int .i64 p4))), .v (.c (.aslice 1 none)), .v (.c (.d (.int .i64 p7))), .v (.c (.d (.int .i64 p8)))]) [.arr none .site m0, .arr (some 62) .vec m1] 2) := by
  kernel_rfl

def o_Q4_Check_2 (p4 : Int) (p7 : Int) (m0 : List Site) (m1 : List Vec) (r : R_Q4_Check_2) : LT := .br (Nat.beq r.k 0) (.st .ret (headT [1, 4, 6, 7, 8] 65 [.v (.c (.aslice 0 none)), .v (.c (.d (.int .i64 (14 : Int)))), .v (.c (.aslice 1 none)), .v (.c (.d (.int .i64 p7))), .v (.c (.d (.int .i64 r.p8)))]) [.arr none .site m0, .arr (some 62) .vec m1] 2) (.br (Nat.beq r.k 1) (.st (.exit 4) (headT [1, 4, 6, 7, 8] 65 [.v (.c (.aslice 0 none)), .v (.c (.d (.int .i64 p4))), .v (.c (.aslice 1 none)), .v (.c (.d (.int .i64 p7))), .v (.c (.d (.int .i64 r.p8)))]) [.arr none .site m0, .arr (some 62) .vec m1] 2) (.no))

set_option maxRecDepth 100000 in
theorem r_Q4_Check_2 (p4 : Int) (p7 : Int) (m0 : List Site) (m1 : List Vec) : ∀ (n : Nat) (p8 : Int) (x : Ex) (T' : TS) (M' : List Blk) (N' : Nat), LReach (o_Q4_Check_2 p4 p7 m0 m1 (run_Q4_Check_2 p4 p7 m0 m1 n p8)) x T' M' N' → x ≠ .normal ∧ ∃ j, RoundsN Tryz.prog GT gbT 1 (loopB Tryz.prog 6 2) j (H_Q4_Check_2 p4 p7 m0 m1 p8) [.arr none .site m0, .arr (some 62) .vec m1] 2 x T' M' N' := by
  have hL : LOKn Tryz.prog GT gbT 1 noL (loopsIn (loopB Tryz.prog 6 2)) := fun _ _ _ _ _ _ _ _ _ h => h.elim
  intro n
  induction n with
  | zero =>
    intro p8 x T' M' N' hr
    exact False.elim (redF (redF hr))
  | succ n ih =>
    intro p8 x T' M' N'
    rw [run_Q4_Check_2]
    exact viaE (b_Q4_Check_2 p4 p7 m0 m1 p8) (condG (o := o_Q4_Check_2 p4 p7 m0 m1) (condG (o := o_Q4_Check_2 p4 p7 m0 m1) (condG (o := o_Q4_Check_2 p4 p7 m0 m1) (condG (o := o_Q4_Check_2 p4 p7 m0 m1) (fun he hr => stopN g_Q4_all hEQT hmT hL he (by simp) (redT hr)) (condG (o := o_Q4_Check_2 p4 p7 m0 m1) (condG (o := o_Q4_Check_2 p4 p7 m0 m1) (condG (o := o_Q4_Check_2 p4 p7 m0 m1) (fun he hr => stopN g_Q4_all hEQT hmT hL he (by simp) (redT hr)) (fun he hr => goN g_Q4_all hEQT hmT hL he (ih (w64 (p8 + (1 : Int))) x T' M' N' hr))) (fun _ hr => False.elim (redF (redF hr)))) (fun _ hr => False.elim (redF (redF hr))))) (fun _ hr => False.elim (redF (redF hr)))) (fun _ hr => False.elim (redF (redF hr)))) (fun he hr => stopN g_Q4_all hEQT hmT hL he (by simp) (redT (redF hr))))

def f_Q4_Check_2 : List AV → List Blk → LT := fun vs Ms => match vs, Ms with
  | [.v (.c (.aslice 0 none)), .v (.c (.d (.int .i64 p4))), .v (.c (.aslice 1 none)), .v (.c (.d (.int .i64 p7))), .v (.c (.d (.int .i64 p8)))], [.arr none .site m0, .arr (some 62) .vec m1] => o_Q4_Check_2 p4 p7 m0 m1 (lp_Q4_Check_2 p4 p7 m0 m1 p8)
  | _, _ => .no

def L_Q4_Check_2 := LamN 15 65 1 [1, 4, 6, 7, 8] f_Q4_Check_2

set_option maxRecDepth 100000 in
theorem k_Q4_Check_2 : LOKbn Tryz.prog GT gbT 1 L_Q4_Check_2 (loopB Tryz.prog 6 2) := by
  refine LOKbn.lamN (by kernel_rfl) fun vs Ms x T' M' N' hr => ?_
  unfold f_Q4_Check_2 at hr
  split at hr
  · obtain ⟨q1, j, q2⟩ := r_Q4_Check_2 _ _ _ _ _ _ x T' M' N' hr
    exact ⟨q1, j, q2⟩
  · exact hr.elim

structure R_Q4_Check_1 where
  k : Nat
  p7 : Int

def run_Q4_Check_1 (p4 : Int) (m0 : List Site) (m1 : List Vec) : Nat → Int → R_Q4_Check_1
  | 0, p7 => ⟨2, p7⟩
  | n + 1, p7 => bif decide (p7 < (m0.length : Int)) then (bif Nat.beq (lp_Q4_Check_2 p4 p7 m0 m1 (0 : Int)).k 0 then ⟨0, p7⟩ else (bif Nat.beq (lp_Q4_Check_2 p4 p7 m0 m1 (0 : Int)).k 1 then run_Q4_Check_1 p4 m0 m1 n (w64 (p7 + (1 : Int))) else ⟨2, p7⟩)) else ⟨1, p7⟩

def lp_Q4_Check_1 (p4 : Int) (m0 : List Site) (m1 : List Vec) (p7 : Int) : R_Q4_Check_1 := run_Q4_Check_1 p4 m0 m1 (2000 + (m0.length + m1.length)) p7

abbrev H_Q4_Check_1 (p4 : Int) (m0 : List Site) (m1 : List Vec) (p7 : Int) : TS := headT [1, 4, 6, 7] 65 [.v (.c (.aslice 0 none)), .v (.c (.d (.int .i64 p4))), .v (.c (.aslice 1 none)), .v (.c (.d (.int .i64 p7)))]

set_option maxRecDepth 100000 in
theorem b_Q4_Check_1 (p4 : Int) (m0 : List Site) (m1 : List Vec) (p7 : Int) : evCode Tryz.prog GT EQT T_Q4_all XT (orL L_Q4_Check_2 noL) 80 (loopB Tryz.prog 6 1) (H_Q4_Check_1 p4 m0 m1 p7) [.arr none .site m0, .arr (some 62) .vec m1] 2 (normK 1 [1, 4, 6, 7]) =
    bif decide (p7 < (m0.length : Int)) then (bif Nat.beq (lp_Q4_Check_2 p4 p7 m0 m1 (0 : Int)).k 0 then some (.st .ret (headT [1, 4, 6, 7] 65 [.v (.c (.aslice 0 none)), .v (.c (.d (.int .i64 (14 : Int)))), .v (.c (.aslice 1 none)), .v (.c (.d (.int .i64 p7)))]) [.arr none .site m0, .arr (some 62) .vec m1] 2) else (bif Nat.beq (lp_Q4_Check_2 p4 p7 m0 m1 (0 : Int)).k 1 then some (.st .normal (headT [1, 4, 6, 7] 65 [.v (.c (.aslice 0 none)), .v (.c (.d (.int .i64 p4))), .v (.c (.aslice 1 none)), .v (.c (.d (.int .i64 (w64 (p7 + (1 : Int))))))]) [.arr none .site m0, .arr (some 62) .vec m1] 2) else none)) else some (.st (.exit 2) (headT [1, 4, 6, 7] 65 [.v (.c (.aslice 0 none)), .v (.c (.d (.int .i64 p4))), .v (.c (.aslice 1 none)), .v (.c (.d (.int .i64 p7)))]) [.arr none .site m0, .arr (some 62) .vec m1] 2) := by
  kernel_rfl

def o_Q4_Check_1 (p4 : Int) (m0 : List Site) (m1 : List Vec) (r : R_Q4_Check_1) : LT := .br (Nat.beq r.k 0) (.st .ret (headT [1, 4, 6, 7] 65 [.v (.c (.aslice 0 none)), .v (.c (.d (.int .i64 (14 : Int)))), .v (.c (.aslice 1 none)), .v (.c (.d (.int .i64 r.p7)))]) [.arr none .site m0, .arr (some 62) .vec m1] 2) (.br (Nat.beq r.k 1) (.st (.exit 2) (headT [1, 4, 6, 7] 65 [.v (.c (.aslice 0 none)), .v (.c (.d (.int .i64 p4))), .v (.c (.aslice 1 none)), .v (.c (.d (.int .i64 r.p7)))]) [.arr none .site m0, .arr (some 62) .vec m1] 2) (.no))

set_option maxRecDepth 100000 in
theorem r_Q4_Check_1 (p4 : Int) (m0 : List Site) (m1 : List Vec) : ∀ (n : Nat) (p7 : Int) (x : Ex) (T' : TS) (M' : List Blk) (N' : Nat), LReach (o_Q4_Check_1 p4 m0 m1 (run_Q4_Check_1 p4 m0 m1 n p7)) x T' M' N' → x ≠ .normal ∧ ∃ j, RoundsN Tryz.prog GT gbT 1 (loopB Tryz.prog 6 1) j (H_Q4_Check_1 p4 m0 m1 p7) [.arr none .site m0, .arr (some 62) .vec m1] 2 x T' M' N' := by
  have hL : LOKn Tryz.prog GT gbT 1 (orL L_Q4_Check_2 noL) (loopsIn (loopB Tryz.prog 6 1)) := by
    intro b hb
    have e : loopsIn (loopB Tryz.prog 6 1) = [loopB Tryz.prog 6 2] := by kernel_rfl
    rw [e] at hb
    simp only [List.mem_cons, List.not_mem_nil, or_false] at hb
    subst hb
    exact (LOKbn.or k_Q4_Check_2 (fun _ _ _ _ _ _ _ h => h.elim))
  intro n
  induction n with
  | zero =>
    intro p7 x T' M' N' hr
    exact False.elim (redF (redF hr))
  | succ n ih =>
    intro p7 x T' M' N'
    rw [run_Q4_Check_1]
    exact viaE (b_Q4_Check_1 p4 m0 m1 p7) (condG (o := o_Q4_Check_1 p4 m0 m1) (condG (o := o_Q4_Check_1 p4 m0 m1) (fun he hr => stopN g_Q4_all hEQT hmT hL he (by simp) (redT hr)) (condG (o := o_Q4_Check_1 p4 m0 m1) (fun he hr => goN g_Q4_all hEQT hmT hL he (ih (w64 (p7 + (1 : Int))) x T' M' N' hr)) (fun _ hr => False.elim (redF (redF hr))))) (fun he hr => stopN g_Q4_all hEQT hmT hL he (by simp) (redT (redF hr))))

def f_Q4_Check_1 : List AV → List Blk → LT := fun vs Ms => match vs, Ms with
  | [.v (.c (.aslice 0 none)), .v (.c (.d (.int .i64 p4))), .v (.c (.aslice 1 none)), .v (.c (.d (.int .i64 p7)))], [.arr none .site m0, .arr (some 62) .vec m1] => o_Q4_Check_1 p4 m0 m1 (lp_Q4_Check_1 p4 m0 m1 p7)
  | _, _ => .no

def L_Q4_Check_1 := LamN 12 65 1 [1, 4, 6, 7] f_Q4_Check_1

set_option maxRecDepth 100000 in
theorem k_Q4_Check_1 : LOKbn Tryz.prog GT gbT 1 L_Q4_Check_1 (loopB Tryz.prog 6 1) := by
  refine LOKbn.lamN (by kernel_rfl) fun vs Ms x T' M' N' hr => ?_
  unfold f_Q4_Check_1 at hr
  split at hr
  · obtain ⟨q1, j, q2⟩ := r_Q4_Check_1 _ _ _ _ _ x T' M' N' hr
    exact ⟨q1, j, q2⟩
  · exact hr.elim

structure O_Q4_Check where
  ok : Bool
  r0 : Int

def m_Q4_Check (a0 : Globe) (a1 : List Site) : O_Q4_Check := bif ((checkG a0) != (0 : Int)) then ⟨true, (checkG a0)⟩ else (bif decide ((8 : Int) < (a1.length : Int)) then ⟨true, (4 : Int)⟩ else (bif Nat.beq (lp_Q4_Check_0 (0 : Int) a1 a0 (0 : Int)).k 0 then ⟨true, (8 : Int)⟩ else (bif Nat.beq (lp_Q4_Check_0 (0 : Int) a1 a0 (0 : Int)).k 1 then (bif (m_Q4_all a0 a1).ok then (bif Nat.beq (lp_Q4_Check_1 (0 : Int) a1 ((m_Q4_all a0 a1).r0) (0 : Int)).k 0 then ⟨true, (14 : Int)⟩ else (bif Nat.beq (lp_Q4_Check_1 (0 : Int) a1 ((m_Q4_all a0 a1).r0) (0 : Int)).k 1 then ⟨true, (0 : Int)⟩ else ⟨false, 0⟩)) else ⟨false, 0⟩) else ⟨false, 0⟩)))

def F_Q4_Check (a0 : Globe) (a1 : List Site) (K : AV → List Blk → Ans) (r : O_Q4_Check) : Ans := bif r.ok then K (.v (.c (.d (.int .i64 r.r0)))) [.arr none .site a1] else none

set_option maxRecDepth 100000 in
theorem e_Q4_Check (a0 : Globe) (a1 : List Site) (K : AV → List Blk → Ans) : evFn Tryz.prog GT EQT T_Q4_all XT (orL L_Q4_Check_1 (orL L_Q4_Check_2 (orL L_Q4_Check_0 noL))) 80 6 [.v (.agg [.int .i64 a0.a, .int .i64 a0.b]), .v (.c (.aslice 0 none))] [.arr none .site a1] (fun v M => K (finR 1 v M).1 (finR 1 v M).2) = F_Q4_Check a0 a1 K (m_Q4_Check a0 a1) := by
  unfold m_Q4_Check
  refine Eq.trans ?_ (Eq.symm (pushT rfl (pushT rfl (pushT rfl (pushT (pushT (pushT rfl (pushT rfl rfl)) rfl) rfl)))))
  kernel_rfl

set_option maxRecDepth 100000 in
theorem lok_Q4_Check : ∀ fn c, Tryz.prog.funcs[6]? = some fn → fn.body = some c → LOKn Tryz.prog GT gbT 1 (orL L_Q4_Check_1 (orL L_Q4_Check_2 (orL L_Q4_Check_0 noL))) (loopsIn c) := by
  refine LOKn.ofF fun b hb => ?_
  have e : loopsF Tryz.prog 6 = [loopB Tryz.prog 6 0, loopB Tryz.prog 6 1, loopB Tryz.prog 6 2] := by kernel_rfl
  rw [e] at hb
  simp only [List.mem_cons, List.not_mem_nil, or_false] at hb
  rcases hb with rfl | rfl | rfl
  · exact (LOKbn.or (LOKbn.lamN_other (by kernel_rfl)) (LOKbn.or (LOKbn.lamN_other (by kernel_rfl)) (LOKbn.or k_Q4_Check_0 (fun _ _ _ _ _ _ _ h => h.elim))))
  · exact (LOKbn.or k_Q4_Check_1 (LOKbn.or (LOKbn.lamN_other (by kernel_rfl)) (LOKbn.or (LOKbn.lamN_other (by kernel_rfl)) (fun _ _ _ _ _ _ _ h => h.elim))))
  · exact (LOKbn.or (LOKbn.lamN_other (by kernel_rfl)) (LOKbn.or k_Q4_Check_2 (LOKbn.or (LOKbn.lamN_other (by kernel_rfl)) (fun _ _ _ _ _ _ _ h => h.elim))))


theorem c_Q4_Check (a0 : Globe) (a1 : List Site) (hd : (m_Q4_Check a0 a1).ok = true) : CallsA Tryz.prog GT gbT 6 [.v (.agg [.int .i64 a0.a, .int .i64 a0.b]), .v (.c (.aslice 0 none))] [.arr none .site a1] (.v (.c (.d (.int .i64 ((m_Q4_Check a0 a1).r0))))) [.arr none .site a1] := by
  refine CallsA.ofEvR g_Q4_all hEQT hmT (n0 := 1) rfl lok_Q4_Check ((e_Q4_Check a0 a1 (fun v M => some (Res.fin v M))).trans ?_)
  unfold F_Q4_Check
  rw [hd]
  rfl

def s_Q4_Check : List AV → List Blk → (AV → List Blk → Ans) → Ans := fun xs bs K => match xs, bs with
  | [.v (.agg [.int .i64 a0_0, .int .i64 a0_1]), .v (.c (.aslice 0 none))], [.arr none .site a1] => F_Q4_Check (⟨a0_0, a0_1⟩ : Globe) a1 K (m_Q4_Check (⟨a0_0, a0_1⟩ : Globe) a1)
  | _, _ => none

def T_Q4_Check : Nat → List AV → List Blk → (AV → List Blk → Ans) → Ans := upd T_Q4_all 6 s_Q4_Check

theorem g_Q4_Check : GOK Tryz.prog GT gbT T_Q4_Check XT := by
  refine GOK.upd g_Q4_all (fun args w => Tryz.call6 args w) fun xs bs K r h => ?_
  unfold s_Q4_Check at h
  split at h
  · unfold F_Q4_Check at h
    simp only [cond_eq_ite] at h
    split at h
    · rename_i hd
      exact ⟨_, _, c_Q4_Check _ _ hd, h⟩
    · cases h
  · cases h

end Go.Ev

namespace Go.Ev
open Go Go.Proofs

structure O_Q4_Places where
  ok : Bool
  r0 : List Vec
  r1 : Int

def m_Q4_Places (a0 : Globe) (a1 : List Site) : O_Q4_Places := bif (m_Q4_Check a0 a1).ok then (bif ((m_Q4_Check a0 a1).r0 != (0 : Int)) then (bif (m_Q4_Check a0 a1).ok then ⟨true, ([] : List Vec), (m_Q4_Check a0 a1).r0⟩ else ⟨false, [], 0⟩) else (bif (m_Q4_all a0 a1).ok then ⟨true, (m_Q4_all a0 a1).r0, (0 : Int)⟩ else ⟨false, [], 0⟩)) else ⟨false, [], 0⟩

def F_Q4_Places (a0 : Globe) (a1 : List Site) (K : AV → List Blk → Ans) (r : O_Q4_Places) : Ans := bif r.ok then K (.tup [.c (.aslice 1 none), .c (.d (.int .i64 r.r1))]) [.arr none .site a1, .arr (some 62) .vec r.r0] else none

set_option maxRecDepth 100000 in
theorem e_Q4_Places (a0 : Globe) (a1 : List Site) (K : AV → List Blk → Ans) : evFn Tryz.prog GT EQT T_Q4_Check XT noL 80 46 [.v (.agg [.int .i64 a0.a, .int .i64 a0.b]), .v (.c (.aslice 0 none))] [.arr none .site a1] (fun v M => K (finR 1 v M).1 (finR 1 v M).2) = F_Q4_Places a0 a1 K (m_Q4_Places a0 a1) := by
  unfold m_Q4_Places
  refine Eq.trans ?_ (Eq.symm (pushT (pushT (pushT rfl rfl) (pushT rfl rfl)) rfl))
  kernel_rfl

theorem c_Q4_Places (a0 : Globe) (a1 : List Site) (hd : (m_Q4_Places a0 a1).ok = true) : CallsA Tryz.prog GT gbT 46 [.v (.agg [.int .i64 a0.a, .int .i64 a0.b]), .v (.c (.aslice 0 none))] [.arr none .site a1] (.tup [.c (.aslice 1 none), .c (.d (.int .i64 ((m_Q4_Places a0 a1).r1)))]) [.arr none .site a1, .arr (some 62) .vec ((m_Q4_Places a0 a1).r0)] := by
  refine CallsA.ofEvR g_Q4_Check hEQT hmT (n0 := 1) rfl (fun _ _ _ _ => LOKn.nil) ((e_Q4_Places a0 a1 (fun v M => some (Res.fin v M))).trans ?_)
  unfold F_Q4_Places
  rw [hd]
  rfl

def s_Q4_Places : List AV → List Blk → (AV → List Blk → Ans) → Ans := fun xs bs K => match xs, bs with
  | [.v (.agg [.int .i64 a0_0, .int .i64 a0_1]), .v (.c (.aslice 0 none))], [.arr none .site a1] => F_Q4_Places (⟨a0_0, a0_1⟩ : Globe) a1 K (m_Q4_Places (⟨a0_0, a0_1⟩ : Globe) a1)
  | _, _ => none

def T_Q4_Places : Nat → List AV → List Blk → (AV → List Blk → Ans) → Ans := upd T_Q4_Check 46 s_Q4_Places

theorem g_Q4_Places : GOK Tryz.prog GT gbT T_Q4_Places XT := by
  refine GOK.upd g_Q4_Check (fun args w => Tryz.call46 args w) fun xs bs K r h => ?_
  unfold s_Q4_Places at h
  split at h
  · unfold F_Q4_Places at h
    simp only [cond_eq_ite] at h
    split at h
    · rename_i hd
      exact ⟨_, _, c_Q4_Places _ _ hd, h⟩
    · cases h
  · cases h

structure O_Q4_Line where
  ok : Bool
  r0 : Vec
  r1 : Int

def m_Q4_Line (a0 : Globe) (a1 : List Site) (a2 : Int) (a3 : Int) : O_Q4_Line := bif (m_Q4_Places a0 a1).ok then (bif ((m_Q4_Places a0 a1).r1 != (0 : Int)) then ⟨true, ⟨⟨(0 : Int), (0 : Int)⟩, ⟨(0 : Int), (0 : Int)⟩, ⟨(0 : Int), (0 : Int)⟩⟩, (m_Q4_Places a0 a1).r1⟩ else (bif decide (a2 < (0 : Int)) then ⟨true, ⟨⟨(0 : Int), (0 : Int)⟩, ⟨(0 : Int), (0 : Int)⟩, ⟨(0 : Int), (0 : Int)⟩⟩, (2 : Int)⟩ else (bif decide (a3 < (0 : Int)) then ⟨true, ⟨⟨(0 : Int), (0 : Int)⟩, ⟨(0 : Int), (0 : Int)⟩, ⟨(0 : Int), (0 : Int)⟩⟩, (2 : Int)⟩ else (bif decide ((a1.length : Int) ≤ a2) then ⟨true, ⟨⟨(0 : Int), (0 : Int)⟩, ⟨(0 : Int), (0 : Int)⟩, ⟨(0 : Int), (0 : Int)⟩⟩, (2 : Int)⟩ else (bif decide ((a1.length : Int) ≤ a3) then ⟨true, ⟨⟨(0 : Int), (0 : Int)⟩, ⟨(0 : Int), (0 : Int)⟩, ⟨(0 : Int), (0 : Int)⟩⟩, (2 : Int)⟩ else (bif (decide ((0 : Int) ≤ a3) && decide (a3 < (((m_Q4_Places a0 a1).r0).length : Int))) then (bif (decide ((0 : Int) ≤ a2) && decide (a2 < (((m_Q4_Places a0 a1).r0).length : Int))) then ⟨true, (subV ⟨⟨(((((m_Q4_Places a0 a1).r0).getD a3.toNat (ET.z .vec)).x).num), (((((m_Q4_Places a0 a1).r0).getD a3.toNat (ET.z .vec)).x).den)⟩, ⟨(((((m_Q4_Places a0 a1).r0).getD a3.toNat (ET.z .vec)).y).num), (((((m_Q4_Places a0 a1).r0).getD a3.toNat (ET.z .vec)).y).den)⟩, ⟨(((((m_Q4_Places a0 a1).r0).getD a3.toNat (ET.z .vec)).z).num), (((((m_Q4_Places a0 a1).r0).getD a3.toNat (ET.z .vec)).z).den)⟩⟩ ⟨⟨(((((m_Q4_Places a0 a1).r0).getD a2.toNat (ET.z .vec)).x).num), (((((m_Q4_Places a0 a1).r0).getD a2.toNat (ET.z .vec)).x).den)⟩, ⟨(((((m_Q4_Places a0 a1).r0).getD a2.toNat (ET.z .vec)).y).num), (((((m_Q4_Places a0 a1).r0).getD a2.toNat (ET.z .vec)).y).den)⟩, ⟨(((((m_Q4_Places a0 a1).r0).getD a2.toNat (ET.z .vec)).z).num), (((((m_Q4_Places a0 a1).r0).getD a2.toNat (ET.z .vec)).z).den)⟩⟩).1, (subV ⟨⟨(((((m_Q4_Places a0 a1).r0).getD a3.toNat (ET.z .vec)).x).num), (((((m_Q4_Places a0 a1).r0).getD a3.toNat (ET.z .vec)).x).den)⟩, ⟨(((((m_Q4_Places a0 a1).r0).getD a3.toNat (ET.z .vec)).y).num), (((((m_Q4_Places a0 a1).r0).getD a3.toNat (ET.z .vec)).y).den)⟩, ⟨(((((m_Q4_Places a0 a1).r0).getD a3.toNat (ET.z .vec)).z).num), (((((m_Q4_Places a0 a1).r0).getD a3.toNat (ET.z .vec)).z).den)⟩⟩ ⟨⟨(((((m_Q4_Places a0 a1).r0).getD a2.toNat (ET.z .vec)).x).num), (((((m_Q4_Places a0 a1).r0).getD a2.toNat (ET.z .vec)).x).den)⟩, ⟨(((((m_Q4_Places a0 a1).r0).getD a2.toNat (ET.z .vec)).y).num), (((((m_Q4_Places a0 a1).r0).getD a2.toNat (ET.z .vec)).y).den)⟩, ⟨(((((m_Q4_Places a0 a1).r0).getD a2.toNat (ET.z .vec)).z).num), (((((m_Q4_Places a0 a1).r0).getD a2.toNat (ET.z .vec)).z).den)⟩⟩).2⟩ else ⟨false, ⟨⟨0, 0⟩, ⟨0, 0⟩, ⟨0, 0⟩⟩, 0⟩) else ⟨false, ⟨⟨0, 0⟩, ⟨0, 0⟩, ⟨0, 0⟩⟩, 0⟩)))))) else ⟨false, ⟨⟨0, 0⟩, ⟨0, 0⟩, ⟨0, 0⟩⟩, 0⟩

def F_Q4_Line (a0 : Globe) (a1 : List Site) (a2 : Int) (a3 : Int) (K : AV → List Blk → Ans) (r : O_Q4_Line) : Ans := bif r.ok then K (.tup [.agg [.int .i64 r.r0.x.num, .int .i64 r.r0.x.den, .int .i64 r.r0.y.num, .int .i64 r.r0.y.den, .int .i64 r.r0.z.num, .int .i64 r.r0.z.den], .c (.d (.int .i64 r.r1))]) [.arr none .site a1] else none

set_option maxRecDepth 100000 in
theorem e_Q4_Line (a0 : Globe) (a1 : List Site) (a2 : Int) (a3 : Int) (K : AV → List Blk → Ans) : evFn Tryz.prog GT EQT T_Q4_Places XT noL 80 31 [.v (.agg [.int .i64 a0.a, .int .i64 a0.b]), .v (.c (.aslice 0 none)), .v (.c (.d (.int .i64 a2))), .v (.c (.d (.int .i64 a3)))] [.arr none .site a1] (fun v M => K (finR 1 v M).1 (finR 1 v M).2) = F_Q4_Line a0 a1 a2 a3 K (m_Q4_Line a0 a1 a2 a3) := by
  unfold m_Q4_Line
  refine Eq.trans ?_ (Eq.symm (pushT (pushT rfl (pushT rfl (pushT rfl (pushT rfl (pushT rfl (pushT (pushT rfl rfl) rfl)))))) rfl))
  kernel_rfl

theorem c_Q4_Line (a0 : Globe) (a1 : List Site) (a2 : Int) (a3 : Int) (hd : (m_Q4_Line a0 a1 a2 a3).ok = true) : CallsA Tryz.prog GT gbT 31 [.v (.agg [.int .i64 a0.a, .int .i64 a0.b]), .v (.c (.aslice 0 none)), .v (.c (.d (.int .i64 a2))), .v (.c (.d (.int .i64 a3)))] [.arr none .site a1] (.tup [.agg [.int .i64 ((((m_Q4_Line a0 a1 a2 a3).r0).x).num), .int .i64 ((((m_Q4_Line a0 a1 a2 a3).r0).x).den), .int .i64 ((((m_Q4_Line a0 a1 a2 a3).r0).y).num), .int .i64 ((((m_Q4_Line a0 a1 a2 a3).r0).y).den), .int .i64 ((((m_Q4_Line a0 a1 a2 a3).r0).z).num), .int .i64 ((((m_Q4_Line a0 a1 a2 a3).r0).z).den)], .c (.d (.int .i64 ((m_Q4_Line a0 a1 a2 a3).r1)))]) [.arr none .site a1] := by
  refine CallsA.ofEvR g_Q4_Places hEQT hmT (n0 := 1) rfl (fun _ _ _ _ => LOKn.nil) ((e_Q4_Line a0 a1 a2 a3 (fun v M => some (Res.fin v M))).trans ?_)
  unfold F_Q4_Line
  rw [hd]
  rfl

def s_Q4_Line : List AV → List Blk → (AV → List Blk → Ans) → Ans := fun xs bs K => match xs, bs with
  | [.v (.agg [.int .i64 a0_0, .int .i64 a0_1]), .v (.c (.aslice 0 none)), .v (.c (.d (.int .i64 a2))), .v (.c (.d (.int .i64 a3)))], [.arr none .site a1] => F_Q4_Line (⟨a0_0, a0_1⟩ : Globe) a1 a2 a3 K (m_Q4_Line (⟨a0_0, a0_1⟩ : Globe) a1 a2 a3)
  | _, _ => none

def T_Q4_Line : Nat → List AV → List Blk → (AV → List Blk → Ans) → Ans := upd T_Q4_Places 31 s_Q4_Line

theorem g_Q4_Line : GOK Tryz.prog GT gbT T_Q4_Line XT := by
  refine GOK.upd g_Q4_Places (fun args w => Tryz.call31 args w) fun xs bs K r h => ?_
  unfold s_Q4_Line at h
  split at h
  · unfold F_Q4_Line at h
    simp only [cond_eq_ite] at h
    split at h
    · rename_i hd
      exact ⟨_, _, c_Q4_Line _ _ _ _ hd, h⟩
    · cases h
  · cases h

structure O_Q8_Line where
  ok : Bool
  r0 : Dir
  r1 : Int

def m_Q8_Line (a0 : Globe) (a1 : List Site) (a2 : Int) (a3 : Int) (a4 : Source) (a5 : Int) : O_Q8_Line := bif (m_Q4_Line a0 a1 a2 a3).ok then (bif ((m_Q4_Line a0 a1 a2 a3).r1 != (0 : Int)) then ⟨true, ⟨⟨(0 : Int), (0 : Int)⟩, ⟨(0 : Int), (0 : Int)⟩, ⟨(0 : Int), (0 : Int)⟩⟩, (m_Q4_Line a0 a1 a2 a3).r1⟩ else ⟨true, (projV ((m_Q4_Line a0 a1 a2 a3).r0) a4 a5).1, (projV ((m_Q4_Line a0 a1 a2 a3).r0) a4 a5).2⟩) else ⟨false, ⟨⟨0, 0⟩, ⟨0, 0⟩, ⟨0, 0⟩⟩, 0⟩

def F_Q8_Line (a0 : Globe) (a1 : List Site) (a2 : Int) (a3 : Int) (a4 : Source) (a5 : Int) (K : AV → List Blk → Ans) (r : O_Q8_Line) : Ans := bif r.ok then K (.tup [.agg [.int .i64 r.r0.x.lo, .int .i64 r.r0.x.hi, .int .i64 r.r0.y.lo, .int .i64 r.r0.y.hi, .int .i64 r.r0.z.lo, .int .i64 r.r0.z.hi], .c (.d (.int .i64 r.r1))]) [.arr none .site a1] else none

set_option maxRecDepth 100000 in
theorem e_Q8_Line (a0 : Globe) (a1 : List Site) (a2 : Int) (a3 : Int) (a4 : Source) (a5 : Int) (K : AV → List Blk → Ans) : evFn Tryz.prog GT EQT T_Q4_Line XT noL 80 13 [.v (.agg [.int .i64 a0.a, .int .i64 a0.b]), .v (.c (.aslice 0 none)), .v (.c (.d (.int .i64 a2))), .v (.c (.d (.int .i64 a3))), .v (.agg [.str a4.name, .int .i64 a4.ra, .int .i64 a4.dec]), .v (.c (.d (.int .i64 a5)))] [.arr none .site a1] (fun v M => K (finR 1 v M).1 (finR 1 v M).2) = F_Q8_Line a0 a1 a2 a3 a4 a5 K (m_Q8_Line a0 a1 a2 a3 a4 a5) := by
  unfold m_Q8_Line
  refine Eq.trans ?_ (Eq.symm (pushT (pushT rfl rfl) rfl))
  kernel_rfl

theorem c_Q8_Line (a0 : Globe) (a1 : List Site) (a2 : Int) (a3 : Int) (a4 : Source) (a5 : Int) (hd : (m_Q8_Line a0 a1 a2 a3 a4 a5).ok = true) : CallsA Tryz.prog GT gbT 13 [.v (.agg [.int .i64 a0.a, .int .i64 a0.b]), .v (.c (.aslice 0 none)), .v (.c (.d (.int .i64 a2))), .v (.c (.d (.int .i64 a3))), .v (.agg [.str a4.name, .int .i64 a4.ra, .int .i64 a4.dec]), .v (.c (.d (.int .i64 a5)))] [.arr none .site a1] (.tup [.agg [.int .i64 ((((m_Q8_Line a0 a1 a2 a3 a4 a5).r0).x).lo), .int .i64 ((((m_Q8_Line a0 a1 a2 a3 a4 a5).r0).x).hi), .int .i64 ((((m_Q8_Line a0 a1 a2 a3 a4 a5).r0).y).lo), .int .i64 ((((m_Q8_Line a0 a1 a2 a3 a4 a5).r0).y).hi), .int .i64 ((((m_Q8_Line a0 a1 a2 a3 a4 a5).r0).z).lo), .int .i64 ((((m_Q8_Line a0 a1 a2 a3 a4 a5).r0).z).hi)], .c (.d (.int .i64 ((m_Q8_Line a0 a1 a2 a3 a4 a5).r1)))]) [.arr none .site a1] := by
  refine CallsA.ofEvR g_Q4_Line hEQT hmT (n0 := 1) rfl (fun _ _ _ _ => LOKn.nil) ((e_Q8_Line a0 a1 a2 a3 a4 a5 (fun v M => some (Res.fin v M))).trans ?_)
  unfold F_Q8_Line
  rw [hd]
  rfl

def s_Q8_Line : List AV → List Blk → (AV → List Blk → Ans) → Ans := fun xs bs K => match xs, bs with
  | [.v (.agg [.int .i64 a0_0, .int .i64 a0_1]), .v (.c (.aslice 0 none)), .v (.c (.d (.int .i64 a2))), .v (.c (.d (.int .i64 a3))), .v (.agg [.str a4_0, .int .i64 a4_1, .int .i64 a4_2]), .v (.c (.d (.int .i64 a5)))], [.arr none .site a1] => F_Q8_Line (⟨a0_0, a0_1⟩ : Globe) a1 a2 a3 (⟨a4_0, a4_1, a4_2⟩ : Source) a5 K (m_Q8_Line (⟨a0_0, a0_1⟩ : Globe) a1 a2 a3 (⟨a4_0, a4_1, a4_2⟩ : Source) a5)
  | _, _ => none

def T_Q8_Line : Nat → List AV → List Blk → (AV → List Blk → Ans) → Ans := upd T_Q4_Line 13 s_Q8_Line

theorem g_Q8_Line : GOK Tryz.prog GT gbT T_Q8_Line XT := by
  refine GOK.upd g_Q4_Line (fun args w => Tryz.call13 args w) fun xs bs K r h => ?_
  unfold s_Q8_Line at h
  split at h
  · unfold F_Q8_Line at h
    simp only [cond_eq_ite] at h
    split at h
    · rename_i hd
      exact ⟨_, _, c_Q8_Line _ _ _ _ _ _ hd, h⟩
    · cases h
  · cases h

end Go.Ev

namespace Go.Ev
open Go

theorem w64_up {n : Nat} (h : n < 9223372036854775807) : w64 ((n : Int) + 1) = ((n + 1 : Nat) : Int) := by simp only [w64, wr]; omega
theorem room_le {n : Nat} (h : n ≤ 1048576) : Nat.ble n roomD = true := by rw [Nat.ble_eq]; exact h

abbrev sAt (l : List Site) (n : Nat) : Site := l.getD n (ET.z .site)

theorem drop_at {α : Type} {l : List α} {n : Nat} (z : α) (h : n < l.length) : l.drop n = l.getD n z :: l.drop (n + 1) := by
  rw [List.drop_eq_getElem_cons h]
  congr 1
  rw [List.getD_eq_getElem?_getD, List.getElem?_eq_getElem h]
  rfl

theorem drop_all {α : Type} {l : List α} {n : Nat} (h : ¬ n < l.length) : l.drop n = [] := List.drop_eq_nil_of_le (by omega)

/-! ### Great -/

theorem run_great (l : List Site) (p : Bool) (hl : l.length ≤ maxLen) : ∀ (f n : Nat), n ≤ l.length → l.length - n < f → (run_Q4_Great_0 p l f (n : Int)).k = bif (l.drop n).any (fun x => decide (100 < x.name.size)) then 0 else 1 := by
  intro f
  induction f with
  | zero => intro n _ h; omega
  | succ f ih =>
    intro n hn h
    rw [run_Q4_Great_0]
    simp only [maxLen] at hl
    by_cases h1 : n < l.length
    · simp only [nn_t, lt_t h1, Bool.and_self, cond_true, w64_up (show n < 9223372036854775807 by omega), Int.toNat_natCast]
      rw [drop_at (ET.z .site) h1, List.any_cons]
      by_cases c : 100 < (sAt l n).name.size
      · rw [dec_t (show (100 : Int) < ((sAt l n).name.size : Int) by omega), dec_t c]; rfl
      · rw [dec_f (show ¬ (100 : Int) < ((sAt l n).name.size : Int) by omega), dec_f c]
        simp only [cond_false, Bool.false_or]
        exact ih (n + 1) (by omega) (by omega)
    · simp only [lt_f h1, cond_false]
      rw [drop_all h1]
      rfl

def greatB (l : List Site) : Bool := l.any (fun x => decide (100 < x.name.size)) || decide (20 < l.length)

theorem m_great (l : List Site) (hl : l.length ≤ maxLen) : m_Q4_Great l = ⟨true, greatB l⟩ := by
  unfold m_Q4_Great lp_Q4_Great_0 greatB
  have := run_great l false hl (2000 + l.length) 0 (by omega) (by omega)
  rw [show ((0 : Nat) : Int) = 0 from rfl, List.drop_zero] at this
  rw [this]
  cases l.any (fun x => decide (100 < x.name.size)) with
  | true => rfl
  | false =>
    by_cases c : 20 < l.length
    · rw [dec_t c, dec_t (show (20 : Int) < (l.length : Int) by omega)]; rfl
    · rw [dec_f c, dec_f (show ¬ (20 : Int) < (l.length : Int) by omega)]; rfl

theorem great_small {l : List Site} (h : greatB l = false) : l.length ≤ 20 := by
  unfold greatB at h
  simp only [Bool.or_eq_false_iff, decide_eq_false_iff_not] at h
  omega

/-! ### Stations -/

def siteB (x : Site) : Bool := namedB x.name && placedB x.s x.t

theorem run_valid (x : Site) (p : Bool) (hs : x.name.size ≤ 40) : ∀ (f m : Nat) (i : Int), 0 ≤ i → i + m = x.name.size → m < f → (run_array_valid_0 p (x.name.size : Int) x f i).k = bif restOk x.name i m then 1 else 0 := by
  intro f
  induction f with
  | zero => intro m i _ _ h; omega
  | succ f ih =>
    intro m i h0 h1 h2
    rw [run_array_valid_0]
    change (bif decide (i < (x.name.size : Int)) then (bif (decide (0 ≤ i) && decide (i < (x.name.size : Int))) then nameStep (byteAt x.name i) ⟨0, i⟩ (run_array_valid_0 p (x.name.size : Int) x f (w64 (i + 1))) else ⟨2, i⟩) else ⟨1, i⟩ : R_array_valid_0).k = _
    cases m with
    | zero => rw [dec_f (show ¬ i < (x.name.size : Int) by omega)]; rfl
    | succ m =>
      rw [dec_t (show i < (x.name.size : Int) by omega), dec_t h0, nameStep_eq, restOk, show w64 (i + 1) = i + 1 by simp only [w64, wr]; omega]
      simp only [Bool.and_self, cond_true]
      cases byteOk (byteAt x.name i) with
      | false => rfl
      | true =>
        simp only [cond_true]
        exact ih m (i + 1) (by omega) (by omega) (by omega)

theorem at_one (s t : Frac) : ((atV ⟨1, 1⟩ s t).2 == (0 : Int)) = placedB s t := by
  unfold atV
  rw [show globeOkB ⟨1, 1⟩ = true by decide]
  cases placedB s t <;> rfl

theorem m_valid (x : Site) : m_array_valid x = ⟨true, siteB x⟩ := by
  unfold m_array_valid siteB namedB lp_array_valid_0
  by_cases h1 : (x.name.size : Int) < 1
  · rw [dec_t h1]; rfl
  by_cases h2 : 40 < (x.name.size : Int)
  · rw [dec_f h1, dec_t h2]; rfl
  rw [dec_f h1, dec_f h2, dec_t (show (0 : Int) < (x.name.size : Int) by omega)]
  simp only [Int.le_refl, decide_true, Bool.and_self, cond_true, cond_false, at_one]
  cases decide (byteAt x.name 0 < 97) with
  | true => rfl
  | false =>
    cases decide (122 < byteAt x.name 0) with
    | true => rfl
    | false =>
      simp only [cond_false]
      rw [run_valid x false (by omega) _ x.name.size 0 (by omega) (by omega) (by omega)]
      cases restOk x.name 0 x.name.size <;> rfl

theorem m_validR (x : Site) : m_Q4_Valid x = ⟨true, siteB x⟩ := by
  unfold m_Q4_Valid siteB
  cases namedB x.name <;> rfl

def stationsE (l : List Site) : Int := bif decide (8 < l.length) then 4 else bif l.all siteB then 0 else 8

theorem run_stations (l : List Site) (p : Int) (hl : l.length ≤ 8) : ∀ (f n : Nat), n ≤ l.length → l.length - n < f → (run_array_stations_0 p (l.length : Int) l f (n : Int)).k = bif (l.drop n).all siteB then 1 else 0 := by
  intro f
  induction f with
  | zero => intro n _ h; omega
  | succ f ih =>
    intro n hn h
    rw [run_array_stations_0]
    by_cases h1 : n < l.length
    · simp only [nn_t, lt_t h1, Bool.and_self, cond_true, w64_up (show n < 9223372036854775807 by omega), Int.toNat_natCast, m_valid]
      rw [drop_at (ET.z .site) h1, List.all_cons]
      cases siteB (sAt l n) with
      | false => rfl
      | true =>
        simp only [Bool.not_true, cond_false, Bool.true_and]
        exact ih (n + 1) (by omega) (by omega)
    · simp only [lt_f h1, cond_false]
      rw [drop_all h1]
      rfl

theorem m_stations (l : List Site) : m_array_stations l = ⟨true, stationsE l⟩ := by
  unfold m_array_stations stationsE lp_array_stations_0
  by_cases h : 8 < l.length
  · rw [dec_t h, dec_t (show (8 : Int) < (l.length : Int) by omega)]; rfl
  · rw [dec_f h, dec_f (show ¬ (8 : Int) < (l.length : Int) by omega)]
    have := run_stations l 0 (by omega) (2000 + l.length) 0 (by omega) (by omega)
    rw [show ((0 : Nat) : Int) = 0 from rfl, List.drop_zero] at this
    simp only [cond_false]
    rw [this]
    cases l.all siteB <;> rfl

theorem stations_ok {l : List Site} (h : stationsE l = 0) : l.length ≤ 8 ∧ ∀ x ∈ l, siteB x = true := by
  unfold stationsE at h
  by_cases h1 : 8 < l.length
  · rw [dec_t h1] at h; cases h
  · rw [dec_f h1] at h
    refine ⟨by omega, ?_⟩
    cases h2 : l.all siteB with
    | false => rw [h2] at h; cases h
    | true => exact List.all_eq_true.1 h2

theorem site_placed {x : Site} (h : siteB x = true) : placedB x.s x.t = true := by
  unfold siteB at h
  simp only [Bool.and_eq_true] at h
  exact h.2

/-! ### Places -/

def placedL (g : Globe) (l : List Site) : List Placed := l.map fun x => ⟨x, placeV g x.s x.t⟩
def placesL (g : Globe) (l : List Site) : List Vec := l.map fun x => placeV g x.s x.t

theorem placedL_len (g : Globe) (l : List Site) : (placedL g l).length = l.length := List.length_map _
theorem placesL_len (g : Globe) (l : List Site) : (placesL g l).length = l.length := List.length_map _

theorem placedL_at (g : Globe) {l : List Site} {n : Nat} (h : n < l.length) : (placedL g l).getD n (ET.z .placed) = ⟨sAt l n, placeV g (sAt l n).s (sAt l n).t⟩ := by
  unfold placedL
  rw [List.getD_eq_getElem?_getD, List.getElem?_map, List.getElem?_eq_getElem h, sAt, List.getD_eq_getElem?_getD, List.getElem?_eq_getElem h]
  rfl

theorem placesL_at (g : Globe) {l : List Site} {n : Nat} (h : n < l.length) : (placesL g l).getD n (ET.z .vec) = placeV g (sAt l n).s (sAt l n).t := by
  unfold placesL
  rw [List.getD_eq_getElem?_getD, List.getElem?_map, List.getElem?_eq_getElem h, sAt, List.getD_eq_getElem?_getD, List.getElem?_eq_getElem h]
  rfl

theorem sAt_mem {l : List Site} {n : Nat} (h : n < l.length) : sAt l n ∈ l := by
  rw [sAt, List.getD_eq_getElem?_getD, List.getElem?_eq_getElem h]
  exact List.getElem_mem h

theorem at_valid {g : Globe} {x : Site} (hg : checkG g = 0) (hx : siteB x = true) : atV g x.s x.t = (placeV g x.s x.t, 0) := by
  unfold atV
  rw [site_placed hx]
  unfold checkG at hg
  cases h : globeOkB g with
  | false => rw [h] at hg; cases hg
  | true => rfl

theorem take_set {α : Type} : ∀ {l : List α} {n : Nat} {y : α}, n < l.length → (l.set n y).take (n + 1) = l.take n ++ [y]
  | [], _, _, h => by simp at h
  | _ :: _, 0, _, _ => by simp
  | x :: l, n + 1, y, h => by
    simp only [List.set_cons_succ, List.take_succ_cons, List.cons_append]
    rw [take_set (by simpa using h)]

theorem run_place (g : Globe) (l : List Site) (q : Int) (hg : checkG g = 0) (hl : l.length ≤ 8) (hv : ∀ x ∈ l, siteB x = true) : ∀ (f n : Nat) (acc : List Placed), n ≤ l.length → l.length - n < f → acc.length = l.length →
    (run_array_place_0 (l.length : Int) l g q f (n : Int) acc).k = 1 ∧ (run_array_place_0 (l.length : Int) l g q f (n : Int) acc).m5 = acc.take n ++ (placedL g l).drop n := by
  intro f
  induction f with
  | zero => intro n acc _ h; omega
  | succ f ih =>
    intro n acc hn h ha
    rw [run_array_place_0]
    by_cases h1 : n < l.length
    · simp only [nn_t, lt_t h1, lt_t (show n < acc.length by omega), Bool.and_self, cond_true, w64_up (show n < 9223372036854775807 by omega), Int.toNat_natCast, at_valid hg (hv _ (sAt_mem h1))]
      have := ih (n + 1) (acc.set n ⟨sAt l n, placeV g (sAt l n).s (sAt l n).t⟩) (by omega) (by omega) (by simp [ha])
      rw [take_set (by omega)] at this
      rw [drop_at (ET.z .placed) (show n < (placedL g l).length by rw [placedL_len]; exact h1), placedL_at g h1]
      refine ⟨this.1, this.2.trans ?_⟩
      rw [List.append_assoc]
      rfl
    · simp only [lt_f h1, cond_false]
      rw [drop_all (show ¬ n < (placedL g l).length by rw [placedL_len]; exact h1), List.append_nil, List.take_of_length_le (by omega)]
      exact ⟨trivial, rfl⟩

def dupL (g : Globe) (l : List Site) : Bool := dupP (placedL g l)

def checkA (g : Globe) (l : List Site) : Int := bif checkG g != 0 then checkG g else bif stationsE l != 0 then stationsE l else bif dupL g l then 14 else 0

theorem eq0_of {n : Int} (h : (n != 0) = false) : n = 0 := by simpa using h

theorem m_place (g : Globe) (l : List Site) : m_array_place g l = ⟨true, bif checkA g l == 0 then placedL g l else [], checkA g l⟩ := by
  unfold m_array_place checkA m0_array_place
  simp only [m_stations, cond_true]
  cases h1 : (checkG g != 0) with
  | true =>
    simp only [cond_true]
    rw [show (checkG g == 0) = false by simpa [bne] using h1]
    rfl
  | false =>
    cases h2 : (stationsE l != 0) with
    | true =>
      simp only [cond_true, cond_false]
      rw [show (stationsE l == 0) = false by simpa [bne] using h2]
      rfl
    | false =>
      obtain ⟨hl, hv⟩ := stations_ok (eq0_of h2)
      have e0 : (decide (0 ≤ (l.length : Int)) && (decide ((l.length : Int) ≤ 1048576) && ((11 == 11) && (Nat.blt 0 11 && Nat.ble 96 4096)))) = true := by
        rw [nn_t, dec_t (show (l.length : Int) ≤ 1048576 by omega)]; rfl
      unfold lp_array_place_0
      obtain ⟨k1, k2⟩ := run_place g l 0 (eq0_of h1) hl hv (2000 + (l.length + (List.replicate l.length (⟨⟨ByteArray.empty, ⟨(0 : Int), (0 : Int)⟩, ⟨(0 : Int), (0 : Int)⟩⟩, ⟨⟨(0 : Int), (0 : Int)⟩, ⟨(0 : Int), (0 : Int)⟩, ⟨(0 : Int), (0 : Int)⟩⟩⟩ : Placed)).length)) 0 (List.replicate l.length (⟨⟨ByteArray.empty, ⟨(0 : Int), (0 : Int)⟩, ⟨(0 : Int), (0 : Int)⟩⟩, ⟨⟨(0 : Int), (0 : Int)⟩, ⟨(0 : Int), (0 : Int)⟩, ⟨(0 : Int), (0 : Int)⟩⟩⟩ : Placed)) (by omega) (by omega) (by simp)
      rw [show ((0 : Nat) : Int) = 0 from rfl] at k1 k2
      rw [List.take_zero, List.nil_append, List.drop_zero] at k2
      simp only [cond_false, decide_true, Bool.true_and, e0, cond_true, k1, k2, show Nat.beq 1 0 = false from rfl, show Nat.beq 1 1 = true from rfl]
      unfold dupL
      cases dupP (placedL g l) <;> rfl

/-! ### The reference -/

theorem placeR_valid {g : Globe} {x : Site} (hx : siteB x = true) : placeR g x.s x.t = placeV g x.s x.t := by
  have := site_placed hx
  unfold placedB at this
  simp only [Bool.and_eq_true] at this
  exact placeR_eq (paramB_iff.1 this.1) (paramB_iff.1 this.2.1)

theorem run_all (g : Globe) (l : List Site) (hl : l.length ≤ 8) (hv : ∀ x ∈ l, siteB x = true) : ∀ (f n : Nat) (o : List Vec), n ≤ l.length → l.length - n < f → o.length + (l.length - n) ≤ 1000 →
    (run_Q4_all_0 l g f (n : Int) o).k = 0 ∧ (run_Q4_all_0 l g f (n : Int) o).m2 = o ++ (placesL g l).drop n := by
  intro f
  induction f with
  | zero => intro n o _ h; omega
  | succ f ih =>
    intro n o hn h ho
    rw [run_Q4_all_0]
    by_cases h1 : n < l.length
    · simp only [nn_t, lt_t h1, Bool.and_self, cond_true, w64_up (show n < 9223372036854775807 by omega), Int.toNat_natCast, placeR_valid (hv _ (sAt_mem h1)), List.length_singleton, room_le (show o.length + 1 ≤ 1048576 by omega)]
      rw [drop_at (ET.z .vec) (show n < (placesL g l).length by rw [placesL_len]; exact h1), placesL_at g h1]
      obtain ⟨k1, k2⟩ := ih (n + 1) (o ++ [placeV g (sAt l n).s (sAt l n).t]) (by omega) (by omega) (by simp; omega)
      refine ⟨k1, k2.trans ?_⟩
      rw [List.append_assoc]
      rfl
    · simp only [lt_f h1, cond_false]
      rw [drop_all (show ¬ n < (placesL g l).length by rw [placesL_len]; exact h1), List.append_nil]
      exact ⟨trivial, rfl⟩

theorem m_all (g : Globe) (l : List Site) (h : stationsE l = 0) : m_Q4_all g l = ⟨true, placesL g l⟩ := by
  obtain ⟨hl, hv⟩ := stations_ok h
  unfold m_Q4_all lp_Q4_all_0
  obtain ⟨k1, k2⟩ := run_all g l hl hv (2000 + (l.length + ([] : List Vec).length)) 0 [] (by omega) (by omega) (by simp; omega)
  rw [show ((0 : Nat) : Int) = 0 from rfl] at k1 k2
  rw [k1, k2]
  rfl

theorem run_checkS (g : Globe) (l : List Site) (p : Int) (hl : l.length ≤ 8) : ∀ (f n : Nat), n ≤ l.length → l.length - n < f → (run_Q4_Check_0 p l g f (n : Int)).k = bif (l.drop n).all siteB then 1 else 0 := by
  intro f
  induction f with
  | zero => intro n _ h; omega
  | succ f ih =>
    intro n hn h
    rw [run_Q4_Check_0]
    by_cases h1 : n < l.length
    · simp only [nn_t, lt_t h1, Bool.and_self, cond_true, w64_up (show n < 9223372036854775807 by omega), Int.toNat_natCast, m_validR]
      rw [drop_at (ET.z .site) h1, List.all_cons]
      cases siteB (sAt l n) with
      | false => rfl
      | true =>
        simp only [Bool.not_true, cond_false, Bool.true_and]
        exact ih (n + 1) (by omega) (by omega)
    · simp only [lt_f h1, cond_false]
      rw [drop_all h1]
      rfl

theorem eq_vec (a b : Vec) : eqAll [.int .i64 a.x.num, .int .i64 a.x.den, .int .i64 a.y.num, .int .i64 a.y.den, .int .i64 a.z.num, .int .i64 a.z.den] [.int .i64 b.x.num, .int .i64 b.x.den, .int .i64 b.y.num, .int .i64 b.y.den, .int .i64 b.z.num, .int .i64 b.z.den] = decide (a = b) := by
  obtain ⟨⟨a1, a2⟩, ⟨a3, a4⟩, ⟨a5, a6⟩⟩ := a
  obtain ⟨⟨b1, b2⟩, ⟨b3, b4⟩, ⟨b5, b6⟩⟩ := b
  rw [Bool.eq_iff_iff]
  simp [eqAll, D.eq, and_assoc]

theorem dup_at (g : Globe) {l : List Site} {i j : Nat} (hi : i < l.length) (hj : j < l.length) : dupAt (placedL g l) i j = (decide ((sAt l i).name.data.toList = (sAt l j).name.data.toList) || decide (placeV g (sAt l i).s (sAt l i).t = placeV g (sAt l j).s (sAt l j).t)) := by
  unfold dupAt
  rw [eq_vec, placedL_at g hi, placedL_at g hj]
  simp only
  by_cases c : (sAt l i).name.data.toList = (sAt l j).name.data.toList
  · rw [show ((sAt l i).name.data.toList == (sAt l j).name.data.toList) = true by simpa using c, dec_t c]; rfl
  · rw [show ((sAt l i).name.data.toList == (sAt l j).name.data.toList) = false by simpa using c, dec_f c]; rfl

theorem run_pair2 (g : Globe) (l : List Site) (p : Int) (hl : l.length ≤ 8) (i : Nat) (hi : i < l.length) : ∀ (f n : Nat), n ≤ i → i - n < f → (run_Q4_Check_2 p (i : Int) l (placesL g l) f (n : Int)).k = bif (List.range' n (i - n)).any (fun k => dupAt (placedL g l) k i) then 0 else 1 := by
  intro f
  induction f with
  | zero => intro n _ h; omega
  | succ f ih =>
    intro n hn h
    rw [run_Q4_Check_2]
    by_cases h1 : n < i
    · simp only [nn_t, lt_t h1, lt_t hi, lt_t (show n < l.length by omega), lt_t (show i < (placesL g l).length by rw [placesL_len]; exact hi), lt_t (show n < (placesL g l).length by rw [placesL_len]; omega), Bool.and_self, cond_true, w64_up (show n < 9223372036854775807 by omega), Int.toNat_natCast]
      rw [eq_vec, placesL_at g hi, placesL_at g (show n < l.length by omega), show i - n = (i - (n + 1)) + 1 by omega, List.range'_succ, List.any_cons, dup_at g (show n < l.length by omega) hi]
      by_cases c : (sAt l n).name.data.toList = (sAt l i).name.data.toList
      · rw [show ((sAt l i).name.data.toList == (sAt l n).name.data.toList) = true by simpa using c.symm, dec_t c]; rfl
      · rw [show ((sAt l i).name.data.toList == (sAt l n).name.data.toList) = false from beq_eq_false_iff_ne.2 fun e => c e.symm, dec_f c]
        simp only [cond_false, Bool.false_or]
        by_cases d : placeV g (sAt l n).s (sAt l n).t = placeV g (sAt l i).s (sAt l i).t
        · rw [dec_t d, dec_t d.symm]; rfl
        · rw [dec_f d, dec_f (fun e => d e.symm)]
          simp only [cond_false, Bool.false_or]
          exact ih (n + 1) (by omega) (by omega)
    · simp only [lt_f h1, cond_false]
      rw [show i - n = 0 by omega]
      rfl

theorem run_pair1 (g : Globe) (l : List Site) (p : Int) (hl : l.length ≤ 8) : ∀ (f n : Nat), n ≤ l.length → l.length - n < f → (run_Q4_Check_1 p l (placesL g l) f (n : Int)).k = bif (List.range' n (l.length - n)).any (fun j => (List.range j).any fun k => dupAt (placedL g l) k j) then 0 else 1 := by
  intro f
  induction f with
  | zero => intro n _ h; omega
  | succ f ih =>
    intro n hn h
    rw [run_Q4_Check_1]
    by_cases h1 : n < l.length
    · have := run_pair2 g l p hl n h1 (2000 + (l.length + (placesL g l).length)) 0 (by omega) (by omega)
      rw [show ((0 : Nat) : Int) = 0 from rfl, Nat.sub_zero, ← List.range_eq_range'] at this
      unfold lp_Q4_Check_2
      simp only [lt_t h1, cond_true, this, w64_up (show n < 9223372036854775807 by omega)]
      rw [show l.length - n = (l.length - (n + 1)) + 1 by omega, List.range'_succ, List.any_cons]
      cases (List.range n).any (fun k => dupAt (placedL g l) k n) with
      | true => rfl
      | false =>
        simp only [cond_false, Bool.false_or, show Nat.beq 1 0 = false from rfl, show Nat.beq 1 1 = true from rfl, cond_true]
        exact ih (n + 1) (by omega) (by omega)
    · simp only [lt_f h1, cond_false]
      rw [show l.length - n = 0 by omega]
      rfl

theorem m_checkRA (g : Globe) (l : List Site) : m_Q4_Check g l = ⟨true, checkA g l⟩ := by
  unfold m_Q4_Check checkA
  cases h1 : (checkG g != 0) with
  | true => rfl
  | false =>
    simp only [cond_false]
    by_cases h2 : 8 < l.length
    · rw [dec_t (show (8 : Int) < (l.length : Int) by omega), show stationsE l = 4 by unfold stationsE; rw [dec_t h2]; rfl]
      rfl
    · rw [dec_f (show ¬ (8 : Int) < (l.length : Int) by omega)]
      unfold lp_Q4_Check_0 lp_Q4_Check_1
      have hs := run_checkS g l 0 (by omega) (2000 + l.length) 0 (by omega) (by omega)
      rw [show ((0 : Nat) : Int) = 0 from rfl, List.drop_zero] at hs
      simp only [cond_false, hs]
      cases h3 : l.all siteB with
      | false =>
        rw [show stationsE l = 8 by unfold stationsE; rw [dec_f h2, h3]; rfl]
        rfl
      | true =>
        have h4 : stationsE l = 0 := by unfold stationsE; rw [dec_f h2, h3]; rfl
        have hp := run_pair1 g l 0 (by omega) (2000 + (l.length + (placesL g l).length)) 0 (by omega) (by omega)
        rw [show ((0 : Nat) : Int) = 0 from rfl, Nat.sub_zero, ← List.range_eq_range'] at hp
        simp only [m_all g l h4, h4, cond_true, show Nat.beq 1 0 = false from rfl, show Nat.beq 1 1 = true from rfl, cond_false, bne_self_eq_false, hp]
        unfold dupL dupP
        rw [placedL_len]
        cases (List.range l.length).any (fun j => (List.range j).any fun i => dupAt (placedL g l) i j) <;> rfl

theorem m_placesR (g : Globe) (l : List Site) : m_Q4_Places g l = ⟨true, bif checkA g l == 0 then placesL g l else [], checkA g l⟩ := by
  unfold m_Q4_Places
  simp only [m_checkRA, cond_true]
  cases h1 : (checkA g l != 0) with
  | true => rw [show (checkA g l == 0) = false by simpa [bne] using h1]; rfl
  | false =>
    have h2 := eq0_of h1
    have h4 : stationsE l = 0 := by
      unfold checkA at h2
      cases h3 : (checkG g != 0) with
      | true => rw [h3, cond_true] at h2; rw [h2] at h3; cases h3
      | false =>
        rw [h3, cond_false] at h2
        cases h5 : (stationsE l != 0) with
        | true => rw [h5, cond_true] at h2; rw [h2] at h5; cases h5
        | false => exact eq0_of h5
    rw [m_all g l h4, h2]
    rfl

def lineA (g : Globe) (l : List Site) (i j : Int) : Vec × Int :=
  bif checkA g l != 0 then (vecZ, checkA g l) else
  bif decide (0 ≤ i) && (decide (i < (l.length : Int)) && (decide (0 ≤ j) && decide (j < (l.length : Int)))) then subV (placeV g (sAt l j.toNat).s (sAt l j.toNat).t) (placeV g (sAt l i.toNat).s (sAt l i.toNat).t) else (vecZ, 2)

theorem nat_of {i : Int} (h : 0 ≤ i) : ∃ n : Nat, i = n := ⟨i.toNat, by omega⟩

theorem m_line (g : Globe) (l : List Site) (i j : Int) : m_array_Line g l i j = ⟨true, (lineA g l i j).1, (lineA g l i j).2⟩ := by
  unfold m_array_Line lineA
  simp only [m_place, cond_true]
  cases h1 : (checkA g l != 0) with
  | true => rfl
  | false =>
    rw [eq0_of h1]
    simp only [beq_self_eq_true, cond_true, cond_false, placedL_len]
    by_cases c1 : 0 ≤ i
    · by_cases c2 : i < (l.length : Int)
      · by_cases c3 : 0 ≤ j
        · by_cases c4 : j < (l.length : Int)
          · obtain ⟨n, rfl⟩ := nat_of c1
            obtain ⟨m, rfl⟩ := nat_of c3
            simp only [dec_t c1, dec_t c2, dec_t c3, dec_t c4, dec_f (show ¬ (n : Int) < 0 by omega), dec_f (show ¬ (m : Int) < 0 by omega), dec_f (show ¬ (l.length : Int) ≤ (n : Int) by omega), dec_f (show ¬ (l.length : Int) ≤ (m : Int) by omega), Bool.and_self, cond_true, cond_false, Int.toNat_natCast, placedL_at g (show n < l.length by omega), placedL_at g (show m < l.length by omega)]
          · simp only [dec_t c1, dec_t c2, dec_t c3, dec_f c4, dec_f (show ¬ i < 0 by omega), dec_f (show ¬ j < 0 by omega), dec_f (show ¬ (l.length : Int) ≤ i by omega), dec_t (show (l.length : Int) ≤ j by omega), Bool.and_false, cond_true, cond_false]
            rfl
        · simp only [dec_t c1, dec_t c2, dec_f c3, dec_f (show ¬ i < 0 by omega), dec_t (show j < 0 by omega), dec_f (show ¬ (l.length : Int) ≤ i by omega), Bool.and_false, Bool.false_and, cond_true, cond_false]
          rfl
      · simp only [dec_t c1, dec_f c2, dec_f (show ¬ i < 0 by omega), dec_t (show (l.length : Int) ≤ i by omega), Bool.and_false, Bool.false_and, cond_true, cond_false]
        rfl
    · simp only [dec_f c1, dec_t (show i < 0 by omega), Bool.false_and, cond_true, cond_false]
      rfl

theorem m_lineR (g : Globe) (l : List Site) (i j : Int) : m_Q4_Line g l i j = ⟨true, (lineA g l i j).1, (lineA g l i j).2⟩ := by
  unfold m_Q4_Line lineA
  simp only [m_placesR, cond_true]
  cases h1 : (checkA g l != 0) with
  | true => rfl
  | false =>
    rw [eq0_of h1]
    simp only [beq_self_eq_true, cond_true, cond_false, placesL_len]
    by_cases c1 : 0 ≤ i
    · by_cases c3 : 0 ≤ j
      · by_cases c2 : i < (l.length : Int)
        · by_cases c4 : j < (l.length : Int)
          · obtain ⟨n, rfl⟩ := nat_of c1
            obtain ⟨m, rfl⟩ := nat_of c3
            simp only [dec_t c1, dec_t c2, dec_t c3, dec_t c4, dec_f (show ¬ (n : Int) < 0 by omega), dec_f (show ¬ (m : Int) < 0 by omega), dec_f (show ¬ (l.length : Int) ≤ (n : Int) by omega), dec_f (show ¬ (l.length : Int) ≤ (m : Int) by omega), Bool.and_self, cond_true, cond_false, Int.toNat_natCast, placesL_at g (show n < l.length by omega), placesL_at g (show m < l.length by omega)]
          · simp only [dec_t c1, dec_t c2, dec_t c3, dec_f c4, dec_f (show ¬ i < 0 by omega), dec_f (show ¬ j < 0 by omega), dec_f (show ¬ (l.length : Int) ≤ i by omega), dec_t (show (l.length : Int) ≤ j by omega), Bool.and_false, cond_true, cond_false]
            rfl
        · simp only [dec_t c1, dec_f c2, dec_f (show ¬ i < 0 by omega), dec_f (show ¬ j < 0 by omega), dec_t (show (l.length : Int) ≤ i by omega), Bool.and_false, Bool.false_and, cond_true, cond_false]
          rfl
      · simp only [dec_t c1, dec_f c3, dec_f (show ¬ i < 0 by omega), dec_t (show j < 0 by omega), Bool.and_false, Bool.false_and, cond_true, cond_false]
        rfl
    · simp only [dec_f c1, dec_t (show i < 0 by omega), Bool.false_and, cond_true, cond_false]
      rfl

def plineA (g : Globe) (l : List Site) (i j : Int) (s : Source) (t : Int) : Dir × Int :=
  bif (lineA g l i j).2 != 0 then (dirZ, (lineA g l i j).2) else projV (lineA g l i j).1 s t

theorem m_pline (g : Globe) (l : List Site) (i j : Int) (s : Source) (t : Int) : m_proj_Line g l i j s t = ⟨true, (plineA g l i j s t).1, (plineA g l i j s t).2⟩ := by
  unfold m_proj_Line plineA
  simp only [m_line, cond_true]
  cases (lineA g l i j).2 != 0 <;> rfl

theorem m_plineR (g : Globe) (l : List Site) (i j : Int) (s : Source) (t : Int) : m_Q8_Line g l i j s t = ⟨true, (plineA g l i j s t).1, (plineA g l i j s t).2⟩ := by
  unfold m_Q8_Line plineA
  simp only [m_lineR, cond_true]
  cases (lineA g l i j).2 != 0 <;> rfl

end Go.Ev

namespace Go.Ev
open Go Go.Proofs

structure O_Q8_Neg where
  ok : Bool
  r0 : Dir

def m_Q8_Neg (a0 : Dir) : O_Q8_Neg := ⟨true, ⟨negRaw ⟨a0.x.lo, a0.x.hi⟩, negRaw ⟨a0.y.lo, a0.y.hi⟩, negRaw ⟨a0.z.lo, a0.z.hi⟩⟩⟩

def F_Q8_Neg (a0 : Dir) (K : AV → List Blk → Ans) (r : O_Q8_Neg) : Ans := bif r.ok then K (.v (.agg [.int .i64 r.r0.x.lo, .int .i64 r.r0.x.hi, .int .i64 r.r0.y.lo, .int .i64 r.r0.y.hi, .int .i64 r.r0.z.lo, .int .i64 r.r0.z.hi])) [] else none

set_option maxRecDepth 100000 in
theorem e_Q8_Neg (a0 : Dir) (K : AV → List Blk → Ans) : evFn Tryz.prog GT EQT T_Q8_Line XT noL 80 11 [.v (.agg [.int .i64 a0.x.lo, .int .i64 a0.x.hi, .int .i64 a0.y.lo, .int .i64 a0.y.hi, .int .i64 a0.z.lo, .int .i64 a0.z.hi])] [] (fun v M => K (finR 0 v M).1 (finR 0 v M).2) = F_Q8_Neg a0 K (m_Q8_Neg a0) := by
  kernel_rfl

theorem c_Q8_Neg (a0 : Dir) (hd : (m_Q8_Neg a0).ok = true) : CallsA Tryz.prog GT gbT 11 [.v (.agg [.int .i64 a0.x.lo, .int .i64 a0.x.hi, .int .i64 a0.y.lo, .int .i64 a0.y.hi, .int .i64 a0.z.lo, .int .i64 a0.z.hi])] [] (.v (.agg [.int .i64 ((((m_Q8_Neg a0).r0).x).lo), .int .i64 ((((m_Q8_Neg a0).r0).x).hi), .int .i64 ((((m_Q8_Neg a0).r0).y).lo), .int .i64 ((((m_Q8_Neg a0).r0).y).hi), .int .i64 ((((m_Q8_Neg a0).r0).z).lo), .int .i64 ((((m_Q8_Neg a0).r0).z).hi)])) [] := by
  refine CallsA.ofEvR g_Q8_Line hEQT hmT (n0 := 0) rfl (fun _ _ _ _ => LOKn.nil) ((e_Q8_Neg a0 (fun v M => some (Res.fin v M))).trans ?_)
  unfold F_Q8_Neg
  rw [hd]
  rfl

def s_Q8_Neg : List AV → List Blk → (AV → List Blk → Ans) → Ans := fun xs bs K => match xs, bs with
  | [.v (.agg [.int .i64 a0_0, .int .i64 a0_1, .int .i64 a0_2, .int .i64 a0_3, .int .i64 a0_4, .int .i64 a0_5])], [] => F_Q8_Neg (⟨⟨a0_0, a0_1⟩, ⟨a0_2, a0_3⟩, ⟨a0_4, a0_5⟩⟩ : Dir) K (m_Q8_Neg (⟨⟨a0_0, a0_1⟩, ⟨a0_2, a0_3⟩, ⟨a0_4, a0_5⟩⟩ : Dir))
  | _, _ => none

def T_Q8_Neg : Nat → List AV → List Blk → (AV → List Blk → Ans) → Ans := upd T_Q8_Line 11 s_Q8_Neg

theorem g_Q8_Neg : GOK Tryz.prog GT gbT T_Q8_Neg XT := by
  refine GOK.upd g_Q8_Line (fun args w => Tryz.call11 args w) fun xs bs K r h => ?_
  unfold s_Q8_Neg at h
  split at h
  · unfold F_Q8_Neg at h
    simp only [cond_eq_ite] at h
    split at h
    · rename_i hd
      exact ⟨_, _, c_Q8_Neg _ hd, h⟩
    · cases h
  · cases h

structure O_W8_ProjCloses where
  ok : Bool
  r0 : Bool

def m_W8_ProjCloses (a0 : Globe) (a1 : List Site) (a2 : Int) (a3 : Int) (a4 : Int) (a5 : Source) (a6 : Int) : O_W8_ProjCloses := bif (m_W8_long a1 a5).ok then (bif (m_W8_long a1 a5).r0 then ⟨true, true⟩ else (bif (m_Q4_Check a0 a1).ok then (bif ((m_Q4_Check a0 a1).r0 != (0 : Int)) then ⟨true, true⟩ else (bif (!(fit8B a5 a6)) then ⟨true, true⟩ else (bif decide (a2 < (0 : Int)) then ⟨true, true⟩ else (bif decide (a3 < (0 : Int)) then ⟨true, true⟩ else (bif decide (a4 < (0 : Int)) then ⟨true, true⟩ else (bif decide ((a1.length : Int) ≤ a2) then ⟨true, true⟩ else (bif decide ((a1.length : Int) ≤ a3) then ⟨true, true⟩ else (bif decide ((a1.length : Int) ≤ a4) then ⟨true, true⟩ else (bif (m_proj_Line a0 a1 a2 a3 a5 a6).ok then (bif (m_proj_Line a0 a1 a3 a4 a5 a6).ok then (bif (m_proj_Line a0 a1 a2 a4 a5 a6).ok then (bif (m_proj_Line a0 a1 a3 a2 a5 a6).ok then (bif ((m_proj_Line a0 a1 a2 a3 a5 a6).r1 != (0 : Int)) then (bif ((m_proj_Line a0 a1 a2 a3 a5 a6).r1 == (0 : Int)) then (bif ((m_proj_Line a0 a1 a3 a4 a5 a6).r1 == (0 : Int)) then (bif ((m_proj_Line a0 a1 a2 a4 a5 a6).r1 == (0 : Int)) then (bif ((m_proj_Line a0 a1 a2 a3 a5 a6).r1 == (m_proj_Line a0 a1 a3 a2 a5 a6).r1) then ⟨true, true⟩ else ⟨true, false⟩) else (bif ((m_proj_Line a0 a1 a2 a4 a5 a6).r1 == (16 : Int)) then (bif ((m_proj_Line a0 a1 a2 a3 a5 a6).r1 == (m_proj_Line a0 a1 a3 a2 a5 a6).r1) then ⟨true, true⟩ else ⟨true, false⟩) else ⟨true, false⟩)) else (bif ((m_proj_Line a0 a1 a3 a4 a5 a6).r1 == (16 : Int)) then (bif ((m_proj_Line a0 a1 a2 a4 a5 a6).r1 == (0 : Int)) then (bif ((m_proj_Line a0 a1 a2 a3 a5 a6).r1 == (m_proj_Line a0 a1 a3 a2 a5 a6).r1) then ⟨true, true⟩ else ⟨true, false⟩) else (bif ((m_proj_Line a0 a1 a2 a4 a5 a6).r1 == (16 : Int)) then (bif ((m_proj_Line a0 a1 a2 a3 a5 a6).r1 == (m_proj_Line a0 a1 a3 a2 a5 a6).r1) then ⟨true, true⟩ else ⟨true, false⟩) else ⟨true, false⟩)) else ⟨true, false⟩)) else (bif ((m_proj_Line a0 a1 a2 a3 a5 a6).r1 == (16 : Int)) then (bif ((m_proj_Line a0 a1 a3 a4 a5 a6).r1 == (0 : Int)) then (bif ((m_proj_Line a0 a1 a2 a4 a5 a6).r1 == (0 : Int)) then (bif ((m_proj_Line a0 a1 a2 a3 a5 a6).r1 == (m_proj_Line a0 a1 a3 a2 a5 a6).r1) then ⟨true, true⟩ else ⟨true, false⟩) else (bif ((m_proj_Line a0 a1 a2 a4 a5 a6).r1 == (16 : Int)) then (bif ((m_proj_Line a0 a1 a2 a3 a5 a6).r1 == (m_proj_Line a0 a1 a3 a2 a5 a6).r1) then ⟨true, true⟩ else ⟨true, false⟩) else ⟨true, false⟩)) else (bif ((m_proj_Line a0 a1 a3 a4 a5 a6).r1 == (16 : Int)) then (bif ((m_proj_Line a0 a1 a2 a4 a5 a6).r1 == (0 : Int)) then (bif ((m_proj_Line a0 a1 a2 a3 a5 a6).r1 == (m_proj_Line a0 a1 a3 a2 a5 a6).r1) then ⟨true, true⟩ else ⟨true, false⟩) else (bif ((m_proj_Line a0 a1 a2 a4 a5 a6).r1 == (16 : Int)) then (bif ((m_proj_Line a0 a1 a2 a3 a5 a6).r1 == (m_proj_Line a0 a1 a3 a2 a5 a6).r1) then ⟨true, true⟩ else ⟨true, false⟩) else ⟨true, false⟩)) else ⟨true, false⟩)) else ⟨true, false⟩)) else (bif ((m_proj_Line a0 a1 a3 a4 a5 a6).r1 != (0 : Int)) then (bif ((m_proj_Line a0 a1 a2 a3 a5 a6).r1 == (0 : Int)) then (bif ((m_proj_Line a0 a1 a3 a4 a5 a6).r1 == (0 : Int)) then (bif ((m_proj_Line a0 a1 a2 a4 a5 a6).r1 == (0 : Int)) then (bif ((m_proj_Line a0 a1 a2 a3 a5 a6).r1 == (m_proj_Line a0 a1 a3 a2 a5 a6).r1) then ⟨true, true⟩ else ⟨true, false⟩) else (bif ((m_proj_Line a0 a1 a2 a4 a5 a6).r1 == (16 : Int)) then (bif ((m_proj_Line a0 a1 a2 a3 a5 a6).r1 == (m_proj_Line a0 a1 a3 a2 a5 a6).r1) then ⟨true, true⟩ else ⟨true, false⟩) else ⟨true, false⟩)) else (bif ((m_proj_Line a0 a1 a3 a4 a5 a6).r1 == (16 : Int)) then (bif ((m_proj_Line a0 a1 a2 a4 a5 a6).r1 == (0 : Int)) then (bif ((m_proj_Line a0 a1 a2 a3 a5 a6).r1 == (m_proj_Line a0 a1 a3 a2 a5 a6).r1) then ⟨true, true⟩ else ⟨true, false⟩) else (bif ((m_proj_Line a0 a1 a2 a4 a5 a6).r1 == (16 : Int)) then (bif ((m_proj_Line a0 a1 a2 a3 a5 a6).r1 == (m_proj_Line a0 a1 a3 a2 a5 a6).r1) then ⟨true, true⟩ else ⟨true, false⟩) else ⟨true, false⟩)) else ⟨true, false⟩)) else (bif ((m_proj_Line a0 a1 a2 a3 a5 a6).r1 == (16 : Int)) then (bif ((m_proj_Line a0 a1 a3 a4 a5 a6).r1 == (0 : Int)) then (bif ((m_proj_Line a0 a1 a2 a4 a5 a6).r1 == (0 : Int)) then (bif ((m_proj_Line a0 a1 a2 a3 a5 a6).r1 == (m_proj_Line a0 a1 a3 a2 a5 a6).r1) then ⟨true, true⟩ else ⟨true, false⟩) else (bif ((m_proj_Line a0 a1 a2 a4 a5 a6).r1 == (16 : Int)) then (bif ((m_proj_Line a0 a1 a2 a3 a5 a6).r1 == (m_proj_Line a0 a1 a3 a2 a5 a6).r1) then ⟨true, true⟩ else ⟨true, false⟩) else ⟨true, false⟩)) else (bif ((m_proj_Line a0 a1 a3 a4 a5 a6).r1 == (16 : Int)) then (bif ((m_proj_Line a0 a1 a2 a4 a5 a6).r1 == (0 : Int)) then (bif ((m_proj_Line a0 a1 a2 a3 a5 a6).r1 == (m_proj_Line a0 a1 a3 a2 a5 a6).r1) then ⟨true, true⟩ else ⟨true, false⟩) else (bif ((m_proj_Line a0 a1 a2 a4 a5 a6).r1 == (16 : Int)) then (bif ((m_proj_Line a0 a1 a2 a3 a5 a6).r1 == (m_proj_Line a0 a1 a3 a2 a5 a6).r1) then ⟨true, true⟩ else ⟨true, false⟩) else ⟨true, false⟩)) else ⟨true, false⟩)) else ⟨true, false⟩)) else (bif ((m_proj_Line a0 a1 a2 a4 a5 a6).r1 != (0 : Int)) then (bif ((m_proj_Line a0 a1 a2 a3 a5 a6).r1 == (0 : Int)) then (bif ((m_proj_Line a0 a1 a3 a4 a5 a6).r1 == (0 : Int)) then (bif ((m_proj_Line a0 a1 a2 a4 a5 a6).r1 == (0 : Int)) then (bif ((m_proj_Line a0 a1 a2 a3 a5 a6).r1 == (m_proj_Line a0 a1 a3 a2 a5 a6).r1) then ⟨true, true⟩ else ⟨true, false⟩) else (bif ((m_proj_Line a0 a1 a2 a4 a5 a6).r1 == (16 : Int)) then (bif ((m_proj_Line a0 a1 a2 a3 a5 a6).r1 == (m_proj_Line a0 a1 a3 a2 a5 a6).r1) then ⟨true, true⟩ else ⟨true, false⟩) else ⟨true, false⟩)) else (bif ((m_proj_Line a0 a1 a3 a4 a5 a6).r1 == (16 : Int)) then (bif ((m_proj_Line a0 a1 a2 a4 a5 a6).r1 == (0 : Int)) then (bif ((m_proj_Line a0 a1 a2 a3 a5 a6).r1 == (m_proj_Line a0 a1 a3 a2 a5 a6).r1) then ⟨true, true⟩ else ⟨true, false⟩) else (bif ((m_proj_Line a0 a1 a2 a4 a5 a6).r1 == (16 : Int)) then (bif ((m_proj_Line a0 a1 a2 a3 a5 a6).r1 == (m_proj_Line a0 a1 a3 a2 a5 a6).r1) then ⟨true, true⟩ else ⟨true, false⟩) else ⟨true, false⟩)) else ⟨true, false⟩)) else (bif ((m_proj_Line a0 a1 a2 a3 a5 a6).r1 == (16 : Int)) then (bif ((m_proj_Line a0 a1 a3 a4 a5 a6).r1 == (0 : Int)) then (bif ((m_proj_Line a0 a1 a2 a4 a5 a6).r1 == (0 : Int)) then (bif ((m_proj_Line a0 a1 a2 a3 a5 a6).r1 == (m_proj_Line a0 a1 a3 a2 a5 a6).r1) then ⟨true, true⟩ else ⟨true, false⟩) else (bif ((m_proj_Line a0 a1 a2 a4 a5 a6).r1 == (16 : Int)) then (bif ((m_proj_Line a0 a1 a2 a3 a5 a6).r1 == (m_proj_Line a0 a1 a3 a2 a5 a6).r1) then ⟨true, true⟩ else ⟨true, false⟩) else ⟨true, false⟩)) else (bif ((m_proj_Line a0 a1 a3 a4 a5 a6).r1 == (16 : Int)) then (bif ((m_proj_Line a0 a1 a2 a4 a5 a6).r1 == (0 : Int)) then (bif ((m_proj_Line a0 a1 a2 a3 a5 a6).r1 == (m_proj_Line a0 a1 a3 a2 a5 a6).r1) then ⟨true, true⟩ else ⟨true, false⟩) else (bif ((m_proj_Line a0 a1 a2 a4 a5 a6).r1 == (16 : Int)) then (bif ((m_proj_Line a0 a1 a2 a3 a5 a6).r1 == (m_proj_Line a0 a1 a3 a2 a5 a6).r1) then ⟨true, true⟩ else ⟨true, false⟩) else ⟨true, false⟩)) else ⟨true, false⟩)) else ⟨true, false⟩)) else (bif ((m_proj_Line a0 a1 a3 a2 a5 a6).r1 != (0 : Int)) then (bif ((m_proj_Line a0 a1 a2 a3 a5 a6).r1 == (0 : Int)) then (bif ((m_proj_Line a0 a1 a3 a4 a5 a6).r1 == (0 : Int)) then (bif ((m_proj_Line a0 a1 a2 a4 a5 a6).r1 == (0 : Int)) then (bif ((m_proj_Line a0 a1 a2 a3 a5 a6).r1 == (m_proj_Line a0 a1 a3 a2 a5 a6).r1) then ⟨true, true⟩ else ⟨true, false⟩) else (bif ((m_proj_Line a0 a1 a2 a4 a5 a6).r1 == (16 : Int)) then (bif ((m_proj_Line a0 a1 a2 a3 a5 a6).r1 == (m_proj_Line a0 a1 a3 a2 a5 a6).r1) then ⟨true, true⟩ else ⟨true, false⟩) else ⟨true, false⟩)) else (bif ((m_proj_Line a0 a1 a3 a4 a5 a6).r1 == (16 : Int)) then (bif ((m_proj_Line a0 a1 a2 a4 a5 a6).r1 == (0 : Int)) then (bif ((m_proj_Line a0 a1 a2 a3 a5 a6).r1 == (m_proj_Line a0 a1 a3 a2 a5 a6).r1) then ⟨true, true⟩ else ⟨true, false⟩) else (bif ((m_proj_Line a0 a1 a2 a4 a5 a6).r1 == (16 : Int)) then (bif ((m_proj_Line a0 a1 a2 a3 a5 a6).r1 == (m_proj_Line a0 a1 a3 a2 a5 a6).r1) then ⟨true, true⟩ else ⟨true, false⟩) else ⟨true, false⟩)) else ⟨true, false⟩)) else (bif ((m_proj_Line a0 a1 a2 a3 a5 a6).r1 == (16 : Int)) then (bif ((m_proj_Line a0 a1 a3 a4 a5 a6).r1 == (0 : Int)) then (bif ((m_proj_Line a0 a1 a2 a4 a5 a6).r1 == (0 : Int)) then (bif ((m_proj_Line a0 a1 a2 a3 a5 a6).r1 == (m_proj_Line a0 a1 a3 a2 a5 a6).r1) then ⟨true, true⟩ else ⟨true, false⟩) else (bif ((m_proj_Line a0 a1 a2 a4 a5 a6).r1 == (16 : Int)) then (bif ((m_proj_Line a0 a1 a2 a3 a5 a6).r1 == (m_proj_Line a0 a1 a3 a2 a5 a6).r1) then ⟨true, true⟩ else ⟨true, false⟩) else ⟨true, false⟩)) else (bif ((m_proj_Line a0 a1 a3 a4 a5 a6).r1 == (16 : Int)) then (bif ((m_proj_Line a0 a1 a2 a4 a5 a6).r1 == (0 : Int)) then (bif ((m_proj_Line a0 a1 a2 a3 a5 a6).r1 == (m_proj_Line a0 a1 a3 a2 a5 a6).r1) then ⟨true, true⟩ else ⟨true, false⟩) else (bif ((m_proj_Line a0 a1 a2 a4 a5 a6).r1 == (16 : Int)) then (bif ((m_proj_Line a0 a1 a2 a3 a5 a6).r1 == (m_proj_Line a0 a1 a3 a2 a5 a6).r1) then ⟨true, true⟩ else ⟨true, false⟩) else ⟨true, false⟩)) else ⟨true, false⟩)) else ⟨true, false⟩)) else (bif (m_Q8_Neg ((m_proj_Line a0 a1 a2 a3 a5 a6).r0)).ok then (bif (!(eqAll [.int .i64 ((((m_proj_Line a0 a1 a3 a2 a5 a6).r0).x).lo), .int .i64 ((((m_proj_Line a0 a1 a3 a2 a5 a6).r0).x).hi), .int .i64 ((((m_proj_Line a0 a1 a3 a2 a5 a6).r0).y).lo), .int .i64 ((((m_proj_Line a0 a1 a3 a2 a5 a6).r0).y).hi), .int .i64 ((((m_proj_Line a0 a1 a3 a2 a5 a6).r0).z).lo), .int .i64 ((((m_proj_Line a0 a1 a3 a2 a5 a6).r0).z).hi)] [.int .i64 ((((m_Q8_Neg ((m_proj_Line a0 a1 a2 a3 a5 a6).r0)).r0).x).lo), .int .i64 ((((m_Q8_Neg ((m_proj_Line a0 a1 a2 a3 a5 a6).r0)).r0).x).hi), .int .i64 ((((m_Q8_Neg ((m_proj_Line a0 a1 a2 a3 a5 a6).r0)).r0).y).lo), .int .i64 ((((m_Q8_Neg ((m_proj_Line a0 a1 a2 a3 a5 a6).r0)).r0).y).hi), .int .i64 ((((m_Q8_Neg ((m_proj_Line a0 a1 a2 a3 a5 a6).r0)).r0).z).lo), .int .i64 ((((m_Q8_Neg ((m_proj_Line a0 a1 a2 a3 a5 a6).r0)).r0).z).hi)])) then ⟨true, false⟩ else (bif ((addS ⟨((((m_proj_Line a0 a1 a2 a3 a5 a6).r0).x).lo), ((((m_proj_Line a0 a1 a2 a3 a5 a6).r0).x).hi)⟩ ⟨((((m_proj_Line a0 a1 a3 a4 a5 a6).r0).x).lo), ((((m_proj_Line a0 a1 a3 a4 a5 a6).r0).x).hi)⟩).2 != (0 : Int)) then (bif ((addS ⟨((((m_proj_Line a0 a1 a2 a3 a5 a6).r0).y).lo), ((((m_proj_Line a0 a1 a2 a3 a5 a6).r0).y).hi)⟩ ⟨((((m_proj_Line a0 a1 a3 a4 a5 a6).r0).y).lo), ((((m_proj_Line a0 a1 a3 a4 a5 a6).r0).y).hi)⟩).2 != (0 : Int)) then (bif ((addS ⟨((((m_proj_Line a0 a1 a2 a3 a5 a6).r0).z).lo), ((((m_proj_Line a0 a1 a2 a3 a5 a6).r0).z).hi)⟩ ⟨((((m_proj_Line a0 a1 a3 a4 a5 a6).r0).z).lo), ((((m_proj_Line a0 a1 a3 a4 a5 a6).r0).z).hi)⟩).2 != (0 : Int)) then ⟨true, true⟩ else (bif (commonB ((addS ⟨((((m_proj_Line a0 a1 a2 a3 a5 a6).r0).z).lo), ((((m_proj_Line a0 a1 a2 a3 a5 a6).r0).z).hi)⟩ ⟨((((m_proj_Line a0 a1 a3 a4 a5 a6).r0).z).lo), ((((m_proj_Line a0 a1 a3 a4 a5 a6).r0).z).hi)⟩).1) (((m_proj_Line a0 a1 a2 a4 a5 a6).r0).z)) then ⟨true, true⟩ else ⟨true, false⟩)) else (bif (commonB ((addS ⟨((((m_proj_Line a0 a1 a2 a3 a5 a6).r0).y).lo), ((((m_proj_Line a0 a1 a2 a3 a5 a6).r0).y).hi)⟩ ⟨((((m_proj_Line a0 a1 a3 a4 a5 a6).r0).y).lo), ((((m_proj_Line a0 a1 a3 a4 a5 a6).r0).y).hi)⟩).1) (((m_proj_Line a0 a1 a2 a4 a5 a6).r0).y)) then (bif ((addS ⟨((((m_proj_Line a0 a1 a2 a3 a5 a6).r0).z).lo), ((((m_proj_Line a0 a1 a2 a3 a5 a6).r0).z).hi)⟩ ⟨((((m_proj_Line a0 a1 a3 a4 a5 a6).r0).z).lo), ((((m_proj_Line a0 a1 a3 a4 a5 a6).r0).z).hi)⟩).2 != (0 : Int)) then ⟨true, true⟩ else (bif (commonB ((addS ⟨((((m_proj_Line a0 a1 a2 a3 a5 a6).r0).z).lo), ((((m_proj_Line a0 a1 a2 a3 a5 a6).r0).z).hi)⟩ ⟨((((m_proj_Line a0 a1 a3 a4 a5 a6).r0).z).lo), ((((m_proj_Line a0 a1 a3 a4 a5 a6).r0).z).hi)⟩).1) (((m_proj_Line a0 a1 a2 a4 a5 a6).r0).z)) then ⟨true, true⟩ else ⟨true, false⟩)) else ⟨true, false⟩)) else (bif (commonB ((addS ⟨((((m_proj_Line a0 a1 a2 a3 a5 a6).r0).x).lo), ((((m_proj_Line a0 a1 a2 a3 a5 a6).r0).x).hi)⟩ ⟨((((m_proj_Line a0 a1 a3 a4 a5 a6).r0).x).lo), ((((m_proj_Line a0 a1 a3 a4 a5 a6).r0).x).hi)⟩).1) (((m_proj_Line a0 a1 a2 a4 a5 a6).r0).x)) then (bif ((addS ⟨((((m_proj_Line a0 a1 a2 a3 a5 a6).r0).y).lo), ((((m_proj_Line a0 a1 a2 a3 a5 a6).r0).y).hi)⟩ ⟨((((m_proj_Line a0 a1 a3 a4 a5 a6).r0).y).lo), ((((m_proj_Line a0 a1 a3 a4 a5 a6).r0).y).hi)⟩).2 != (0 : Int)) then (bif ((addS ⟨((((m_proj_Line a0 a1 a2 a3 a5 a6).r0).z).lo), ((((m_proj_Line a0 a1 a2 a3 a5 a6).r0).z).hi)⟩ ⟨((((m_proj_Line a0 a1 a3 a4 a5 a6).r0).z).lo), ((((m_proj_Line a0 a1 a3 a4 a5 a6).r0).z).hi)⟩).2 != (0 : Int)) then ⟨true, true⟩ else (bif (commonB ((addS ⟨((((m_proj_Line a0 a1 a2 a3 a5 a6).r0).z).lo), ((((m_proj_Line a0 a1 a2 a3 a5 a6).r0).z).hi)⟩ ⟨((((m_proj_Line a0 a1 a3 a4 a5 a6).r0).z).lo), ((((m_proj_Line a0 a1 a3 a4 a5 a6).r0).z).hi)⟩).1) (((m_proj_Line a0 a1 a2 a4 a5 a6).r0).z)) then ⟨true, true⟩ else ⟨true, false⟩)) else (bif (commonB ((addS ⟨((((m_proj_Line a0 a1 a2 a3 a5 a6).r0).y).lo), ((((m_proj_Line a0 a1 a2 a3 a5 a6).r0).y).hi)⟩ ⟨((((m_proj_Line a0 a1 a3 a4 a5 a6).r0).y).lo), ((((m_proj_Line a0 a1 a3 a4 a5 a6).r0).y).hi)⟩).1) (((m_proj_Line a0 a1 a2 a4 a5 a6).r0).y)) then (bif ((addS ⟨((((m_proj_Line a0 a1 a2 a3 a5 a6).r0).z).lo), ((((m_proj_Line a0 a1 a2 a3 a5 a6).r0).z).hi)⟩ ⟨((((m_proj_Line a0 a1 a3 a4 a5 a6).r0).z).lo), ((((m_proj_Line a0 a1 a3 a4 a5 a6).r0).z).hi)⟩).2 != (0 : Int)) then ⟨true, true⟩ else (bif (commonB ((addS ⟨((((m_proj_Line a0 a1 a2 a3 a5 a6).r0).z).lo), ((((m_proj_Line a0 a1 a2 a3 a5 a6).r0).z).hi)⟩ ⟨((((m_proj_Line a0 a1 a3 a4 a5 a6).r0).z).lo), ((((m_proj_Line a0 a1 a3 a4 a5 a6).r0).z).hi)⟩).1) (((m_proj_Line a0 a1 a2 a4 a5 a6).r0).z)) then ⟨true, true⟩ else ⟨true, false⟩)) else ⟨true, false⟩)) else ⟨true, false⟩))) else ⟨false, false⟩))))) else ⟨false, false⟩) else ⟨false, false⟩) else ⟨false, false⟩) else ⟨false, false⟩))))))))) else ⟨false, false⟩)) else ⟨false, false⟩

def F_W8_ProjCloses (a0 : Globe) (a1 : List Site) (a2 : Int) (a3 : Int) (a4 : Int) (a5 : Source) (a6 : Int) (K : AV → List Blk → Ans) (r : O_W8_ProjCloses) : Ans := bif r.ok then K (.v (.c (.d (.bool r.r0)))) [.arr none .site a1] else none

set_option maxRecDepth 100000 in
theorem e_W8_ProjCloses (a0 : Globe) (a1 : List Site) (a2 : Int) (a3 : Int) (a4 : Int) (a5 : Source) (a6 : Int) (K : AV → List Blk → Ans) : evFn Tryz.prog GT EQT T_Q8_Neg XT noL 150 3 [.v (.agg [.int .i64 a0.a, .int .i64 a0.b]), .v (.c (.aslice 0 none)), .v (.c (.d (.int .i64 a2))), .v (.c (.d (.int .i64 a3))), .v (.c (.d (.int .i64 a4))), .v (.agg [.str a5.name, .int .i64 a5.ra, .int .i64 a5.dec]), .v (.c (.d (.int .i64 a6)))] [.arr none .site a1] (fun v M => K (finR 1 v M).1 (finR 1 v M).2) = F_W8_ProjCloses a0 a1 a2 a3 a4 a5 a6 K (m_W8_ProjCloses a0 a1 a2 a3 a4 a5 a6) := by
  unfold m_W8_ProjCloses
  refine Eq.trans ?_ (Eq.symm (pushT (pushT rfl (pushT (pushT rfl (pushT rfl (pushT rfl (pushT rfl (pushT rfl (pushT rfl (pushT rfl (pushT rfl (pushT (pushT (pushT (pushT (pushT (pushT (pushT (pushT (pushT rfl rfl) (pushT (pushT rfl rfl) rfl)) (pushT (pushT (pushT rfl rfl) (pushT (pushT rfl rfl) rfl)) rfl)) (pushT (pushT (pushT (pushT rfl rfl) (pushT (pushT rfl rfl) rfl)) (pushT (pushT (pushT rfl rfl) (pushT (pushT rfl rfl) rfl)) rfl)) rfl)) (pushT (pushT (pushT (pushT (pushT rfl rfl) (pushT (pushT rfl rfl) rfl)) (pushT (pushT (pushT rfl rfl) (pushT (pushT rfl rfl) rfl)) rfl)) (pushT (pushT (pushT (pushT rfl rfl) (pushT (pushT rfl rfl) rfl)) (pushT (pushT (pushT rfl rfl) (pushT (pushT rfl rfl) rfl)) rfl)) rfl)) (pushT (pushT (pushT (pushT (pushT rfl rfl) (pushT (pushT rfl rfl) rfl)) (pushT (pushT (pushT rfl rfl) (pushT (pushT rfl rfl) rfl)) rfl)) (pushT (pushT (pushT (pushT rfl rfl) (pushT (pushT rfl rfl) rfl)) (pushT (pushT (pushT rfl rfl) (pushT (pushT rfl rfl) rfl)) rfl)) rfl)) (pushT (pushT (pushT (pushT (pushT rfl rfl) (pushT (pushT rfl rfl) rfl)) (pushT (pushT (pushT rfl rfl) (pushT (pushT rfl rfl) rfl)) rfl)) (pushT (pushT (pushT (pushT rfl rfl) (pushT (pushT rfl rfl) rfl)) (pushT (pushT (pushT rfl rfl) (pushT (pushT rfl rfl) rfl)) rfl)) rfl)) (pushT (pushT rfl (pushT (pushT (pushT rfl (pushT rfl rfl)) (pushT (pushT rfl (pushT rfl rfl)) rfl)) (pushT (pushT (pushT rfl (pushT rfl rfl)) (pushT (pushT rfl (pushT rfl rfl)) rfl)) rfl))) rfl))))) rfl) rfl) rfl) rfl))))))))) rfl)) rfl))
  kernel_rfl

theorem c_W8_ProjCloses (a0 : Globe) (a1 : List Site) (a2 : Int) (a3 : Int) (a4 : Int) (a5 : Source) (a6 : Int) (hd : (m_W8_ProjCloses a0 a1 a2 a3 a4 a5 a6).ok = true) : CallsA Tryz.prog GT gbT 3 [.v (.agg [.int .i64 a0.a, .int .i64 a0.b]), .v (.c (.aslice 0 none)), .v (.c (.d (.int .i64 a2))), .v (.c (.d (.int .i64 a3))), .v (.c (.d (.int .i64 a4))), .v (.agg [.str a5.name, .int .i64 a5.ra, .int .i64 a5.dec]), .v (.c (.d (.int .i64 a6)))] [.arr none .site a1] (.v (.c (.d (.bool ((m_W8_ProjCloses a0 a1 a2 a3 a4 a5 a6).r0))))) [.arr none .site a1] := by
  refine CallsA.ofEvR g_Q8_Neg hEQT hmT (n0 := 1) rfl (fun _ _ _ _ => LOKn.nil) ((e_W8_ProjCloses a0 a1 a2 a3 a4 a5 a6 (fun v M => some (Res.fin v M))).trans ?_)
  unfold F_W8_ProjCloses
  rw [hd]
  rfl

def s_W8_ProjCloses : List AV → List Blk → (AV → List Blk → Ans) → Ans := fun xs bs K => match xs, bs with
  | [.v (.agg [.int .i64 a0_0, .int .i64 a0_1]), .v (.c (.aslice 0 none)), .v (.c (.d (.int .i64 a2))), .v (.c (.d (.int .i64 a3))), .v (.c (.d (.int .i64 a4))), .v (.agg [.str a5_0, .int .i64 a5_1, .int .i64 a5_2]), .v (.c (.d (.int .i64 a6)))], [.arr none .site a1] => F_W8_ProjCloses (⟨a0_0, a0_1⟩ : Globe) a1 a2 a3 a4 (⟨a5_0, a5_1, a5_2⟩ : Source) a6 K (m_W8_ProjCloses (⟨a0_0, a0_1⟩ : Globe) a1 a2 a3 a4 (⟨a5_0, a5_1, a5_2⟩ : Source) a6)
  | _, _ => none

def T_W8_ProjCloses : Nat → List AV → List Blk → (AV → List Blk → Ans) → Ans := upd T_Q8_Neg 3 s_W8_ProjCloses

theorem g_W8_ProjCloses : GOK Tryz.prog GT gbT T_W8_ProjCloses XT := by
  refine GOK.upd g_Q8_Neg (fun args w => Tryz.call3 args w) fun xs bs K r h => ?_
  unfold s_W8_ProjCloses at h
  split at h
  · unfold F_W8_ProjCloses at h
    simp only [cond_eq_ite] at h
    split at h
    · rename_i hd
      exact ⟨_, _, c_W8_ProjCloses _ _ _ _ _ _ _ hd, h⟩
    · cases h
  · cases h

end Go.Ev

namespace Go.Ev
open Go

/-! ### Opposites -/

def negP (r : Span × Int) : Span × Int := (negS r.1, r.2)

theorem ranged_neg (a : Span) : rangedS (negS a) = negP (rangedS a) := by
  unfold rangedS
  rw [spanValid_negS]
  cases spanValid a <;> rfl
theorem add_neg (a b : Span) : addS (negS a) (negS b) = negP (addS a b) := by
  unfold addS
  rw [spanValid_negS, spanValid_negS]
  cases spanValid a && spanValid b with
  | false => rfl
  | true =>
    simp only [cond_true]
    rw [← ranged_neg]
    simp only [negS, Int.neg_add]
theorem of_neg {f : Frac} (hf : FracOk f) : ofS (negR f) = negP (ofS f) := by
  unfold ofS
  rw [fracOkB_iff.2 hf, fracOkB_iff.2 (negR_ok hf)]
  simp only [cond_true]
  rw [← ranged_neg]
  unfold aroundS negR
  simp only [negN hf, negS, Int.neg_mul, Int.neg_neg]

theorem prods_neg : ∀ (l : List (Span × Span)) (s : Span), prodsS (negS s) (l.map fun p => (p.1, negS p.2)) = negP (prodsS s l)
  | [], _ => rfl
  | (a, b) :: r, s => by
    have ih := prods_neg r (addS s (mulS a b).1).1
    rw [List.map_cons, prodsS, prodsS]
    simp only [mulS_negS, add_neg, negP]
    cases (mulS a b).2 == 0 with
    | false => rfl
    | true =>
      cases (addS s (mulS a b).1).2 == 0 with
      | false => rfl
      | true => exact ih

def negVec (v : Vec) : Vec := ⟨negR v.x, negR v.y, negR v.z⟩
theorem negVec_ok {v : Vec} (h : VecOk v) : VecOk (negVec v) := ⟨negR_ok h.x, negR_ok h.y, negR_ok h.z⟩

theorem along_neg {d : Dir} {v : Vec} (hv : VecOk v) : alongS d (negVec v) = negP (alongS d v) := by
  unfold alongS
  cases [d.x, d.y, d.z].all spanValid with
  | false => rfl
  | true =>
    rw [vecOkB_iff.2 hv, vecOkB_iff.2 (negVec_ok hv)]
    simp only [cond_true, negVec, of_neg hv.x, of_neg hv.y, of_neg hv.z]
    cases h1 : (ofS v.x).2 != 0 with
    | true => simp only [negP, h1, cond_true]; rfl
    | false =>
      cases h2 : (ofS v.y).2 != 0 with
      | true => simp only [negP, h1, h2, cond_true, cond_false]; rfl
      | false =>
        cases h3 : (ofS v.z).2 != 0 with
        | true => simp only [negP, h1, h2, h3, cond_true, cond_false]; rfl
        | false =>
          simp only [negP, h1, h2, h3, cond_false]
          exact prods_neg [(d.x, (ofS v.x).1), (d.y, (ofS v.y).1), (d.z, (ofS v.z).1)] spanZ

def negDir (d : Dir) : Dir := ⟨negS d.x, negS d.y, negS d.z⟩

theorem each_neg (x y z : Span × Int) : eachD (negP x) (negP y) (negP z) = (negDir (eachD x y z).1, (eachD x y z).2) := by
  unfold eachD negP
  simp only
  cases x.2 != 0 <;> cases y.2 != 0 <;> cases z.2 != 0 <;> rfl

theorem proj_neg {v : Vec} (hv : VecOk v) (f : FrameD) : projF (negVec v) f = (negDir (projF v f).1, (projF v f).2) := by
  unfold projF
  rw [along_neg hv, along_neg hv, along_neg hv, each_neg]

/-! ### Baselines -/

abbrev pAt (g : Globe) (l : List Site) (n : Nat) : Vec := placeV g (sAt l n).s (sAt l n).t

theorem check_parts {g : Globe} {l : List Site} (h : checkA g l = 0) : checkG g = 0 ∧ stationsE l = 0 := by
  unfold checkA at h
  cases h3 : (checkG g != 0) with
  | true => rw [h3, cond_true] at h; rw [h] at h3; cases h3
  | false =>
    rw [h3, cond_false] at h
    cases h5 : (stationsE l != 0) with
    | true => rw [h5, cond_true] at h; rw [h] at h5; cases h5
    | false => exact ⟨eq0_of h3, eq0_of h5⟩

theorem pAt_q {g : Globe} {l : List Site} (h : checkA g l = 0) {n : Nat} (hn : n < l.length) : PlaceQ g (sAt l n).s (sAt l n).t (pAt g l n) := by
  obtain ⟨h1, h2⟩ := check_parts h
  exact (given_place h1 (site_placed ((stations_ok h2).2 _ (sAt_mem hn)))).2

theorem line_q {g : Globe} {l : List Site} (h : checkA g l = 0) {n m : Nat} (hn : n < l.length) (hm : m < l.length) : ∃ v, lineA g l (n : Int) (m : Int) = (v, 0) ∧ VecOk v ∧
    val v.x = val (pAt g l m).x - val (pAt g l n).x ∧ val v.y = val (pAt g l m).y - val (pAt g l n).y ∧ val v.z = val (pAt g l m).z - val (pAt g l n).z := by
  have qn := pAt_q h hn; have qm := pAt_q h hm
  obtain ⟨x, ex, _⟩ := qm.x.sub qn.x (by decide) (by decide)
  obtain ⟨y, ey, _⟩ := qm.y.sub qn.y (by decide) (by decide)
  obtain ⟨z, ez, _⟩ := qm.z.sub qn.z (by decide) (by decide)
  have vx := sub_val qm.x.ok qn.x.ok ex
  have vy := sub_val qm.y.ok qn.y.ok ey
  have vz := sub_val qm.z.ok qn.z.ok ez
  refine ⟨⟨x, y, z⟩, ?_, ⟨vx.1, vy.1, vz.1⟩, vx.2, vy.2, vz.2⟩
  unfold lineA
  rw [h, dec_t (show (0 : Int) ≤ (n : Int) by omega), dec_t (show (n : Int) < (l.length : Int) by omega), dec_t (show (0 : Int) ≤ (m : Int) by omega), dec_t (show (m : Int) < (l.length : Int) by omega)]
  simp only [bne_self_eq_false, cond_false, Bool.and_self, cond_true, Int.toNat_natCast]
  unfold subV eachV
  rw [vecOkB_iff.2 qn.ok, vecOkB_iff.2 qm.ok, ex, ey, ez]
  rfl

structure PQ (v : Vec) (s : Source) (t : Int) (r : Dir × Int) : Prop where
  c : (∃ d, r = (d, 0) ∧ DQ d (-sQ (s.ra - t) * val v.x + cQ (s.ra - t) * val v.y + 0 * val v.z)
    (-(sQ s.dec * cQ (s.ra - t)) * val v.x + -(sQ s.dec * sQ (s.ra - t)) * val v.y + cQ s.dec * val v.z) (cQ s.dec * cQ (s.ra - t) * val v.x + cQ s.dec * sQ (s.ra - t) * val v.y + sQ s.dec * val v.z)) ∨ r = (dirZ, 16)

theorem pline_eq {g : Globe} {l : List Site} {i j : Int} {s : Source} {t : Int} {v : Vec} (hf : fit8B s t = true) (h : lineA g l i j = (v, 0)) : plineA g l i j s t = projF v (axesS s.ra s.dec t) := by
  unfold plineA projV
  rw [h, fit8B_ok hf]
  rfl
theorem pline_q {v : Vec} (hv : VecOk v) (s : Source) (t : Int) : PQ v s t (projF v (axesS s.ra s.dec t)) := by
  rcases proj_q hv s.ra s.dec t with ⟨d, e, _, q⟩ | e
  · exact ⟨.inl ⟨d, e, q⟩⟩
  · exact ⟨.inr e⟩

theorem sum_common {a b c : Span} {x y z : Rat} (ha : SQ a x) (hb : SQ b y) (hc : SQ c z) (h : x + y = z) : ((addS a b).2 != 0) = true ∨ commonB (addS a b).1 c = true := by
  rcases addS_cases ha.ok hb.ok with ⟨p, e, _⟩ | e
  · right
    rw [e]
    refine (ha.enc.add hb.enc e).common hc.enc ?_ ?_
    · rw [h]; grind
    · rw [h]; grind
  · left; rw [e]; rfl

theorem negR_dir {d : Dir} {x y z : Rat} (h : DQ d x y z) : m_Q8_Neg d = ⟨true, negDir d⟩ := by
  unfold m_Q8_Neg negDir
  rw [negRaw_ok h.x.ok, negRaw_ok h.y.ok, negRaw_ok h.z.ok]

theorem eq_all_self (d : Dir) : eqAll [.int .i64 d.x.lo, .int .i64 d.x.hi, .int .i64 d.y.lo, .int .i64 d.y.hi, .int .i64 d.z.lo, .int .i64 d.z.hi] [.int .i64 d.x.lo, .int .i64 d.x.hi, .int .i64 d.y.lo, .int .i64 d.y.hi, .int .i64 d.z.lo, .int .i64 d.z.hi] = true := by simp [eqAll, D.eq]

theorem law_ProjCloses (g : Globe) (l : List Site) (i j k : Int) (s : Source) (t : Int) (_ : ∀ d ∈ [D.int .i64 g.a, .int .i64 g.b], d.ok) (hl : (∀ d ∈ ET.flat .site l, d.ok) ∧ l.length ≤ maxLen) (_ : IntKind.i64.has i) (_ : IntKind.i64.has j) (_ : IntKind.i64.has k) (_ : ∀ d ∈ [D.str s.name, .int .i64 s.ra, .int .i64 s.dec], d.ok) (_ : IntKind.i64.has t) :
    m_W8_ProjCloses g l i j k s t = ⟨true, true⟩ := by
  unfold m_W8_ProjCloses m_W8_long
  simp only [m_great l hl.2, m_pline, m_checkRA, cond_true]
  cases greatB l with
  | true => rfl
  | false =>
  simp only [cond_false]
  cases decide ((200 : Int) < (s.name.size : Int)) with
  | true => rfl
  | false =>
  cases hc : (checkA g l != 0) with
  | true => rfl
  | false =>
  cases hf : fit8B s t with
  | false => rfl
  | true =>
  by_cases i0 : i < 0
  · rw [dec_t i0]; rfl
  by_cases j0 : j < 0
  · rw [dec_f i0, dec_t j0]; rfl
  by_cases k0 : k < 0
  · rw [dec_f i0, dec_f j0, dec_t k0]; rfl
  by_cases i1 : (l.length : Int) ≤ i
  · rw [dec_f i0, dec_f j0, dec_f k0, dec_t i1]; rfl
  by_cases j1 : (l.length : Int) ≤ j
  · rw [dec_f i0, dec_f j0, dec_f k0, dec_f i1, dec_t j1]; rfl
  by_cases k1 : (l.length : Int) ≤ k
  · rw [dec_f i0, dec_f j0, dec_f k0, dec_f i1, dec_f j1, dec_t k1]; rfl
  rw [dec_f i0, dec_f j0, dec_f k0, dec_f i1, dec_f j1, dec_f k1]
  obtain ⟨a, rfl⟩ := nat_of (show 0 ≤ i by omega)
  obtain ⟨b, rfl⟩ := nat_of (show 0 ≤ j by omega)
  obtain ⟨c, rfl⟩ := nat_of (show 0 ≤ k by omega)
  have h0 := eq0_of hc
  obtain ⟨v1, e1, q1, x1, y1, z1⟩ := line_q h0 (n := a) (m := b) (by omega) (by omega)
  obtain ⟨v2, e2, q2, x2, y2, z2⟩ := line_q h0 (n := b) (m := c) (by omega) (by omega)
  obtain ⟨v3, e3, q3, x3, y3, z3⟩ := line_q h0 (n := a) (m := c) (by omega) (by omega)
  obtain ⟨v4, e4, q4, x4, y4, z4⟩ := line_q h0 (n := b) (m := a) (by omega) (by omega)
  have ev : v4 = negVec v1 := vec_eq q4 (negVec_ok q1) (by simp only [negVec, val_neg q1.x]; rw [x4, x1]; grind) (by simp only [negVec, val_neg q1.y]; rw [y4, y1]; grind) (by simp only [negVec, val_neg q1.z]; rw [z4, z1]; grind)
  rw [ev] at e4
  rw [pline_eq hf e1, pline_eq hf e2, pline_eq hf e3, pline_eq hf e4, proj_neg q1]
  have p1 := (pline_q q1 s t).c; have p2 := (pline_q q2 s t).c; have p3 := (pline_q q3 s t).c
  generalize projF v1 (axesS s.ra s.dec t) = r1 at *
  generalize projF v2 (axesS s.ra s.dec t) = r2 at *
  generalize projF v3 (axesS s.ra s.dec t) = r3 at *
  rcases p1 with ⟨d1, rfl, u1⟩ | rfl
  · rcases p2 with ⟨d2, rfl, u2⟩ | rfl
    · rcases p3 with ⟨d3, rfl, u3⟩ | rfl
      · simp only [bne_self_eq_false, cond_false, negR_dir u1, cond_true, eq_all_self, Bool.not_true]
        have cx := sum_common u1.x u2.x u3.x (by rw [x1, x2, x3, y1, y2, y3, z1, z2, z3]; grind)
        have cy := sum_common u1.y u2.y u3.y (by rw [x1, x2, x3, y1, y2, y3, z1, z2, z3]; grind)
        have cz := sum_common u1.z u2.z u3.z (by rw [x1, x2, x3, y1, y2, y3, z1, z2, z3]; grind)
        generalize addS d1.x d2.x = s1 at *
        generalize addS d1.y d2.y = s2 at *
        generalize addS d1.z d2.z = s3 at *
        generalize commonB s1.1 d3.x = k1 at *
        generalize commonB s2.1 d3.y = k2 at *
        generalize commonB s3.1 d3.z = k3 at *
        rcases cx with cx | cx <;> rcases cy with cy | cy <;> rcases cz with cz | cz <;> rw [cx, cy, cz] <;>
          cases (s1.2 != 0) <;> cases (s2.2 != 0) <;> cases (s3.2 != 0) <;> rfl
      · rfl
    · rcases p3 with ⟨d3, rfl, u3⟩ | rfl <;> rfl
  · rcases p2 with ⟨d2, rfl, u2⟩ | rfl <;> rcases p3 with ⟨d3, rfl, u3⟩ | rfl <;> rfl

end Go.Ev

