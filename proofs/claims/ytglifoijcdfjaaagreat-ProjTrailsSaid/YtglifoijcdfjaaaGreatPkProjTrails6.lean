/-
  Plain functions that mirror functions of the program, and that it computes them. No condition beyond those of the statements.
  Arrays of stations as plain functions: which are valid, their places, their baselines; the program's and the reference's are the same. No condition.
  Trails of baselines: the program's and the reference's are the same; the law ProjTrails. No condition.
-/
import Derived.Test.YtglifoijcdfjaaaGreatPkProjTrails5
namespace Go.Ev
open Go Go.Proofs

structure O_array_Line where
  ok : Bool
  r0 : Vec
  r1 : Int

def m_array_Line (a0 : Globe) (a1 : List Site) (a2 : Int) (a3 : Int) : O_array_Line := bif (m_array_place a0 a1).ok then (bif ((m_array_place a0 a1).r1 != (0 : Int)) then ⟨true, ⟨⟨(0 : Int), (0 : Int)⟩, ⟨(0 : Int), (0 : Int)⟩, ⟨(0 : Int), (0 : Int)⟩⟩, (m_array_place a0 a1).r1⟩ else (bif decide (a2 < (0 : Int)) then ⟨true, ⟨⟨(0 : Int), (0 : Int)⟩, ⟨(0 : Int), (0 : Int)⟩, ⟨(0 : Int), (0 : Int)⟩⟩, (2 : Int)⟩ else (bif decide ((((m_array_place a0 a1).r0).length : Int) ≤ a2) then ⟨true, ⟨⟨(0 : Int), (0 : Int)⟩, ⟨(0 : Int), (0 : Int)⟩, ⟨(0 : Int), (0 : Int)⟩⟩, (2 : Int)⟩ else (bif decide (a3 < (0 : Int)) then ⟨true, ⟨⟨(0 : Int), (0 : Int)⟩, ⟨(0 : Int), (0 : Int)⟩, ⟨(0 : Int), (0 : Int)⟩⟩, (2 : Int)⟩ else (bif decide ((((m_array_place a0 a1).r0).length : Int) ≤ a3) then ⟨true, ⟨⟨(0 : Int), (0 : Int)⟩, ⟨(0 : Int), (0 : Int)⟩, ⟨(0 : Int), (0 : Int)⟩⟩, (2 : Int)⟩ else (bif (decide ((0 : Int) ≤ a3) && decide (a3 < (((m_array_place a0 a1).r0).length : Int))) then (bif (decide ((0 : Int) ≤ a2) && decide (a2 < (((m_array_place a0 a1).r0).length : Int))) then ⟨true, (subV ⟨⟨((((((m_array_place a0 a1).r0).getD a3.toNat (ET.z .placed)).at_).x).num), ((((((m_array_place a0 a1).r0).getD a3.toNat (ET.z .placed)).at_).x).den)⟩, ⟨((((((m_array_place a0 a1).r0).getD a3.toNat (ET.z .placed)).at_).y).num), ((((((m_array_place a0 a1).r0).getD a3.toNat (ET.z .placed)).at_).y).den)⟩, ⟨((((((m_array_place a0 a1).r0).getD a3.toNat (ET.z .placed)).at_).z).num), ((((((m_array_place a0 a1).r0).getD a3.toNat (ET.z .placed)).at_).z).den)⟩⟩ ⟨⟨((((((m_array_place a0 a1).r0).getD a2.toNat (ET.z .placed)).at_).x).num), ((((((m_array_place a0 a1).r0).getD a2.toNat (ET.z .placed)).at_).x).den)⟩, ⟨((((((m_array_place a0 a1).r0).getD a2.toNat (ET.z .placed)).at_).y).num), ((((((m_array_place a0 a1).r0).getD a2.toNat (ET.z .placed)).at_).y).den)⟩, ⟨((((((m_array_place a0 a1).r0).getD a2.toNat (ET.z .placed)).at_).z).num), ((((((m_array_place a0 a1).r0).getD a2.toNat (ET.z .placed)).at_).z).den)⟩⟩).1, (subV ⟨⟨((((((m_array_place a0 a1).r0).getD a3.toNat (ET.z .placed)).at_).x).num), ((((((m_array_place a0 a1).r0).getD a3.toNat (ET.z .placed)).at_).x).den)⟩, ⟨((((((m_array_place a0 a1).r0).getD a3.toNat (ET.z .placed)).at_).y).num), ((((((m_array_place a0 a1).r0).getD a3.toNat (ET.z .placed)).at_).y).den)⟩, ⟨((((((m_array_place a0 a1).r0).getD a3.toNat (ET.z .placed)).at_).z).num), ((((((m_array_place a0 a1).r0).getD a3.toNat (ET.z .placed)).at_).z).den)⟩⟩ ⟨⟨((((((m_array_place a0 a1).r0).getD a2.toNat (ET.z .placed)).at_).x).num), ((((((m_array_place a0 a1).r0).getD a2.toNat (ET.z .placed)).at_).x).den)⟩, ⟨((((((m_array_place a0 a1).r0).getD a2.toNat (ET.z .placed)).at_).y).num), ((((((m_array_place a0 a1).r0).getD a2.toNat (ET.z .placed)).at_).y).den)⟩, ⟨((((((m_array_place a0 a1).r0).getD a2.toNat (ET.z .placed)).at_).z).num), ((((((m_array_place a0 a1).r0).getD a2.toNat (ET.z .placed)).at_).z).den)⟩⟩).2⟩ else ⟨false, ⟨⟨0, 0⟩, ⟨0, 0⟩, ⟨0, 0⟩⟩, 0⟩) else ⟨false, ⟨⟨0, 0⟩, ⟨0, 0⟩, ⟨0, 0⟩⟩, 0⟩)))))) else ⟨false, ⟨⟨0, 0⟩, ⟨0, 0⟩, ⟨0, 0⟩⟩, 0⟩

def F_array_Line (a0 : Globe) (a1 : List Site) (a2 : Int) (a3 : Int) (K : AV → List Blk → Ans) (r : O_array_Line) : Ans := bif r.ok then K (.tup [.agg [.int .i64 r.r0.x.num, .int .i64 r.r0.x.den, .int .i64 r.r0.y.num, .int .i64 r.r0.y.den, .int .i64 r.r0.z.num, .int .i64 r.r0.z.den], .c (.d (.int .i64 r.r1))]) [.arr none .site a1] else none

set_option maxRecDepth 100000 in
theorem e_array_Line (a0 : Globe) (a1 : List Site) (a2 : Int) (a3 : Int) (K : AV → List Blk → Ans) : evFn Tryz.prog GT EQT T_array_place XT noL 80 27 [.v (.agg [.int .i64 a0.a, .int .i64 a0.b]), .v (.c (.aslice 0 none)), .v (.c (.d (.int .i64 a2))), .v (.c (.d (.int .i64 a3)))] [.arr none .site a1] (fun v M => K (finR 1 v M).1 (finR 1 v M).2) = F_array_Line a0 a1 a2 a3 K (m_array_Line a0 a1 a2 a3) := by
  unfold m_array_Line
  refine Eq.trans ?_ (Eq.symm (pushT (pushT rfl (pushT rfl (pushT rfl (pushT rfl (pushT rfl (pushT (pushT rfl rfl) rfl)))))) rfl))
  kernel_rfl

theorem c_array_Line (a0 : Globe) (a1 : List Site) (a2 : Int) (a3 : Int) (hd : (m_array_Line a0 a1 a2 a3).ok = true) : CallsA Tryz.prog GT gbT 27 [.v (.agg [.int .i64 a0.a, .int .i64 a0.b]), .v (.c (.aslice 0 none)), .v (.c (.d (.int .i64 a2))), .v (.c (.d (.int .i64 a3)))] [.arr none .site a1] (.tup [.agg [.int .i64 ((((m_array_Line a0 a1 a2 a3).r0).x).num), .int .i64 ((((m_array_Line a0 a1 a2 a3).r0).x).den), .int .i64 ((((m_array_Line a0 a1 a2 a3).r0).y).num), .int .i64 ((((m_array_Line a0 a1 a2 a3).r0).y).den), .int .i64 ((((m_array_Line a0 a1 a2 a3).r0).z).num), .int .i64 ((((m_array_Line a0 a1 a2 a3).r0).z).den)], .c (.d (.int .i64 ((m_array_Line a0 a1 a2 a3).r1)))]) [.arr none .site a1] := by
  refine CallsA.ofEvR g_array_place hEQT hmT (n0 := 1) rfl (fun _ _ _ _ => LOKn.nil) ((e_array_Line a0 a1 a2 a3 (fun v M => some (Res.fin v M))).trans ?_)
  unfold F_array_Line
  rw [hd]
  rfl

def s_array_Line : List AV → List Blk → (AV → List Blk → Ans) → Ans := fun xs bs K => match xs, bs with
  | [.v (.agg [.int .i64 a0_0, .int .i64 a0_1]), .v (.c (.aslice 0 none)), .v (.c (.d (.int .i64 a2))), .v (.c (.d (.int .i64 a3)))], [.arr none .site a1] => F_array_Line (⟨a0_0, a0_1⟩ : Globe) a1 a2 a3 K (m_array_Line (⟨a0_0, a0_1⟩ : Globe) a1 a2 a3)
  | _, _ => none

def T_array_Line : Nat → List AV → List Blk → (AV → List Blk → Ans) → Ans := upd T_array_place 27 s_array_Line

theorem g_array_Line : GOK Tryz.prog GT gbT T_array_Line XT := by
  refine GOK.upd g_array_place (fun args w => Tryz.call27 args w) fun xs bs K r h => ?_
  unfold s_array_Line at h
  split at h
  · unfold F_array_Line at h
    simp only [cond_eq_ite] at h
    split at h
    · rename_i hd
      exact ⟨_, _, c_array_Line _ _ _ _ hd, h⟩
    · cases h
  · cases h

structure O_proj_Line where
  ok : Bool
  r0 : Dir
  r1 : Int

def m_proj_Line (a0 : Globe) (a1 : List Site) (a2 : Int) (a3 : Int) (a4 : Source) (a5 : Int) : O_proj_Line := bif (m_array_Line a0 a1 a2 a3).ok then (bif ((m_array_Line a0 a1 a2 a3).r1 != (0 : Int)) then ⟨true, ⟨⟨(0 : Int), (0 : Int)⟩, ⟨(0 : Int), (0 : Int)⟩, ⟨(0 : Int), (0 : Int)⟩⟩, (m_array_Line a0 a1 a2 a3).r1⟩ else ⟨true, (projV ((m_array_Line a0 a1 a2 a3).r0) a4 a5).1, (projV ((m_array_Line a0 a1 a2 a3).r0) a4 a5).2⟩) else ⟨false, ⟨⟨0, 0⟩, ⟨0, 0⟩, ⟨0, 0⟩⟩, 0⟩

def F_proj_Line (a0 : Globe) (a1 : List Site) (a2 : Int) (a3 : Int) (a4 : Source) (a5 : Int) (K : AV → List Blk → Ans) (r : O_proj_Line) : Ans := bif r.ok then K (.tup [.agg [.int .i64 r.r0.x.lo, .int .i64 r.r0.x.hi, .int .i64 r.r0.y.lo, .int .i64 r.r0.y.hi, .int .i64 r.r0.z.lo, .int .i64 r.r0.z.hi], .c (.d (.int .i64 r.r1))]) [.arr none .site a1] else none

set_option maxRecDepth 100000 in
theorem e_proj_Line (a0 : Globe) (a1 : List Site) (a2 : Int) (a3 : Int) (a4 : Source) (a5 : Int) (K : AV → List Blk → Ans) : evFn Tryz.prog GT EQT T_array_Line XT noL 80 9 [.v (.agg [.int .i64 a0.a, .int .i64 a0.b]), .v (.c (.aslice 0 none)), .v (.c (.d (.int .i64 a2))), .v (.c (.d (.int .i64 a3))), .v (.agg [.str a4.name, .int .i64 a4.ra, .int .i64 a4.dec]), .v (.c (.d (.int .i64 a5)))] [.arr none .site a1] (fun v M => K (finR 1 v M).1 (finR 1 v M).2) = F_proj_Line a0 a1 a2 a3 a4 a5 K (m_proj_Line a0 a1 a2 a3 a4 a5) := by
  unfold m_proj_Line
  refine Eq.trans ?_ (Eq.symm (pushT (pushT rfl rfl) rfl))
  kernel_rfl

theorem c_proj_Line (a0 : Globe) (a1 : List Site) (a2 : Int) (a3 : Int) (a4 : Source) (a5 : Int) (hd : (m_proj_Line a0 a1 a2 a3 a4 a5).ok = true) : CallsA Tryz.prog GT gbT 9 [.v (.agg [.int .i64 a0.a, .int .i64 a0.b]), .v (.c (.aslice 0 none)), .v (.c (.d (.int .i64 a2))), .v (.c (.d (.int .i64 a3))), .v (.agg [.str a4.name, .int .i64 a4.ra, .int .i64 a4.dec]), .v (.c (.d (.int .i64 a5)))] [.arr none .site a1] (.tup [.agg [.int .i64 ((((m_proj_Line a0 a1 a2 a3 a4 a5).r0).x).lo), .int .i64 ((((m_proj_Line a0 a1 a2 a3 a4 a5).r0).x).hi), .int .i64 ((((m_proj_Line a0 a1 a2 a3 a4 a5).r0).y).lo), .int .i64 ((((m_proj_Line a0 a1 a2 a3 a4 a5).r0).y).hi), .int .i64 ((((m_proj_Line a0 a1 a2 a3 a4 a5).r0).z).lo), .int .i64 ((((m_proj_Line a0 a1 a2 a3 a4 a5).r0).z).hi)], .c (.d (.int .i64 ((m_proj_Line a0 a1 a2 a3 a4 a5).r1)))]) [.arr none .site a1] := by
  refine CallsA.ofEvR g_array_Line hEQT hmT (n0 := 1) rfl (fun _ _ _ _ => LOKn.nil) ((e_proj_Line a0 a1 a2 a3 a4 a5 (fun v M => some (Res.fin v M))).trans ?_)
  unfold F_proj_Line
  rw [hd]
  rfl

def s_proj_Line : List AV → List Blk → (AV → List Blk → Ans) → Ans := fun xs bs K => match xs, bs with
  | [.v (.agg [.int .i64 a0_0, .int .i64 a0_1]), .v (.c (.aslice 0 none)), .v (.c (.d (.int .i64 a2))), .v (.c (.d (.int .i64 a3))), .v (.agg [.str a4_0, .int .i64 a4_1, .int .i64 a4_2]), .v (.c (.d (.int .i64 a5)))], [.arr none .site a1] => F_proj_Line (⟨a0_0, a0_1⟩ : Globe) a1 a2 a3 (⟨a4_0, a4_1, a4_2⟩ : Source) a5 K (m_proj_Line (⟨a0_0, a0_1⟩ : Globe) a1 a2 a3 (⟨a4_0, a4_1, a4_2⟩ : Source) a5)
  | _, _ => none

def T_proj_Line : Nat → List AV → List Blk → (AV → List Blk → Ans) → Ans := upd T_array_Line 9 s_proj_Line

theorem g_proj_Line : GOK Tryz.prog GT gbT T_proj_Line XT := by
  refine GOK.upd g_array_Line (fun args w => Tryz.call9 args w) fun xs bs K r h => ?_
  unfold s_proj_Line at h
  split at h
  · unfold F_proj_Line at h
    simp only [cond_eq_ite] at h
    split at h
    · rename_i hd
      exact ⟨_, _, c_proj_Line _ _ _ _ _ _ hd, h⟩
    · cases h
  · cases h

structure R_track_Path_0 where
  k : Nat
  p48 : Int
  m2 : List Dir

def run_track_Path_0 (p1 : Int) (p2 : Int) (p9 : Int) (p47 : Int) (q0 : Source) (m1 : List Dir) : Nat → Int → List Dir → R_track_Path_0
  | 0, p48, m2 => ⟨2, p48, m2⟩
  | n + 1, p48, m2 => bif decide (p48 < p47) then (bif dirOn q0.ra q0.dec (w64 (p1 + (w64 (p48 * p2)))) then (bif (0 != (0 : Int)) then ⟨0, p48, m2⟩ else (bif (decide ((0 : Int) ≤ p48) && decide (p48 < (m2.length : Int))) then run_track_Path_0 p1 p2 p9 p47 q0 m1 n (w64 (p48 + (1 : Int))) (m2.set p48.toNat (dirS q0.ra q0.dec (w64 (p1 + (w64 (p48 * p2)))))) else ⟨2, p48, m2⟩)) else ⟨2, p48, m2⟩) else ⟨1, p48, m2⟩

def lp_track_Path_0 (p1 : Int) (p2 : Int) (p9 : Int) (p47 : Int) (q0 : Source) (m1 : List Dir) (p48 : Int) (m2 : List Dir) : R_track_Path_0 := run_track_Path_0 p1 p2 p9 p47 q0 m1 (2000 + (m1.length + m2.length)) p48 m2

abbrev H_track_Path_0 (p1 : Int) (p2 : Int) (p9 : Int) (p47 : Int) (q0 : Source) (m1 : List Dir) (p48 : Int) (m2 : List Dir) : TS := headT [1, 2, 4, 8, 9, 11, 47, 48] 70 [.v (.c (.d (.int .i64 p1))), .v (.c (.d (.int .i64 p2))), .v (.c (.ptr 0 0)), .v (.c (.aslice 1 none)), .v (.c (.d (.int .i64 p9))), .v (.c (.aslice 2 none)), .v (.c (.d (.int .i64 p47))), .v (.c (.d (.int .i64 p48)))]

set_option maxRecDepth 100000 in
theorem b_track_Path_0 (p1 : Int) (p2 : Int) (p9 : Int) (p47 : Int) (q0 : Source) (m1 : List Dir) (p48 : Int) (m2 : List Dir) : evCode Tryz.prog GT EQT (inl Tryz.prog GT EQT XT [51] T_proj_Line 80 2) XT noL 80 (loopB Tryz.prog 33 0) (H_track_Path_0 p1 p2 p9 p47 q0 m1 p48 m2) [.rw 26 [.str q0.name, .int .i64 q0.ra, .int .i64 q0.dec], .arr (some 34) .dir m1, .arr (some 34) .dir m2] 3 (normK 0 [1, 2, 4, 8, 9, 11, 47, 48]) =
    bif decide (p48 < p47) then (bif dirOn q0.ra q0.dec (w64 (p1 + (w64 (p48 * p2)))) then (bif (0 != (0 : Int)) then some (.st .ret (headT [1, 2, 4, 8, 9, 11, 47, 48] 70 [.v (.c (.d (.int .i64 p1))), .v (.c (.d (.int .i64 p2))), .v (.c (.ptr 0 0)), .v (.c (.aslice 1 none)), .v (.c (.d (.int .i64 0))), .v (.c (.aslice 2 none)), .v (.c (.d (.int .i64 p47))), .v (.c (.d (.int .i64 p48)))]) [.rw 26 [.str q0.name, .int .i64 q0.ra, .int .i64 q0.dec], .arr (some 34) .dir ([] : List Dir), .arr (some 34) .dir m2] 3) else (bif (decide ((0 : Int) ≤ p48) && decide (p48 < (m2.length : Int))) then some (.st .normal (headT [1, 2, 4, 8, 9, 11, 47, 48] 70 [.v (.c (.d (.int .i64 p1))), .v (.c (.d (.int .i64 p2))), .v (.c (.ptr 0 0)), .v (.c (.aslice 1 none)), .v (.c (.d (.int .i64 p9))), .v (.c (.aslice 2 none)), .v (.c (.d (.int .i64 p47))), .v (.c (.d (.int .i64 (w64 (p48 + (1 : Int))))))]) [.rw 26 [.str q0.name, .int .i64 q0.ra, .int .i64 q0.dec], .arr (some 34) .dir m1, .arr (some 34) .dir (m2.set p48.toNat (dirS q0.ra q0.dec (w64 (p1 + (w64 (p48 * p2))))))] 3) else none)) else none) else some (.st (.exit 0) (headT [1, 2, 4, 8, 9, 11, 47, 48] 70 [.v (.c (.d (.int .i64 p1))), .v (.c (.d (.int .i64 p2))), .v (.c (.ptr 0 0)), .v (.c (.aslice 1 none)), .v (.c (.d (.int .i64 p9))), .v (.c (.aslice 2 none)), .v (.c (.d (.int .i64 p47))), .v (.c (.d (.int .i64 p48)))]) [.rw 26 [.str q0.name, .int .i64 q0.ra, .int .i64 q0.dec], .arr (some 34) .dir m1, .arr (some 34) .dir m2] 3) := by
  kernel_rfl

def o_track_Path_0 (p1 : Int) (p2 : Int) (p9 : Int) (p47 : Int) (q0 : Source) (m1 : List Dir) (r : R_track_Path_0) : LT := .br (Nat.beq r.k 0) (.st .ret (headT [1, 2, 4, 8, 9, 11, 47, 48] 70 [.v (.c (.d (.int .i64 p1))), .v (.c (.d (.int .i64 p2))), .v (.c (.ptr 0 0)), .v (.c (.aslice 1 none)), .v (.c (.d (.int .i64 0))), .v (.c (.aslice 2 none)), .v (.c (.d (.int .i64 p47))), .v (.c (.d (.int .i64 r.p48)))]) [.rw 26 [.str q0.name, .int .i64 q0.ra, .int .i64 q0.dec], .arr (some 34) .dir ([] : List Dir), .arr (some 34) .dir r.m2] 3) (.br (Nat.beq r.k 1) (.st (.exit 0) (headT [1, 2, 4, 8, 9, 11, 47, 48] 70 [.v (.c (.d (.int .i64 p1))), .v (.c (.d (.int .i64 p2))), .v (.c (.ptr 0 0)), .v (.c (.aslice 1 none)), .v (.c (.d (.int .i64 p9))), .v (.c (.aslice 2 none)), .v (.c (.d (.int .i64 p47))), .v (.c (.d (.int .i64 r.p48)))]) [.rw 26 [.str q0.name, .int .i64 q0.ra, .int .i64 q0.dec], .arr (some 34) .dir m1, .arr (some 34) .dir r.m2] 3) (.no))

set_option maxRecDepth 100000 in
theorem r_track_Path_0 (p1 : Int) (p2 : Int) (p9 : Int) (p47 : Int) (q0 : Source) (m1 : List Dir) : ∀ (n : Nat) (p48 : Int) (m2 : List Dir) (x : Ex) (T' : TS) (M' : List Blk) (N' : Nat), LReach (o_track_Path_0 p1 p2 p9 p47 q0 m1 (run_track_Path_0 p1 p2 p9 p47 q0 m1 n p48 m2)) x T' M' N' → x ≠ .normal ∧ ∃ j, RoundsN Tryz.prog GT gbT 0 (loopB Tryz.prog 33 0) j (H_track_Path_0 p1 p2 p9 p47 q0 m1 p48 m2) [.rw 26 [.str q0.name, .int .i64 q0.ra, .int .i64 q0.dec], .arr (some 34) .dir m1, .arr (some 34) .dir m2] 3 x T' M' N' := by
  have hL : LOKn Tryz.prog GT gbT 0 noL (loopsIn (loopB Tryz.prog 33 0)) := fun _ _ _ _ _ _ _ _ _ h => h.elim
  intro n
  induction n with
  | zero =>
    intro p48 m2 x T' M' N' hr
    exact False.elim (redF (redF hr))
  | succ n ih =>
    intro p48 m2 x T' M' N'
    rw [run_track_Path_0]
    exact viaE (b_track_Path_0 p1 p2 p9 p47 q0 m1 p48 m2) (condG (o := o_track_Path_0 p1 p2 p9 p47 q0 m1) (condG (o := o_track_Path_0 p1 p2 p9 p47 q0 m1) (condG (o := o_track_Path_0 p1 p2 p9 p47 q0 m1) (fun he hr => stopN (g_proj_Line.inl hEQT hmT (fun f hf => by simp only [List.mem_cons, List.not_mem_nil, or_false] at hf; subst hf; exact (fun args w => Tryz.call51 args w)) 80 2) hEQT hmT hL he (by simp) (redT hr)) (condG (o := o_track_Path_0 p1 p2 p9 p47 q0 m1) (fun he hr => goN (g_proj_Line.inl hEQT hmT (fun f hf => by simp only [List.mem_cons, List.not_mem_nil, or_false] at hf; subst hf; exact (fun args w => Tryz.call51 args w)) 80 2) hEQT hmT hL he (ih (w64 (p48 + (1 : Int))) (m2.set p48.toNat (dirS q0.ra q0.dec (w64 (p1 + (w64 (p48 * p2)))))) x T' M' N' hr)) (fun _ hr => False.elim (redF (redF hr))))) (fun _ hr => False.elim (redF (redF hr)))) (fun he hr => stopN (g_proj_Line.inl hEQT hmT (fun f hf => by simp only [List.mem_cons, List.not_mem_nil, or_false] at hf; subst hf; exact (fun args w => Tryz.call51 args w)) 80 2) hEQT hmT hL he (by simp) (redT (redF hr))))

def f_track_Path_0 : List AV → List Blk → LT := fun vs Ms => match vs, Ms with
  | [.v (.c (.d (.int .i64 p1))), .v (.c (.d (.int .i64 p2))), .v (.c (.ptr 0 0)), .v (.c (.aslice 1 none)), .v (.c (.d (.int .i64 p9))), .v (.c (.aslice 2 none)), .v (.c (.d (.int .i64 p47))), .v (.c (.d (.int .i64 p48)))], [.rw 26 [.str q0_0, .int .i64 q0_1, .int .i64 q0_2], .arr (some 34) .dir m1, .arr (some 34) .dir m2] => o_track_Path_0 p1 p2 p9 p47 (⟨q0_0, q0_1, q0_2⟩ : Source) m1 (lp_track_Path_0 p1 p2 p9 p47 (⟨q0_0, q0_1, q0_2⟩ : Source) m1 p48 m2)
  | _, _ => .no

def L_track_Path_0 := LamN 10 70 0 [1, 2, 4, 8, 9, 11, 47, 48] f_track_Path_0

set_option maxRecDepth 100000 in
theorem k_track_Path_0 : LOKbn Tryz.prog GT gbT 0 L_track_Path_0 (loopB Tryz.prog 33 0) := by
  refine LOKbn.lamN (by kernel_rfl) fun vs Ms x T' M' N' hr => ?_
  unfold f_track_Path_0 at hr
  split at hr
  · obtain ⟨q1, j, q2⟩ := r_track_Path_0 _ _ _ _ _ _ _ _ _ x T' M' N' hr
    exact ⟨q1, j, q2⟩
  · exact hr.elim

structure O_track_Path where
  ok : Bool
  r0 : List Dir
  r1 : Int

def m_track_Path (a0 : Source) (a1 : Int) (a2 : Int) (a3 : Int) : O_track_Path := bif ((checkSrc ⟨a0.name, a0.ra, a0.dec⟩) != (0 : Int)) then ⟨true, ([] : List Dir), (checkSrc ⟨a0.name, a0.ra, a0.dec⟩)⟩ else (bif decide (a3 < (0 : Int)) then ⟨true, ([] : List Dir), (4 : Int)⟩ else (bif decide ((100 : Int) < a3) then ⟨true, ([] : List Dir), (4 : Int)⟩ else (bif decide (a2 < (1 : Int)) then ⟨true, ([] : List Dir), (2 : Int)⟩ else (bif decide ((720 : Int) < a2) then ⟨true, ([] : List Dir), (2 : Int)⟩ else (bif decide (a1 < (-1000000 : Int)) then ⟨true, ([] : List Dir), (2 : Int)⟩ else (bif decide ((1000000 : Int) < a1) then ⟨true, ([] : List Dir), (2 : Int)⟩ else (bif decide ((w64 (a1 + (w64 (a2 * (if (0 : Int) > (w64 (a3 - (1 : Int))) then (0 : Int) else (w64 (a3 - (1 : Int)))))))) < (-1000000 : Int)) then ⟨true, ([] : List Dir), (2 : Int)⟩ else (bif decide ((1000000 : Int) < (w64 (a1 + (w64 (a2 * (if (0 : Int) > (w64 (a3 - (1 : Int))) then (0 : Int) else (w64 (a3 - (1 : Int))))))))) then ⟨true, ([] : List Dir), (2 : Int)⟩ else (bif (decide (a3 = a3) && (decide (0 ≤ a3) && (decide (a3 ≤ 1048576) && ((6 == 6) && (Nat.blt 0 6 && Nat.ble 48 4096))))) then (bif Nat.beq (lp_track_Path_0 a1 a2 (0 : Int) a3 a0 ([] : List Dir) (0 : Int) (List.replicate a3.toNat (⟨⟨(0 : Int), (0 : Int)⟩, ⟨(0 : Int), (0 : Int)⟩, ⟨(0 : Int), (0 : Int)⟩⟩ : Dir))).k 0 then ⟨true, ([] : List Dir), 0⟩ else (bif Nat.beq (lp_track_Path_0 a1 a2 (0 : Int) a3 a0 ([] : List Dir) (0 : Int) (List.replicate a3.toNat (⟨⟨(0 : Int), (0 : Int)⟩, ⟨(0 : Int), (0 : Int)⟩, ⟨(0 : Int), (0 : Int)⟩⟩ : Dir))).k 1 then ⟨true, ((lp_track_Path_0 a1 a2 (0 : Int) a3 a0 ([] : List Dir) (0 : Int) (List.replicate a3.toNat (⟨⟨(0 : Int), (0 : Int)⟩, ⟨(0 : Int), (0 : Int)⟩, ⟨(0 : Int), (0 : Int)⟩⟩ : Dir))).m2), (0 : Int)⟩ else ⟨false, [], 0⟩)) else ⟨false, [], 0⟩)))))))))

def F_track_Path (a0 : Source) (a1 : Int) (a2 : Int) (a3 : Int) (K : AV → List Blk → Ans) (r : O_track_Path) : Ans := bif r.ok then K (.tup [.c (.aslice 0 none), .c (.d (.int .i64 r.r1))]) [.arr (some 34) .dir r.r0] else none

set_option maxRecDepth 100000 in
theorem e_track_Path (a0 : Source) (a1 : Int) (a2 : Int) (a3 : Int) (K : AV → List Blk → Ans) : evFn Tryz.prog GT EQT (inl Tryz.prog GT EQT XT [51] T_proj_Line 80 2) XT (orL L_track_Path_0 noL) 80 33 [.v (.agg [.str a0.name, .int .i64 a0.ra, .int .i64 a0.dec]), .v (.c (.d (.int .i64 a1))), .v (.c (.d (.int .i64 a2))), .v (.c (.d (.int .i64 a3)))] [] (fun v M => K (finR 0 v M).1 (finR 0 v M).2) = F_track_Path a0 a1 a2 a3 K (m_track_Path a0 a1 a2 a3) := by
  unfold m_track_Path
  refine Eq.trans ?_ (Eq.symm (pushT rfl (pushT rfl (pushT rfl (pushT rfl (pushT rfl (pushT rfl (pushT rfl (pushT rfl (pushT rfl (pushT (pushT rfl (pushT rfl rfl)) rfl)))))))))))
  kernel_rfl

set_option maxRecDepth 100000 in
theorem lok_track_Path : ∀ fn c, Tryz.prog.funcs[33]? = some fn → fn.body = some c → LOKn Tryz.prog GT gbT 0 (orL L_track_Path_0 noL) (loopsIn c) := by
  refine LOKn.ofF fun b hb => ?_
  have e : loopsF Tryz.prog 33 = [loopB Tryz.prog 33 0] := by kernel_rfl
  rw [e] at hb
  simp only [List.mem_cons, List.not_mem_nil, or_false] at hb
  subst hb
  exact (LOKbn.or k_track_Path_0 (fun _ _ _ _ _ _ _ h => h.elim))


theorem c_track_Path (a0 : Source) (a1 : Int) (a2 : Int) (a3 : Int) (hd : (m_track_Path a0 a1 a2 a3).ok = true) : CallsA Tryz.prog GT gbT 33 [.v (.agg [.str a0.name, .int .i64 a0.ra, .int .i64 a0.dec]), .v (.c (.d (.int .i64 a1))), .v (.c (.d (.int .i64 a2))), .v (.c (.d (.int .i64 a3)))] [] (.tup [.c (.aslice 0 none), .c (.d (.int .i64 ((m_track_Path a0 a1 a2 a3).r1)))]) [.arr (some 34) .dir ((m_track_Path a0 a1 a2 a3).r0)] := by
  refine CallsA.ofEvR (g_proj_Line.inl hEQT hmT (fun f hf => by simp only [List.mem_cons, List.not_mem_nil, or_false] at hf; subst hf; exact (fun args w => Tryz.call51 args w)) 80 2) hEQT hmT (n0 := 0) rfl lok_track_Path ((e_track_Path a0 a1 a2 a3 (fun v M => some (Res.fin v M))).trans ?_)
  unfold F_track_Path
  rw [hd]
  rfl

def s_track_Path : List AV → List Blk → (AV → List Blk → Ans) → Ans := fun xs bs K => match xs, bs with
  | [.v (.agg [.str a0_0, .int .i64 a0_1, .int .i64 a0_2]), .v (.c (.d (.int .i64 a1))), .v (.c (.d (.int .i64 a2))), .v (.c (.d (.int .i64 a3)))], [] => F_track_Path (⟨a0_0, a0_1, a0_2⟩ : Source) a1 a2 a3 K (m_track_Path (⟨a0_0, a0_1, a0_2⟩ : Source) a1 a2 a3)
  | _, _ => none

def T_track_Path : Nat → List AV → List Blk → (AV → List Blk → Ans) → Ans := upd T_proj_Line 33 s_track_Path

theorem g_track_Path : GOK Tryz.prog GT gbT T_track_Path XT := by
  refine GOK.upd g_proj_Line (fun args w => Tryz.call33 args w) fun xs bs K r h => ?_
  unfold s_track_Path at h
  split at h
  · unfold F_track_Path at h
    simp only [cond_eq_ite] at h
    split at h
    · rename_i hd
      exact ⟨_, _, c_track_Path _ _ _ _ hd, h⟩
    · cases h
  · cases h

structure R_proj_Trail_0 where
  k : Nat
  p52 : Int
  m4 : List Trk

def run_proj_Trail_0 (p5 : Int) (p6 : Int) (p17 : Int) (p51 : Int) (m0 : List Site) (q1 : Source) (m2 : List Trk) (q3 : Vec) : Nat → Int → List Trk → R_proj_Trail_0
  | 0, p52, m4 => ⟨2, p52, m4⟩
  | n + 1, p52, m4 => bif decide (p52 < p51) then (bif ((projV q3 q1 (w64 (p5 + (w64 (p52 * p6))))).2 != (0 : Int)) then ⟨0, p52, m4⟩ else (bif (decide ((0 : Int) ≤ p52) && decide (p52 < (m4.length : Int))) then run_proj_Trail_0 p5 p6 p17 p51 m0 q1 m2 q3 n (w64 (p52 + (1 : Int))) (m4.set p52.toNat ⟨(w64 (p5 + (w64 (p52 * p6)))), ((projV q3 q1 (w64 (p5 + (w64 (p52 * p6))))).1).x, ((projV q3 q1 (w64 (p5 + (w64 (p52 * p6))))).1).y, ((projV q3 q1 (w64 (p5 + (w64 (p52 * p6))))).1).z⟩) else ⟨2, p52, m4⟩)) else ⟨1, p52, m4⟩

def lp_proj_Trail_0 (p5 : Int) (p6 : Int) (p17 : Int) (p51 : Int) (m0 : List Site) (q1 : Source) (m2 : List Trk) (q3 : Vec) (p52 : Int) (m4 : List Trk) : R_proj_Trail_0 := run_proj_Trail_0 p5 p6 p17 p51 m0 q1 m2 q3 (2000 + (m0.length + m2.length + m4.length)) p52 m4

abbrev H_proj_Trail_0 (p5 : Int) (p6 : Int) (p17 : Int) (p51 : Int) (m0 : List Site) (q1 : Source) (m2 : List Trk) (q3 : Vec) (p52 : Int) (m4 : List Trk) : TS := headT [5, 6, 12, 16, 17, 18, 22, 51, 52] 83 [.v (.c (.d (.int .i64 p5))), .v (.c (.d (.int .i64 p6))), .v (.c (.ptr 1 0)), .v (.c (.aslice 2 none)), .v (.c (.d (.int .i64 p17))), .v (.c (.ptr 3 0)), .v (.c (.aslice 4 none)), .v (.c (.d (.int .i64 p51))), .v (.c (.d (.int .i64 p52)))]

set_option maxRecDepth 100000 in
theorem b_proj_Trail_0 (p5 : Int) (p6 : Int) (p17 : Int) (p51 : Int) (m0 : List Site) (q1 : Source) (m2 : List Trk) (q3 : Vec) (p52 : Int) (m4 : List Trk) : evCode Tryz.prog GT EQT T_track_Path XT noL 80 (loopB Tryz.prog 14 0) (H_proj_Trail_0 p5 p6 p17 p51 m0 q1 m2 q3 p52 m4) [.arr none .site m0, .rw 26 [.str q1.name, .int .i64 q1.ra, .int .i64 q1.dec], .arr (some 84) .trk m2, .rw 62 [.int .i64 q3.x.num, .int .i64 q3.x.den, .int .i64 q3.y.num, .int .i64 q3.y.den, .int .i64 q3.z.num, .int .i64 q3.z.den], .arr (some 84) .trk m4] 5 (normK 1 [5, 6, 12, 16, 17, 18, 22, 51, 52]) =
    bif decide (p52 < p51) then (bif ((projV q3 q1 (w64 (p5 + (w64 (p52 * p6))))).2 != (0 : Int)) then some (.st .ret (headT [5, 6, 12, 16, 17, 18, 22, 51, 52] 83 [.v (.c (.d (.int .i64 p5))), .v (.c (.d (.int .i64 p6))), .v (.c (.ptr 1 0)), .v (.c (.aslice 2 none)), .v (.c (.d (.int .i64 ((projV q3 q1 (w64 (p5 + (w64 (p52 * p6))))).2)))), .v (.c (.ptr 3 0)), .v (.c (.aslice 4 none)), .v (.c (.d (.int .i64 p51))), .v (.c (.d (.int .i64 p52)))]) [.arr none .site m0, .rw 26 [.str q1.name, .int .i64 q1.ra, .int .i64 q1.dec], .arr (some 84) .trk ([] : List Trk), .rw 62 [.int .i64 q3.x.num, .int .i64 q3.x.den, .int .i64 q3.y.num, .int .i64 q3.y.den, .int .i64 q3.z.num, .int .i64 q3.z.den], .arr (some 84) .trk m4] 5) else (bif (decide ((0 : Int) ≤ p52) && decide (p52 < (m4.length : Int))) then some (.st .normal (headT [5, 6, 12, 16, 17, 18, 22, 51, 52] 83 [.v (.c (.d (.int .i64 p5))), .v (.c (.d (.int .i64 p6))), .v (.c (.ptr 1 0)), .v (.c (.aslice 2 none)), .v (.c (.d (.int .i64 p17))), .v (.c (.ptr 3 0)), .v (.c (.aslice 4 none)), .v (.c (.d (.int .i64 p51))), .v (.c (.d (.int .i64 (w64 (p52 + (1 : Int))))))]) [.arr none .site m0, .rw 26 [.str q1.name, .int .i64 q1.ra, .int .i64 q1.dec], .arr (some 84) .trk m2, .rw 62 [.int .i64 q3.x.num, .int .i64 q3.x.den, .int .i64 q3.y.num, .int .i64 q3.y.den, .int .i64 q3.z.num, .int .i64 q3.z.den], .arr (some 84) .trk (m4.set p52.toNat ⟨(w64 (p5 + (w64 (p52 * p6)))), ((projV q3 q1 (w64 (p5 + (w64 (p52 * p6))))).1).x, ((projV q3 q1 (w64 (p5 + (w64 (p52 * p6))))).1).y, ((projV q3 q1 (w64 (p5 + (w64 (p52 * p6))))).1).z⟩)] 5) else none)) else some (.st (.exit 0) (headT [5, 6, 12, 16, 17, 18, 22, 51, 52] 83 [.v (.c (.d (.int .i64 p5))), .v (.c (.d (.int .i64 p6))), .v (.c (.ptr 1 0)), .v (.c (.aslice 2 none)), .v (.c (.d (.int .i64 p17))), .v (.c (.ptr 3 0)), .v (.c (.aslice 4 none)), .v (.c (.d (.int .i64 p51))), .v (.c (.d (.int .i64 p52)))]) [.arr none .site m0, .rw 26 [.str q1.name, .int .i64 q1.ra, .int .i64 q1.dec], .arr (some 84) .trk m2, .rw 62 [.int .i64 q3.x.num, .int .i64 q3.x.den, .int .i64 q3.y.num, .int .i64 q3.y.den, .int .i64 q3.z.num, .int .i64 q3.z.den], .arr (some 84) .trk m4] 5) := by
  kernel_rfl

def o_proj_Trail_0 (p5 : Int) (p6 : Int) (p17 : Int) (p51 : Int) (m0 : List Site) (q1 : Source) (m2 : List Trk) (q3 : Vec) (r : R_proj_Trail_0) : LT := .br (Nat.beq r.k 0) (.st .ret (headT [5, 6, 12, 16, 17, 18, 22, 51, 52] 83 [.v (.c (.d (.int .i64 p5))), .v (.c (.d (.int .i64 p6))), .v (.c (.ptr 1 0)), .v (.c (.aslice 2 none)), .v (.c (.d (.int .i64 ((projV q3 q1 (w64 (p5 + (w64 (r.p52 * p6))))).2)))), .v (.c (.ptr 3 0)), .v (.c (.aslice 4 none)), .v (.c (.d (.int .i64 p51))), .v (.c (.d (.int .i64 r.p52)))]) [.arr none .site m0, .rw 26 [.str q1.name, .int .i64 q1.ra, .int .i64 q1.dec], .arr (some 84) .trk ([] : List Trk), .rw 62 [.int .i64 q3.x.num, .int .i64 q3.x.den, .int .i64 q3.y.num, .int .i64 q3.y.den, .int .i64 q3.z.num, .int .i64 q3.z.den], .arr (some 84) .trk r.m4] 5) (.br (Nat.beq r.k 1) (.st (.exit 0) (headT [5, 6, 12, 16, 17, 18, 22, 51, 52] 83 [.v (.c (.d (.int .i64 p5))), .v (.c (.d (.int .i64 p6))), .v (.c (.ptr 1 0)), .v (.c (.aslice 2 none)), .v (.c (.d (.int .i64 p17))), .v (.c (.ptr 3 0)), .v (.c (.aslice 4 none)), .v (.c (.d (.int .i64 p51))), .v (.c (.d (.int .i64 r.p52)))]) [.arr none .site m0, .rw 26 [.str q1.name, .int .i64 q1.ra, .int .i64 q1.dec], .arr (some 84) .trk m2, .rw 62 [.int .i64 q3.x.num, .int .i64 q3.x.den, .int .i64 q3.y.num, .int .i64 q3.y.den, .int .i64 q3.z.num, .int .i64 q3.z.den], .arr (some 84) .trk r.m4] 5) (.no))

set_option maxRecDepth 100000 in
theorem r_proj_Trail_0 (p5 : Int) (p6 : Int) (p17 : Int) (p51 : Int) (m0 : List Site) (q1 : Source) (m2 : List Trk) (q3 : Vec) : ∀ (n : Nat) (p52 : Int) (m4 : List Trk) (x : Ex) (T' : TS) (M' : List Blk) (N' : Nat), LReach (o_proj_Trail_0 p5 p6 p17 p51 m0 q1 m2 q3 (run_proj_Trail_0 p5 p6 p17 p51 m0 q1 m2 q3 n p52 m4)) x T' M' N' → x ≠ .normal ∧ ∃ j, RoundsN Tryz.prog GT gbT 1 (loopB Tryz.prog 14 0) j (H_proj_Trail_0 p5 p6 p17 p51 m0 q1 m2 q3 p52 m4) [.arr none .site m0, .rw 26 [.str q1.name, .int .i64 q1.ra, .int .i64 q1.dec], .arr (some 84) .trk m2, .rw 62 [.int .i64 q3.x.num, .int .i64 q3.x.den, .int .i64 q3.y.num, .int .i64 q3.y.den, .int .i64 q3.z.num, .int .i64 q3.z.den], .arr (some 84) .trk m4] 5 x T' M' N' := by
  have hL : LOKn Tryz.prog GT gbT 1 noL (loopsIn (loopB Tryz.prog 14 0)) := fun _ _ _ _ _ _ _ _ _ h => h.elim
  intro n
  induction n with
  | zero =>
    intro p52 m4 x T' M' N' hr
    exact False.elim (redF (redF hr))
  | succ n ih =>
    intro p52 m4 x T' M' N'
    rw [run_proj_Trail_0]
    exact viaE (b_proj_Trail_0 p5 p6 p17 p51 m0 q1 m2 q3 p52 m4) (condG (o := o_proj_Trail_0 p5 p6 p17 p51 m0 q1 m2 q3) (condG (o := o_proj_Trail_0 p5 p6 p17 p51 m0 q1 m2 q3) (fun he hr => stopN g_track_Path hEQT hmT hL he (by simp) (redT hr)) (condG (o := o_proj_Trail_0 p5 p6 p17 p51 m0 q1 m2 q3) (fun he hr => goN g_track_Path hEQT hmT hL he (ih (w64 (p52 + (1 : Int))) (m4.set p52.toNat ⟨(w64 (p5 + (w64 (p52 * p6)))), ((projV q3 q1 (w64 (p5 + (w64 (p52 * p6))))).1).x, ((projV q3 q1 (w64 (p5 + (w64 (p52 * p6))))).1).y, ((projV q3 q1 (w64 (p5 + (w64 (p52 * p6))))).1).z⟩) x T' M' N' hr)) (fun _ hr => False.elim (redF (redF hr))))) (fun he hr => stopN g_track_Path hEQT hmT hL he (by simp) (redT (redF hr))))

def f_proj_Trail_0 : List AV → List Blk → LT := fun vs Ms => match vs, Ms with
  | [.v (.c (.d (.int .i64 p5))), .v (.c (.d (.int .i64 p6))), .v (.c (.ptr 1 0)), .v (.c (.aslice 2 none)), .v (.c (.d (.int .i64 p17))), .v (.c (.ptr 3 0)), .v (.c (.aslice 4 none)), .v (.c (.d (.int .i64 p51))), .v (.c (.d (.int .i64 p52)))], [.arr none .site m0, .rw 26 [.str q1_0, .int .i64 q1_1, .int .i64 q1_2], .arr (some 84) .trk m2, .rw 62 [.int .i64 q3_0, .int .i64 q3_1, .int .i64 q3_2, .int .i64 q3_3, .int .i64 q3_4, .int .i64 q3_5], .arr (some 84) .trk m4] => o_proj_Trail_0 p5 p6 p17 p51 m0 (⟨q1_0, q1_1, q1_2⟩ : Source) m2 (⟨⟨q3_0, q3_1⟩, ⟨q3_2, q3_3⟩, ⟨q3_4, q3_5⟩⟩ : Vec) (lp_proj_Trail_0 p5 p6 p17 p51 m0 (⟨q1_0, q1_1, q1_2⟩ : Source) m2 (⟨⟨q3_0, q3_1⟩, ⟨q3_2, q3_3⟩, ⟨q3_4, q3_5⟩⟩ : Vec) p52 m4)
  | _, _ => .no

def L_proj_Trail_0 := LamN 9 83 1 [5, 6, 12, 16, 17, 18, 22, 51, 52] f_proj_Trail_0

set_option maxRecDepth 100000 in
theorem k_proj_Trail_0 : LOKbn Tryz.prog GT gbT 1 L_proj_Trail_0 (loopB Tryz.prog 14 0) := by
  refine LOKbn.lamN (by kernel_rfl) fun vs Ms x T' M' N' hr => ?_
  unfold f_proj_Trail_0 at hr
  split at hr
  · obtain ⟨q1, j, q2⟩ := r_proj_Trail_0 _ _ _ _ _ _ _ _ _ _ _ x T' M' N' hr
    exact ⟨q1, j, q2⟩
  · exact hr.elim

structure O_proj_Trail where
  ok : Bool
  r0 : List Trk
  r1 : Int

def m_proj_Trail (a0 : Globe) (a1 : List Site) (a2 : Int) (a3 : Int) (a4 : Source) (a5 : Int) (a6 : Int) (a7 : Int) : O_proj_Trail := bif (m_array_Line a0 a1 a2 a3).ok then (bif ((m_array_Line a0 a1 a2 a3).r1 != (0 : Int)) then ⟨true, ([] : List Trk), (m_array_Line a0 a1 a2 a3).r1⟩ else (bif (m_track_Path a4 a5 a6 a7).ok then (bif ((m_track_Path a4 a5 a6 a7).r1 != (0 : Int)) then ⟨true, ([] : List Trk), (m_track_Path a4 a5 a6 a7).r1⟩ else (bif (decide (a7 = a7) && (decide (0 ≤ a7) && (decide (a7 ≤ 1048576) && ((7 == 7) && (Nat.blt 0 7 && Nat.ble 56 4096))))) then (bif Nat.beq (lp_proj_Trail_0 a5 a6 (0 : Int) a7 a1 a4 ([] : List Trk) ((m_array_Line a0 a1 a2 a3).r0) (0 : Int) (List.replicate a7.toNat (⟨(0 : Int), ⟨(0 : Int), (0 : Int)⟩, ⟨(0 : Int), (0 : Int)⟩, ⟨(0 : Int), (0 : Int)⟩⟩ : Trk))).k 0 then ⟨true, ([] : List Trk), (projV ((m_array_Line a0 a1 a2 a3).r0) a4 (w64 (a5 + (w64 (((lp_proj_Trail_0 a5 a6 (0 : Int) a7 a1 a4 ([] : List Trk) ((m_array_Line a0 a1 a2 a3).r0) (0 : Int) (List.replicate a7.toNat (⟨(0 : Int), ⟨(0 : Int), (0 : Int)⟩, ⟨(0 : Int), (0 : Int)⟩, ⟨(0 : Int), (0 : Int)⟩⟩ : Trk))).p52) * a6))))).2⟩ else (bif Nat.beq (lp_proj_Trail_0 a5 a6 (0 : Int) a7 a1 a4 ([] : List Trk) ((m_array_Line a0 a1 a2 a3).r0) (0 : Int) (List.replicate a7.toNat (⟨(0 : Int), ⟨(0 : Int), (0 : Int)⟩, ⟨(0 : Int), (0 : Int)⟩, ⟨(0 : Int), (0 : Int)⟩⟩ : Trk))).k 1 then ⟨true, ((lp_proj_Trail_0 a5 a6 (0 : Int) a7 a1 a4 ([] : List Trk) ((m_array_Line a0 a1 a2 a3).r0) (0 : Int) (List.replicate a7.toNat (⟨(0 : Int), ⟨(0 : Int), (0 : Int)⟩, ⟨(0 : Int), (0 : Int)⟩, ⟨(0 : Int), (0 : Int)⟩⟩ : Trk))).m4), (0 : Int)⟩ else ⟨false, [], 0⟩)) else ⟨false, [], 0⟩)) else ⟨false, [], 0⟩)) else ⟨false, [], 0⟩

def F_proj_Trail (a0 : Globe) (a1 : List Site) (a2 : Int) (a3 : Int) (a4 : Source) (a5 : Int) (a6 : Int) (a7 : Int) (K : AV → List Blk → Ans) (r : O_proj_Trail) : Ans := bif r.ok then K (.tup [.c (.aslice 1 none), .c (.d (.int .i64 r.r1))]) [.arr none .site a1, .arr (some 84) .trk r.r0] else none

set_option maxRecDepth 100000 in
theorem e_proj_Trail (a0 : Globe) (a1 : List Site) (a2 : Int) (a3 : Int) (a4 : Source) (a5 : Int) (a6 : Int) (a7 : Int) (K : AV → List Blk → Ans) : evFn Tryz.prog GT EQT T_track_Path XT (orL L_proj_Trail_0 noL) 80 14 [.v (.agg [.int .i64 a0.a, .int .i64 a0.b]), .v (.c (.aslice 0 none)), .v (.c (.d (.int .i64 a2))), .v (.c (.d (.int .i64 a3))), .v (.agg [.str a4.name, .int .i64 a4.ra, .int .i64 a4.dec]), .v (.c (.d (.int .i64 a5))), .v (.c (.d (.int .i64 a6))), .v (.c (.d (.int .i64 a7)))] [.arr none .site a1] (fun v M => K (finR 1 v M).1 (finR 1 v M).2) = F_proj_Trail a0 a1 a2 a3 a4 a5 a6 a7 K (m_proj_Trail a0 a1 a2 a3 a4 a5 a6 a7) := by
  unfold m_proj_Trail
  refine Eq.trans ?_ (Eq.symm (pushT (pushT rfl (pushT (pushT rfl (pushT (pushT rfl (pushT rfl rfl)) rfl)) rfl)) rfl))
  kernel_rfl

set_option maxRecDepth 100000 in
theorem lok_proj_Trail : ∀ fn c, Tryz.prog.funcs[14]? = some fn → fn.body = some c → LOKn Tryz.prog GT gbT 1 (orL L_proj_Trail_0 noL) (loopsIn c) := by
  refine LOKn.ofF fun b hb => ?_
  have e : loopsF Tryz.prog 14 = [loopB Tryz.prog 14 0] := by kernel_rfl
  rw [e] at hb
  simp only [List.mem_cons, List.not_mem_nil, or_false] at hb
  subst hb
  exact (LOKbn.or k_proj_Trail_0 (fun _ _ _ _ _ _ _ h => h.elim))


theorem c_proj_Trail (a0 : Globe) (a1 : List Site) (a2 : Int) (a3 : Int) (a4 : Source) (a5 : Int) (a6 : Int) (a7 : Int) (hd : (m_proj_Trail a0 a1 a2 a3 a4 a5 a6 a7).ok = true) : CallsA Tryz.prog GT gbT 14 [.v (.agg [.int .i64 a0.a, .int .i64 a0.b]), .v (.c (.aslice 0 none)), .v (.c (.d (.int .i64 a2))), .v (.c (.d (.int .i64 a3))), .v (.agg [.str a4.name, .int .i64 a4.ra, .int .i64 a4.dec]), .v (.c (.d (.int .i64 a5))), .v (.c (.d (.int .i64 a6))), .v (.c (.d (.int .i64 a7)))] [.arr none .site a1] (.tup [.c (.aslice 1 none), .c (.d (.int .i64 ((m_proj_Trail a0 a1 a2 a3 a4 a5 a6 a7).r1)))]) [.arr none .site a1, .arr (some 84) .trk ((m_proj_Trail a0 a1 a2 a3 a4 a5 a6 a7).r0)] := by
  refine CallsA.ofEvR g_track_Path hEQT hmT (n0 := 1) rfl lok_proj_Trail ((e_proj_Trail a0 a1 a2 a3 a4 a5 a6 a7 (fun v M => some (Res.fin v M))).trans ?_)
  unfold F_proj_Trail
  rw [hd]
  rfl

def s_proj_Trail : List AV → List Blk → (AV → List Blk → Ans) → Ans := fun xs bs K => match xs, bs with
  | [.v (.agg [.int .i64 a0_0, .int .i64 a0_1]), .v (.c (.aslice 0 none)), .v (.c (.d (.int .i64 a2))), .v (.c (.d (.int .i64 a3))), .v (.agg [.str a4_0, .int .i64 a4_1, .int .i64 a4_2]), .v (.c (.d (.int .i64 a5))), .v (.c (.d (.int .i64 a6))), .v (.c (.d (.int .i64 a7)))], [.arr none .site a1] => F_proj_Trail (⟨a0_0, a0_1⟩ : Globe) a1 a2 a3 (⟨a4_0, a4_1, a4_2⟩ : Source) a5 a6 a7 K (m_proj_Trail (⟨a0_0, a0_1⟩ : Globe) a1 a2 a3 (⟨a4_0, a4_1, a4_2⟩ : Source) a5 a6 a7)
  | _, _ => none

def T_proj_Trail : Nat → List AV → List Blk → (AV → List Blk → Ans) → Ans := upd T_track_Path 14 s_proj_Trail

theorem g_proj_Trail : GOK Tryz.prog GT gbT T_proj_Trail XT := by
  refine GOK.upd g_track_Path (fun args w => Tryz.call14 args w) fun xs bs K r h => ?_
  unfold s_proj_Trail at h
  split at h
  · unfold F_proj_Trail at h
    simp only [cond_eq_ite] at h
    split at h
    · rename_i hd
      exact ⟨_, _, c_proj_Trail _ _ _ _ _ _ _ _ hd, h⟩
    · cases h
  · cases h

structure O_Q4_Valid where
  ok : Bool
  r0 : Bool

def m_Q4_Valid (a0 : Site) : O_Q4_Valid := bif (namedB a0.name) then ⟨true, (placedB a0.s a0.t)⟩ else ⟨true, false⟩

def F_Q4_Valid (a0 : Site) (K : AV → List Blk → Ans) (r : O_Q4_Valid) : Ans := bif r.ok then K (.v (.c (.d (.bool r.r0)))) [] else none

set_option maxRecDepth 100000 in
theorem e_Q4_Valid (a0 : Site) (K : AV → List Blk → Ans) : evFn Tryz.prog GT EQT T_proj_Trail XT noL 80 19 [.v (.agg [.str a0.name, .int .i64 a0.s.num, .int .i64 a0.s.den, .int .i64 a0.t.num, .int .i64 a0.t.den])] [] (fun v M => K (finR 0 v M).1 (finR 0 v M).2) = F_Q4_Valid a0 K (m_Q4_Valid a0) := by
  unfold m_Q4_Valid
  refine Eq.trans ?_ (Eq.symm (pushT rfl rfl))
  kernel_rfl

theorem c_Q4_Valid (a0 : Site) (hd : (m_Q4_Valid a0).ok = true) : CallsA Tryz.prog GT gbT 19 [.v (.agg [.str a0.name, .int .i64 a0.s.num, .int .i64 a0.s.den, .int .i64 a0.t.num, .int .i64 a0.t.den])] [] (.v (.c (.d (.bool ((m_Q4_Valid a0).r0))))) [] := by
  refine CallsA.ofEvR g_proj_Trail hEQT hmT (n0 := 0) rfl (fun _ _ _ _ => LOKn.nil) ((e_Q4_Valid a0 (fun v M => some (Res.fin v M))).trans ?_)
  unfold F_Q4_Valid
  rw [hd]
  rfl

def s_Q4_Valid : List AV → List Blk → (AV → List Blk → Ans) → Ans := fun xs bs K => match xs, bs with
  | [.v (.agg [.str a0_0, .int .i64 a0_1, .int .i64 a0_2, .int .i64 a0_3, .int .i64 a0_4])], [] => F_Q4_Valid (⟨a0_0, ⟨a0_1, a0_2⟩, ⟨a0_3, a0_4⟩⟩ : Site) K (m_Q4_Valid (⟨a0_0, ⟨a0_1, a0_2⟩, ⟨a0_3, a0_4⟩⟩ : Site))
  | _, _ => none

def T_Q4_Valid : Nat → List AV → List Blk → (AV → List Blk → Ans) → Ans := upd T_proj_Trail 19 s_Q4_Valid

theorem g_Q4_Valid : GOK Tryz.prog GT gbT T_Q4_Valid XT := by
  refine GOK.upd g_proj_Trail (fun args w => Tryz.call19 args w) fun xs bs K r h => ?_
  unfold s_Q4_Valid at h
  split at h
  · unfold F_Q4_Valid at h
    simp only [cond_eq_ite] at h
    split at h
    · rename_i hd
      exact ⟨_, _, c_Q4_Valid _ hd, h⟩
    · cases h
  · cases h

end Go.Ev

namespace Go.Ev
open Go Go.Proofs

structure R_Q4_all_0 where
  k : Nat
  p6 : Int
  m2 : List Vec

def run_Q4_all_0 (m0 : List Site) (q1 : Globe) : Nat → Int → List Vec → R_Q4_all_0
  | 0, p6, m2 => ⟨1, p6, m2⟩
  | n + 1, p6, m2 => bif decide (p6 < (m0.length : Int)) then (bif (decide ((0 : Int) ≤ p6) && decide (p6 < (m0.length : Int))) then (bif (decide ((0 : Int) ≤ p6) && decide (p6 < (m0.length : Int))) then (bif (Nat.blt 0 6 && ((6 == 6) && ((6 == 6) && (Nat.ble (m2.length + ([placeR q1 ((m0.getD p6.toNat (ET.z .site)).s) ((m0.getD p6.toNat (ET.z .site)).t)] : List Vec).length) roomD && Nat.ble 48 4096)))) then run_Q4_all_0 m0 q1 n (w64 (p6 + (1 : Int))) (m2 ++ ([placeR q1 ((m0.getD p6.toNat (ET.z .site)).s) ((m0.getD p6.toNat (ET.z .site)).t)] : List Vec)) else ⟨1, p6, m2⟩) else ⟨1, p6, m2⟩) else ⟨1, p6, m2⟩) else ⟨0, p6, m2⟩

def lp_Q4_all_0 (m0 : List Site) (q1 : Globe) (p6 : Int) (m2 : List Vec) : R_Q4_all_0 := run_Q4_all_0 m0 q1 (2000 + (m0.length + m2.length)) p6 m2

abbrev H_Q4_all_0 (m0 : List Site) (q1 : Globe) (p6 : Int) (m2 : List Vec) : TS := headT [1, 2, 5, 6] 29 [.v (.c (.aslice 0 none)), .v (.c (.ptr 1 0)), .v (.c (.aslice 2 none)), .v (.c (.d (.int .i64 p6)))]

set_option maxRecDepth 100000 in
theorem b_Q4_all_0 (m0 : List Site) (q1 : Globe) (p6 : Int) (m2 : List Vec) : evCode Tryz.prog GT EQT T_Q4_Valid XT noL 80 (loopB Tryz.prog 20 0) (H_Q4_all_0 m0 q1 p6 m2) [.arr none .site m0, .rw 23 [.int .i64 q1.a, .int .i64 q1.b], .arr (some 62) .vec m2] 3 (normK 1 [1, 2, 5, 6]) =
    bif decide (p6 < (m0.length : Int)) then (bif (decide ((0 : Int) ≤ p6) && decide (p6 < (m0.length : Int))) then (bif (decide ((0 : Int) ≤ p6) && decide (p6 < (m0.length : Int))) then (bif (Nat.blt 0 6 && ((6 == 6) && ((6 == 6) && (Nat.ble (m2.length + ([placeR q1 ((m0.getD p6.toNat (ET.z .site)).s) ((m0.getD p6.toNat (ET.z .site)).t)] : List Vec).length) roomD && Nat.ble 48 4096)))) then some (.st .normal (headT [1, 2, 5, 6] 29 [.v (.c (.aslice 0 none)), .v (.c (.ptr 1 0)), .v (.c (.aslice 2 none)), .v (.c (.d (.int .i64 (w64 (p6 + (1 : Int))))))]) [.arr none .site m0, .rw 23 [.int .i64 q1.a, .int .i64 q1.b], .arr (some 62) .vec (m2 ++ ([placeR q1 ((m0.getD p6.toNat (ET.z .site)).s) ((m0.getD p6.toNat (ET.z .site)).t)] : List Vec))] 3) else none) else none) else none) else some (.st (.exit 0) (headT [1, 2, 5, 6] 29 [.v (.c (.aslice 0 none)), .v (.c (.ptr 1 0)), .v (.c (.aslice 2 none)), .v (.c (.d (.int .i64 p6)))]) [.arr none .site m0, .rw 23 [.int .i64 q1.a, .int .i64 q1.b], .arr (some 62) .vec m2] 3) := by
  kernel_rfl

def o_Q4_all_0 (m0 : List Site) (q1 : Globe) (r : R_Q4_all_0) : LT := .br (Nat.beq r.k 0) (.st (.exit 0) (headT [1, 2, 5, 6] 29 [.v (.c (.aslice 0 none)), .v (.c (.ptr 1 0)), .v (.c (.aslice 2 none)), .v (.c (.d (.int .i64 r.p6)))]) [.arr none .site m0, .rw 23 [.int .i64 q1.a, .int .i64 q1.b], .arr (some 62) .vec r.m2] 3) (.no)

set_option maxRecDepth 100000 in
theorem r_Q4_all_0 (m0 : List Site) (q1 : Globe) : ∀ (n : Nat) (p6 : Int) (m2 : List Vec) (x : Ex) (T' : TS) (M' : List Blk) (N' : Nat), LReach (o_Q4_all_0 m0 q1 (run_Q4_all_0 m0 q1 n p6 m2)) x T' M' N' → x ≠ .normal ∧ ∃ j, RoundsN Tryz.prog GT gbT 1 (loopB Tryz.prog 20 0) j (H_Q4_all_0 m0 q1 p6 m2) [.arr none .site m0, .rw 23 [.int .i64 q1.a, .int .i64 q1.b], .arr (some 62) .vec m2] 3 x T' M' N' := by
  have hL : LOKn Tryz.prog GT gbT 1 noL (loopsIn (loopB Tryz.prog 20 0)) := fun _ _ _ _ _ _ _ _ _ h => h.elim
  intro n
  induction n with
  | zero =>
    intro p6 m2 x T' M' N' hr
    exact False.elim (redF hr)
  | succ n ih =>
    intro p6 m2 x T' M' N'
    rw [run_Q4_all_0]
    exact viaE (b_Q4_all_0 m0 q1 p6 m2) (condG (o := o_Q4_all_0 m0 q1) (condG (o := o_Q4_all_0 m0 q1) (condG (o := o_Q4_all_0 m0 q1) (condG (o := o_Q4_all_0 m0 q1) (fun he hr => goN g_Q4_Valid hEQT hmT hL he (ih (w64 (p6 + (1 : Int))) (m2 ++ ([placeR q1 ((m0.getD p6.toNat (ET.z .site)).s) ((m0.getD p6.toNat (ET.z .site)).t)] : List Vec)) x T' M' N' hr)) (fun _ hr => False.elim (redF hr))) (fun _ hr => False.elim (redF hr))) (fun _ hr => False.elim (redF hr))) (fun he hr => stopN g_Q4_Valid hEQT hmT hL he (by simp) (redT hr)))

def f_Q4_all_0 : List AV → List Blk → LT := fun vs Ms => match vs, Ms with
  | [.v (.c (.aslice 0 none)), .v (.c (.ptr 1 0)), .v (.c (.aslice 2 none)), .v (.c (.d (.int .i64 p6)))], [.arr none .site m0, .rw 23 [.int .i64 q1_0, .int .i64 q1_1], .arr (some 62) .vec m2] => o_Q4_all_0 m0 (⟨q1_0, q1_1⟩ : Globe) (lp_Q4_all_0 m0 (⟨q1_0, q1_1⟩ : Globe) p6 m2)
  | _, _ => .no

def L_Q4_all_0 := LamN 3 29 1 [1, 2, 5, 6] f_Q4_all_0

set_option maxRecDepth 100000 in
theorem k_Q4_all_0 : LOKbn Tryz.prog GT gbT 1 L_Q4_all_0 (loopB Tryz.prog 20 0) := by
  refine LOKbn.lamN (by kernel_rfl) fun vs Ms x T' M' N' hr => ?_
  unfold f_Q4_all_0 at hr
  split at hr
  · obtain ⟨q1, j, q2⟩ := r_Q4_all_0 _ _ _ _ _ x T' M' N' hr
    exact ⟨q1, j, q2⟩
  · exact hr.elim

structure O_Q4_all where
  ok : Bool
  r0 : List Vec

def m_Q4_all (a0 : Globe) (a1 : List Site) : O_Q4_all := bif Nat.beq (lp_Q4_all_0 a1 a0 (0 : Int) ([] : List Vec)).k 0 then ⟨true, ((lp_Q4_all_0 a1 a0 (0 : Int) ([] : List Vec)).m2)⟩ else ⟨false, []⟩

def F_Q4_all (a0 : Globe) (a1 : List Site) (K : AV → List Blk → Ans) (r : O_Q4_all) : Ans := bif r.ok then K (.v (.c (.aslice 1 none))) [.arr none .site a1, .arr (some 62) .vec r.r0] else none

set_option maxRecDepth 100000 in
theorem e_Q4_all (a0 : Globe) (a1 : List Site) (K : AV → List Blk → Ans) : evFn Tryz.prog GT EQT T_Q4_Valid XT (orL L_Q4_all_0 noL) 80 20 [.v (.agg [.int .i64 a0.a, .int .i64 a0.b]), .v (.c (.aslice 0 none))] [.arr none .site a1] (fun v M => K (finR 1 v M).1 (finR 1 v M).2) = F_Q4_all a0 a1 K (m_Q4_all a0 a1) := by
  unfold m_Q4_all
  refine Eq.trans ?_ (Eq.symm (pushT rfl rfl))
  kernel_rfl

set_option maxRecDepth 100000 in
theorem lok_Q4_all : ∀ fn c, Tryz.prog.funcs[20]? = some fn → fn.body = some c → LOKn Tryz.prog GT gbT 1 (orL L_Q4_all_0 noL) (loopsIn c) := by
  refine LOKn.ofF fun b hb => ?_
  have e : loopsF Tryz.prog 20 = [loopB Tryz.prog 20 0] := by kernel_rfl
  rw [e] at hb
  simp only [List.mem_cons, List.not_mem_nil, or_false] at hb
  subst hb
  exact (LOKbn.or k_Q4_all_0 (fun _ _ _ _ _ _ _ h => h.elim))


theorem c_Q4_all (a0 : Globe) (a1 : List Site) (hd : (m_Q4_all a0 a1).ok = true) : CallsA Tryz.prog GT gbT 20 [.v (.agg [.int .i64 a0.a, .int .i64 a0.b]), .v (.c (.aslice 0 none))] [.arr none .site a1] (.v (.c (.aslice 1 none))) [.arr none .site a1, .arr (some 62) .vec ((m_Q4_all a0 a1).r0)] := by
  refine CallsA.ofEvR g_Q4_Valid hEQT hmT (n0 := 1) rfl lok_Q4_all ((e_Q4_all a0 a1 (fun v M => some (Res.fin v M))).trans ?_)
  unfold F_Q4_all
  rw [hd]
  rfl

def s_Q4_all : List AV → List Blk → (AV → List Blk → Ans) → Ans := fun xs bs K => match xs, bs with
  | [.v (.agg [.int .i64 a0_0, .int .i64 a0_1]), .v (.c (.aslice 0 none))], [.arr none .site a1] => F_Q4_all (⟨a0_0, a0_1⟩ : Globe) a1 K (m_Q4_all (⟨a0_0, a0_1⟩ : Globe) a1)
  | _, _ => none

def T_Q4_all : Nat → List AV → List Blk → (AV → List Blk → Ans) → Ans := upd T_Q4_Valid 20 s_Q4_all

theorem g_Q4_all : GOK Tryz.prog GT gbT T_Q4_all XT := by
  refine GOK.upd g_Q4_Valid (fun args w => Tryz.call20 args w) fun xs bs K r h => ?_
  unfold s_Q4_all at h
  split at h
  · unfold F_Q4_all at h
    simp only [cond_eq_ite] at h
    split at h
    · rename_i hd
      exact ⟨_, _, c_Q4_all _ _ hd, h⟩
    · cases h
  · cases h

structure R_Q4_Check_0 where
  k : Nat
  p5 : Int

def run_Q4_Check_0 (p4 : Int) (m0 : List Site) (q1 : Globe) : Nat → Int → R_Q4_Check_0
  | 0, p5 => ⟨2, p5⟩
  | n + 1, p5 => bif decide (p5 < (m0.length : Int)) then (bif (decide ((0 : Int) ≤ p5) && decide (p5 < (m0.length : Int))) then (bif (m_Q4_Valid (m0.getD p5.toNat (ET.z .site))).ok then (bif (!(m_Q4_Valid (m0.getD p5.toNat (ET.z .site))).r0) then ⟨0, p5⟩ else run_Q4_Check_0 p4 m0 q1 n (w64 (p5 + (1 : Int)))) else ⟨2, p5⟩) else ⟨2, p5⟩) else ⟨1, p5⟩

def lp_Q4_Check_0 (p4 : Int) (m0 : List Site) (q1 : Globe) (p5 : Int) : R_Q4_Check_0 := run_Q4_Check_0 p4 m0 q1 (2000 + (m0.length)) p5

abbrev H_Q4_Check_0 (p4 : Int) (m0 : List Site) (q1 : Globe) (p5 : Int) : TS := headT [1, 2, 4, 5] 65 [.v (.c (.aslice 0 none)), .v (.c (.ptr 1 0)), .v (.c (.d (.int .i64 p4))), .v (.c (.d (.int .i64 p5)))]

set_option maxRecDepth 100000 in
theorem b_Q4_Check_0 (p4 : Int) (m0 : List Site) (q1 : Globe) (p5 : Int) : evCode Tryz.prog GT EQT T_Q4_all XT noL 80 (loopB Tryz.prog 6 0) (H_Q4_Check_0 p4 m0 q1 p5) [.arr none .site m0, .rw 23 [.int .i64 q1.a, .int .i64 q1.b]] 2 (normK 1 [1, 2, 4, 5]) =
    bif decide (p5 < (m0.length : Int)) then (bif (decide ((0 : Int) ≤ p5) && decide (p5 < (m0.length : Int))) then (bif (m_Q4_Valid (m0.getD p5.toNat (ET.z .site))).ok then (bif (!(m_Q4_Valid (m0.getD p5.toNat (ET.z .site))).r0) then some (.st .ret (headT [1, 2, 4, 5] 65 [.v (.c (.aslice 0 none)), .v (.c (.ptr 1 0)), .v (.c (.d (.int .i64 (8 : Int)))), .v (.c (.d (.int .i64 p5)))]) [.arr none .site m0, .rw 23 [.int .i64 q1.a, .int .i64 q1.b]] 2) else some (.st .normal (headT [1, 2, 4, 5] 65 [.v (.c (.aslice 0 none)), .v (.c (.ptr 1 0)), .v (.c (.d (.int .i64 p4))), .v (.c (.d (.int .i64 (w64 (p5 + (1 : Int))))))]) [.arr none .site m0, .rw 23 [.int .i64 q1.a, .int .i64 q1.b]] 2)) else none) else none) else some (.st (.exit 0) (headT [1, 2, 4, 5] 65 [.v (.c (.aslice 0 none)), .v (.c (.ptr 1 0)), .v (.c (.d (.int .i64 p4))), .v (.c (.d (.int .i64 p5)))]) [.arr none .site m0, .rw 23 [.int .i64 q1.a, .int .i64 q1.b]] 2) := by
  kernel_rfl

def o_Q4_Check_0 (p4 : Int) (m0 : List Site) (q1 : Globe) (r : R_Q4_Check_0) : LT := .br (Nat.beq r.k 0) (.st .ret (headT [1, 2, 4, 5] 65 [.v (.c (.aslice 0 none)), .v (.c (.ptr 1 0)), .v (.c (.d (.int .i64 (8 : Int)))), .v (.c (.d (.int .i64 r.p5)))]) [.arr none .site m0, .rw 23 [.int .i64 q1.a, .int .i64 q1.b]] 2) (.br (Nat.beq r.k 1) (.st (.exit 0) (headT [1, 2, 4, 5] 65 [.v (.c (.aslice 0 none)), .v (.c (.ptr 1 0)), .v (.c (.d (.int .i64 p4))), .v (.c (.d (.int .i64 r.p5)))]) [.arr none .site m0, .rw 23 [.int .i64 q1.a, .int .i64 q1.b]] 2) (.no))

set_option maxRecDepth 100000 in
theorem r_Q4_Check_0 (p4 : Int) (m0 : List Site) (q1 : Globe) : ∀ (n : Nat) (p5 : Int) (x : Ex) (T' : TS) (M' : List Blk) (N' : Nat), LReach (o_Q4_Check_0 p4 m0 q1 (run_Q4_Check_0 p4 m0 q1 n p5)) x T' M' N' → x ≠ .normal ∧ ∃ j, RoundsN Tryz.prog GT gbT 1 (loopB Tryz.prog 6 0) j (H_Q4_Check_0 p4 m0 q1 p5) [.arr none .site m0, .rw 23 [.int .i64 q1.a, .int .i64 q1.b]] 2 x T' M' N' := by
  have hL : LOKn Tryz.prog GT gbT 1 noL (loopsIn (loopB Tryz.prog 6 0)) := fun _ _ _ _ _ _ _ _ _ h => h.elim
  intro n
  induction n with
  | zero =>
    intro p5 x T' M' N' hr
    exact False.elim (redF (redF hr))
  | succ n ih =>
    intro p5 x T' M' N'
    rw [run_Q4_Check_0]
    exact viaE (b_Q4_Check_0 p4 m0 q1 p5) (condG (o := o_Q4_Check_0 p4 m0 q1) (condG (o := o_Q4_Check_0 p4 m0 q1) (condG (o := o_Q4_Check_0 p4 m0 q1) (condG (o := o_Q4_Check_0 p4 m0 q1) (fun he hr => stopN g_Q4_all hEQT hmT hL he (by simp) (redT hr)) (fun he hr => goN g_Q4_all hEQT hmT hL he (ih (w64 (p5 + (1 : Int))) x T' M' N' hr))) (fun _ hr => False.elim (redF (redF hr)))) (fun _ hr => False.elim (redF (redF hr)))) (fun he hr => stopN g_Q4_all hEQT hmT hL he (by simp) (redT (redF hr))))

def f_Q4_Check_0 : List AV → List Blk → LT := fun vs Ms => match vs, Ms with
  | [.v (.c (.aslice 0 none)), .v (.c (.ptr 1 0)), .v (.c (.d (.int .i64 p4))), .v (.c (.d (.int .i64 p5)))], [.arr none .site m0, .rw 23 [.int .i64 q1_0, .int .i64 q1_1]] => o_Q4_Check_0 p4 m0 (⟨q1_0, q1_1⟩ : Globe) (lp_Q4_Check_0 p4 m0 (⟨q1_0, q1_1⟩ : Globe) p5)
  | _, _ => .no

def L_Q4_Check_0 := LamN 6 65 1 [1, 2, 4, 5] f_Q4_Check_0

set_option maxRecDepth 100000 in
theorem k_Q4_Check_0 : LOKbn Tryz.prog GT gbT 1 L_Q4_Check_0 (loopB Tryz.prog 6 0) := by
  refine LOKbn.lamN (by kernel_rfl) fun vs Ms x T' M' N' hr => ?_
  unfold f_Q4_Check_0 at hr
  split at hr
  · obtain ⟨q1, j, q2⟩ := r_Q4_Check_0 _ _ _ _ _ x T' M' N' hr
    exact ⟨q1, j, q2⟩
  · exact hr.elim

structure R_Q4_Check_2 where
  k : Nat
  p8 : Int

def run_Q4_Check_2 (p4 : Int) (p7 : Int) (m0 : List Site) (m1 : List Vec) : Nat → Int → R_Q4_Check_2
  | 0, p8 => ⟨2, p8⟩
  | n + 1, p8 => bif decide (p8 < p7) then (bif (decide ((0 : Int) ≤ p7) && decide (p7 < (m0.length : Int))) then (bif (decide ((0 : Int) ≤ p8) && decide (p8 < (m0.length : Int))) then (bif (((m0.getD p7.toNat (ET.z .site)).name).data.toList == ((m0.getD p8.toNat (ET.z .site)).name).data.toList) then ⟨0, p8⟩ else (bif (decide ((0 : Int) ≤ p7) && decide (p7 < (m1.length : Int))) then (bif (decide ((0 : Int) ≤ p8) && decide (p8 < (m1.length : Int))) then (bif eqAll [.int .i64 (((m1.getD p7.toNat (ET.z .vec)).x).num), .int .i64 (((m1.getD p7.toNat (ET.z .vec)).x).den), .int .i64 (((m1.getD p7.toNat (ET.z .vec)).y).num), .int .i64 (((m1.getD p7.toNat (ET.z .vec)).y).den), .int .i64 (((m1.getD p7.toNat (ET.z .vec)).z).num), .int .i64 (((m1.getD p7.toNat (ET.z .vec)).z).den)] [.int .i64 (((m1.getD p8.toNat (ET.z .vec)).x).num), .int .i64 (((m1.getD p8.toNat (ET.z .vec)).x).den), .int .i64 (((m1.getD p8.toNat (ET.z .vec)).y).num), .int .i64 (((m1.getD p8.toNat (ET.z .vec)).y).den), .int .i64 (((m1.getD p8.toNat (ET.z .vec)).z).num), .int .i64 (((m1.getD p8.toNat (ET.z .vec)).z).den)] then ⟨0, p8⟩ else run_Q4_Check_2 p4 p7 m0 m1 n (w64 (p8 + (1 : Int)))) else ⟨2, p8⟩) else ⟨2, p8⟩)) else ⟨2, p8⟩) else ⟨2, p8⟩) else ⟨1, p8⟩

def lp_Q4_Check_2 (p4 : Int) (p7 : Int) (m0 : List Site) (m1 : List Vec) (p8 : Int) : R_Q4_Check_2 := run_Q4_Check_2 p4 p7 m0 m1 (2000 + (m0.length + m1.length)) p8

abbrev H_Q4_Check_2 (p4 : Int) (p7 : Int) (m0 : List Site) (m1 : List Vec) (p8 : Int) : TS := headT [1, 4, 6, 7, 8] 65 [.v (.c (.aslice 0 none)), .v (.c (.d (.int .i64 p4))), .v (.c (.aslice 1 none)), .v (.c (.d (.int .i64 p7))), .v (.c (.d (.int .i64 p8)))]

set_option maxRecDepth 100000 in
theorem b_Q4_Check_2 (p4 : Int) (p7 : Int) (m0 : List Site) (m1 : List Vec) (p8 : Int) : evCode Tryz.prog GT EQT T_Q4_all XT noL 80 (loopB Tryz.prog 6 2) (H_Q4_Check_2 p4 p7 m0 m1 p8) [.arr none .site m0, .arr (some 62) .vec m1] 2 (normK 1 [1, 4, 6, 7, 8]) =
    bif decide (p8 < p7) then (bif (decide ((0 : Int) ≤ p7) && decide (p7 < (m0.length : Int))) then (bif (decide ((0 : Int) ≤ p8) && decide (p8 < (m0.length : Int))) then (bif (((m0.getD p7.toNat (ET.z .site)).name).data.toList == ((m0.getD p8.toNat (ET.z .site)).name).data.toList) then some (.st .ret (headT [1, 4, 6, 7, 8] 65 [.v (.c (.aslice 0 none)), .v (.c (.d (.int .i64 (14 : Int)))), .v (.c (.aslice 1 none)), .v (.c (.d (.int .i64 p7))), .v (.c (.d (.int .i64 p8)))]) [.arr none .site m0, .arr (some 62) .vec m1] 2) else (bif (decide ((0 : Int) ≤ p7) && decide (p7 < (m1.length : Int))) then (bif (decide ((0 : Int) ≤ p8) && decide (p8 < (m1.length : Int))) then (bif eqAll [.int .i64 (((m1.getD p7.toNat (ET.z .vec)).x).num), .int .i64 (((m1.getD p7.toNat (ET.z .vec)).x).den), .int .i64 (((m1.getD p7.toNat (ET.z .vec)).y).num), .int .i64 (((m1.getD p7.toNat (ET.z .vec)).y).den), .int .i64 (((m1.getD p7.toNat (ET.z .vec)).z).num), .int .i64 (((m1.getD p7.toNat (ET.z .vec)).z).den)] [.int .i64 (((m1.getD p8.toNat (ET.z .vec)).x).num), .int .i64 (((m1.getD p8.toNat (ET.z .vec)).x).den), .int .i64 (((m1.getD p8.toNat (ET.z .vec)).y).num), .int .i64 (((m1.getD p8.toNat (ET.z .vec)).y).den), .int .i64 (((m1.getD p8.toNat (ET.z .vec)).z).num), .int .i64 (((m1.getD p8.toNat (ET.z .vec)).z).den)] then some (.st .ret (headT [1, 4, 6, 7, 8] 65 [.v (.c (.aslice 0 none)), .v (.c (.d (.int .i64 (14 : Int)))), .v (.c (.aslice 1 none)), .v (.c (.d (.int .i64 p7))), .v (.c (.d (.int .i64 p8)))]) [.arr none .site m0, .arr (some 62) .vec m1] 2) else some (.st .normal (headT [1, 4, 6, 7, 8] 65 [.v (.c (.aslice 0 none)), .v (.c (.d (.int .i64 p4))), .v (.c (.aslice 1 none)), .v (.c (.d (.int .i64 p7))), .v (.c (.d (.int .i64 (w64 (p8 + (1 : Int))))))]) [.arr none .site m0, .arr (some 62) .vec m1] 2)) else none) else none)) else none) else none) else some (.st (.exit 4) (headT [1, 4, 6, 7, 8] 65 [.v (.c (.aslice 0 none)), .v (.c (.d (.int .i64 p4))), .v (.c (.aslice 1 none)), .v (.c (.d (.int .i64 p7))), .v (.c (.d (.int .i64 p8)))]) [.arr none .site m0, .arr (some 62) .vec m1] 2) := by
  kernel_rfl

def o_Q4_Check_2 (p4 : Int) (p7 : Int) (m0 : List Site) (m1 : List Vec) (r : R_Q4_Check_2) : LT := .br (Nat.beq r.k 0) (.st .ret (headT [1, 4, 6, 7, 8] 65 [.v (.c (.aslice 0 none)), .v (.c (.d (.int .i64 (14 : Int)))), .v (.c (.aslice 1 none)), .v (.c (.d (.int .i64 p7))), .v (.c (.d (.int .i64 r.p8)))]) [.arr none .site m0, .arr (some 62) .vec m1] 2) (.br (Nat.beq r.k 1) (.st (.exit 4) (headT [1, 4, 6, 7, 8] 65 [.v (.c (.aslice 0 none)), .v (.c (.d (.int .i64 p4))), .v (.c (.aslice 1 none)), .v (.c (.d (.int .i64 p7))), .v (.c (.d (.int .i64 r.p8)))]) [.arr none .site m0, .arr (some 62) .vec m1] 2) (.no))

set_option maxRecDepth 100000 in
theorem r_Q4_Check_2 (p4 : Int) (p7 : Int) (m0 : List Site) (m1 : List Vec) : ∀ (n : Nat) (p8 : Int) (x : Ex) (T' : TS) (M' : List Blk) (N' : Nat), LReach (o_Q4_Check_2 p4 p7 m0 m1 (run_Q4_Check_2 p4 p7 m0 m1 n p8)) x T' M' N' → x ≠ .normal ∧ ∃ j, RoundsN Tryz.prog GT gbT 1 (loopB Tryz.prog 6 2) j (H_Q4_Check_2 p4 p7 m0 m1 p8) [.arr none .site m0, .arr (some 62) .vec m1] 2 x T' M' N' := by
  have hL : LOKn Tryz.prog GT gbT 1 noL (loopsIn (loopB Tryz.prog 6 2)) := fun _ _ _ _ _ _ _ _ _ h => h.elim
  intro n
  induction n with
  | zero =>
    intro p8 x T' M' N' hr
    exact False.elim (redF (redF hr))
  | succ n ih =>
    intro p8 x T' M' N'
    rw [run_Q4_Check_2]
    exact viaE (b_Q4_Check_2 p4 p7 m0 m1 p8) (condG (o := o_Q4_Check_2 p4 p7 m0 m1) (condG (o := o_Q4_Check_2 p4 p7 m0 m1) (condG (o := o_Q4_Check_2 p4 p7 m0 m1) (condG (o := o_Q4_Check_2 p4 p7 m0 m1) (fun he hr => stopN g_Q4_all hEQT hmT hL he (by simp) (redT hr)) (condG (o := o_Q4_Check_2 p4 p7 m0 m1) (condG (o := o_Q4_Check_2 p4 p7 m0 m1) (condG (o := o_Q4_Check_2 p4 p7 m0 m1) (fun he hr => stopN g_Q4_all hEQT hmT hL he (by simp) (redT hr)) (fun he hr => goN g_Q4_all hEQT hmT hL he (ih (w64 (p8 + (1 : Int))) x T' M' N' hr))) (fun _ hr => False.elim (redF (redF hr)))) (fun _ hr => False.elim (redF (redF hr))))) (fun _ hr => False.elim (redF (redF hr)))) (fun _ hr => False.elim (redF (redF hr)))) (fun he hr => stopN g_Q4_all hEQT hmT hL he (by simp) (redT (redF hr))))

def f_Q4_Check_2 : List AV → List Blk → LT := fun vs Ms => match vs, Ms with
  | [.v (.c (.aslice 0 none)), .v (.c (.d (.int .i64 p4))), .v (.c (.aslice 1 none)), .v (.c (.d (.int .i64 p7))), .v (.c (.d (.int .i64 p8)))], [.arr none .site m0, .arr (some 62) .vec m1] => o_Q4_Check_2 p4 p7 m0 m1 (lp_Q4_Check_2 p4 p7 m0 m1 p8)
  | _, _ => .no

def L_Q4_Check_2 := LamN 15 65 1 [1, 4, 6, 7, 8] f_Q4_Check_2

set_option maxRecDepth 100000 in
theorem k_Q4_Check_2 : LOKbn Tryz.prog GT gbT 1 L_Q4_Check_2 (loopB Tryz.prog 6 2) := by
  refine LOKbn.lamN (by kernel_rfl) fun vs Ms x T' M' N' hr => ?_
  unfold f_Q4_Check_2 at hr
  split at hr
  · obtain ⟨q1, j, q2⟩ := r_Q4_Check_2 _ _ _ _ _ _ x T' M' N' hr
    exact ⟨q1, j, q2⟩
  · exact hr.elim

structure R_Q4_Check_1 where
  k : Nat
  p7 : Int

def run_Q4_Check_1 (p4 : Int) (m0 : List Site) (m1 : List Vec) : Nat → Int → R_Q4_Check_1
  | 0, p7 => ⟨2, p7⟩
  | n + 1, p7 => bif decide (p7 < (m0.length : Int)) then (bif Nat.beq (lp_Q4_Check_2 p4 p7 m0 m1 (0 : Int)).k 0 then ⟨0, p7⟩ else (bif Nat.beq (lp_Q4_Check_2 p4 p7 m0 m1 (0 : Int)).k 1 then run_Q4_Check_1 p4 m0 m1 n (w64 (p7 + (1 : Int))) else ⟨2, p7⟩)) else ⟨1, p7⟩

def lp_Q4_Check_1 (p4 : Int) (m0 : List Site) (m1 : List Vec) (p7 : Int) : R_Q4_Check_1 := run_Q4_Check_1 p4 m0 m1 (2000 + (m0.length + m1.length)) p7

abbrev H_Q4_Check_1 (p4 : Int) (m0 : List Site) (m1 : List Vec) (p7 : Int) : TS := headT [1, 4, 6, 7] 65 [.v (.c (.aslice 0 none)), .v (.c (.d (.int .i64 p4))), .v (.c (.aslice 1 none)), .v (.c (.d (.int .i64 p7)))]

set_option maxRecDepth 100000 in
theorem b_Q4_Check_1 (p4 : Int) (m0 : List Site) (m1 : List Vec) (p7 : Int) : evCode Tryz.prog GT EQT T_Q4_all XT (orL L_Q4_Check_2 noL) 80 (loopB Tryz.prog 6 1) (H_Q4_Check_1 p4 m0 m1 p7) [.arr none .site m0, .arr (some 62) .vec m1] 2 (normK 1 [1, 4, 6, 7]) =
    bif decide (p7 < (m0.length : Int)) then (bif Nat.beq (lp_Q4_Check_2 p4 p7 m0 m1 (0 : Int)).k 0 then some (.st .ret (headT [1, 4, 6, 7] 65 [.v (.c (.aslice 0 none)), .v (.c (.d (.int .i64 (14 : Int)))), .v (.c (.aslice 1 none)), .v (.c (.d (.int .i64 p7)))]) [.arr none .site m0, .arr (some 62) .vec m1] 2) else (bif Nat.beq (lp_Q4_Check_2 p4 p7 m0 m1 (0 : Int)).k 1 then some (.st .normal (headT [1, 4, 6, 7] 65 [.v (.c (.aslice 0 none)), .v (.c (.d (.int .i64 p4))), .v (.c (.aslice 1 none)), .v (.c (.d (.int .i64 (w64 (p7 + (1 : Int))))))]) [.arr none .site m0, .arr (some 62) .vec m1] 2) else none)) else some (.st (.exit 2) (headT [1, 4, 6, 7] 65 [.v (.c (.aslice 0 none)), .v (.c (.d (.int .i64 p4))), .v (.c (.aslice 1 none)), .v (.c (.d (.int .i64 p7)))]) [.arr none .site m0, .arr (some 62) .vec m1] 2) := by
  kernel_rfl

def o_Q4_Check_1 (p4 : Int) (m0 : List Site) (m1 : List Vec) (r : R_Q4_Check_1) : LT := .br (Nat.beq r.k 0) (.st .ret (headT [1, 4, 6, 7] 65 [.v (.c (.aslice 0 none)), .v (.c (.d (.int .i64 (14 : Int)))), .v (.c (.aslice 1 none)), .v (.c (.d (.int .i64 r.p7)))]) [.arr none .site m0, .arr (some 62) .vec m1] 2) (.br (Nat.beq r.k 1) (.st (.exit 2) (headT [1, 4, 6, 7] 65 [.v (.c (.aslice 0 none)), .v (.c (.d (.int .i64 p4))), .v (.c (.aslice 1 none)), .v (.c (.d (.int .i64 r.p7)))]) [.arr none .site m0, .arr (some 62) .vec m1] 2) (.no))

set_option maxRecDepth 100000 in
theorem r_Q4_Check_1 (p4 : Int) (m0 : List Site) (m1 : List Vec) : ∀ (n : Nat) (p7 : Int) (x : Ex) (T' : TS) (M' : List Blk) (N' : Nat), LReach (o_Q4_Check_1 p4 m0 m1 (run_Q4_Check_1 p4 m0 m1 n p7)) x T' M' N' → x ≠ .normal ∧ ∃ j, RoundsN Tryz.prog GT gbT 1 (loopB Tryz.prog 6 1) j (H_Q4_Check_1 p4 m0 m1 p7) [.arr none .site m0, .arr (some 62) .vec m1] 2 x T' M' N' := by
  have hL : LOKn Tryz.prog GT gbT 1 (orL L_Q4_Check_2 noL) (loopsIn (loopB Tryz.prog 6 1)) := by
    intro b hb
    have e : loopsIn (loopB Tryz.prog 6 1) = [loopB Tryz.prog 6 2] := by kernel_rfl
    rw [e] at hb
    simp only [List.mem_cons, List.not_mem_nil, or_false] at hb
    subst hb
    exact (LOKbn.or k_Q4_Check_2 (fun _ _ _ _ _ _ _ h => h.elim))
  intro n
  induction n with
  | zero =>
    intro p7 x T' M' N' hr
    exact False.elim (redF (redF hr))
  | succ n ih =>
    intro p7 x T' M' N'
    rw [run_Q4_Check_1]
    exact viaE (b_Q4_Check_1 p4 m0 m1 p7) (condG (o := o_Q4_Check_1 p4 m0 m1) (condG (o := o_Q4_Check_1 p4 m0 m1) (fun he hr => stopN g_Q4_all hEQT hmT hL he (by simp) (redT hr)) (condG (o := o_Q4_Check_1 p4 m0 m1) (fun he hr => goN g_Q4_all hEQT hmT hL he (ih (w64 (p7 + (1 : Int))) x T' M' N' hr)) (fun _ hr => False.elim (redF (redF hr))))) (fun he hr => stopN g_Q4_all hEQT hmT hL he (by simp) (redT (redF hr))))

def f_Q4_Check_1 : List AV → List Blk → LT := fun vs Ms => match vs, Ms with
  | [.v (.c (.aslice 0 none)), .v (.c (.d (.int .i64 p4))), .v (.c (.aslice 1 none)), .v (.c (.d (.int .i64 p7)))], [.arr none .site m0, .arr (some 62) .vec m1] => o_Q4_Check_1 p4 m0 m1 (lp_Q4_Check_1 p4 m0 m1 p7)
  | _, _ => .no

def L_Q4_Check_1 := LamN 12 65 1 [1, 4, 6, 7] f_Q4_Check_1

set_option maxRecDepth 100000 in
theorem k_Q4_Check_1 : LOKbn Tryz.prog GT gbT 1 L_Q4_Check_1 (loopB Tryz.prog 6 1) := by
  refine LOKbn.lamN (by kernel_rfl) fun vs Ms x T' M' N' hr => ?_
  unfold f_Q4_Check_1 at hr
  split at hr
  · obtain ⟨q1, j, q2⟩ := r_Q4_Check_1 _ _ _ _ _ x T' M' N' hr
    exact ⟨q1, j, q2⟩
  · exact hr.elim

structure O_Q4_Check where
  ok : Bool
  r0 : Int

def m_Q4_Check (a0 : Globe) (a1 : List Site) : O_Q4_Check := bif ((checkG a0) != (0 : Int)) then ⟨true, (checkG a0)⟩ else (bif decide ((8 : Int) < (a1.length : Int)) then ⟨true, (4 : Int)⟩ else (bif Nat.beq (lp_Q4_Check_0 (0 : Int) a1 a0 (0 : Int)).k 0 then ⟨true, (8 : Int)⟩ else (bif Nat.beq (lp_Q4_Check_0 (0 : Int) a1 a0 (0 : Int)).k 1 then (bif (m_Q4_all a0 a1).ok then (bif Nat.beq (lp_Q4_Check_1 (0 : Int) a1 ((m_Q4_all a0 a1).r0) (0 : Int)).k 0 then ⟨true, (14 : Int)⟩ else (bif Nat.beq (lp_Q4_Check_1 (0 : Int) a1 ((m_Q4_all a0 a1).r0) (0 : Int)).k 1 then ⟨true, (0 : Int)⟩ else ⟨false, 0⟩)) else ⟨false, 0⟩) else ⟨false, 0⟩)))

def F_Q4_Check (a0 : Globe) (a1 : List Site) (K : AV → List Blk → Ans) (r : O_Q4_Check) : Ans := bif r.ok then K (.v (.c (.d (.int .i64 r.r0)))) [.arr none .site a1] else none

set_option maxRecDepth 100000 in
theorem e_Q4_Check (a0 : Globe) (a1 : List Site) (K : AV → List Blk → Ans) : evFn Tryz.prog GT EQT T_Q4_all XT (orL L_Q4_Check_1 (orL L_Q4_Check_2 (orL L_Q4_Check_0 noL))) 80 6 [.v (.agg [.int .i64 a0.a, .int .i64 a0.b]), .v (.c (.aslice 0 none))] [.arr none .site a1] (fun v M => K (finR 1 v M).1 (finR 1 v M).2) = F_Q4_Check a0 a1 K (m_Q4_Check a0 a1) := by
  unfold m_Q4_Check
  refine Eq.trans ?_ (Eq.symm (pushT rfl (pushT rfl (pushT rfl (pushT (pushT (pushT rfl (pushT rfl rfl)) rfl) rfl)))))
  kernel_rfl

set_option maxRecDepth 100000 in
theorem lok_Q4_Check : ∀ fn c, Tryz.prog.funcs[6]? = some fn → fn.body = some c → LOKn Tryz.prog GT gbT 1 (orL L_Q4_Check_1 (orL L_Q4_Check_2 (orL L_Q4_Check_0 noL))) (loopsIn c) := by
  refine LOKn.ofF fun b hb => ?_
  have e : loopsF Tryz.prog 6 = [loopB Tryz.prog 6 0, loopB Tryz.prog 6 1, loopB Tryz.prog 6 2] := by kernel_rfl
  rw [e] at hb
  simp only [List.mem_cons, List.not_mem_nil, or_false] at hb
  rcases hb with rfl | rfl | rfl
  · exact (LOKbn.or (LOKbn.lamN_other (by kernel_rfl)) (LOKbn.or (LOKbn.lamN_other (by kernel_rfl)) (LOKbn.or k_Q4_Check_0 (fun _ _ _ _ _ _ _ h => h.elim))))
  · exact (LOKbn.or k_Q4_Check_1 (LOKbn.or (LOKbn.lamN_other (by kernel_rfl)) (LOKbn.or (LOKbn.lamN_other (by kernel_rfl)) (fun _ _ _ _ _ _ _ h => h.elim))))
  · exact (LOKbn.or (LOKbn.lamN_other (by kernel_rfl)) (LOKbn.or k_Q4_Check_2 (LOKbn.or (LOKbn.lamN_other (by kernel_rfl)) (fun _ _ _ _ _ _ _ h => h.elim))))


theorem c_Q4_Check (a0 : Globe) (a1 : List Site) (hd : (m_Q4_Check a0 a1).ok = true) : CallsA Tryz.prog GT gbT 6 [.v (.agg [.int .i64 a0.a, .int .i64 a0.b]), .v (.c (.aslice 0 none))] [.arr none .site a1] (.v (.c (.d (.int .i64 ((m_Q4_Check a0 a1).r0))))) [.arr none .site a1] := by
  refine CallsA.ofEvR g_Q4_all hEQT hmT (n0 := 1) rfl lok_Q4_Check ((e_Q4_Check a0 a1 (fun v M => some (Res.fin v M))).trans ?_)
  unfold F_Q4_Check
  rw [hd]
  rfl

def s_Q4_Check : List AV → List Blk → (AV → List Blk → Ans) → Ans := fun xs bs K => match xs, bs with
  | [.v (.agg [.int .i64 a0_0, .int .i64 a0_1]), .v (.c (.aslice 0 none))], [.arr none .site a1] => F_Q4_Check (⟨a0_0, a0_1⟩ : Globe) a1 K (m_Q4_Check (⟨a0_0, a0_1⟩ : Globe) a1)
  | _, _ => none

def T_Q4_Check : Nat → List AV → List Blk → (AV → List Blk → Ans) → Ans := upd T_Q4_all 6 s_Q4_Check

theorem g_Q4_Check : GOK Tryz.prog GT gbT T_Q4_Check XT := by
  refine GOK.upd g_Q4_all (fun args w => Tryz.call6 args w) fun xs bs K r h => ?_
  unfold s_Q4_Check at h
  split at h
  · unfold F_Q4_Check at h
    simp only [cond_eq_ite] at h
    split at h
    · rename_i hd
      exact ⟨_, _, c_Q4_Check _ _ hd, h⟩
    · cases h
  · cases h

structure O_Q4_Places where
  ok : Bool
  r0 : List Vec
  r1 : Int

def m_Q4_Places (a0 : Globe) (a1 : List Site) : O_Q4_Places := bif (m_Q4_Check a0 a1).ok then (bif ((m_Q4_Check a0 a1).r0 != (0 : Int)) then (bif (m_Q4_Check a0 a1).ok then ⟨true, ([] : List Vec), (m_Q4_Check a0 a1).r0⟩ else ⟨false, [], 0⟩) else (bif (m_Q4_all a0 a1).ok then ⟨true, (m_Q4_all a0 a1).r0, (0 : Int)⟩ else ⟨false, [], 0⟩)) else ⟨false, [], 0⟩

def F_Q4_Places (a0 : Globe) (a1 : List Site) (K : AV → List Blk → Ans) (r : O_Q4_Places) : Ans := bif r.ok then K (.tup [.c (.aslice 1 none), .c (.d (.int .i64 r.r1))]) [.arr none .site a1, .arr (some 62) .vec r.r0] else none

set_option maxRecDepth 100000 in
theorem e_Q4_Places (a0 : Globe) (a1 : List Site) (K : AV → List Blk → Ans) : evFn Tryz.prog GT EQT T_Q4_Check XT noL 80 46 [.v (.agg [.int .i64 a0.a, .int .i64 a0.b]), .v (.c (.aslice 0 none))] [.arr none .site a1] (fun v M => K (finR 1 v M).1 (finR 1 v M).2) = F_Q4_Places a0 a1 K (m_Q4_Places a0 a1) := by
  unfold m_Q4_Places
  refine Eq.trans ?_ (Eq.symm (pushT (pushT (pushT rfl rfl) (pushT rfl rfl)) rfl))
  kernel_rfl

theorem c_Q4_Places (a0 : Globe) (a1 : List Site) (hd : (m_Q4_Places a0 a1).ok = true) : CallsA Tryz.prog GT gbT 46 [.v (.agg [.int .i64 a0.a, .int .i64 a0.b]), .v (.c (.aslice 0 none))] [.arr none .site a1] (.tup [.c (.aslice 1 none), .c (.d (.int .i64 ((m_Q4_Places a0 a1).r1)))]) [.arr none .site a1, .arr (some 62) .vec ((m_Q4_Places a0 a1).r0)] := by
  refine CallsA.ofEvR g_Q4_Check hEQT hmT (n0 := 1) rfl (fun _ _ _ _ => LOKn.nil) ((e_Q4_Places a0 a1 (fun v M => some (Res.fin v M))).trans ?_)
  unfold F_Q4_Places
  rw [hd]
  rfl

def s_Q4_Places : List AV → List Blk → (AV → List Blk → Ans) → Ans := fun xs bs K => match xs, bs with
  | [.v (.agg [.int .i64 a0_0, .int .i64 a0_1]), .v (.c (.aslice 0 none))], [.arr none .site a1] => F_Q4_Places (⟨a0_0, a0_1⟩ : Globe) a1 K (m_Q4_Places (⟨a0_0, a0_1⟩ : Globe) a1)
  | _, _ => none

def T_Q4_Places : Nat → List AV → List Blk → (AV → List Blk → Ans) → Ans := upd T_Q4_Check 46 s_Q4_Places

theorem g_Q4_Places : GOK Tryz.prog GT gbT T_Q4_Places XT := by
  refine GOK.upd g_Q4_Check (fun args w => Tryz.call46 args w) fun xs bs K r h => ?_
  unfold s_Q4_Places at h
  split at h
  · unfold F_Q4_Places at h
    simp only [cond_eq_ite] at h
    split at h
    · rename_i hd
      exact ⟨_, _, c_Q4_Places _ _ hd, h⟩
    · cases h
  · cases h

structure O_Q4_Line where
  ok : Bool
  r0 : Vec
  r1 : Int

def m_Q4_Line (a0 : Globe) (a1 : List Site) (a2 : Int) (a3 : Int) : O_Q4_Line := bif (m_Q4_Places a0 a1).ok then (bif ((m_Q4_Places a0 a1).r1 != (0 : Int)) then ⟨true, ⟨⟨(0 : Int), (0 : Int)⟩, ⟨(0 : Int), (0 : Int)⟩, ⟨(0 : Int), (0 : Int)⟩⟩, (m_Q4_Places a0 a1).r1⟩ else (bif decide (a2 < (0 : Int)) then ⟨true, ⟨⟨(0 : Int), (0 : Int)⟩, ⟨(0 : Int), (0 : Int)⟩, ⟨(0 : Int), (0 : Int)⟩⟩, (2 : Int)⟩ else (bif decide (a3 < (0 : Int)) then ⟨true, ⟨⟨(0 : Int), (0 : Int)⟩, ⟨(0 : Int), (0 : Int)⟩, ⟨(0 : Int), (0 : Int)⟩⟩, (2 : Int)⟩ else (bif decide ((a1.length : Int) ≤ a2) then ⟨true, ⟨⟨(0 : Int), (0 : Int)⟩, ⟨(0 : Int), (0 : Int)⟩, ⟨(0 : Int), (0 : Int)⟩⟩, (2 : Int)⟩ else (bif decide ((a1.length : Int) ≤ a3) then ⟨true, ⟨⟨(0 : Int), (0 : Int)⟩, ⟨(0 : Int), (0 : Int)⟩, ⟨(0 : Int), (0 : Int)⟩⟩, (2 : Int)⟩ else (bif (decide ((0 : Int) ≤ a3) && decide (a3 < (((m_Q4_Places a0 a1).r0).length : Int))) then (bif (decide ((0 : Int) ≤ a2) && decide (a2 < (((m_Q4_Places a0 a1).r0).length : Int))) then ⟨true, (subV ⟨⟨(((((m_Q4_Places a0 a1).r0).getD a3.toNat (ET.z .vec)).x).num), (((((m_Q4_Places a0 a1).r0).getD a3.toNat (ET.z .vec)).x).den)⟩, ⟨(((((m_Q4_Places a0 a1).r0).getD a3.toNat (ET.z .vec)).y).num), (((((m_Q4_Places a0 a1).r0).getD a3.toNat (ET.z .vec)).y).den)⟩, ⟨(((((m_Q4_Places a0 a1).r0).getD a3.toNat (ET.z .vec)).z).num), (((((m_Q4_Places a0 a1).r0).getD a3.toNat (ET.z .vec)).z).den)⟩⟩ ⟨⟨(((((m_Q4_Places a0 a1).r0).getD a2.toNat (ET.z .vec)).x).num), (((((m_Q4_Places a0 a1).r0).getD a2.toNat (ET.z .vec)).x).den)⟩, ⟨(((((m_Q4_Places a0 a1).r0).getD a2.toNat (ET.z .vec)).y).num), (((((m_Q4_Places a0 a1).r0).getD a2.toNat (ET.z .vec)).y).den)⟩, ⟨(((((m_Q4_Places a0 a1).r0).getD a2.toNat (ET.z .vec)).z).num), (((((m_Q4_Places a0 a1).r0).getD a2.toNat (ET.z .vec)).z).den)⟩⟩).1, (subV ⟨⟨(((((m_Q4_Places a0 a1).r0).getD a3.toNat (ET.z .vec)).x).num), (((((m_Q4_Places a0 a1).r0).getD a3.toNat (ET.z .vec)).x).den)⟩, ⟨(((((m_Q4_Places a0 a1).r0).getD a3.toNat (ET.z .vec)).y).num), (((((m_Q4_Places a0 a1).r0).getD a3.toNat (ET.z .vec)).y).den)⟩, ⟨(((((m_Q4_Places a0 a1).r0).getD a3.toNat (ET.z .vec)).z).num), (((((m_Q4_Places a0 a1).r0).getD a3.toNat (ET.z .vec)).z).den)⟩⟩ ⟨⟨(((((m_Q4_Places a0 a1).r0).getD a2.toNat (ET.z .vec)).x).num), (((((m_Q4_Places a0 a1).r0).getD a2.toNat (ET.z .vec)).x).den)⟩, ⟨(((((m_Q4_Places a0 a1).r0).getD a2.toNat (ET.z .vec)).y).num), (((((m_Q4_Places a0 a1).r0).getD a2.toNat (ET.z .vec)).y).den)⟩, ⟨(((((m_Q4_Places a0 a1).r0).getD a2.toNat (ET.z .vec)).z).num), (((((m_Q4_Places a0 a1).r0).getD a2.toNat (ET.z .vec)).z).den)⟩⟩).2⟩ else ⟨false, ⟨⟨0, 0⟩, ⟨0, 0⟩, ⟨0, 0⟩⟩, 0⟩) else ⟨false, ⟨⟨0, 0⟩, ⟨0, 0⟩, ⟨0, 0⟩⟩, 0⟩)))))) else ⟨false, ⟨⟨0, 0⟩, ⟨0, 0⟩, ⟨0, 0⟩⟩, 0⟩

def F_Q4_Line (a0 : Globe) (a1 : List Site) (a2 : Int) (a3 : Int) (K : AV → List Blk → Ans) (r : O_Q4_Line) : Ans := bif r.ok then K (.tup [.agg [.int .i64 r.r0.x.num, .int .i64 r.r0.x.den, .int .i64 r.r0.y.num, .int .i64 r.r0.y.den, .int .i64 r.r0.z.num, .int .i64 r.r0.z.den], .c (.d (.int .i64 r.r1))]) [.arr none .site a1] else none

set_option maxRecDepth 100000 in
theorem e_Q4_Line (a0 : Globe) (a1 : List Site) (a2 : Int) (a3 : Int) (K : AV → List Blk → Ans) : evFn Tryz.prog GT EQT T_Q4_Places XT noL 80 31 [.v (.agg [.int .i64 a0.a, .int .i64 a0.b]), .v (.c (.aslice 0 none)), .v (.c (.d (.int .i64 a2))), .v (.c (.d (.int .i64 a3)))] [.arr none .site a1] (fun v M => K (finR 1 v M).1 (finR 1 v M).2) = F_Q4_Line a0 a1 a2 a3 K (m_Q4_Line a0 a1 a2 a3) := by
  unfold m_Q4_Line
  refine Eq.trans ?_ (Eq.symm (pushT (pushT rfl (pushT rfl (pushT rfl (pushT rfl (pushT rfl (pushT (pushT rfl rfl) rfl)))))) rfl))
  kernel_rfl

theorem c_Q4_Line (a0 : Globe) (a1 : List Site) (a2 : Int) (a3 : Int) (hd : (m_Q4_Line a0 a1 a2 a3).ok = true) : CallsA Tryz.prog GT gbT 31 [.v (.agg [.int .i64 a0.a, .int .i64 a0.b]), .v (.c (.aslice 0 none)), .v (.c (.d (.int .i64 a2))), .v (.c (.d (.int .i64 a3)))] [.arr none .site a1] (.tup [.agg [.int .i64 ((((m_Q4_Line a0 a1 a2 a3).r0).x).num), .int .i64 ((((m_Q4_Line a0 a1 a2 a3).r0).x).den), .int .i64 ((((m_Q4_Line a0 a1 a2 a3).r0).y).num), .int .i64 ((((m_Q4_Line a0 a1 a2 a3).r0).y).den), .int .i64 ((((m_Q4_Line a0 a1 a2 a3).r0).z).num), .int .i64 ((((m_Q4_Line a0 a1 a2 a3).r0).z).den)], .c (.d (.int .i64 ((m_Q4_Line a0 a1 a2 a3).r1)))]) [.arr none .site a1] := by
  refine CallsA.ofEvR g_Q4_Places hEQT hmT (n0 := 1) rfl (fun _ _ _ _ => LOKn.nil) ((e_Q4_Line a0 a1 a2 a3 (fun v M => some (Res.fin v M))).trans ?_)
  unfold F_Q4_Line
  rw [hd]
  rfl

def s_Q4_Line : List AV → List Blk → (AV → List Blk → Ans) → Ans := fun xs bs K => match xs, bs with
  | [.v (.agg [.int .i64 a0_0, .int .i64 a0_1]), .v (.c (.aslice 0 none)), .v (.c (.d (.int .i64 a2))), .v (.c (.d (.int .i64 a3)))], [.arr none .site a1] => F_Q4_Line (⟨a0_0, a0_1⟩ : Globe) a1 a2 a3 K (m_Q4_Line (⟨a0_0, a0_1⟩ : Globe) a1 a2 a3)
  | _, _ => none

def T_Q4_Line : Nat → List AV → List Blk → (AV → List Blk → Ans) → Ans := upd T_Q4_Places 31 s_Q4_Line

theorem g_Q4_Line : GOK Tryz.prog GT gbT T_Q4_Line XT := by
  refine GOK.upd g_Q4_Places (fun args w => Tryz.call31 args w) fun xs bs K r h => ?_
  unfold s_Q4_Line at h
  split at h
  · unfold F_Q4_Line at h
    simp only [cond_eq_ite] at h
    split at h
    · rename_i hd
      exact ⟨_, _, c_Q4_Line _ _ _ _ hd, h⟩
    · cases h
  · cases h

structure O_Q8_Line where
  ok : Bool
  r0 : Dir
  r1 : Int

def m_Q8_Line (a0 : Globe) (a1 : List Site) (a2 : Int) (a3 : Int) (a4 : Source) (a5 : Int) : O_Q8_Line := bif (m_Q4_Line a0 a1 a2 a3).ok then (bif ((m_Q4_Line a0 a1 a2 a3).r1 != (0 : Int)) then ⟨true, ⟨⟨(0 : Int), (0 : Int)⟩, ⟨(0 : Int), (0 : Int)⟩, ⟨(0 : Int), (0 : Int)⟩⟩, (m_Q4_Line a0 a1 a2 a3).r1⟩ else ⟨true, (projV ((m_Q4_Line a0 a1 a2 a3).r0) a4 a5).1, (projV ((m_Q4_Line a0 a1 a2 a3).r0) a4 a5).2⟩) else ⟨false, ⟨⟨0, 0⟩, ⟨0, 0⟩, ⟨0, 0⟩⟩, 0⟩

def F_Q8_Line (a0 : Globe) (a1 : List Site) (a2 : Int) (a3 : Int) (a4 : Source) (a5 : Int) (K : AV → List Blk → Ans) (r : O_Q8_Line) : Ans := bif r.ok then K (.tup [.agg [.int .i64 r.r0.x.lo, .int .i64 r.r0.x.hi, .int .i64 r.r0.y.lo, .int .i64 r.r0.y.hi, .int .i64 r.r0.z.lo, .int .i64 r.r0.z.hi], .c (.d (.int .i64 r.r1))]) [.arr none .site a1] else none

set_option maxRecDepth 100000 in
theorem e_Q8_Line (a0 : Globe) (a1 : List Site) (a2 : Int) (a3 : Int) (a4 : Source) (a5 : Int) (K : AV → List Blk → Ans) : evFn Tryz.prog GT EQT T_Q4_Line XT noL 80 13 [.v (.agg [.int .i64 a0.a, .int .i64 a0.b]), .v (.c (.aslice 0 none)), .v (.c (.d (.int .i64 a2))), .v (.c (.d (.int .i64 a3))), .v (.agg [.str a4.name, .int .i64 a4.ra, .int .i64 a4.dec]), .v (.c (.d (.int .i64 a5)))] [.arr none .site a1] (fun v M => K (finR 1 v M).1 (finR 1 v M).2) = F_Q8_Line a0 a1 a2 a3 a4 a5 K (m_Q8_Line a0 a1 a2 a3 a4 a5) := by
  unfold m_Q8_Line
  refine Eq.trans ?_ (Eq.symm (pushT (pushT rfl rfl) rfl))
  kernel_rfl

theorem c_Q8_Line (a0 : Globe) (a1 : List Site) (a2 : Int) (a3 : Int) (a4 : Source) (a5 : Int) (hd : (m_Q8_Line a0 a1 a2 a3 a4 a5).ok = true) : CallsA Tryz.prog GT gbT 13 [.v (.agg [.int .i64 a0.a, .int .i64 a0.b]), .v (.c (.aslice 0 none)), .v (.c (.d (.int .i64 a2))), .v (.c (.d (.int .i64 a3))), .v (.agg [.str a4.name, .int .i64 a4.ra, .int .i64 a4.dec]), .v (.c (.d (.int .i64 a5)))] [.arr none .site a1] (.tup [.agg [.int .i64 ((((m_Q8_Line a0 a1 a2 a3 a4 a5).r0).x).lo), .int .i64 ((((m_Q8_Line a0 a1 a2 a3 a4 a5).r0).x).hi), .int .i64 ((((m_Q8_Line a0 a1 a2 a3 a4 a5).r0).y).lo), .int .i64 ((((m_Q8_Line a0 a1 a2 a3 a4 a5).r0).y).hi), .int .i64 ((((m_Q8_Line a0 a1 a2 a3 a4 a5).r0).z).lo), .int .i64 ((((m_Q8_Line a0 a1 a2 a3 a4 a5).r0).z).hi)], .c (.d (.int .i64 ((m_Q8_Line a0 a1 a2 a3 a4 a5).r1)))]) [.arr none .site a1] := by
  refine CallsA.ofEvR g_Q4_Line hEQT hmT (n0 := 1) rfl (fun _ _ _ _ => LOKn.nil) ((e_Q8_Line a0 a1 a2 a3 a4 a5 (fun v M => some (Res.fin v M))).trans ?_)
  unfold F_Q8_Line
  rw [hd]
  rfl

def s_Q8_Line : List AV → List Blk → (AV → List Blk → Ans) → Ans := fun xs bs K => match xs, bs with
  | [.v (.agg [.int .i64 a0_0, .int .i64 a0_1]), .v (.c (.aslice 0 none)), .v (.c (.d (.int .i64 a2))), .v (.c (.d (.int .i64 a3))), .v (.agg [.str a4_0, .int .i64 a4_1, .int .i64 a4_2]), .v (.c (.d (.int .i64 a5)))], [.arr none .site a1] => F_Q8_Line (⟨a0_0, a0_1⟩ : Globe) a1 a2 a3 (⟨a4_0, a4_1, a4_2⟩ : Source) a5 K (m_Q8_Line (⟨a0_0, a0_1⟩ : Globe) a1 a2 a3 (⟨a4_0, a4_1, a4_2⟩ : Source) a5)
  | _, _ => none

def T_Q8_Line : Nat → List AV → List Blk → (AV → List Blk → Ans) → Ans := upd T_Q4_Line 13 s_Q8_Line

theorem g_Q8_Line : GOK Tryz.prog GT gbT T_Q8_Line XT := by
  refine GOK.upd g_Q4_Line (fun args w => Tryz.call13 args w) fun xs bs K r h => ?_
  unfold s_Q8_Line at h
  split at h
  · unfold F_Q8_Line at h
    simp only [cond_eq_ite] at h
    split at h
    · rename_i hd
      exact ⟨_, _, c_Q8_Line _ _ _ _ _ _ hd, h⟩
    · cases h
  · cases h

end Go.Ev

namespace Go.Ev
open Go

theorem w64_up {n : Nat} (h : n < 9223372036854775807) : w64 ((n : Int) + 1) = ((n + 1 : Nat) : Int) := by simp only [w64, wr]; omega
theorem room_le {n : Nat} (h : n ≤ 1048576) : Nat.ble n roomD = true := by rw [Nat.ble_eq]; exact h

abbrev sAt (l : List Site) (n : Nat) : Site := l.getD n (ET.z .site)

theorem drop_at {α : Type} {l : List α} {n : Nat} (z : α) (h : n < l.length) : l.drop n = l.getD n z :: l.drop (n + 1) := by
  rw [List.drop_eq_getElem_cons h]
  congr 1
  rw [List.getD_eq_getElem?_getD, List.getElem?_eq_getElem h]
  rfl

theorem drop_all {α : Type} {l : List α} {n : Nat} (h : ¬ n < l.length) : l.drop n = [] := List.drop_eq_nil_of_le (by omega)

/-! ### Great -/

theorem run_great (l : List Site) (p : Bool) (hl : l.length ≤ maxLen) : ∀ (f n : Nat), n ≤ l.length → l.length - n < f → (run_Q4_Great_0 p l f (n : Int)).k = bif (l.drop n).any (fun x => decide (100 < x.name.size)) then 0 else 1 := by
  intro f
  induction f with
  | zero => intro n _ h; omega
  | succ f ih =>
    intro n hn h
    rw [run_Q4_Great_0]
    simp only [maxLen] at hl
    by_cases h1 : n < l.length
    · simp only [nn_t, lt_t h1, Bool.and_self, cond_true, w64_up (show n < 9223372036854775807 by omega), Int.toNat_natCast]
      rw [drop_at (ET.z .site) h1, List.any_cons]
      by_cases c : 100 < (sAt l n).name.size
      · rw [dec_t (show (100 : Int) < ((sAt l n).name.size : Int) by omega), dec_t c]; rfl
      · rw [dec_f (show ¬ (100 : Int) < ((sAt l n).name.size : Int) by omega), dec_f c]
        simp only [cond_false, Bool.false_or]
        exact ih (n + 1) (by omega) (by omega)
    · simp only [lt_f h1, cond_false]
      rw [drop_all h1]
      rfl

def greatB (l : List Site) : Bool := l.any (fun x => decide (100 < x.name.size)) || decide (20 < l.length)

theorem m_great (l : List Site) (hl : l.length ≤ maxLen) : m_Q4_Great l = ⟨true, greatB l⟩ := by
  unfold m_Q4_Great lp_Q4_Great_0 greatB
  have := run_great l false hl (2000 + l.length) 0 (by omega) (by omega)
  rw [show ((0 : Nat) : Int) = 0 from rfl, List.drop_zero] at this
  rw [this]
  cases l.any (fun x => decide (100 < x.name.size)) with
  | true => rfl
  | false =>
    by_cases c : 20 < l.length
    · rw [dec_t c, dec_t (show (20 : Int) < (l.length : Int) by omega)]; rfl
    · rw [dec_f c, dec_f (show ¬ (20 : Int) < (l.length : Int) by omega)]; rfl

theorem great_small {l : List Site} (h : greatB l = false) : l.length ≤ 20 := by
  unfold greatB at h
  simp only [Bool.or_eq_false_iff, decide_eq_false_iff_not] at h
  omega

/-! ### Stations -/

def siteB (x : Site) : Bool := namedB x.name && placedB x.s x.t

theorem run_valid (x : Site) (p : Bool) (hs : x.name.size ≤ 40) : ∀ (f m : Nat) (i : Int), 0 ≤ i → i + m = x.name.size → m < f → (run_array_valid_0 p (x.name.size : Int) x f i).k = bif restOk x.name i m then 1 else 0 := by
  intro f
  induction f with
  | zero => intro m i _ _ h; omega
  | succ f ih =>
    intro m i h0 h1 h2
    rw [run_array_valid_0]
    change (bif decide (i < (x.name.size : Int)) then (bif (decide (0 ≤ i) && decide (i < (x.name.size : Int))) then nameStep (byteAt x.name i) ⟨0, i⟩ (run_array_valid_0 p (x.name.size : Int) x f (w64 (i + 1))) else ⟨2, i⟩) else ⟨1, i⟩ : R_array_valid_0).k = _
    cases m with
    | zero => rw [dec_f (show ¬ i < (x.name.size : Int) by omega)]; rfl
    | succ m =>
      rw [dec_t (show i < (x.name.size : Int) by omega), dec_t h0, nameStep_eq, restOk, show w64 (i + 1) = i + 1 by simp only [w64, wr]; omega]
      simp only [Bool.and_self, cond_true]
      cases byteOk (byteAt x.name i) with
      | false => rfl
      | true =>
        simp only [cond_true]
        exact ih m (i + 1) (by omega) (by omega) (by omega)

theorem at_one (s t : Frac) : ((atV ⟨1, 1⟩ s t).2 == (0 : Int)) = placedB s t := by
  unfold atV
  rw [show globeOkB ⟨1, 1⟩ = true by decide]
  cases placedB s t <;> rfl

theorem m_valid (x : Site) : m_array_valid x = ⟨true, siteB x⟩ := by
  unfold m_array_valid siteB namedB lp_array_valid_0
  by_cases h1 : (x.name.size : Int) < 1
  · rw [dec_t h1]; rfl
  by_cases h2 : 40 < (x.name.size : Int)
  · rw [dec_f h1, dec_t h2]; rfl
  rw [dec_f h1, dec_f h2, dec_t (show (0 : Int) < (x.name.size : Int) by omega)]
  simp only [Int.le_refl, decide_true, Bool.and_self, cond_true, cond_false, at_one]
  cases decide (byteAt x.name 0 < 97) with
  | true => rfl
  | false =>
    cases decide (122 < byteAt x.name 0) with
    | true => rfl
    | false =>
      simp only [cond_false]
      rw [run_valid x false (by omega) _ x.name.size 0 (by omega) (by omega) (by omega)]
      cases restOk x.name 0 x.name.size <;> rfl

theorem m_validR (x : Site) : m_Q4_Valid x = ⟨true, siteB x⟩ := by
  unfold m_Q4_Valid siteB
  cases namedB x.name <;> rfl

def stationsE (l : List Site) : Int := bif decide (8 < l.length) then 4 else bif l.all siteB then 0 else 8

theorem run_stations (l : List Site) (p : Int) (hl : l.length ≤ 8) : ∀ (f n : Nat), n ≤ l.length → l.length - n < f → (run_array_stations_0 p (l.length : Int) l f (n : Int)).k = bif (l.drop n).all siteB then 1 else 0 := by
  intro f
  induction f with
  | zero => intro n _ h; omega
  | succ f ih =>
    intro n hn h
    rw [run_array_stations_0]
    by_cases h1 : n < l.length
    · simp only [nn_t, lt_t h1, Bool.and_self, cond_true, w64_up (show n < 9223372036854775807 by omega), Int.toNat_natCast, m_valid]
      rw [drop_at (ET.z .site) h1, List.all_cons]
      cases siteB (sAt l n) with
      | false => rfl
      | true =>
        simp only [Bool.not_true, cond_false, Bool.true_and]
        exact ih (n + 1) (by omega) (by omega)
    · simp only [lt_f h1, cond_false]
      rw [drop_all h1]
      rfl

theorem m_stations (l : List Site) : m_array_stations l = ⟨true, stationsE l⟩ := by
  unfold m_array_stations stationsE lp_array_stations_0
  by_cases h : 8 < l.length
  · rw [dec_t h, dec_t (show (8 : Int) < (l.length : Int) by omega)]; rfl
  · rw [dec_f h, dec_f (show ¬ (8 : Int) < (l.length : Int) by omega)]
    have := run_stations l 0 (by omega) (2000 + l.length) 0 (by omega) (by omega)
    rw [show ((0 : Nat) : Int) = 0 from rfl, List.drop_zero] at this
    simp only [cond_false]
    rw [this]
    cases l.all siteB <;> rfl

theorem stations_ok {l : List Site} (h : stationsE l = 0) : l.length ≤ 8 ∧ ∀ x ∈ l, siteB x = true := by
  unfold stationsE at h
  by_cases h1 : 8 < l.length
  · rw [dec_t h1] at h; cases h
  · rw [dec_f h1] at h
    refine ⟨by omega, ?_⟩
    cases h2 : l.all siteB with
    | false => rw [h2] at h; cases h
    | true => exact List.all_eq_true.1 h2

theorem site_placed {x : Site} (h : siteB x = true) : placedB x.s x.t = true := by
  unfold siteB at h
  simp only [Bool.and_eq_true] at h
  exact h.2

/-! ### Places -/

def placedL (g : Globe) (l : List Site) : List Placed := l.map fun x => ⟨x, placeV g x.s x.t⟩
def placesL (g : Globe) (l : List Site) : List Vec := l.map fun x => placeV g x.s x.t

theorem placedL_len (g : Globe) (l : List Site) : (placedL g l).length = l.length := List.length_map _
theorem placesL_len (g : Globe) (l : List Site) : (placesL g l).length = l.length := List.length_map _

theorem placedL_at (g : Globe) {l : List Site} {n : Nat} (h : n < l.length) : (placedL g l).getD n (ET.z .placed) = ⟨sAt l n, placeV g (sAt l n).s (sAt l n).t⟩ := by
  unfold placedL
  rw [List.getD_eq_getElem?_getD, List.getElem?_map, List.getElem?_eq_getElem h, sAt, List.getD_eq_getElem?_getD, List.getElem?_eq_getElem h]
  rfl

theorem placesL_at (g : Globe) {l : List Site} {n : Nat} (h : n < l.length) : (placesL g l).getD n (ET.z .vec) = placeV g (sAt l n).s (sAt l n).t := by
  unfold placesL
  rw [List.getD_eq_getElem?_getD, List.getElem?_map, List.getElem?_eq_getElem h, sAt, List.getD_eq_getElem?_getD, List.getElem?_eq_getElem h]
  rfl

theorem sAt_mem {l : List Site} {n : Nat} (h : n < l.length) : sAt l n ∈ l := by
  rw [sAt, List.getD_eq_getElem?_getD, List.getElem?_eq_getElem h]
  exact List.getElem_mem h

theorem at_valid {g : Globe} {x : Site} (hg : checkG g = 0) (hx : siteB x = true) : atV g x.s x.t = (placeV g x.s x.t, 0) := by
  unfold atV
  rw [site_placed hx]
  unfold checkG at hg
  cases h : globeOkB g with
  | false => rw [h] at hg; cases hg
  | true => rfl

theorem take_set {α : Type} : ∀ {l : List α} {n : Nat} {y : α}, n < l.length → (l.set n y).take (n + 1) = l.take n ++ [y]
  | [], _, _, h => by simp at h
  | _ :: _, 0, _, _ => by simp
  | x :: l, n + 1, y, h => by
    simp only [List.set_cons_succ, List.take_succ_cons, List.cons_append]
    rw [take_set (by simpa using h)]

theorem run_place (g : Globe) (l : List Site) (q : Int) (hg : checkG g = 0) (hl : l.length ≤ 8) (hv : ∀ x ∈ l, siteB x = true) : ∀ (f n : Nat) (acc : List Placed), n ≤ l.length → l.length - n < f → acc.length = l.length →
    (run_array_place_0 (l.length : Int) l g q f (n : Int) acc).k = 1 ∧ (run_array_place_0 (l.length : Int) l g q f (n : Int) acc).m5 = acc.take n ++ (placedL g l).drop n := by
  intro f
  induction f with
  | zero => intro n acc _ h; omega
  | succ f ih =>
    intro n acc hn h ha
    rw [run_array_place_0]
    by_cases h1 : n < l.length
    · simp only [nn_t, lt_t h1, lt_t (show n < acc.length by omega), Bool.and_self, cond_true, w64_up (show n < 9223372036854775807 by omega), Int.toNat_natCast, at_valid hg (hv _ (sAt_mem h1))]
      have := ih (n + 1) (acc.set n ⟨sAt l n, placeV g (sAt l n).s (sAt l n).t⟩) (by omega) (by omega) (by simp [ha])
      rw [take_set (by omega)] at this
      rw [drop_at (ET.z .placed) (show n < (placedL g l).length by rw [placedL_len]; exact h1), placedL_at g h1]
      refine ⟨this.1, this.2.trans ?_⟩
      rw [List.append_assoc]
      rfl
    · simp only [lt_f h1, cond_false]
      rw [drop_all (show ¬ n < (placedL g l).length by rw [placedL_len]; exact h1), List.append_nil, List.take_of_length_le (by omega)]
      exact ⟨trivial, rfl⟩

def dupL (g : Globe) (l : List Site) : Bool := dupP (placedL g l)

def checkA (g : Globe) (l : List Site) : Int := bif checkG g != 0 then checkG g else bif stationsE l != 0 then stationsE l else bif dupL g l then 14 else 0

theorem eq0_of {n : Int} (h : (n != 0) = false) : n = 0 := by simpa using h

theorem m_place (g : Globe) (l : List Site) : m_array_place g l = ⟨true, bif checkA g l == 0 then placedL g l else [], checkA g l⟩ := by
  unfold m_array_place checkA m0_array_place
  simp only [m_stations, cond_true]
  cases h1 : (checkG g != 0) with
  | true =>
    simp only [cond_true]
    rw [show (checkG g == 0) = false by simpa [bne] using h1]
    rfl
  | false =>
    cases h2 : (stationsE l != 0) with
    | true =>
      simp only [cond_true, cond_false]
      rw [show (stationsE l == 0) = false by simpa [bne] using h2]
      rfl
    | false =>
      obtain ⟨hl, hv⟩ := stations_ok (eq0_of h2)
      have e0 : (decide (0 ≤ (l.length : Int)) && (decide ((l.length : Int) ≤ 1048576) && ((11 == 11) && (Nat.blt 0 11 && Nat.ble 96 4096)))) = true := by
        rw [nn_t, dec_t (show (l.length : Int) ≤ 1048576 by omega)]; rfl
      unfold lp_array_place_0
      obtain ⟨k1, k2⟩ := run_place g l 0 (eq0_of h1) hl hv (2000 + (l.length + (List.replicate l.length (⟨⟨ByteArray.empty, ⟨(0 : Int), (0 : Int)⟩, ⟨(0 : Int), (0 : Int)⟩⟩, ⟨⟨(0 : Int), (0 : Int)⟩, ⟨(0 : Int), (0 : Int)⟩, ⟨(0 : Int), (0 : Int)⟩⟩⟩ : Placed)).length)) 0 (List.replicate l.length (⟨⟨ByteArray.empty, ⟨(0 : Int), (0 : Int)⟩, ⟨(0 : Int), (0 : Int)⟩⟩, ⟨⟨(0 : Int), (0 : Int)⟩, ⟨(0 : Int), (0 : Int)⟩, ⟨(0 : Int), (0 : Int)⟩⟩⟩ : Placed)) (by omega) (by omega) (by simp)
      rw [show ((0 : Nat) : Int) = 0 from rfl] at k1 k2
      rw [List.take_zero, List.nil_append, List.drop_zero] at k2
      simp only [cond_false, decide_true, Bool.true_and, e0, cond_true, k1, k2, show Nat.beq 1 0 = false from rfl, show Nat.beq 1 1 = true from rfl]
      unfold dupL
      cases dupP (placedL g l) <;> rfl

/-! ### The reference -/

theorem placeR_valid {g : Globe} {x : Site} (hx : siteB x = true) : placeR g x.s x.t = placeV g x.s x.t := by
  have := site_placed hx
  unfold placedB at this
  simp only [Bool.and_eq_true] at this
  exact placeR_eq (paramB_iff.1 this.1) (paramB_iff.1 this.2.1)

theorem run_all (g : Globe) (l : List Site) (hl : l.length ≤ 8) (hv : ∀ x ∈ l, siteB x = true) : ∀ (f n : Nat) (o : List Vec), n ≤ l.length → l.length - n < f → o.length + (l.length - n) ≤ 1000 →
    (run_Q4_all_0 l g f (n : Int) o).k = 0 ∧ (run_Q4_all_0 l g f (n : Int) o).m2 = o ++ (placesL g l).drop n := by
  intro f
  induction f with
  | zero => intro n o _ h; omega
  | succ f ih =>
    intro n o hn h ho
    rw [run_Q4_all_0]
    by_cases h1 : n < l.length
    · simp only [nn_t, lt_t h1, Bool.and_self, cond_true, w64_up (show n < 9223372036854775807 by omega), Int.toNat_natCast, placeR_valid (hv _ (sAt_mem h1)), List.length_singleton, room_le (show o.length + 1 ≤ 1048576 by omega)]
      rw [drop_at (ET.z .vec) (show n < (placesL g l).length by rw [placesL_len]; exact h1), placesL_at g h1]
      obtain ⟨k1, k2⟩ := ih (n + 1) (o ++ [placeV g (sAt l n).s (sAt l n).t]) (by omega) (by omega) (by simp; omega)
      refine ⟨k1, k2.trans ?_⟩
      rw [List.append_assoc]
      rfl
    · simp only [lt_f h1, cond_false]
      rw [drop_all (show ¬ n < (placesL g l).length by rw [placesL_len]; exact h1), List.append_nil]
      exact ⟨trivial, rfl⟩

theorem m_all (g : Globe) (l : List Site) (h : stationsE l = 0) : m_Q4_all g l = ⟨true, placesL g l⟩ := by
  obtain ⟨hl, hv⟩ := stations_ok h
  unfold m_Q4_all lp_Q4_all_0
  obtain ⟨k1, k2⟩ := run_all g l hl hv (2000 + (l.length + ([] : List Vec).length)) 0 [] (by omega) (by omega) (by simp; omega)
  rw [show ((0 : Nat) : Int) = 0 from rfl] at k1 k2
  rw [k1, k2]
  rfl

theorem run_checkS (g : Globe) (l : List Site) (p : Int) (hl : l.length ≤ 8) : ∀ (f n : Nat), n ≤ l.length → l.length - n < f → (run_Q4_Check_0 p l g f (n : Int)).k = bif (l.drop n).all siteB then 1 else 0 := by
  intro f
  induction f with
  | zero => intro n _ h; omega
  | succ f ih =>
    intro n hn h
    rw [run_Q4_Check_0]
    by_cases h1 : n < l.length
    · simp only [nn_t, lt_t h1, Bool.and_self, cond_true, w64_up (show n < 9223372036854775807 by omega), Int.toNat_natCast, m_validR]
      rw [drop_at (ET.z .site) h1, List.all_cons]
      cases siteB (sAt l n) with
      | false => rfl
      | true =>
        simp only [Bool.not_true, cond_false, Bool.true_and]
        exact ih (n + 1) (by omega) (by omega)
    · simp only [lt_f h1, cond_false]
      rw [drop_all h1]
      rfl

theorem eq_vec (a b : Vec) : eqAll [.int .i64 a.x.num, .int .i64 a.x.den, .int .i64 a.y.num, .int .i64 a.y.den, .int .i64 a.z.num, .int .i64 a.z.den] [.int .i64 b.x.num, .int .i64 b.x.den, .int .i64 b.y.num, .int .i64 b.y.den, .int .i64 b.z.num, .int .i64 b.z.den] = decide (a = b) := by
  obtain ⟨⟨a1, a2⟩, ⟨a3, a4⟩, ⟨a5, a6⟩⟩ := a
  obtain ⟨⟨b1, b2⟩, ⟨b3, b4⟩, ⟨b5, b6⟩⟩ := b
  rw [Bool.eq_iff_iff]
  simp [eqAll, D.eq, and_assoc]

theorem dup_at (g : Globe) {l : List Site} {i j : Nat} (hi : i < l.length) (hj : j < l.length) : dupAt (placedL g l) i j = (decide ((sAt l i).name.data.toList = (sAt l j).name.data.toList) || decide (placeV g (sAt l i).s (sAt l i).t = placeV g (sAt l j).s (sAt l j).t)) := by
  unfold dupAt
  rw [eq_vec, placedL_at g hi, placedL_at g hj]
  simp only
  by_cases c : (sAt l i).name.data.toList = (sAt l j).name.data.toList
  · rw [show ((sAt l i).name.data.toList == (sAt l j).name.data.toList) = true by simpa using c, dec_t c]; rfl
  · rw [show ((sAt l i).name.data.toList == (sAt l j).name.data.toList) = false by simpa using c, dec_f c]; rfl

theorem run_pair2 (g : Globe) (l : List Site) (p : Int) (hl : l.length ≤ 8) (i : Nat) (hi : i < l.length) : ∀ (f n : Nat), n ≤ i → i - n < f → (run_Q4_Check_2 p (i : Int) l (placesL g l) f (n : Int)).k = bif (List.range' n (i - n)).any (fun k => dupAt (placedL g l) k i) then 0 else 1 := by
  intro f
  induction f with
  | zero => intro n _ h; omega
  | succ f ih =>
    intro n hn h
    rw [run_Q4_Check_2]
    by_cases h1 : n < i
    · simp only [nn_t, lt_t h1, lt_t hi, lt_t (show n < l.length by omega), lt_t (show i < (placesL g l).length by rw [placesL_len]; exact hi), lt_t (show n < (placesL g l).length by rw [placesL_len]; omega), Bool.and_self, cond_true, w64_up (show n < 9223372036854775807 by omega), Int.toNat_natCast]
      rw [eq_vec, placesL_at g hi, placesL_at g (show n < l.length by omega), show i - n = (i - (n + 1)) + 1 by omega, List.range'_succ, List.any_cons, dup_at g (show n < l.length by omega) hi]
      by_cases c : (sAt l n).name.data.toList = (sAt l i).name.data.toList
      · rw [show ((sAt l i).name.data.toList == (sAt l n).name.data.toList) = true by simpa using c.symm, dec_t c]; rfl
      · rw [show ((sAt l i).name.data.toList == (sAt l n).name.data.toList) = false from beq_eq_false_iff_ne.2 fun e => c e.symm, dec_f c]
        simp only [cond_false, Bool.false_or]
        by_cases d : placeV g (sAt l n).s (sAt l n).t = placeV g (sAt l i).s (sAt l i).t
        · rw [dec_t d, dec_t d.symm]; rfl
        · rw [dec_f d, dec_f (fun e => d e.symm)]
          simp only [cond_false, Bool.false_or]
          exact ih (n + 1) (by omega) (by omega)
    · simp only [lt_f h1, cond_false]
      rw [show i - n = 0 by omega]
      rfl

theorem run_pair1 (g : Globe) (l : List Site) (p : Int) (hl : l.length ≤ 8) : ∀ (f n : Nat), n ≤ l.length → l.length - n < f → (run_Q4_Check_1 p l (placesL g l) f (n : Int)).k = bif (List.range' n (l.length - n)).any (fun j => (List.range j).any fun k => dupAt (placedL g l) k j) then 0 else 1 := by
  intro f
  induction f with
  | zero => intro n _ h; omega
  | succ f ih =>
    intro n hn h
    rw [run_Q4_Check_1]
    by_cases h1 : n < l.length
    · have := run_pair2 g l p hl n h1 (2000 + (l.length + (placesL g l).length)) 0 (by omega) (by omega)
      rw [show ((0 : Nat) : Int) = 0 from rfl, Nat.sub_zero, ← List.range_eq_range'] at this
      unfold lp_Q4_Check_2
      simp only [lt_t h1, cond_true, this, w64_up (show n < 9223372036854775807 by omega)]
      rw [show l.length - n = (l.length - (n + 1)) + 1 by omega, List.range'_succ, List.any_cons]
      cases (List.range n).any (fun k => dupAt (placedL g l) k n) with
      | true => rfl
      | false =>
        simp only [cond_false, Bool.false_or, show Nat.beq 1 0 = false from rfl, show Nat.beq 1 1 = true from rfl, cond_true]
        exact ih (n + 1) (by omega) (by omega)
    · simp only [lt_f h1, cond_false]
      rw [show l.length - n = 0 by omega]
      rfl

theorem m_checkRA (g : Globe) (l : List Site) : m_Q4_Check g l = ⟨true, checkA g l⟩ := by
  unfold m_Q4_Check checkA
  cases h1 : (checkG g != 0) with
  | true => rfl
  | false =>
    simp only [cond_false]
    by_cases h2 : 8 < l.length
    · rw [dec_t (show (8 : Int) < (l.length : Int) by omega), show stationsE l = 4 by unfold stationsE; rw [dec_t h2]; rfl]
      rfl
    · rw [dec_f (show ¬ (8 : Int) < (l.length : Int) by omega)]
      unfold lp_Q4_Check_0 lp_Q4_Check_1
      have hs := run_checkS g l 0 (by omega) (2000 + l.length) 0 (by omega) (by omega)
      rw [show ((0 : Nat) : Int) = 0 from rfl, List.drop_zero] at hs
      simp only [cond_false, hs]
      cases h3 : l.all siteB with
      | false =>
        rw [show stationsE l = 8 by unfold stationsE; rw [dec_f h2, h3]; rfl]
        rfl
      | true =>
        have h4 : stationsE l = 0 := by unfold stationsE; rw [dec_f h2, h3]; rfl
        have hp := run_pair1 g l 0 (by omega) (2000 + (l.length + (placesL g l).length)) 0 (by omega) (by omega)
        rw [show ((0 : Nat) : Int) = 0 from rfl, Nat.sub_zero, ← List.range_eq_range'] at hp
        simp only [m_all g l h4, h4, cond_true, show Nat.beq 1 0 = false from rfl, show Nat.beq 1 1 = true from rfl, cond_false, bne_self_eq_false, hp]
        unfold dupL dupP
        rw [placedL_len]
        cases (List.range l.length).any (fun j => (List.range j).any fun i => dupAt (placedL g l) i j) <;> rfl

theorem m_placesR (g : Globe) (l : List Site) : m_Q4_Places g l = ⟨true, bif checkA g l == 0 then placesL g l else [], checkA g l⟩ := by
  unfold m_Q4_Places
  simp only [m_checkRA, cond_true]
  cases h1 : (checkA g l != 0) with
  | true => rw [show (checkA g l == 0) = false by simpa [bne] using h1]; rfl
  | false =>
    have h2 := eq0_of h1
    have h4 : stationsE l = 0 := by
      unfold checkA at h2
      cases h3 : (checkG g != 0) with
      | true => rw [h3, cond_true] at h2; rw [h2] at h3; cases h3
      | false =>
        rw [h3, cond_false] at h2
        cases h5 : (stationsE l != 0) with
        | true => rw [h5, cond_true] at h2; rw [h2] at h5; cases h5
        | false => exact eq0_of h5
    rw [m_all g l h4, h2]
    rfl

def lineA (g : Globe) (l : List Site) (i j : Int) : Vec × Int :=
  bif checkA g l != 0 then (vecZ, checkA g l) else
  bif decide (0 ≤ i) && (decide (i < (l.length : Int)) && (decide (0 ≤ j) && decide (j < (l.length : Int)))) then subV (placeV g (sAt l j.toNat).s (sAt l j.toNat).t) (placeV g (sAt l i.toNat).s (sAt l i.toNat).t) else (vecZ, 2)

theorem nat_of {i : Int} (h : 0 ≤ i) : ∃ n : Nat, i = n := ⟨i.toNat, by omega⟩

theorem m_line (g : Globe) (l : List Site) (i j : Int) : m_array_Line g l i j = ⟨true, (lineA g l i j).1, (lineA g l i j).2⟩ := by
  unfold m_array_Line lineA
  simp only [m_place, cond_true]
  cases h1 : (checkA g l != 0) with
  | true => rfl
  | false =>
    rw [eq0_of h1]
    simp only [beq_self_eq_true, cond_true, cond_false, placedL_len]
    by_cases c1 : 0 ≤ i
    · by_cases c2 : i < (l.length : Int)
      · by_cases c3 : 0 ≤ j
        · by_cases c4 : j < (l.length : Int)
          · obtain ⟨n, rfl⟩ := nat_of c1
            obtain ⟨m, rfl⟩ := nat_of c3
            simp only [dec_t c1, dec_t c2, dec_t c3, dec_t c4, dec_f (show ¬ (n : Int) < 0 by omega), dec_f (show ¬ (m : Int) < 0 by omega), dec_f (show ¬ (l.length : Int) ≤ (n : Int) by omega), dec_f (show ¬ (l.length : Int) ≤ (m : Int) by omega), Bool.and_self, cond_true, cond_false, Int.toNat_natCast, placedL_at g (show n < l.length by omega), placedL_at g (show m < l.length by omega)]
          · simp only [dec_t c1, dec_t c2, dec_t c3, dec_f c4, dec_f (show ¬ i < 0 by omega), dec_f (show ¬ j < 0 by omega), dec_f (show ¬ (l.length : Int) ≤ i by omega), dec_t (show (l.length : Int) ≤ j by omega), Bool.and_false, cond_true, cond_false]
            rfl
        · simp only [dec_t c1, dec_t c2, dec_f c3, dec_f (show ¬ i < 0 by omega), dec_t (show j < 0 by omega), dec_f (show ¬ (l.length : Int) ≤ i by omega), Bool.and_false, Bool.false_and, cond_true, cond_false]
          rfl
      · simp only [dec_t c1, dec_f c2, dec_f (show ¬ i < 0 by omega), dec_t (show (l.length : Int) ≤ i by omega), Bool.and_false, Bool.false_and, cond_true, cond_false]
        rfl
    · simp only [dec_f c1, dec_t (show i < 0 by omega), Bool.false_and, cond_true, cond_false]
      rfl

theorem m_lineR (g : Globe) (l : List Site) (i j : Int) : m_Q4_Line g l i j = ⟨true, (lineA g l i j).1, (lineA g l i j).2⟩ := by
  unfold m_Q4_Line lineA
  simp only [m_placesR, cond_true]
  cases h1 : (checkA g l != 0) with
  | true => rfl
  | false =>
    rw [eq0_of h1]
    simp only [beq_self_eq_true, cond_true, cond_false, placesL_len]
    by_cases c1 : 0 ≤ i
    · by_cases c3 : 0 ≤ j
      · by_cases c2 : i < (l.length : Int)
        · by_cases c4 : j < (l.length : Int)
          · obtain ⟨n, rfl⟩ := nat_of c1
            obtain ⟨m, rfl⟩ := nat_of c3
            simp only [dec_t c1, dec_t c2, dec_t c3, dec_t c4, dec_f (show ¬ (n : Int) < 0 by omega), dec_f (show ¬ (m : Int) < 0 by omega), dec_f (show ¬ (l.length : Int) ≤ (n : Int) by omega), dec_f (show ¬ (l.length : Int) ≤ (m : Int) by omega), Bool.and_self, cond_true, cond_false, Int.toNat_natCast, placesL_at g (show n < l.length by omega), placesL_at g (show m < l.length by omega)]
          · simp only [dec_t c1, dec_t c2, dec_t c3, dec_f c4, dec_f (show ¬ i < 0 by omega), dec_f (show ¬ j < 0 by omega), dec_f (show ¬ (l.length : Int) ≤ i by omega), dec_t (show (l.length : Int) ≤ j by omega), Bool.and_false, cond_true, cond_false]
            rfl
        · simp only [dec_t c1, dec_f c2, dec_f (show ¬ i < 0 by omega), dec_f (show ¬ j < 0 by omega), dec_t (show (l.length : Int) ≤ i by omega), Bool.and_false, Bool.false_and, cond_true, cond_false]
          rfl
      · simp only [dec_t c1, dec_f c3, dec_f (show ¬ i < 0 by omega), dec_t (show j < 0 by omega), Bool.and_false, Bool.false_and, cond_true, cond_false]
        rfl
    · simp only [dec_f c1, dec_t (show i < 0 by omega), Bool.false_and, cond_true, cond_false]
      rfl

def plineA (g : Globe) (l : List Site) (i j : Int) (s : Source) (t : Int) : Dir × Int :=
  bif (lineA g l i j).2 != 0 then (dirZ, (lineA g l i j).2) else projV (lineA g l i j).1 s t

theorem m_pline (g : Globe) (l : List Site) (i j : Int) (s : Source) (t : Int) : m_proj_Line g l i j s t = ⟨true, (plineA g l i j s t).1, (plineA g l i j s t).2⟩ := by
  unfold m_proj_Line plineA
  simp only [m_line, cond_true]
  cases (lineA g l i j).2 != 0 <;> rfl

theorem m_plineR (g : Globe) (l : List Site) (i j : Int) (s : Source) (t : Int) : m_Q8_Line g l i j s t = ⟨true, (plineA g l i j s t).1, (plineA g l i j s t).2⟩ := by
  unfold m_Q8_Line plineA
  simp only [m_lineR, cond_true]
  cases (lineA g l i j).2 != 0 <;> rfl

end Go.Ev

namespace Go.Ev
open Go Go.Proofs

structure R_Q6_Path_0 where
  k : Nat
  p11 : Int
  m1 : List Dir

def run_Q6_Path_0 (p1 : Int) (p2 : Int) (p3 : Int) (q0 : Source) : Nat → Int → List Dir → R_Q6_Path_0
  | 0, p11, m1 => ⟨1, p11, m1⟩
  | n + 1, p11, m1 => bif decide (p11 < p3) then (bif (Nat.blt 0 6 && ((6 == 6) && ((6 == 6) && (Nat.ble (m1.length + ([dirR q0.ra q0.dec (w64 (p1 + (w64 (p11 * p2))))] : List Dir).length) roomD && Nat.ble 48 4096)))) then run_Q6_Path_0 p1 p2 p3 q0 n (w64 (p11 + (1 : Int))) (m1 ++ ([dirR q0.ra q0.dec (w64 (p1 + (w64 (p11 * p2))))] : List Dir)) else ⟨1, p11, m1⟩) else ⟨0, p11, m1⟩

def lp_Q6_Path_0 (p1 : Int) (p2 : Int) (p3 : Int) (q0 : Source) (p11 : Int) (m1 : List Dir) : R_Q6_Path_0 := run_Q6_Path_0 p1 p2 p3 q0 (2000 + (m1.length)) p11 m1

abbrev H_Q6_Path_0 (p1 : Int) (p2 : Int) (p3 : Int) (q0 : Source) (p11 : Int) (m1 : List Dir) : TS := headT [1, 2, 3, 4, 10, 11] 64 [.v (.c (.d (.int .i64 p1))), .v (.c (.d (.int .i64 p2))), .v (.c (.d (.int .i64 p3))), .v (.c (.ptr 0 0)), .v (.c (.aslice 1 none)), .v (.c (.d (.int .i64 p11)))]

set_option maxRecDepth 100000 in
theorem b_Q6_Path_0 (p1 : Int) (p2 : Int) (p3 : Int) (q0 : Source) (p11 : Int) (m1 : List Dir) : evCode Tryz.prog GT EQT T_Q8_Line XT noL 80 (loopB Tryz.prog 34 0) (H_Q6_Path_0 p1 p2 p3 q0 p11 m1) [.rw 26 [.str q0.name, .int .i64 q0.ra, .int .i64 q0.dec], .arr (some 34) .dir m1] 2 (normK 0 [1, 2, 3, 4, 10, 11]) =
    bif decide (p11 < p3) then (bif (Nat.blt 0 6 && ((6 == 6) && ((6 == 6) && (Nat.ble (m1.length + ([dirR q0.ra q0.dec (w64 (p1 + (w64 (p11 * p2))))] : List Dir).length) roomD && Nat.ble 48 4096)))) then some (.st .normal (headT [1, 2, 3, 4, 10, 11] 64 [.v (.c (.d (.int .i64 p1))), .v (.c (.d (.int .i64 p2))), .v (.c (.d (.int .i64 p3))), .v (.c (.ptr 0 0)), .v (.c (.aslice 1 none)), .v (.c (.d (.int .i64 (w64 (p11 + (1 : Int))))))]) [.rw 26 [.str q0.name, .int .i64 q0.ra, .int .i64 q0.dec], .arr (some 34) .dir (m1 ++ ([dirR q0.ra q0.dec (w64 (p1 + (w64 (p11 * p2))))] : List Dir))] 2) else none) else some (.st (.exit 0) (headT [1, 2, 3, 4, 10, 11] 64 [.v (.c (.d (.int .i64 p1))), .v (.c (.d (.int .i64 p2))), .v (.c (.d (.int .i64 p3))), .v (.c (.ptr 0 0)), .v (.c (.aslice 1 none)), .v (.c (.d (.int .i64 p11)))]) [.rw 26 [.str q0.name, .int .i64 q0.ra, .int .i64 q0.dec], .arr (some 34) .dir m1] 2) := by
  kernel_rfl

def o_Q6_Path_0 (p1 : Int) (p2 : Int) (p3 : Int) (q0 : Source) (r : R_Q6_Path_0) : LT := .br (Nat.beq r.k 0) (.st (.exit 0) (headT [1, 2, 3, 4, 10, 11] 64 [.v (.c (.d (.int .i64 p1))), .v (.c (.d (.int .i64 p2))), .v (.c (.d (.int .i64 p3))), .v (.c (.ptr 0 0)), .v (.c (.aslice 1 none)), .v (.c (.d (.int .i64 r.p11)))]) [.rw 26 [.str q0.name, .int .i64 q0.ra, .int .i64 q0.dec], .arr (some 34) .dir r.m1] 2) (.no)

set_option maxRecDepth 100000 in
theorem r_Q6_Path_0 (p1 : Int) (p2 : Int) (p3 : Int) (q0 : Source) : ∀ (n : Nat) (p11 : Int) (m1 : List Dir) (x : Ex) (T' : TS) (M' : List Blk) (N' : Nat), LReach (o_Q6_Path_0 p1 p2 p3 q0 (run_Q6_Path_0 p1 p2 p3 q0 n p11 m1)) x T' M' N' → x ≠ .normal ∧ ∃ j, RoundsN Tryz.prog GT gbT 0 (loopB Tryz.prog 34 0) j (H_Q6_Path_0 p1 p2 p3 q0 p11 m1) [.rw 26 [.str q0.name, .int .i64 q0.ra, .int .i64 q0.dec], .arr (some 34) .dir m1] 2 x T' M' N' := by
  have hL : LOKn Tryz.prog GT gbT 0 noL (loopsIn (loopB Tryz.prog 34 0)) := fun _ _ _ _ _ _ _ _ _ h => h.elim
  intro n
  induction n with
  | zero =>
    intro p11 m1 x T' M' N' hr
    exact False.elim (redF hr)
  | succ n ih =>
    intro p11 m1 x T' M' N'
    rw [run_Q6_Path_0]
    exact viaE (b_Q6_Path_0 p1 p2 p3 q0 p11 m1) (condG (o := o_Q6_Path_0 p1 p2 p3 q0) (condG (o := o_Q6_Path_0 p1 p2 p3 q0) (fun he hr => goN g_Q8_Line hEQT hmT hL he (ih (w64 (p11 + (1 : Int))) (m1 ++ ([dirR q0.ra q0.dec (w64 (p1 + (w64 (p11 * p2))))] : List Dir)) x T' M' N' hr)) (fun _ hr => False.elim (redF hr))) (fun he hr => stopN g_Q8_Line hEQT hmT hL he (by simp) (redT hr)))

def f_Q6_Path_0 : List AV → List Blk → LT := fun vs Ms => match vs, Ms with
  | [.v (.c (.d (.int .i64 p1))), .v (.c (.d (.int .i64 p2))), .v (.c (.d (.int .i64 p3))), .v (.c (.ptr 0 0)), .v (.c (.aslice 1 none)), .v (.c (.d (.int .i64 p11)))], [.rw 26 [.str q0_0, .int .i64 q0_1, .int .i64 q0_2], .arr (some 34) .dir m1] => o_Q6_Path_0 p1 p2 p3 (⟨q0_0, q0_1, q0_2⟩ : Source) (lp_Q6_Path_0 p1 p2 p3 (⟨q0_0, q0_1, q0_2⟩ : Source) p11 m1)
  | _, _ => .no

def L_Q6_Path_0 := LamN 9 64 0 [1, 2, 3, 4, 10, 11] f_Q6_Path_0

set_option maxRecDepth 100000 in
theorem k_Q6_Path_0 : LOKbn Tryz.prog GT gbT 0 L_Q6_Path_0 (loopB Tryz.prog 34 0) := by
  refine LOKbn.lamN (by kernel_rfl) fun vs Ms x T' M' N' hr => ?_
  unfold f_Q6_Path_0 at hr
  split at hr
  · obtain ⟨q1, j, q2⟩ := r_Q6_Path_0 _ _ _ _ _ _ _ x T' M' N' hr
    exact ⟨q1, j, q2⟩
  · exact hr.elim

structure O_Q6_Path where
  ok : Bool
  r0 : List Dir
  r1 : Int

def m_Q6_Path (a0 : Source) (a1 : Int) (a2 : Int) (a3 : Int) : O_Q6_Path := bif ((checkSrc ⟨a0.name, a0.ra, a0.dec⟩) != (0 : Int)) then ⟨true, ([] : List Dir), (checkSrc ⟨a0.name, a0.ra, a0.dec⟩)⟩ else (bif decide (a3 < (0 : Int)) then ⟨true, ([] : List Dir), (4 : Int)⟩ else (bif decide ((100 : Int) < a3) then ⟨true, ([] : List Dir), (4 : Int)⟩ else (bif decide (a2 < (1 : Int)) then ⟨true, ([] : List Dir), (2 : Int)⟩ else (bif decide ((720 : Int) < a2) then ⟨true, ([] : List Dir), (2 : Int)⟩ else (bif (!(tickB a1)) then ⟨true, ([] : List Dir), (2 : Int)⟩ else (bif decide ((0 : Int) < a3) then (bif (!(tickB (w64 (a1 + (w64 ((w64 (a3 - (1 : Int))) * a2)))))) then ⟨true, ([] : List Dir), (2 : Int)⟩ else (bif Nat.beq (lp_Q6_Path_0 a1 a2 a3 a0 (0 : Int) ([] : List Dir)).k 0 then ⟨true, ((lp_Q6_Path_0 a1 a2 a3 a0 (0 : Int) ([] : List Dir)).m1), (0 : Int)⟩ else ⟨false, [], 0⟩)) else (bif Nat.beq (lp_Q6_Path_0 a1 a2 a3 a0 (0 : Int) ([] : List Dir)).k 0 then ⟨true, ((lp_Q6_Path_0 a1 a2 a3 a0 (0 : Int) ([] : List Dir)).m1), (0 : Int)⟩ else ⟨false, [], 0⟩)))))))

def F_Q6_Path (a0 : Source) (a1 : Int) (a2 : Int) (a3 : Int) (K : AV → List Blk → Ans) (r : O_Q6_Path) : Ans := bif r.ok then K (.tup [.c (.aslice 0 none), .c (.d (.int .i64 r.r1))]) [.arr (some 34) .dir r.r0] else none

set_option maxRecDepth 100000 in
theorem e_Q6_Path (a0 : Source) (a1 : Int) (a2 : Int) (a3 : Int) (K : AV → List Blk → Ans) : evFn Tryz.prog GT EQT T_Q8_Line XT (orL L_Q6_Path_0 noL) 80 34 [.v (.agg [.str a0.name, .int .i64 a0.ra, .int .i64 a0.dec]), .v (.c (.d (.int .i64 a1))), .v (.c (.d (.int .i64 a2))), .v (.c (.d (.int .i64 a3)))] [] (fun v M => K (finR 0 v M).1 (finR 0 v M).2) = F_Q6_Path a0 a1 a2 a3 K (m_Q6_Path a0 a1 a2 a3) := by
  unfold m_Q6_Path
  refine Eq.trans ?_ (Eq.symm (pushT rfl (pushT rfl (pushT rfl (pushT rfl (pushT rfl (pushT rfl (pushT (pushT rfl (pushT rfl rfl)) (pushT rfl rfl)))))))))
  kernel_rfl

set_option maxRecDepth 100000 in
theorem lok_Q6_Path : ∀ fn c, Tryz.prog.funcs[34]? = some fn → fn.body = some c → LOKn Tryz.prog GT gbT 0 (orL L_Q6_Path_0 noL) (loopsIn c) := by
  refine LOKn.ofF fun b hb => ?_
  have e : loopsF Tryz.prog 34 = [loopB Tryz.prog 34 0] := by kernel_rfl
  rw [e] at hb
  simp only [List.mem_cons, List.not_mem_nil, or_false] at hb
  subst hb
  exact (LOKbn.or k_Q6_Path_0 (fun _ _ _ _ _ _ _ h => h.elim))


theorem c_Q6_Path (a0 : Source) (a1 : Int) (a2 : Int) (a3 : Int) (hd : (m_Q6_Path a0 a1 a2 a3).ok = true) : CallsA Tryz.prog GT gbT 34 [.v (.agg [.str a0.name, .int .i64 a0.ra, .int .i64 a0.dec]), .v (.c (.d (.int .i64 a1))), .v (.c (.d (.int .i64 a2))), .v (.c (.d (.int .i64 a3)))] [] (.tup [.c (.aslice 0 none), .c (.d (.int .i64 ((m_Q6_Path a0 a1 a2 a3).r1)))]) [.arr (some 34) .dir ((m_Q6_Path a0 a1 a2 a3).r0)] := by
  refine CallsA.ofEvR g_Q8_Line hEQT hmT (n0 := 0) rfl lok_Q6_Path ((e_Q6_Path a0 a1 a2 a3 (fun v M => some (Res.fin v M))).trans ?_)
  unfold F_Q6_Path
  rw [hd]
  rfl

def s_Q6_Path : List AV → List Blk → (AV → List Blk → Ans) → Ans := fun xs bs K => match xs, bs with
  | [.v (.agg [.str a0_0, .int .i64 a0_1, .int .i64 a0_2]), .v (.c (.d (.int .i64 a1))), .v (.c (.d (.int .i64 a2))), .v (.c (.d (.int .i64 a3)))], [] => F_Q6_Path (⟨a0_0, a0_1, a0_2⟩ : Source) a1 a2 a3 K (m_Q6_Path (⟨a0_0, a0_1, a0_2⟩ : Source) a1 a2 a3)
  | _, _ => none

def T_Q6_Path : Nat → List AV → List Blk → (AV → List Blk → Ans) → Ans := upd T_Q8_Line 34 s_Q6_Path

theorem g_Q6_Path : GOK Tryz.prog GT gbT T_Q6_Path XT := by
  refine GOK.upd g_Q8_Line (fun args w => Tryz.call34 args w) fun xs bs K r h => ?_
  unfold s_Q6_Path at h
  split at h
  · unfold F_Q6_Path at h
    simp only [cond_eq_ite] at h
    split at h
    · rename_i hd
      exact ⟨_, _, c_Q6_Path _ _ _ _ hd, h⟩
    · cases h
  · cases h

structure R_Q8_Trail_0 where
  k : Nat
  p22 : Int
  m5 : List Trk

def run_Q8_Trail_0 (p5 : Int) (p6 : Int) (p17 : Int) (m0 : List Site) (q1 : Source) (m2 : List Trk) (q3 : Vec) (m4 : List Dir) : Nat → Int → List Trk → R_Q8_Trail_0
  | 0, p22, m5 => ⟨2, p22, m5⟩
  | n + 1, p22, m5 => bif decide (p22 < (m4.length : Int)) then (bif ((projV q3 q1 (w64 (p5 + (w64 (p22 * p6))))).2 != (0 : Int)) then ⟨0, p22, m5⟩ else (bif (Nat.blt 0 7 && ((7 == 7) && ((7 == 7) && (Nat.ble (m5.length + ([⟨(w64 (p5 + (w64 (p22 * p6)))), ((projV q3 q1 (w64 (p5 + (w64 (p22 * p6))))).1).x, ((projV q3 q1 (w64 (p5 + (w64 (p22 * p6))))).1).y, ((projV q3 q1 (w64 (p5 + (w64 (p22 * p6))))).1).z⟩] : List Trk).length) roomD && Nat.ble 56 4096)))) then run_Q8_Trail_0 p5 p6 p17 m0 q1 m2 q3 m4 n (w64 (p22 + (1 : Int))) (m5 ++ ([⟨(w64 (p5 + (w64 (p22 * p6)))), ((projV q3 q1 (w64 (p5 + (w64 (p22 * p6))))).1).x, ((projV q3 q1 (w64 (p5 + (w64 (p22 * p6))))).1).y, ((projV q3 q1 (w64 (p5 + (w64 (p22 * p6))))).1).z⟩] : List Trk)) else ⟨2, p22, m5⟩)) else ⟨1, p22, m5⟩

def lp_Q8_Trail_0 (p5 : Int) (p6 : Int) (p17 : Int) (m0 : List Site) (q1 : Source) (m2 : List Trk) (q3 : Vec) (m4 : List Dir) (p22 : Int) (m5 : List Trk) : R_Q8_Trail_0 := run_Q8_Trail_0 p5 p6 p17 m0 q1 m2 q3 m4 (2000 + (m0.length + m2.length + m4.length + m5.length)) p22 m5

abbrev H_Q8_Trail_0 (p5 : Int) (p6 : Int) (p17 : Int) (m0 : List Site) (q1 : Source) (m2 : List Trk) (q3 : Vec) (m4 : List Dir) (p22 : Int) (m5 : List Trk) : TS := headT [5, 6, 12, 16, 17, 18, 20, 21, 22] 83 [.v (.c (.d (.int .i64 p5))), .v (.c (.d (.int .i64 p6))), .v (.c (.ptr 1 0)), .v (.c (.aslice 2 none)), .v (.c (.d (.int .i64 p17))), .v (.c (.ptr 3 0)), .v (.c (.aslice 4 none)), .v (.c (.aslice 5 none)), .v (.c (.d (.int .i64 p22)))]

set_option maxRecDepth 100000 in
theorem b_Q8_Trail_0 (p5 : Int) (p6 : Int) (p17 : Int) (m0 : List Site) (q1 : Source) (m2 : List Trk) (q3 : Vec) (m4 : List Dir) (p22 : Int) (m5 : List Trk) : evCode Tryz.prog GT EQT T_Q6_Path XT noL 80 (loopB Tryz.prog 15 0) (H_Q8_Trail_0 p5 p6 p17 m0 q1 m2 q3 m4 p22 m5) [.arr none .site m0, .rw 26 [.str q1.name, .int .i64 q1.ra, .int .i64 q1.dec], .arr (some 84) .trk m2, .rw 62 [.int .i64 q3.x.num, .int .i64 q3.x.den, .int .i64 q3.y.num, .int .i64 q3.y.den, .int .i64 q3.z.num, .int .i64 q3.z.den], .arr (some 34) .dir m4, .arr (some 84) .trk m5] 6 (normK 1 [5, 6, 12, 16, 17, 18, 20, 21, 22]) =
    bif decide (p22 < (m4.length : Int)) then (bif ((projV q3 q1 (w64 (p5 + (w64 (p22 * p6))))).2 != (0 : Int)) then some (.st .ret (headT [5, 6, 12, 16, 17, 18, 20, 21, 22] 83 [.v (.c (.d (.int .i64 p5))), .v (.c (.d (.int .i64 p6))), .v (.c (.ptr 1 0)), .v (.c (.aslice 2 none)), .v (.c (.d (.int .i64 ((projV q3 q1 (w64 (p5 + (w64 (p22 * p6))))).2)))), .v (.c (.ptr 3 0)), .v (.c (.aslice 4 none)), .v (.c (.aslice 5 none)), .v (.c (.d (.int .i64 p22)))]) [.arr none .site m0, .rw 26 [.str q1.name, .int .i64 q1.ra, .int .i64 q1.dec], .arr (some 84) .trk ([] : List Trk), .rw 62 [.int .i64 q3.x.num, .int .i64 q3.x.den, .int .i64 q3.y.num, .int .i64 q3.y.den, .int .i64 q3.z.num, .int .i64 q3.z.den], .arr (some 34) .dir m4, .arr (some 84) .trk m5] 6) else (bif (Nat.blt 0 7 && ((7 == 7) && ((7 == 7) && (Nat.ble (m5.length + ([⟨(w64 (p5 + (w64 (p22 * p6)))), ((projV q3 q1 (w64 (p5 + (w64 (p22 * p6))))).1).x, ((projV q3 q1 (w64 (p5 + (w64 (p22 * p6))))).1).y, ((projV q3 q1 (w64 (p5 + (w64 (p22 * p6))))).1).z⟩] : List Trk).length) roomD && Nat.ble 56 4096)))) then some (.st .normal (headT [5, 6, 12, 16, 17, 18, 20, 21, 22] 83 [.v (.c (.d (.int .i64 p5))), .v (.c (.d (.int .i64 p6))), .v (.c (.ptr 1 0)), .v (.c (.aslice 2 none)), .v (.c (.d (.int .i64 p17))), .v (.c (.ptr 3 0)), .v (.c (.aslice 4 none)), .v (.c (.aslice 5 none)), .v (.c (.d (.int .i64 (w64 (p22 + (1 : Int))))))]) [.arr none .site m0, .rw 26 [.str q1.name, .int .i64 q1.ra, .int .i64 q1.dec], .arr (some 84) .trk m2, .rw 62 [.int .i64 q3.x.num, .int .i64 q3.x.den, .int .i64 q3.y.num, .int .i64 q3.y.den, .int .i64 q3.z.num, .int .i64 q3.z.den], .arr (some 34) .dir m4, .arr (some 84) .trk (m5 ++ ([⟨(w64 (p5 + (w64 (p22 * p6)))), ((projV q3 q1 (w64 (p5 + (w64 (p22 * p6))))).1).x, ((projV q3 q1 (w64 (p5 + (w64 (p22 * p6))))).1).y, ((projV q3 q1 (w64 (p5 + (w64 (p22 * p6))))).1).z⟩] : List Trk))] 6) else none)) else some (.st (.exit 0) (headT [5, 6, 12, 16, 17, 18, 20, 21, 22] 83 [.v (.c (.d (.int .i64 p5))), .v (.c (.d (.int .i64 p6))), .v (.c (.ptr 1 0)), .v (.c (.aslice 2 none)), .v (.c (.d (.int .i64 p17))), .v (.c (.ptr 3 0)), .v (.c (.aslice 4 none)), .v (.c (.aslice 5 none)), .v (.c (.d (.int .i64 p22)))]) [.arr none .site m0, .rw 26 [.str q1.name, .int .i64 q1.ra, .int .i64 q1.dec], .arr (some 84) .trk m2, .rw 62 [.int .i64 q3.x.num, .int .i64 q3.x.den, .int .i64 q3.y.num, .int .i64 q3.y.den, .int .i64 q3.z.num, .int .i64 q3.z.den], .arr (some 34) .dir m4, .arr (some 84) .trk m5] 6) := by
  kernel_rfl

def o_Q8_Trail_0 (p5 : Int) (p6 : Int) (p17 : Int) (m0 : List Site) (q1 : Source) (m2 : List Trk) (q3 : Vec) (m4 : List Dir) (r : R_Q8_Trail_0) : LT := .br (Nat.beq r.k 0) (.st .ret (headT [5, 6, 12, 16, 17, 18, 20, 21, 22] 83 [.v (.c (.d (.int .i64 p5))), .v (.c (.d (.int .i64 p6))), .v (.c (.ptr 1 0)), .v (.c (.aslice 2 none)), .v (.c (.d (.int .i64 ((projV q3 q1 (w64 (p5 + (w64 (r.p22 * p6))))).2)))), .v (.c (.ptr 3 0)), .v (.c (.aslice 4 none)), .v (.c (.aslice 5 none)), .v (.c (.d (.int .i64 r.p22)))]) [.arr none .site m0, .rw 26 [.str q1.name, .int .i64 q1.ra, .int .i64 q1.dec], .arr (some 84) .trk ([] : List Trk), .rw 62 [.int .i64 q3.x.num, .int .i64 q3.x.den, .int .i64 q3.y.num, .int .i64 q3.y.den, .int .i64 q3.z.num, .int .i64 q3.z.den], .arr (some 34) .dir m4, .arr (some 84) .trk r.m5] 6) (.br (Nat.beq r.k 1) (.st (.exit 0) (headT [5, 6, 12, 16, 17, 18, 20, 21, 22] 83 [.v (.c (.d (.int .i64 p5))), .v (.c (.d (.int .i64 p6))), .v (.c (.ptr 1 0)), .v (.c (.aslice 2 none)), .v (.c (.d (.int .i64 p17))), .v (.c (.ptr 3 0)), .v (.c (.aslice 4 none)), .v (.c (.aslice 5 none)), .v (.c (.d (.int .i64 r.p22)))]) [.arr none .site m0, .rw 26 [.str q1.name, .int .i64 q1.ra, .int .i64 q1.dec], .arr (some 84) .trk m2, .rw 62 [.int .i64 q3.x.num, .int .i64 q3.x.den, .int .i64 q3.y.num, .int .i64 q3.y.den, .int .i64 q3.z.num, .int .i64 q3.z.den], .arr (some 34) .dir m4, .arr (some 84) .trk r.m5] 6) (.no))

set_option maxRecDepth 100000 in
theorem r_Q8_Trail_0 (p5 : Int) (p6 : Int) (p17 : Int) (m0 : List Site) (q1 : Source) (m2 : List Trk) (q3 : Vec) (m4 : List Dir) : ∀ (n : Nat) (p22 : Int) (m5 : List Trk) (x : Ex) (T' : TS) (M' : List Blk) (N' : Nat), LReach (o_Q8_Trail_0 p5 p6 p17 m0 q1 m2 q3 m4 (run_Q8_Trail_0 p5 p6 p17 m0 q1 m2 q3 m4 n p22 m5)) x T' M' N' → x ≠ .normal ∧ ∃ j, RoundsN Tryz.prog GT gbT 1 (loopB Tryz.prog 15 0) j (H_Q8_Trail_0 p5 p6 p17 m0 q1 m2 q3 m4 p22 m5) [.arr none .site m0, .rw 26 [.str q1.name, .int .i64 q1.ra, .int .i64 q1.dec], .arr (some 84) .trk m2, .rw 62 [.int .i64 q3.x.num, .int .i64 q3.x.den, .int .i64 q3.y.num, .int .i64 q3.y.den, .int .i64 q3.z.num, .int .i64 q3.z.den], .arr (some 34) .dir m4, .arr (some 84) .trk m5] 6 x T' M' N' := by
  have hL : LOKn Tryz.prog GT gbT 1 noL (loopsIn (loopB Tryz.prog 15 0)) := fun _ _ _ _ _ _ _ _ _ h => h.elim
  intro n
  induction n with
  | zero =>
    intro p22 m5 x T' M' N' hr
    exact False.elim (redF (redF hr))
  | succ n ih =>
    intro p22 m5 x T' M' N'
    rw [run_Q8_Trail_0]
    exact viaE (b_Q8_Trail_0 p5 p6 p17 m0 q1 m2 q3 m4 p22 m5) (condG (o := o_Q8_Trail_0 p5 p6 p17 m0 q1 m2 q3 m4) (condG (o := o_Q8_Trail_0 p5 p6 p17 m0 q1 m2 q3 m4) (fun he hr => stopN g_Q6_Path hEQT hmT hL he (by simp) (redT hr)) (condG (o := o_Q8_Trail_0 p5 p6 p17 m0 q1 m2 q3 m4) (fun he hr => goN g_Q6_Path hEQT hmT hL he (ih (w64 (p22 + (1 : Int))) (m5 ++ ([⟨(w64 (p5 + (w64 (p22 * p6)))), ((projV q3 q1 (w64 (p5 + (w64 (p22 * p6))))).1).x, ((projV q3 q1 (w64 (p5 + (w64 (p22 * p6))))).1).y, ((projV q3 q1 (w64 (p5 + (w64 (p22 * p6))))).1).z⟩] : List Trk)) x T' M' N' hr)) (fun _ hr => False.elim (redF (redF hr))))) (fun he hr => stopN g_Q6_Path hEQT hmT hL he (by simp) (redT (redF hr))))

def f_Q8_Trail_0 : List AV → List Blk → LT := fun vs Ms => match vs, Ms with
  | [.v (.c (.d (.int .i64 p5))), .v (.c (.d (.int .i64 p6))), .v (.c (.ptr 1 0)), .v (.c (.aslice 2 none)), .v (.c (.d (.int .i64 p17))), .v (.c (.ptr 3 0)), .v (.c (.aslice 4 none)), .v (.c (.aslice 5 none)), .v (.c (.d (.int .i64 p22)))], [.arr none .site m0, .rw 26 [.str q1_0, .int .i64 q1_1, .int .i64 q1_2], .arr (some 84) .trk m2, .rw 62 [.int .i64 q3_0, .int .i64 q3_1, .int .i64 q3_2, .int .i64 q3_3, .int .i64 q3_4, .int .i64 q3_5], .arr (some 34) .dir m4, .arr (some 84) .trk m5] => o_Q8_Trail_0 p5 p6 p17 m0 (⟨q1_0, q1_1, q1_2⟩ : Source) m2 (⟨⟨q3_0, q3_1⟩, ⟨q3_2, q3_3⟩, ⟨q3_4, q3_5⟩⟩ : Vec) m4 (lp_Q8_Trail_0 p5 p6 p17 m0 (⟨q1_0, q1_1, q1_2⟩ : Source) m2 (⟨⟨q3_0, q3_1⟩, ⟨q3_2, q3_3⟩, ⟨q3_4, q3_5⟩⟩ : Vec) m4 p22 m5)
  | _, _ => .no

def L_Q8_Trail_0 := LamN 9 83 1 [5, 6, 12, 16, 17, 18, 20, 21, 22] f_Q8_Trail_0

set_option maxRecDepth 100000 in
theorem k_Q8_Trail_0 : LOKbn Tryz.prog GT gbT 1 L_Q8_Trail_0 (loopB Tryz.prog 15 0) := by
  refine LOKbn.lamN (by kernel_rfl) fun vs Ms x T' M' N' hr => ?_
  unfold f_Q8_Trail_0 at hr
  split at hr
  · obtain ⟨q1, j, q2⟩ := r_Q8_Trail_0 _ _ _ _ _ _ _ _ _ _ _ x T' M' N' hr
    exact ⟨q1, j, q2⟩
  · exact hr.elim

structure O_Q8_Trail where
  ok : Bool
  r0 : List Trk
  r1 : Int

def m_Q8_Trail (a0 : Globe) (a1 : List Site) (a2 : Int) (a3 : Int) (a4 : Source) (a5 : Int) (a6 : Int) (a7 : Int) : O_Q8_Trail := bif (m_Q4_Line a0 a1 a2 a3).ok then (bif ((m_Q4_Line a0 a1 a2 a3).r1 != (0 : Int)) then ⟨true, ([] : List Trk), (m_Q4_Line a0 a1 a2 a3).r1⟩ else (bif (m_Q6_Path a4 a5 a6 a7).ok then (bif ((m_Q6_Path a4 a5 a6 a7).r1 != (0 : Int)) then ⟨true, ([] : List Trk), (m_Q6_Path a4 a5 a6 a7).r1⟩ else (bif Nat.beq (lp_Q8_Trail_0 a5 a6 (0 : Int) a1 a4 ([] : List Trk) ((m_Q4_Line a0 a1 a2 a3).r0) ((m_Q6_Path a4 a5 a6 a7).r0) (0 : Int) ([] : List Trk)).k 0 then ⟨true, ([] : List Trk), (projV ((m_Q4_Line a0 a1 a2 a3).r0) a4 (w64 (a5 + (w64 (((lp_Q8_Trail_0 a5 a6 (0 : Int) a1 a4 ([] : List Trk) ((m_Q4_Line a0 a1 a2 a3).r0) ((m_Q6_Path a4 a5 a6 a7).r0) (0 : Int) ([] : List Trk)).p22) * a6))))).2⟩ else (bif Nat.beq (lp_Q8_Trail_0 a5 a6 (0 : Int) a1 a4 ([] : List Trk) ((m_Q4_Line a0 a1 a2 a3).r0) ((m_Q6_Path a4 a5 a6 a7).r0) (0 : Int) ([] : List Trk)).k 1 then ⟨true, ((lp_Q8_Trail_0 a5 a6 (0 : Int) a1 a4 ([] : List Trk) ((m_Q4_Line a0 a1 a2 a3).r0) ((m_Q6_Path a4 a5 a6 a7).r0) (0 : Int) ([] : List Trk)).m5), (0 : Int)⟩ else ⟨false, [], 0⟩))) else ⟨false, [], 0⟩)) else ⟨false, [], 0⟩

def F_Q8_Trail (a0 : Globe) (a1 : List Site) (a2 : Int) (a3 : Int) (a4 : Source) (a5 : Int) (a6 : Int) (a7 : Int) (K : AV → List Blk → Ans) (r : O_Q8_Trail) : Ans := bif r.ok then K (.tup [.c (.aslice 1 none), .c (.d (.int .i64 r.r1))]) [.arr none .site a1, .arr (some 84) .trk r.r0] else none

set_option maxRecDepth 100000 in
theorem e_Q8_Trail (a0 : Globe) (a1 : List Site) (a2 : Int) (a3 : Int) (a4 : Source) (a5 : Int) (a6 : Int) (a7 : Int) (K : AV → List Blk → Ans) : evFn Tryz.prog GT EQT T_Q6_Path XT (orL L_Q8_Trail_0 noL) 80 15 [.v (.agg [.int .i64 a0.a, .int .i64 a0.b]), .v (.c (.aslice 0 none)), .v (.c (.d (.int .i64 a2))), .v (.c (.d (.int .i64 a3))), .v (.agg [.str a4.name, .int .i64 a4.ra, .int .i64 a4.dec]), .v (.c (.d (.int .i64 a5))), .v (.c (.d (.int .i64 a6))), .v (.c (.d (.int .i64 a7)))] [.arr none .site a1] (fun v M => K (finR 1 v M).1 (finR 1 v M).2) = F_Q8_Trail a0 a1 a2 a3 a4 a5 a6 a7 K (m_Q8_Trail a0 a1 a2 a3 a4 a5 a6 a7) := by
  unfold m_Q8_Trail
  refine Eq.trans ?_ (Eq.symm (pushT (pushT rfl (pushT (pushT rfl (pushT rfl (pushT rfl rfl))) rfl)) rfl))
  kernel_rfl

set_option maxRecDepth 100000 in
theorem lok_Q8_Trail : ∀ fn c, Tryz.prog.funcs[15]? = some fn → fn.body = some c → LOKn Tryz.prog GT gbT 1 (orL L_Q8_Trail_0 noL) (loopsIn c) := by
  refine LOKn.ofF fun b hb => ?_
  have e : loopsF Tryz.prog 15 = [loopB Tryz.prog 15 0] := by kernel_rfl
  rw [e] at hb
  simp only [List.mem_cons, List.not_mem_nil, or_false] at hb
  subst hb
  exact (LOKbn.or k_Q8_Trail_0 (fun _ _ _ _ _ _ _ h => h.elim))


theorem c_Q8_Trail (a0 : Globe) (a1 : List Site) (a2 : Int) (a3 : Int) (a4 : Source) (a5 : Int) (a6 : Int) (a7 : Int) (hd : (m_Q8_Trail a0 a1 a2 a3 a4 a5 a6 a7).ok = true) : CallsA Tryz.prog GT gbT 15 [.v (.agg [.int .i64 a0.a, .int .i64 a0.b]), .v (.c (.aslice 0 none)), .v (.c (.d (.int .i64 a2))), .v (.c (.d (.int .i64 a3))), .v (.agg [.str a4.name, .int .i64 a4.ra, .int .i64 a4.dec]), .v (.c (.d (.int .i64 a5))), .v (.c (.d (.int .i64 a6))), .v (.c (.d (.int .i64 a7)))] [.arr none .site a1] (.tup [.c (.aslice 1 none), .c (.d (.int .i64 ((m_Q8_Trail a0 a1 a2 a3 a4 a5 a6 a7).r1)))]) [.arr none .site a1, .arr (some 84) .trk ((m_Q8_Trail a0 a1 a2 a3 a4 a5 a6 a7).r0)] := by
  refine CallsA.ofEvR g_Q6_Path hEQT hmT (n0 := 1) rfl lok_Q8_Trail ((e_Q8_Trail a0 a1 a2 a3 a4 a5 a6 a7 (fun v M => some (Res.fin v M))).trans ?_)
  unfold F_Q8_Trail
  rw [hd]
  rfl

def s_Q8_Trail : List AV → List Blk → (AV → List Blk → Ans) → Ans := fun xs bs K => match xs, bs with
  | [.v (.agg [.int .i64 a0_0, .int .i64 a0_1]), .v (.c (.aslice 0 none)), .v (.c (.d (.int .i64 a2))), .v (.c (.d (.int .i64 a3))), .v (.agg [.str a4_0, .int .i64 a4_1, .int .i64 a4_2]), .v (.c (.d (.int .i64 a5))), .v (.c (.d (.int .i64 a6))), .v (.c (.d (.int .i64 a7)))], [.arr none .site a1] => F_Q8_Trail (⟨a0_0, a0_1⟩ : Globe) a1 a2 a3 (⟨a4_0, a4_1, a4_2⟩ : Source) a5 a6 a7 K (m_Q8_Trail (⟨a0_0, a0_1⟩ : Globe) a1 a2 a3 (⟨a4_0, a4_1, a4_2⟩ : Source) a5 a6 a7)
  | _, _ => none

def T_Q8_Trail : Nat → List AV → List Blk → (AV → List Blk → Ans) → Ans := upd T_Q6_Path 15 s_Q8_Trail

theorem g_Q8_Trail : GOK Tryz.prog GT gbT T_Q8_Trail XT := by
  refine GOK.upd g_Q6_Path (fun args w => Tryz.call15 args w) fun xs bs K r h => ?_
  unfold s_Q8_Trail at h
  split at h
  · unfold F_Q8_Trail at h
    simp only [cond_eq_ite] at h
    split at h
    · rename_i hd
      exact ⟨_, _, c_Q8_Trail _ _ _ _ _ _ _ _ hd, h⟩
    · cases h
  · cases h

structure R_Q8_Same_0 where
  k : Nat
  p5 : Int

def run_Q8_Same_0 (p4 : Bool) (m0 : List Trk) (m1 : List Trk) : Nat → Int → R_Q8_Same_0
  | 0, p5 => ⟨2, p5⟩
  | n + 1, p5 => bif decide (p5 < (m0.length : Int)) then (bif (decide ((0 : Int) ≤ p5) && decide (p5 < (m0.length : Int))) then (bif (decide ((0 : Int) ≤ p5) && decide (p5 < (m1.length : Int))) then (bif (!(eqAll [.int .i64 ((m0.getD p5.toNat (ET.z .trk)).tick), .int .i64 (((m0.getD p5.toNat (ET.z .trk)).u).lo), .int .i64 (((m0.getD p5.toNat (ET.z .trk)).u).hi), .int .i64 (((m0.getD p5.toNat (ET.z .trk)).v).lo), .int .i64 (((m0.getD p5.toNat (ET.z .trk)).v).hi), .int .i64 (((m0.getD p5.toNat (ET.z .trk)).w).lo), .int .i64 (((m0.getD p5.toNat (ET.z .trk)).w).hi)] [.int .i64 ((m1.getD p5.toNat (ET.z .trk)).tick), .int .i64 (((m1.getD p5.toNat (ET.z .trk)).u).lo), .int .i64 (((m1.getD p5.toNat (ET.z .trk)).u).hi), .int .i64 (((m1.getD p5.toNat (ET.z .trk)).v).lo), .int .i64 (((m1.getD p5.toNat (ET.z .trk)).v).hi), .int .i64 (((m1.getD p5.toNat (ET.z .trk)).w).lo), .int .i64 (((m1.getD p5.toNat (ET.z .trk)).w).hi)])) then ⟨0, p5⟩ else run_Q8_Same_0 p4 m0 m1 n (w64 (p5 + (1 : Int)))) else ⟨2, p5⟩) else ⟨2, p5⟩) else ⟨1, p5⟩

def lp_Q8_Same_0 (p4 : Bool) (m0 : List Trk) (m1 : List Trk) (p5 : Int) : R_Q8_Same_0 := run_Q8_Same_0 p4 m0 m1 (2000 + (m0.length + m1.length)) p5

abbrev H_Q8_Same_0 (p4 : Bool) (m0 : List Trk) (m1 : List Trk) (p5 : Int) : TS := headT [0, 1, 4, 5] 26 [.v (.c (.aslice 0 none)), .v (.c (.aslice 1 none)), .v (.c (.d (.bool p4))), .v (.c (.d (.int .i64 p5)))]

set_option maxRecDepth 100000 in
theorem b_Q8_Same_0 (p4 : Bool) (m0 : List Trk) (m1 : List Trk) (p5 : Int) : evCode Tryz.prog GT EQT T_Q8_Trail XT noL 80 (loopB Tryz.prog 16 0) (H_Q8_Same_0 p4 m0 m1 p5) [.arr none .trk m0, .arr none .trk m1] 2 (normK 2 [0, 1, 4, 5]) =
    bif decide (p5 < (m0.length : Int)) then (bif (decide ((0 : Int) ≤ p5) && decide (p5 < (m0.length : Int))) then (bif (decide ((0 : Int) ≤ p5) && decide (p5 < (m1.length : Int))) then (bif (!(eqAll [.int .i64 ((m0.getD p5.toNat (ET.z .trk)).tick), .int .i64 (((m0.getD p5.toNat (ET.z .trk)).u).lo), .int .i64 (((m0.getD p5.toNat (ET.z .trk)).u).hi), .int .i64 (((m0.getD p5.toNat (ET.z .trk)).v).lo), .int .i64 (((m0.getD p5.toNat (ET.z .trk)).v).hi), .int .i64 (((m0.getD p5.toNat (ET.z .trk)).w).lo), .int .i64 (((m0.getD p5.toNat (ET.z .trk)).w).hi)] [.int .i64 ((m1.getD p5.toNat (ET.z .trk)).tick), .int .i64 (((m1.getD p5.toNat (ET.z .trk)).u).lo), .int .i64 (((m1.getD p5.toNat (ET.z .trk)).u).hi), .int .i64 (((m1.getD p5.toNat (ET.z .trk)).v).lo), .int .i64 (((m1.getD p5.toNat (ET.z .trk)).v).hi), .int .i64 (((m1.getD p5.toNat (ET.z .trk)).w).lo), .int .i64 (((m1.getD p5.toNat (ET.z .trk)).w).hi)])) then some (.st .ret (headT [0, 1, 4, 5] 26 [.v (.c (.aslice 0 none)), .v (.c (.aslice 1 none)), .v (.c (.d (.bool false))), .v (.c (.d (.int .i64 p5)))]) [.arr none .trk m0, .arr none .trk m1] 2) else some (.st .normal (headT [0, 1, 4, 5] 26 [.v (.c (.aslice 0 none)), .v (.c (.aslice 1 none)), .v (.c (.d (.bool p4))), .v (.c (.d (.int .i64 (w64 (p5 + (1 : Int))))))]) [.arr none .trk m0, .arr none .trk m1] 2)) else none) else none) else some (.st (.exit 0) (headT [0, 1, 4, 5] 26 [.v (.c (.aslice 0 none)), .v (.c (.aslice 1 none)), .v (.c (.d (.bool p4))), .v (.c (.d (.int .i64 p5)))]) [.arr none .trk m0, .arr none .trk m1] 2) := by
  kernel_rfl

def o_Q8_Same_0 (p4 : Bool) (m0 : List Trk) (m1 : List Trk) (r : R_Q8_Same_0) : LT := .br (Nat.beq r.k 0) (.st .ret (headT [0, 1, 4, 5] 26 [.v (.c (.aslice 0 none)), .v (.c (.aslice 1 none)), .v (.c (.d (.bool false))), .v (.c (.d (.int .i64 r.p5)))]) [.arr none .trk m0, .arr none .trk m1] 2) (.br (Nat.beq r.k 1) (.st (.exit 0) (headT [0, 1, 4, 5] 26 [.v (.c (.aslice 0 none)), .v (.c (.aslice 1 none)), .v (.c (.d (.bool p4))), .v (.c (.d (.int .i64 r.p5)))]) [.arr none .trk m0, .arr none .trk m1] 2) (.no))

set_option maxRecDepth 100000 in
theorem r_Q8_Same_0 (p4 : Bool) (m0 : List Trk) (m1 : List Trk) : ∀ (n : Nat) (p5 : Int) (x : Ex) (T' : TS) (M' : List Blk) (N' : Nat), LReach (o_Q8_Same_0 p4 m0 m1 (run_Q8_Same_0 p4 m0 m1 n p5)) x T' M' N' → x ≠ .normal ∧ ∃ j, RoundsN Tryz.prog GT gbT 2 (loopB Tryz.prog 16 0) j (H_Q8_Same_0 p4 m0 m1 p5) [.arr none .trk m0, .arr none .trk m1] 2 x T' M' N' := by
  have hL : LOKn Tryz.prog GT gbT 2 noL (loopsIn (loopB Tryz.prog 16 0)) := fun _ _ _ _ _ _ _ _ _ h => h.elim
  intro n
  induction n with
  | zero =>
    intro p5 x T' M' N' hr
    exact False.elim (redF (redF hr))
  | succ n ih =>
    intro p5 x T' M' N'
    rw [run_Q8_Same_0]
    exact viaE (b_Q8_Same_0 p4 m0 m1 p5) (condG (o := o_Q8_Same_0 p4 m0 m1) (condG (o := o_Q8_Same_0 p4 m0 m1) (condG (o := o_Q8_Same_0 p4 m0 m1) (condG (o := o_Q8_Same_0 p4 m0 m1) (fun he hr => stopN g_Q8_Trail hEQT hmT hL he (by simp) (redT hr)) (fun he hr => goN g_Q8_Trail hEQT hmT hL he (ih (w64 (p5 + (1 : Int))) x T' M' N' hr))) (fun _ hr => False.elim (redF (redF hr)))) (fun _ hr => False.elim (redF (redF hr)))) (fun he hr => stopN g_Q8_Trail hEQT hmT hL he (by simp) (redT (redF hr))))

def f_Q8_Same_0 : List AV → List Blk → LT := fun vs Ms => match vs, Ms with
  | [.v (.c (.aslice 0 none)), .v (.c (.aslice 1 none)), .v (.c (.d (.bool p4))), .v (.c (.d (.int .i64 p5)))], [.arr none .trk m0, .arr none .trk m1] => o_Q8_Same_0 p4 m0 m1 (lp_Q8_Same_0 p4 m0 m1 p5)
  | _, _ => .no

def L_Q8_Same_0 := LamN 4 26 2 [0, 1, 4, 5] f_Q8_Same_0

set_option maxRecDepth 100000 in
theorem k_Q8_Same_0 : LOKbn Tryz.prog GT gbT 2 L_Q8_Same_0 (loopB Tryz.prog 16 0) := by
  refine LOKbn.lamN (by kernel_rfl) fun vs Ms x T' M' N' hr => ?_
  unfold f_Q8_Same_0 at hr
  split at hr
  · obtain ⟨q1, j, q2⟩ := r_Q8_Same_0 _ _ _ _ _ x T' M' N' hr
    exact ⟨q1, j, q2⟩
  · exact hr.elim

structure O_Q8_Same where
  ok : Bool
  r0 : Bool

def m_Q8_Same (a0 : List Trk) (a1 : List Trk) : O_Q8_Same := bif ((a0.length : Int) != (a1.length : Int)) then ⟨true, false⟩ else (bif Nat.beq (lp_Q8_Same_0 false a0 a1 (0 : Int)).k 0 then ⟨true, false⟩ else (bif Nat.beq (lp_Q8_Same_0 false a0 a1 (0 : Int)).k 1 then ⟨true, true⟩ else ⟨false, false⟩))

def F_Q8_Same (a0 : List Trk) (a1 : List Trk) (K : AV → List Blk → Ans) (r : O_Q8_Same) : Ans := bif r.ok then K (.v (.c (.d (.bool r.r0)))) [.arr none .trk a0, .arr none .trk a1] else none

set_option maxRecDepth 100000 in
theorem e_Q8_Same (a0 : List Trk) (a1 : List Trk) (K : AV → List Blk → Ans) : evFn Tryz.prog GT EQT T_Q8_Trail XT (orL L_Q8_Same_0 noL) 80 16 [.v (.c (.aslice 0 none)), .v (.c (.aslice 1 none))] [.arr none .trk a0, .arr none .trk a1] (fun v M => K (finR 2 v M).1 (finR 2 v M).2) = F_Q8_Same a0 a1 K (m_Q8_Same a0 a1) := by
  unfold m_Q8_Same
  refine Eq.trans ?_ (Eq.symm (pushT rfl (pushT rfl (pushT rfl rfl))))
  kernel_rfl

set_option maxRecDepth 100000 in
theorem lok_Q8_Same : ∀ fn c, Tryz.prog.funcs[16]? = some fn → fn.body = some c → LOKn Tryz.prog GT gbT 2 (orL L_Q8_Same_0 noL) (loopsIn c) := by
  refine LOKn.ofF fun b hb => ?_
  have e : loopsF Tryz.prog 16 = [loopB Tryz.prog 16 0] := by kernel_rfl
  rw [e] at hb
  simp only [List.mem_cons, List.not_mem_nil, or_false] at hb
  subst hb
  exact (LOKbn.or k_Q8_Same_0 (fun _ _ _ _ _ _ _ h => h.elim))


theorem c_Q8_Same (a0 : List Trk) (a1 : List Trk) (hd : (m_Q8_Same a0 a1).ok = true) : CallsA Tryz.prog GT gbT 16 [.v (.c (.aslice 0 none)), .v (.c (.aslice 1 none))] [.arr none .trk a0, .arr none .trk a1] (.v (.c (.d (.bool ((m_Q8_Same a0 a1).r0))))) [.arr none .trk a0, .arr none .trk a1] := by
  refine CallsA.ofEvR g_Q8_Trail hEQT hmT (n0 := 2) rfl lok_Q8_Same ((e_Q8_Same a0 a1 (fun v M => some (Res.fin v M))).trans ?_)
  unfold F_Q8_Same
  rw [hd]
  rfl

def s_Q8_Same : List AV → List Blk → (AV → List Blk → Ans) → Ans := fun xs bs K => match xs, bs with
  | [.v (.c (.aslice 0 none)), .v (.c (.aslice 1 none))], [.arr none .trk a0, .arr none .trk a1] => F_Q8_Same a0 a1 K (m_Q8_Same a0 a1)
  | _, _ => none

def T_Q8_Same : Nat → List AV → List Blk → (AV → List Blk → Ans) → Ans := upd T_Q8_Trail 16 s_Q8_Same

theorem g_Q8_Same : GOK Tryz.prog GT gbT T_Q8_Same XT := by
  refine GOK.upd g_Q8_Trail (fun args w => Tryz.call16 args w) fun xs bs K r h => ?_
  unfold s_Q8_Same at h
  split at h
  · unfold F_Q8_Same at h
    simp only [cond_eq_ite] at h
    split at h
    · rename_i hd
      exact ⟨_, _, c_Q8_Same _ _ hd, h⟩
    · cases h
  · cases h

structure O_W8_ProjTrails where
  ok : Bool
  r0 : Bool

def m_W8_ProjTrails (a0 : Globe) (a1 : List Site) (a2 : Int) (a3 : Int) (a4 : Source) (a5 : Int) (a6 : Int) (a7 : Int) : O_W8_ProjTrails := bif (m_W8_long a1 a4).ok then (bif (m_W8_long a1 a4).r0 then ⟨true, true⟩ else (bif decide ((20 : Int) < a7) then (bif decide (a7 ≤ (100 : Int)) then ⟨true, true⟩ else (bif (m_proj_Line a0 a1 a2 a3 a4 a5).ok then (bif (m_Q8_Line a0 a1 a2 a3 a4 a5).ok then (bif (m_proj_Trail a0 a1 a2 a3 a4 a5 a6 a7).ok then (bif (m_Q8_Trail a0 a1 a2 a3 a4 a5 a6 a7).ok then (bif eqAll [.int .i64 ((((m_proj_Line a0 a1 a2 a3 a4 a5).r0).x).lo), .int .i64 ((((m_proj_Line a0 a1 a2 a3 a4 a5).r0).x).hi), .int .i64 ((((m_proj_Line a0 a1 a2 a3 a4 a5).r0).y).lo), .int .i64 ((((m_proj_Line a0 a1 a2 a3 a4 a5).r0).y).hi), .int .i64 ((((m_proj_Line a0 a1 a2 a3 a4 a5).r0).z).lo), .int .i64 ((((m_proj_Line a0 a1 a2 a3 a4 a5).r0).z).hi)] [.int .i64 ((((m_Q8_Line a0 a1 a2 a3 a4 a5).r0).x).lo), .int .i64 ((((m_Q8_Line a0 a1 a2 a3 a4 a5).r0).x).hi), .int .i64 ((((m_Q8_Line a0 a1 a2 a3 a4 a5).r0).y).lo), .int .i64 ((((m_Q8_Line a0 a1 a2 a3 a4 a5).r0).y).hi), .int .i64 ((((m_Q8_Line a0 a1 a2 a3 a4 a5).r0).z).lo), .int .i64 ((((m_Q8_Line a0 a1 a2 a3 a4 a5).r0).z).hi)] then (bif ((m_proj_Line a0 a1 a2 a3 a4 a5).r1 == (m_Q8_Line a0 a1 a2 a3 a4 a5).r1) then (bif (m_Q8_Same ((m_proj_Trail a0 a1 a2 a3 a4 a5 a6 a7).r0) ((m_Q8_Trail a0 a1 a2 a3 a4 a5 a6 a7).r0)).ok then (bif (m_Q8_Same ((m_proj_Trail a0 a1 a2 a3 a4 a5 a6 a7).r0) ((m_Q8_Trail a0 a1 a2 a3 a4 a5 a6 a7).r0)).r0 then ⟨true, ((m_proj_Trail a0 a1 a2 a3 a4 a5 a6 a7).r1 == (m_Q8_Trail a0 a1 a2 a3 a4 a5 a6 a7).r1)⟩ else ⟨true, false⟩) else ⟨false, false⟩) else ⟨true, false⟩) else ⟨true, false⟩) else ⟨false, false⟩) else ⟨false, false⟩) else ⟨false, false⟩) else ⟨false, false⟩)) else (bif (m_proj_Line a0 a1 a2 a3 a4 a5).ok then (bif (m_Q8_Line a0 a1 a2 a3 a4 a5).ok then (bif (m_proj_Trail a0 a1 a2 a3 a4 a5 a6 a7).ok then (bif (m_Q8_Trail a0 a1 a2 a3 a4 a5 a6 a7).ok then (bif eqAll [.int .i64 ((((m_proj_Line a0 a1 a2 a3 a4 a5).r0).x).lo), .int .i64 ((((m_proj_Line a0 a1 a2 a3 a4 a5).r0).x).hi), .int .i64 ((((m_proj_Line a0 a1 a2 a3 a4 a5).r0).y).lo), .int .i64 ((((m_proj_Line a0 a1 a2 a3 a4 a5).r0).y).hi), .int .i64 ((((m_proj_Line a0 a1 a2 a3 a4 a5).r0).z).lo), .int .i64 ((((m_proj_Line a0 a1 a2 a3 a4 a5).r0).z).hi)] [.int .i64 ((((m_Q8_Line a0 a1 a2 a3 a4 a5).r0).x).lo), .int .i64 ((((m_Q8_Line a0 a1 a2 a3 a4 a5).r0).x).hi), .int .i64 ((((m_Q8_Line a0 a1 a2 a3 a4 a5).r0).y).lo), .int .i64 ((((m_Q8_Line a0 a1 a2 a3 a4 a5).r0).y).hi), .int .i64 ((((m_Q8_Line a0 a1 a2 a3 a4 a5).r0).z).lo), .int .i64 ((((m_Q8_Line a0 a1 a2 a3 a4 a5).r0).z).hi)] then (bif ((m_proj_Line a0 a1 a2 a3 a4 a5).r1 == (m_Q8_Line a0 a1 a2 a3 a4 a5).r1) then (bif (m_Q8_Same ((m_proj_Trail a0 a1 a2 a3 a4 a5 a6 a7).r0) ((m_Q8_Trail a0 a1 a2 a3 a4 a5 a6 a7).r0)).ok then (bif (m_Q8_Same ((m_proj_Trail a0 a1 a2 a3 a4 a5 a6 a7).r0) ((m_Q8_Trail a0 a1 a2 a3 a4 a5 a6 a7).r0)).r0 then ⟨true, ((m_proj_Trail a0 a1 a2 a3 a4 a5 a6 a7).r1 == (m_Q8_Trail a0 a1 a2 a3 a4 a5 a6 a7).r1)⟩ else ⟨true, false⟩) else ⟨false, false⟩) else ⟨true, false⟩) else ⟨true, false⟩) else ⟨false, false⟩) else ⟨false, false⟩) else ⟨false, false⟩) else ⟨false, false⟩))) else ⟨false, false⟩

def F_W8_ProjTrails (a0 : Globe) (a1 : List Site) (a2 : Int) (a3 : Int) (a4 : Source) (a5 : Int) (a6 : Int) (a7 : Int) (K : AV → List Blk → Ans) (r : O_W8_ProjTrails) : Ans := bif r.ok then K (.v (.c (.d (.bool r.r0)))) [.arr none .site a1] else none

set_option maxRecDepth 100000 in
theorem e_W8_ProjTrails (a0 : Globe) (a1 : List Site) (a2 : Int) (a3 : Int) (a4 : Source) (a5 : Int) (a6 : Int) (a7 : Int) (K : AV → List Blk → Ans) : evFn Tryz.prog GT EQT T_Q8_Same XT noL 80 4 [.v (.agg [.int .i64 a0.a, .int .i64 a0.b]), .v (.c (.aslice 0 none)), .v (.c (.d (.int .i64 a2))), .v (.c (.d (.int .i64 a3))), .v (.agg [.str a4.name, .int .i64 a4.ra, .int .i64 a4.dec]), .v (.c (.d (.int .i64 a5))), .v (.c (.d (.int .i64 a6))), .v (.c (.d (.int .i64 a7)))] [.arr none .site a1] (fun v M => K (finR 1 v M).1 (finR 1 v M).2) = F_W8_ProjTrails a0 a1 a2 a3 a4 a5 a6 a7 K (m_W8_ProjTrails a0 a1 a2 a3 a4 a5 a6 a7) := by
  unfold m_W8_ProjTrails
  refine Eq.trans ?_ (Eq.symm (pushT (pushT rfl (pushT (pushT rfl (pushT (pushT (pushT (pushT (pushT (pushT (pushT (pushT rfl rfl) rfl) rfl) rfl) rfl) rfl) rfl) rfl)) (pushT (pushT (pushT (pushT (pushT (pushT (pushT (pushT rfl rfl) rfl) rfl) rfl) rfl) rfl) rfl) rfl))) rfl))
  kernel_rfl

theorem c_W8_ProjTrails (a0 : Globe) (a1 : List Site) (a2 : Int) (a3 : Int) (a4 : Source) (a5 : Int) (a6 : Int) (a7 : Int) (hd : (m_W8_ProjTrails a0 a1 a2 a3 a4 a5 a6 a7).ok = true) : CallsA Tryz.prog GT gbT 4 [.v (.agg [.int .i64 a0.a, .int .i64 a0.b]), .v (.c (.aslice 0 none)), .v (.c (.d (.int .i64 a2))), .v (.c (.d (.int .i64 a3))), .v (.agg [.str a4.name, .int .i64 a4.ra, .int .i64 a4.dec]), .v (.c (.d (.int .i64 a5))), .v (.c (.d (.int .i64 a6))), .v (.c (.d (.int .i64 a7)))] [.arr none .site a1] (.v (.c (.d (.bool ((m_W8_ProjTrails a0 a1 a2 a3 a4 a5 a6 a7).r0))))) [.arr none .site a1] := by
  refine CallsA.ofEvR g_Q8_Same hEQT hmT (n0 := 1) rfl (fun _ _ _ _ => LOKn.nil) ((e_W8_ProjTrails a0 a1 a2 a3 a4 a5 a6 a7 (fun v M => some (Res.fin v M))).trans ?_)
  unfold F_W8_ProjTrails
  rw [hd]
  rfl

def s_W8_ProjTrails : List AV → List Blk → (AV → List Blk → Ans) → Ans := fun xs bs K => match xs, bs with
  | [.v (.agg [.int .i64 a0_0, .int .i64 a0_1]), .v (.c (.aslice 0 none)), .v (.c (.d (.int .i64 a2))), .v (.c (.d (.int .i64 a3))), .v (.agg [.str a4_0, .int .i64 a4_1, .int .i64 a4_2]), .v (.c (.d (.int .i64 a5))), .v (.c (.d (.int .i64 a6))), .v (.c (.d (.int .i64 a7)))], [.arr none .site a1] => F_W8_ProjTrails (⟨a0_0, a0_1⟩ : Globe) a1 a2 a3 (⟨a4_0, a4_1, a4_2⟩ : Source) a5 a6 a7 K (m_W8_ProjTrails (⟨a0_0, a0_1⟩ : Globe) a1 a2 a3 (⟨a4_0, a4_1, a4_2⟩ : Source) a5 a6 a7)
  | _, _ => none

def T_W8_ProjTrails : Nat → List AV → List Blk → (AV → List Blk → Ans) → Ans := upd T_Q8_Same 4 s_W8_ProjTrails

theorem g_W8_ProjTrails : GOK Tryz.prog GT gbT T_W8_ProjTrails XT := by
  refine GOK.upd g_Q8_Same (fun args w => Tryz.call4 args w) fun xs bs K r h => ?_
  unfold s_W8_ProjTrails at h
  split at h
  · unfold F_W8_ProjTrails at h
    simp only [cond_eq_ite] at h
    split at h
    · rename_i hd
      exact ⟨_, _, c_W8_ProjTrails _ _ _ _ _ _ _ _ hd, h⟩
    · cases h
  · cases h

end Go.Ev

namespace Go.Ev
open Go

def pathE (s : Source) (fr st many : Int) : Int :=
  bif checkSrc s != 0 then checkSrc s else bif decide (many < 0) then 4 else bif decide (100 < many) then 4 else bif decide (st < 1) then 2 else bif decide (720 < st) then 2 else
  bif !(tickB fr) then 2 else bif decide (0 < many) && !(tickB (fr + (many - 1) * st)) then 2 else 0

theorem src_of_check {s : Source} (h : checkSrc s = 0) : 0 ≤ s.ra ∧ s.ra < 720 ∧ -180 ≤ s.dec ∧ s.dec ≤ 180 := by
  unfold checkSrc at h
  by_cases h1 : namedB s.name = true
  · rw [h1] at h
    by_cases c1 : s.ra < 0
    · rw [dec_t c1] at h; cases h
    by_cases c2 : 720 ≤ s.ra
    · rw [dec_f c1, dec_t c2] at h; cases h
    by_cases c3 : s.dec < -180
    · rw [dec_f c1, dec_f c2, dec_t c3] at h; cases h
    by_cases c4 : 180 < s.dec
    · rw [dec_f c1, dec_f c2, dec_f c3, dec_t c4] at h; cases h
    omega
  · rw [Bool.not_eq_true] at h1
    rw [h1] at h
    cases h

theorem tickB_iff {t : Int} : tickB t = true ↔ -1000000 ≤ t ∧ t ≤ 1000000 := by
  unfold tickB
  simp

theorem between {a st n m : Int} (h0 : 0 ≤ n) (h1 : n ≤ m) (h2 : 0 ≤ st) : a ≤ a + n * st ∧ a + n * st ≤ a + m * st := by
  have k1 := Int.mul_nonneg h0 h2
  have k2 := Int.mul_le_mul_of_nonneg_right h1 h2
  omega

theorem run_path (s : Source) (fr st : Int) (p9 : Int) (m1 : List Dir) (M : Nat) (hM : M ≤ 100) (hs : checkSrc s = 0) (h1 : 1 ≤ st) (h2 : st ≤ 720) (h3 : -1000000 ≤ fr) (h4 : fr + ((M : Int) - 1) * st ≤ 1000000) : ∀ (f n : Nat) (acc : List Dir), n ≤ M → M - n < f → acc.length = M →
    (run_track_Path_0 fr st p9 (M : Int) s m1 f (n : Int) acc).k = 1 := by
  intro f
  induction f with
  | zero => intro n acc _ h; omega
  | succ f ih =>
    intro n acc hn h ha
    rw [run_track_Path_0]
    by_cases hlt : n < M
    · obtain ⟨b1, b2⟩ := between (a := fr) (st := st) (n := n) (m := (M : Int) - 1) (by omega) (by omega) (by omega)
      have b0 : 0 ≤ (n : Int) * st ∧ (n : Int) * st ≤ 100 * 720 := ⟨Int.mul_nonneg (by omega) (by omega), Int.mul_le_mul (by omega) h2 (by omega) (by omega)⟩
      obtain ⟨r1, r2, r3, r4⟩ := src_of_check hs
      rw [show w64 ((n : Int) * st) = (n : Int) * st from w64_keep (by omega) (by omega), show w64 (fr + (n : Int) * st) = fr + (n : Int) * st from w64_keep (by omega) (by omega)]
      have hd : dirOn s.ra s.dec (fr + (n : Int) * st) = true := by
        unfold dirOn
        rw [dec_t r1, dec_t r2, dec_t r3, dec_t r4, dec_t (show -1000000 ≤ fr + (n : Int) * st by omega), dec_t (show fr + (n : Int) * st ≤ 1000000 by omega)]
        rfl
      simp only [lt_t hlt, nn_t, lt_t (show n < acc.length by omega), Bool.and_self, cond_true, hd, show ((0 : Int) != (0 : Int)) = false from rfl, cond_false, w64_up (show n < 9223372036854775807 by omega)]
      exact ih (n + 1) _ (by omega) (by omega) (by simp [ha])
    · simp only [lt_f hlt, cond_false]

theorem m_path (s : Source) (fr st many : Int) (hf : -9223372036854775808 ≤ fr ∧ fr ≤ 9223372036854775807) : (m_track_Path s fr st many).ok = true ∧ (m_track_Path s fr st many).r1 = pathE s fr st many := by
  unfold m_track_Path pathE
  cases hs : (checkSrc s != 0) with
  | true => exact ⟨rfl, rfl⟩
  | false =>
    simp only [cond_false]
    by_cases c1 : many < 0
    · rw [dec_t c1]; exact ⟨rfl, rfl⟩
    by_cases c2 : 100 < many
    · rw [dec_f c1, dec_t c2]; exact ⟨rfl, rfl⟩
    by_cases c3 : st < 1
    · rw [dec_f c1, dec_f c2, dec_t c3]; exact ⟨rfl, rfl⟩
    by_cases c4 : 720 < st
    · rw [dec_f c1, dec_f c2, dec_f c3, dec_t c4]; exact ⟨rfl, rfl⟩
    rw [dec_f c1, dec_f c2, dec_f c3, dec_f c4]
    simp only [cond_false]
    cases ht : tickB fr with
    | false =>
      have : ¬ (-1000000 ≤ fr ∧ fr ≤ 1000000) := fun h => by rw [tickB_iff.2 h] at ht; cases ht
      simp only [Bool.not_false, cond_true]
      by_cases d1 : fr < -1000000
      · rw [dec_t d1]; exact ⟨rfl, rfl⟩
      · rw [dec_f d1, dec_t (show 1000000 < fr by omega)]; exact ⟨rfl, rfl⟩
    | true =>
      obtain ⟨t1, t2⟩ := tickB_iff.1 ht
      simp only [dec_f (show ¬ fr < -1000000 by omega), dec_f (show ¬ 1000000 < fr by omega), cond_false, Bool.not_true]
      have hm1 : w64 (many - 1) = many - 1 := w64_keep (by omega) (by omega)
      rw [hm1]
      have hlast : ∀ e : Int, 0 ≤ e → e ≤ 99 → w64 (fr + w64 (st * e)) = fr + e * st ∧ 0 ≤ e * st := by
        intro e h0 h1
        have b0 : 0 ≤ e * st ∧ e * st ≤ 99 * 720 := ⟨Int.mul_nonneg h0 (by omega), Int.mul_le_mul h1 (by omega) (by omega) (by omega)⟩
        rw [Int.mul_comm st e, w64_keep (n := e * st) (by omega) (by omega), w64_keep (by omega) (by omega)]
        exact ⟨rfl, b0.1⟩
      obtain ⟨M, rfl⟩ := nat_of (show 0 ≤ many by omega)
      have fin : fr + ((M : Int) - 1) * st ≤ 1000000 → (lp_track_Path_0 fr st (0 : Int) (M : Int) s ([] : List Dir) (0 : Int) (List.replicate (M : Int).toNat (⟨⟨(0 : Int), (0 : Int)⟩, ⟨(0 : Int), (0 : Int)⟩, ⟨(0 : Int), (0 : Int)⟩⟩ : Dir))).k = 1 := by
        intro hle
        have hk := run_path s fr st 0 [] M (by omega) (eq0_of hs) (by omega) (by omega) t1 hle (2000 + (([] : List Dir).length + (List.replicate (M : Int).toNat (⟨⟨(0 : Int), (0 : Int)⟩, ⟨(0 : Int), (0 : Int)⟩, ⟨(0 : Int), (0 : Int)⟩⟩ : Dir)).length)) 0 (List.replicate (M : Int).toNat (⟨⟨(0 : Int), (0 : Int)⟩, ⟨(0 : Int), (0 : Int)⟩, ⟨(0 : Int), (0 : Int)⟩⟩ : Dir)) (by omega) (by simp) (by simp)
        rw [show ((0 : Nat) : Int) = 0 from rfl] at hk
        exact hk
      by_cases c5 : 0 < (M : Int)
      · rw [if_neg (show ¬ (0 : Int) > (M : Int) - 1 by omega), dec_t c5]
        obtain ⟨e1, e2⟩ := hlast ((M : Int) - 1) (by omega) (by omega)
        rw [e1, dec_f (show ¬ fr + ((M : Int) - 1) * st < -1000000 by omega)]
        simp only [cond_false, Bool.true_and]
        by_cases c6 : 1000000 < fr + ((M : Int) - 1) * st
        · rw [dec_t c6]
          have : tickB (fr + ((M : Int) - 1) * st) = false := by
            cases h : tickB (fr + ((M : Int) - 1) * st) with
            | false => rfl
            | true => have := tickB_iff.1 h; omega
          rw [this]
          exact ⟨rfl, rfl⟩
        · rw [dec_f c6, tickB_iff.2 (show -1000000 ≤ fr + ((M : Int) - 1) * st ∧ fr + ((M : Int) - 1) * st ≤ 1000000 by omega)]
          simp only [fin (by omega), nn_t, dec_t (show (M : Int) ≤ 1048576 by omega), decide_true]
          exact ⟨rfl, rfl⟩
      · obtain rfl : M = 0 := by omega
        rw [if_pos (show (0 : Int) > ((0 : Nat) : Int) - 1 by omega), dec_f c5]
        obtain ⟨e1, e2⟩ := hlast 0 (by omega) (by omega)
        rw [e1, Int.zero_mul, Int.add_zero, dec_f (show ¬ fr < -1000000 by omega), dec_f (show ¬ 1000000 < fr by omega)]
        simp only [fin (by omega)]
        exact ⟨rfl, rfl⟩

theorem run_pathR (s : Source) (fr st : Int) (M : Nat) (hM : M ≤ 100) : ∀ (f n : Nat) (o : List Dir), n ≤ M → M - n < f → o.length = n →
    (run_Q6_Path_0 fr st (M : Int) s f (n : Int) o).k = 0 ∧ (run_Q6_Path_0 fr st (M : Int) s f (n : Int) o).m1.length = M := by
  intro f
  induction f with
  | zero => intro n o _ h; omega
  | succ f ih =>
    intro n o hn h ho
    rw [run_Q6_Path_0]
    by_cases hlt : n < M
    · simp only [lt_t hlt, cond_true, List.length_singleton, room_le (show o.length + 1 ≤ 1048576 by omega), w64_up (show n < 9223372036854775807 by omega)]
      exact ih (n + 1) _ (by omega) (by omega) (by simp [ho])
    · simp only [lt_f hlt, cond_false]
      exact ⟨trivial, by omega⟩

theorem m_pathR (s : Source) (fr st many : Int) (hf : -9223372036854775808 ≤ fr ∧ fr ≤ 9223372036854775807) : (m_Q6_Path s fr st many).ok = true ∧ (m_Q6_Path s fr st many).r1 = pathE s fr st many ∧ (pathE s fr st many = 0 → ((m_Q6_Path s fr st many).r0.length : Int) = many ∧ 0 ≤ many ∧ many ≤ 100) := by
  unfold m_Q6_Path pathE
  cases hs : (checkSrc s != 0) with
  | true =>
    refine ⟨rfl, rfl, fun h => ?_⟩
    have h' : checkSrc s = 0 := h
    rw [h'] at hs
    cases hs
  | false =>
    simp only [cond_false]
    by_cases c1 : many < 0
    · rw [dec_t c1]; exact ⟨rfl, rfl, fun h => by cases h⟩
    by_cases c2 : 100 < many
    · rw [dec_f c1, dec_t c2]; exact ⟨rfl, rfl, fun h => by cases h⟩
    by_cases c3 : st < 1
    · rw [dec_f c1, dec_f c2, dec_t c3]; exact ⟨rfl, rfl, fun h => by cases h⟩
    by_cases c4 : 720 < st
    · rw [dec_f c1, dec_f c2, dec_f c3, dec_t c4]; exact ⟨rfl, rfl, fun h => by cases h⟩
    rw [dec_f c1, dec_f c2, dec_f c3, dec_f c4]
    simp only [cond_false]
    cases ht : tickB fr with
    | false => exact ⟨rfl, rfl, fun h => by cases h⟩
    | true =>
      obtain ⟨t1, t2⟩ := tickB_iff.1 ht
      have hm1 : w64 (many - 1) = many - 1 := w64_keep (by omega) (by omega)
      rw [hm1]
      obtain ⟨M, rfl⟩ := nat_of (show 0 ≤ many by omega)
      obtain ⟨k1, k2⟩ := run_pathR s fr st M (by omega) (2000 + (([] : List Dir).length + s.name.size)) 0 [] (by omega) (by omega) rfl
      obtain ⟨k3, k4⟩ := run_pathR s fr st M (by omega) (2000 + ([] : List Dir).length) 0 [] (by omega) (by omega) rfl
      rw [show ((0 : Nat) : Int) = 0 from rfl] at k1 k2 k3 k4
      unfold lp_Q6_Path_0
      simp only [Bool.not_true, cond_false]
      by_cases c5 : 0 < (M : Int)
      · have b0 : 0 ≤ ((M : Int) - 1) * st ∧ ((M : Int) - 1) * st ≤ 99 * 720 := ⟨Int.mul_nonneg (by omega) (by omega), Int.mul_le_mul (by omega) (by omega) (by omega) (by omega)⟩
        rw [dec_t c5, w64_keep (n := ((M : Int) - 1) * st) (by omega) (by omega), w64_keep (n := fr + ((M : Int) - 1) * st) (by omega) (by omega)]
        simp only [cond_true, Bool.true_and]
        cases tickB (fr + ((M : Int) - 1) * st) with
        | false => exact ⟨rfl, rfl, fun h => by cases h⟩
        | true =>
          simp only [Bool.not_true, cond_false]
          first
            | (rw [k1]; exact ⟨rfl, rfl, fun _ => ⟨by simp only [show Nat.beq 0 0 = true from rfl, cond_true]; omega, by omega, by omega⟩⟩)
            | (rw [k3]; exact ⟨rfl, rfl, fun _ => ⟨by simp only [show Nat.beq 0 0 = true from rfl, cond_true]; omega, by omega, by omega⟩⟩)
      · rw [dec_f c5]
        simp only [cond_false, Bool.false_and]
        first
          | (rw [k1]; exact ⟨rfl, rfl, fun _ => ⟨by simp only [show Nat.beq 0 0 = true from rfl, cond_true]; omega, by omega, by omega⟩⟩)
          | (rw [k3]; exact ⟨rfl, rfl, fun _ => ⟨by simp only [show Nat.beq 0 0 = true from rfl, cond_true]; omega, by omega, by omega⟩⟩)

theorem run_trails (p5 p6 p17 q17 : Int) (l : List Site) (s : Source) (m2 n2 : List Trk) (v : Vec) (ds : List Dir) (M : Nat) (hM : M ≤ 100) (hd : ds.length = M) : ∀ (d f f' n : Nat) (acc : List Trk), M - n = d → n ≤ M → d < f → d < f' → acc.length = M →
    ((run_proj_Trail_0 p5 p6 p17 (M : Int) l s m2 v f (n : Int) acc).k = 0 ∧ (run_Q8_Trail_0 p5 p6 q17 l s n2 v ds f' (n : Int) (acc.take n)).k = 0 ∧ (run_proj_Trail_0 p5 p6 p17 (M : Int) l s m2 v f (n : Int) acc).p52 = (run_Q8_Trail_0 p5 p6 q17 l s n2 v ds f' (n : Int) (acc.take n)).p22) ∨
    ((run_proj_Trail_0 p5 p6 p17 (M : Int) l s m2 v f (n : Int) acc).k = 1 ∧ (run_Q8_Trail_0 p5 p6 q17 l s n2 v ds f' (n : Int) (acc.take n)).k = 1 ∧ (run_proj_Trail_0 p5 p6 p17 (M : Int) l s m2 v f (n : Int) acc).m4 = (run_Q8_Trail_0 p5 p6 q17 l s n2 v ds f' (n : Int) (acc.take n)).m5 ∧ (run_proj_Trail_0 p5 p6 p17 (M : Int) l s m2 v f (n : Int) acc).m4.length = M) := by
  intro d
  induction d with
  | zero =>
    intro f f' n acc h1 h2 h3 h4 ha
    obtain ⟨f, rfl⟩ : ∃ g, f = g + 1 := ⟨f - 1, by omega⟩
    obtain ⟨f', rfl⟩ : ∃ g, f' = g + 1 := ⟨f' - 1, by omega⟩
    rw [run_proj_Trail_0, run_Q8_Trail_0]
    simp only [lt_f (show ¬ n < M by omega), lt_f (show ¬ n < ds.length by omega), cond_false]
    exact .inr ⟨trivial, trivial, (List.take_of_length_le (by omega)).symm, ha⟩
  | succ d ih =>
    intro f f' n acc h1 h2 h3 h4 ha
    obtain ⟨f, rfl⟩ : ∃ g, f = g + 1 := ⟨f - 1, by omega⟩
    obtain ⟨f', rfl⟩ : ∃ g, f' = g + 1 := ⟨f' - 1, by omega⟩
    rw [run_proj_Trail_0, run_Q8_Trail_0]
    simp only [lt_t (show n < M by omega), lt_t (show n < ds.length by omega), nn_t, lt_t (show n < acc.length by omega), Bool.and_self, cond_true, List.length_singleton, List.length_take, room_le (show min n acc.length + 1 ≤ 1048576 by omega), w64_up (show n < 9223372036854775807 by omega), Int.toNat_natCast]
    cases ((projV v s (w64 (p5 + w64 ((n : Int) * p6)))).2 != 0) with
    | true => exact .inl ⟨rfl, rfl, rfl⟩
    | false =>
      simp only [cond_false]
      have := ih f f' (n + 1) (acc.set n ⟨w64 (p5 + w64 ((n : Int) * p6)), (projV v s (w64 (p5 + w64 ((n : Int) * p6)))).1.x, (projV v s (w64 (p5 + w64 ((n : Int) * p6)))).1.y, (projV v s (w64 (p5 + w64 ((n : Int) * p6)))).1.z⟩) (by omega) (by omega) (by omega) (by omega) (by simp [ha])
      rw [take_set (by omega)] at this
      exact this

theorem m_trails (g : Globe) (l : List Site) (i j : Int) (s : Source) (fr st many : Int) (hf : -9223372036854775808 ≤ fr ∧ fr ≤ 9223372036854775807) :
    (m_proj_Trail g l i j s fr st many).ok = true ∧ (m_Q8_Trail g l i j s fr st many).ok = true ∧ (m_proj_Trail g l i j s fr st many).r0 = (m_Q8_Trail g l i j s fr st many).r0 ∧ (m_proj_Trail g l i j s fr st many).r1 = (m_Q8_Trail g l i j s fr st many).r1 ∧ (m_proj_Trail g l i j s fr st many).r0.length ≤ 100 := by
  unfold m_proj_Trail m_Q8_Trail
  obtain ⟨a1, a2⟩ := m_path s fr st many hf
  obtain ⟨b1, b2, b3⟩ := m_pathR s fr st many hf
  simp only [m_line, m_lineR, cond_true, a1, a2, b1, b2]
  cases h1 : ((lineA g l i j).2 != 0) with
  | true => exact ⟨rfl, rfl, rfl, rfl, by simp⟩
  | false =>
    cases h2 : (pathE s fr st many != 0) with
    | true => exact ⟨rfl, rfl, rfl, rfl, by simp⟩
    | false =>
      obtain ⟨b4, b5, b6⟩ := b3 (eq0_of h2)
      obtain ⟨M, rfl⟩ := nat_of b5
      simp only [cond_false]
      unfold lp_proj_Trail_0 lp_Q8_Trail_0
      have key := run_trails fr st 0 0 l s [] [] (lineA g l i j).1 (m_Q6_Path s fr st (M : Int)).r0 M (by omega) (by omega) M
        (2000 + (l.length + ([] : List Trk).length + (List.replicate (M : Int).toNat (⟨(0 : Int), ⟨(0 : Int), (0 : Int)⟩, ⟨(0 : Int), (0 : Int)⟩, ⟨(0 : Int), (0 : Int)⟩⟩ : Trk)).length))
        (2000 + (l.length + ([] : List Trk).length + (m_Q6_Path s fr st (M : Int)).r0.length + ([] : List Trk).length)) 0 (List.replicate (M : Int).toNat (⟨(0 : Int), ⟨(0 : Int), (0 : Int)⟩, ⟨(0 : Int), (0 : Int)⟩, ⟨(0 : Int), (0 : Int)⟩⟩ : Trk)) (by omega) (by omega) (by omega) (by omega) (by simp)
      rw [show ((0 : Nat) : Int) = 0 from rfl, List.take_zero] at key
      rw [decide_true, nn_t, dec_t (show (M : Int) ≤ 1048576 by omega)]
      rcases key with ⟨k1, k2, k3⟩ | ⟨k1, k2, k3, k4⟩
      · rw [k1, k2, k3]
        exact ⟨rfl, rfl, rfl, rfl, Nat.zero_le _⟩
      · rw [k1, k2]
        refine ⟨rfl, rfl, k3, rfl, ?_⟩
        show (run_proj_Trail_0 _ _ _ _ _ _ _ _ _ _ _).m4.length ≤ 100
        rw [k4]
        omega

theorem eq_self : ∀ l : List D, (∀ d ∈ l, ∃ k n, d = .int k n) → eqAll l l = true
  | [], _ => rfl
  | d :: r, h => by
    obtain ⟨k, n, rfl⟩ := h d (by simp)
    simp only [eqAll, D.eq, beq_self_eq_true, Bool.true_and]
    exact eq_self r fun d hd => h d (by simp [hd])

theorem eq_trk (x y : Trk) : eqAll [.int .i64 x.tick, .int .i64 x.u.lo, .int .i64 x.u.hi, .int .i64 x.v.lo, .int .i64 x.v.hi, .int .i64 x.w.lo, .int .i64 x.w.hi] [.int .i64 y.tick, .int .i64 y.u.lo, .int .i64 y.u.hi, .int .i64 y.v.lo, .int .i64 y.v.hi, .int .i64 y.w.lo, .int .i64 y.w.hi] = decide (x = y) := by
  obtain ⟨x0, ⟨x1, x2⟩, ⟨x3, x4⟩, ⟨x5, x6⟩⟩ := x
  obtain ⟨y0, ⟨y1, y2⟩, ⟨y3, y4⟩, ⟨y5, y6⟩⟩ := y
  rw [Bool.eq_iff_iff]
  simp [eqAll, D.eq, and_assoc]

theorem run_sameT (p : Bool) (a b : List Trk) (hab : a.length = b.length) (hl : a.length < 4611686018427387904) : ∀ (f n : Nat), a.length - n < f →
    (run_Q8_Same_0 p a b f (n : Int)).k = if a.drop n = b.drop n then 1 else 0 := by
  intro f
  induction f with
  | zero => intro n h; omega
  | succ f ih =>
    intro n h
    rw [run_Q8_Same_0]
    by_cases h1 : n < a.length
    · simp only [nn_t, lt_t h1, lt_t (show n < b.length by omega), Bool.and_self, cond_true, w64_up (show n < 9223372036854775807 by omega), Int.toNat_natCast]
      rw [drop_at (ET.z .trk) h1, drop_at (ET.z .trk) (show n < b.length by omega), eq_trk]
      by_cases c : a.getD n (ET.z .trk) = b.getD n (ET.z .trk)
      · rw [dec_t c]
        simp only [Bool.not_true, cond_false, c, List.cons.injEq, true_and]
        exact ih (n + 1) (by omega)
      · rw [dec_f c]
        simp only [Bool.not_false, cond_true, List.cons.injEq, c, false_and, if_false]
    · simp only [lt_f h1, cond_false]
      rw [List.drop_eq_nil_of_le (by omega), List.drop_eq_nil_of_le (by omega), if_pos rfl]

theorem m_sameT (a b : List Trk) (hl : a.length < 4611686018427387904) : m_Q8_Same a b = ⟨true, decide (a = b)⟩ := by
  unfold m_Q8_Same lp_Q8_Same_0
  by_cases h : a.length = b.length
  · rw [show ((a.length : Int) != (b.length : Int)) = false by simp [h]]
    have := run_sameT false a b h hl (2000 + (a.length + b.length)) 0 (by omega)
    rw [show ((0 : Nat) : Int) = 0 from rfl, List.drop_zero, List.drop_zero] at this
    simp only [cond_false]
    rw [this]
    by_cases c : a = b
    · rw [if_pos c, dec_t c]; rfl
    · rw [if_neg c, dec_f c]; rfl
  · rw [show ((a.length : Int) != (b.length : Int)) = true by simp; omega, dec_f (fun e => h (by rw [e]))]
    rfl

theorem law_ProjTrails (g : Globe) (l : List Site) (i j : Int) (s : Source) (fr st many : Int) (_ : ∀ d ∈ [D.int .i64 g.a, .int .i64 g.b], d.ok) (hl : (∀ d ∈ ET.flat .site l, d.ok) ∧ l.length ≤ maxLen) (_ : IntKind.i64.has i) (_ : IntKind.i64.has j) (_ : ∀ d ∈ [D.str s.name, .int .i64 s.ra, .int .i64 s.dec], d.ok) (hf : IntKind.i64.has fr) (_ : IntKind.i64.has st) (_ : IntKind.i64.has many) :
    m_W8_ProjTrails g l i j s fr st many = ⟨true, true⟩ := by
  unfold m_W8_ProjTrails m_W8_long
  obtain ⟨t1, t2, t3, t4, t5⟩ := m_trails g l i j s fr st many (has_i64.1 hf)
  have hs : m_Q8_Same (m_Q8_Trail g l i j s fr st many).r0 (m_Q8_Trail g l i j s fr st many).r0 = ⟨true, true⟩ := by rw [m_sameT _ _ (by rw [← t3]; omega), dec_t rfl]
  have hd : ∀ d : Dir, eqAll [.int .i64 d.x.lo, .int .i64 d.x.hi, .int .i64 d.y.lo, .int .i64 d.y.hi, .int .i64 d.z.lo, .int .i64 d.z.hi] [.int .i64 d.x.lo, .int .i64 d.x.hi, .int .i64 d.y.lo, .int .i64 d.y.hi, .int .i64 d.z.lo, .int .i64 d.z.hi] = true := fun d => eq_self _ (by simp)
  simp only [m_great l hl.2, m_pline, m_plineR, t1, t2, t3, t4, hs, hd, cond_true, beq_self_eq_true]
  cases greatB l with
  | true => rfl
  | false =>
    simp only [cond_false]
    cases decide ((200 : Int) < (s.name.size : Int)) with
    | true => rfl
    | false =>
      cases decide ((20 : Int) < many) with
      | false => rfl
      | true => cases decide (many ≤ 100) <;> rfl

end Go.Ev

