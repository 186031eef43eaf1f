/-
  Plain functions that mirror functions of the program, and that it computes them. No condition beyond those of the statements.
-/
import Derived.Test.YtdmmflpneemmoaaGreatDoorPkS9
set_option maxRecDepth 100000
namespace Go.Ev
open Go Go.Proofs
structure R_array_Places_0 where
  k : Nat
  p25 : Int
  m1 : List Vec
def run_array_Places_0 (p24 : Int) (m0 : List Site) (m2 : List Placed) : Nat → Int → List Vec → R_array_Places_0
  | 0, p25, m1 => ⟨1, p25, m1⟩
  | n + 1, p25, m1 => bif decide (p25 < p24) then (bif (decide ((0 : Int) ≤ p25) && decide (p25 < (m2.length : Int))) then (bif (decide ((0 : Int) ≤ p25) && decide (p25 < (m1.length : Int))) then run_array_Places_0 p24 m0 m2 n (w64 (p25 + (1 : Int))) (m1.set p25.toNat ((m2.getD p25.toNat (ET.z .placed)).at_)) else ⟨1, p25, m1⟩) else ⟨1, p25, m1⟩) else ⟨0, p25, m1⟩
def lp_array_Places_0 (p24 : Int) (m0 : List Site) (m2 : List Placed) (p25 : Int) (m1 : List Vec) : R_array_Places_0 := run_array_Places_0 p24 m0 m2 (2000 + (m0.length + m1.length + m2.length)) p25 m1
abbrev H_array_Places_0 (p24 : Int) (_m0 : List Site) (_m2 : List Placed) (p25 : Int) (_m1 : List Vec) : TS := headT [8, 23, 24, 25] 37 [.v (.c (.aslice 1 none)), .v (.c (.aslice 2 none)), .v (.c (.d (.int .i64 p24))), .v (.c (.d (.int .i64 p25)))]
theorem b_array_Places_0 (p24 : Int) (m0 : List Site) (m2 : List Placed) (p25 : Int) (m1 : List Vec) : evCode Tryz.prog GT EQT T_array_place XT noL 80 (loopB Tryz.prog 47 0) (H_array_Places_0 p24 m0 m2 p25 m1) [.arr none .site m0, .arr (some 71) .vec m1, .arr (some 135) .placed m2] 3 (normK 1 [8, 23, 24, 25]) =
    bif decide (p25 < p24) then (bif (decide ((0 : Int) ≤ p25) && decide (p25 < (m2.length : Int))) then (bif (decide ((0 : Int) ≤ p25) && decide (p25 < (m1.length : Int))) then some (.st .normal (headT [8, 23, 24, 25] 37 [.v (.c (.aslice 1 none)), .v (.c (.aslice 2 none)), .v (.c (.d (.int .i64 p24))), .v (.c (.d (.int .i64 (w64 (p25 + (1 : Int))))))]) [.arr none .site m0, .arr (some 71) .vec (m1.set p25.toNat ((m2.getD p25.toNat (ET.z .placed)).at_)), .arr (some 135) .placed m2] 3) else none) else none) else some (.st (.exit 0) (headT [8, 23, 24, 25] 37 [.v (.c (.aslice 1 none)), .v (.c (.aslice 2 none)), .v (.c (.d (.int .i64 p24))), .v (.c (.d (.int .i64 p25)))]) [.arr none .site m0, .arr (some 71) .vec m1, .arr (some 135) .placed m2] 3) := by
  kernel_rfl
def o_array_Places_0 (p24 : Int) (m0 : List Site) (m2 : List Placed) (r : R_array_Places_0) : LT := .br (Nat.beq r.k 0) (.st (.exit 0) (headT [8, 23, 24, 25] 37 [.v (.c (.aslice 1 none)), .v (.c (.aslice 2 none)), .v (.c (.d (.int .i64 p24))), .v (.c (.d (.int .i64 r.p25)))]) [.arr none .site m0, .arr (some 71) .vec r.m1, .arr (some 135) .placed m2] 3) (.no)
theorem r_array_Places_0 (p24 : Int) (m0 : List Site) (m2 : List Placed) : ∀ (n : Nat) (p25 : Int) (m1 : List Vec) (x : Ex) (T' : TS) (M' : List Blk) (N' : Nat), LReach (o_array_Places_0 p24 m0 m2 (run_array_Places_0 p24 m0 m2 n p25 m1)) x T' M' N' → x ≠ .normal ∧ ∃ j, RoundsN Tryz.prog GT gbT 1 (loopB Tryz.prog 47 0) j (H_array_Places_0 p24 m0 m2 p25 m1) [.arr none .site m0, .arr (some 71) .vec m1, .arr (some 135) .placed m2] 3 x T' M' N' := by
  have hL : LOKn Tryz.prog GT gbT 1 noL (loopsIn (loopB Tryz.prog 47 0)) := fun _ _ _ _ _ _ _ _ _ h => h.elim
  intro n
  induction n with
  | zero =>
    intro p25 m1 x T' M' N' hr
    exact False.elim (redF hr)
  | succ n ih =>
    intro p25 m1 x T' M' N'
    rw [run_array_Places_0]
    exact viaE (b_array_Places_0 p24 m0 m2 p25 m1) (condG (o := o_array_Places_0 p24 m0 m2) (condG (o := o_array_Places_0 p24 m0 m2) (condG (o := o_array_Places_0 p24 m0 m2) (fun he hr => goN g_array_place hEQT hmT hL he (ih (w64 (p25 + (1 : Int))) (m1.set p25.toNat ((m2.getD p25.toNat (ET.z .placed)).at_)) x T' M' N' hr)) (fun _ hr => False.elim (redF hr))) (fun _ hr => False.elim (redF hr))) (fun he hr => stopN g_array_place hEQT hmT hL he (by simp) (redT hr)))
def f_array_Places_0 : List AV → List Blk → LT := fun vs Ms => match vs, Ms with
  | [.v (.c (.aslice 1 none)), .v (.c (.aslice 2 none)), .v (.c (.d (.int .i64 p24))), .v (.c (.d (.int .i64 p25)))], [.arr none .site m0, .arr (some 71) .vec m1, .arr (some 135) .placed m2] => o_array_Places_0 p24 m0 m2 (lp_array_Places_0 p24 m0 m2 p25 m1)
  | _, _ => .no
def L_array_Places_0 := LamN 6 37 1 [8, 23, 24, 25] f_array_Places_0
theorem k_array_Places_0 : LOKbn Tryz.prog GT gbT 1 L_array_Places_0 (loopB Tryz.prog 47 0) := by
  refine LOKbn.lamN (by kernel_rfl) fun vs Ms x T' M' N' hr => ?_
  unfold f_array_Places_0 at hr
  split at hr
  · obtain ⟨q1, j, q2⟩ := r_array_Places_0 _ _ _ _ _ _ x T' M' N' hr
    exact ⟨q1, j, q2⟩
  · exact hr.elim
structure O_array_Places where
  ok : Bool
  r0 : List Vec
  r1 : Int
def m_array_Places (a0 : Globe) (a1 : List Site) : O_array_Places := bif (m_array_place a0 a1).ok then (bif ((m_array_place a0 a1).r1 != (0 : Int)) then ⟨true, ([] : List Vec), (m_array_place a0 a1).r1⟩ else (bif (decide ((((m_array_place a0 a1).r0).length : Int) = (((m_array_place a0 a1).r0).length : Int)) && (decide (0 ≤ (((m_array_place a0 a1).r0).length : Int)) && (decide ((((m_array_place a0 a1).r0).length : Int) ≤ 1048576) && ((6 == 6) && (Nat.blt 0 6 && Nat.ble 48 4096))))) then (bif Nat.beq (lp_array_Places_0 (((m_array_place a0 a1).r0).length : Int) a1 ((m_array_place a0 a1).r0) (0 : Int) (List.replicate ((((m_array_place a0 a1).r0).length : Int).toNat) (⟨⟨(0 : Int), (0 : Int)⟩, ⟨(0 : Int), (0 : Int)⟩, ⟨(0 : Int), (0 : Int)⟩⟩ : Vec))).k 0 then ⟨true, ((lp_array_Places_0 (((m_array_place a0 a1).r0).length : Int) a1 ((m_array_place a0 a1).r0) (0 : Int) (List.replicate ((((m_array_place a0 a1).r0).length : Int).toNat) (⟨⟨(0 : Int), (0 : Int)⟩, ⟨(0 : Int), (0 : Int)⟩, ⟨(0 : Int), (0 : Int)⟩⟩ : Vec))).m1), (0 : Int)⟩ else ⟨false, [], 0⟩) else ⟨false, [], 0⟩)) else ⟨false, [], 0⟩
def F_array_Places (_a0 : Globe) (a1 : List Site) (K : AV → List Blk → Ans) (r : O_array_Places) : Ans := bif r.ok then K (.tup [.c (.aslice 1 none), .c (.d (.int .i64 r.r1))]) [.arr none .site a1, .arr (some 71) .vec r.r0] else none
theorem e_array_Places (a0 : Globe) (a1 : List Site) (K : AV → List Blk → Ans) : evFn Tryz.prog GT EQT T_array_place XT (orL L_array_Places_0 noL) 80 47 [.v (.agg [.int .i64 a0.a, .int .i64 a0.b]), .v (.c (.aslice 0 none))] [.arr none .site a1] (fun v M => K (finR 1 v M).1 (finR 1 v M).2) = F_array_Places a0 a1 K (m_array_Places a0 a1) := by
  unfold m_array_Places
  refine Eq.trans ?_ (Eq.symm (pushT (pushT rfl (pushT (pushT rfl rfl) rfl)) rfl))
  kernel_rfl
theorem lok_array_Places : ∀ fn c, Tryz.prog.funcs[47]? = some fn → fn.body = some c → LOKn Tryz.prog GT gbT 1 (orL L_array_Places_0 noL) (loopsIn c) := by
  refine LOKn.ofF fun b hb => ?_
  have e : loopsF Tryz.prog 47 = [loopB Tryz.prog 47 0] := by kernel_rfl
  rw [e] at hb
  simp only [List.mem_cons, List.not_mem_nil, or_false] at hb
  subst hb
  exact (LOKbn.or k_array_Places_0 (fun _ _ _ _ _ _ _ h => h.elim))
theorem c_array_Places (a0 : Globe) (a1 : List Site) (hd : (m_array_Places a0 a1).ok = true) : CallsA Tryz.prog GT gbT 47 [.v (.agg [.int .i64 a0.a, .int .i64 a0.b]), .v (.c (.aslice 0 none))] [.arr none .site a1] (.tup [.c (.aslice 1 none), .c (.d (.int .i64 ((m_array_Places a0 a1).r1)))]) [.arr none .site a1, .arr (some 71) .vec ((m_array_Places a0 a1).r0)] := by
  refine CallsA.ofEvR g_array_place hEQT hmT (n0 := 1) rfl lok_array_Places ((e_array_Places a0 a1 (fun v M => some (Res.fin v M))).trans ?_)
  unfold F_array_Places
  rw [hd]
  rfl
def s_array_Places : List AV → List Blk → (AV → List Blk → Ans) → Ans := fun xs bs K => match xs, bs with
  | [.v (.agg [.int .i64 a0_0, .int .i64 a0_1]), .v (.c (.aslice 0 none))], [.arr none .site a1] => F_array_Places (⟨a0_0, a0_1⟩ : Globe) a1 K (m_array_Places (⟨a0_0, a0_1⟩ : Globe) a1)
  | _, _ => none
def T_array_Places : Nat → List AV → List Blk → (AV → List Blk → Ans) → Ans := upd T_array_place 47 s_array_Places
theorem g_array_Places : GOK Tryz.prog GT gbT T_array_Places XT := by
  refine GOK.upd g_array_place (fun args w => Tryz.call47 args w) fun xs bs K r h => ?_
  unfold s_array_Places at h
  split at h
  · unfold F_array_Places at h
    simp only [cond_eq_ite] at h
    split at h
    · rename_i hd
      exact ⟨_, _, c_array_Places _ _ hd, h⟩
    · cases h
  · cases h
structure O_rise_look where
  ok : Bool
  r0 : List Vec
  r1 : Int
def m_rise_look (a0 : Globe) (a1 : List Site) (a2 : Source) (a3 : Frac) : O_rise_look := bif (m_array_Places a0 a1).ok then (bif ((m_array_Places a0 a1).r1 != (0 : Int)) then ⟨true, ([] : List Vec), (m_array_Places a0 a1).r1⟩ else (bif ((checkSrc ⟨a2.name, a2.ra, a2.dec⟩) != (0 : Int)) then ⟨true, ([] : List Vec), (checkSrc ⟨a2.name, a2.ra, a2.dec⟩)⟩ else (bif ((checkF ⟨a3.num, a3.den⟩) != (0 : Int)) then ⟨true, ([] : List Vec), (8 : Int)⟩ else (bif decide (a3.num < (0 : Int)) then ⟨true, ([] : List Vec), (8 : Int)⟩ else (bif decide (a3.den < a3.num) then ⟨true, ([] : List Vec), (8 : Int)⟩ else (bif decide ((1000 : Int) < a3.den) then ⟨true, ([] : List Vec), (8 : Int)⟩ else ⟨true, (m_array_Places a0 a1).r0, (0 : Int)⟩)))))) else ⟨false, [], 0⟩
def F_rise_look (_a0 : Globe) (a1 : List Site) (_a2 : Source) (_a3 : Frac) (K : AV → List Blk → Ans) (r : O_rise_look) : Ans := bif r.ok then K (.tup [.c (.aslice 1 none), .c (.d (.int .i64 r.r1))]) [.arr none .site a1, .arr (some 71) .vec r.r0] else none
theorem e_rise_look (a0 : Globe) (a1 : List Site) (a2 : Source) (a3 : Frac) (K : AV → List Blk → Ans) : evFn Tryz.prog GT EQT T_array_Places XT noL 80 29 [.v (.agg [.int .i64 a0.a, .int .i64 a0.b]), .v (.c (.aslice 0 none)), .v (.agg [.str a2.name, .int .i64 a2.ra, .int .i64 a2.dec]), .v (.agg [.int .i64 a3.num, .int .i64 a3.den])] [.arr none .site a1] (fun v M => K (finR 1 v M).1 (finR 1 v M).2) = F_rise_look a0 a1 a2 a3 K (m_rise_look a0 a1 a2 a3) := by
  unfold m_rise_look
  refine Eq.trans ?_ (Eq.symm (pushT (pushT rfl (pushT rfl (pushT rfl (pushT rfl (pushT rfl (pushT rfl rfl)))))) rfl))
  kernel_rfl
theorem c_rise_look (a0 : Globe) (a1 : List Site) (a2 : Source) (a3 : Frac) (hd : (m_rise_look a0 a1 a2 a3).ok = true) : CallsA Tryz.prog GT gbT 29 [.v (.agg [.int .i64 a0.a, .int .i64 a0.b]), .v (.c (.aslice 0 none)), .v (.agg [.str a2.name, .int .i64 a2.ra, .int .i64 a2.dec]), .v (.agg [.int .i64 a3.num, .int .i64 a3.den])] [.arr none .site a1] (.tup [.c (.aslice 1 none), .c (.d (.int .i64 ((m_rise_look a0 a1 a2 a3).r1)))]) [.arr none .site a1, .arr (some 71) .vec ((m_rise_look a0 a1 a2 a3).r0)] := by
  refine CallsA.ofEvR g_array_Places hEQT hmT (n0 := 1) rfl (fun _ _ _ _ => LOKn.nil) ((e_rise_look a0 a1 a2 a3 (fun v M => some (Res.fin v M))).trans ?_)
  unfold F_rise_look
  rw [hd]
  rfl
def s_rise_look : List AV → List Blk → (AV → List Blk → Ans) → Ans := fun xs bs K => match xs, bs with
  | [.v (.agg [.int .i64 a0_0, .int .i64 a0_1]), .v (.c (.aslice 0 none)), .v (.agg [.str a2_0, .int .i64 a2_1, .int .i64 a2_2]), .v (.agg [.int .i64 a3_0, .int .i64 a3_1])], [.arr none .site a1] => F_rise_look (⟨a0_0, a0_1⟩ : Globe) a1 (⟨a2_0, a2_1, a2_2⟩ : Source) (⟨a3_0, a3_1⟩ : Frac) K (m_rise_look (⟨a0_0, a0_1⟩ : Globe) a1 (⟨a2_0, a2_1, a2_2⟩ : Source) (⟨a3_0, a3_1⟩ : Frac))
  | _, _ => none
def T_rise_look : Nat → List AV → List Blk → (AV → List Blk → Ans) → Ans := upd T_array_Places 29 s_rise_look
theorem g_rise_look : GOK Tryz.prog GT gbT T_rise_look XT := by
  refine GOK.upd g_array_Places (fun args w => Tryz.call29 args w) fun xs bs K r h => ?_
  unfold s_rise_look at h
  split at h
  · unfold F_rise_look at h
    simp only [cond_eq_ite] at h
    split at h
    · rename_i hd
      exact ⟨_, _, c_rise_look _ _ _ _ hd, h⟩
    · cases h
  · cases h
structure O_rise_uprightOf where
  ok : Bool
  r0 : Vec
  r1 : Int
def m_rise_uprightOf (a0 : Globe) (a1 : Vec) : O_rise_uprightOf := bif ((makeF a0.b (w64 (a0.a * (if a0.b > a0.a then a0.b else a0.a)))).2 != (0 : Int)) then ⟨true, ⟨⟨(0 : Int), (0 : Int)⟩, ⟨(0 : Int), (0 : Int)⟩, ⟨(0 : Int), (0 : Int)⟩⟩, (makeF a0.b (w64 (a0.a * (if a0.b > a0.a then a0.b else a0.a)))).2⟩ else (bif ((makeF a0.a (w64 (a0.b * (if a0.b > a0.a then a0.b else a0.a)))).2 != (0 : Int)) then ⟨true, ⟨⟨(0 : Int), (0 : Int)⟩, ⟨(0 : Int), (0 : Int)⟩, ⟨(0 : Int), (0 : Int)⟩⟩, (makeF a0.a (w64 (a0.b * (if a0.b > a0.a then a0.b else a0.a)))).2⟩ else (bif ((scaleV ⟨⟨a1.x.num, a1.x.den⟩, ⟨a1.y.num, a1.y.den⟩, ⟨a1.z.num, a1.z.den⟩⟩ ⟨(((makeF a0.b (w64 (a0.a * (if a0.b > a0.a then a0.b else a0.a)))).1).num), (((makeF a0.b (w64 (a0.a * (if a0.b > a0.a then a0.b else a0.a)))).1).den)⟩).2 != (0 : Int)) then ⟨true, ⟨⟨(0 : Int), (0 : Int)⟩, ⟨(0 : Int), (0 : Int)⟩, ⟨(0 : Int), (0 : Int)⟩⟩, (scaleV ⟨⟨a1.x.num, a1.x.den⟩, ⟨a1.y.num, a1.y.den⟩, ⟨a1.z.num, a1.z.den⟩⟩ ⟨(((makeF a0.b (w64 (a0.a * (if a0.b > a0.a then a0.b else a0.a)))).1).num), (((makeF a0.b (w64 (a0.a * (if a0.b > a0.a then a0.b else a0.a)))).1).den)⟩).2⟩ else (bif ((mulF ⟨a1.z.num, a1.z.den⟩ ⟨(((makeF a0.a (w64 (a0.b * (if a0.b > a0.a then a0.b else a0.a)))).1).num), (((makeF a0.a (w64 (a0.b * (if a0.b > a0.a then a0.b else a0.a)))).1).den)⟩).2 != (0 : Int)) then ⟨true, ⟨⟨(0 : Int), (0 : Int)⟩, ⟨(0 : Int), (0 : Int)⟩, ⟨(0 : Int), (0 : Int)⟩⟩, (mulF ⟨a1.z.num, a1.z.den⟩ ⟨(((makeF a0.a (w64 (a0.b * (if a0.b > a0.a then a0.b else a0.a)))).1).num), (((makeF a0.a (w64 (a0.b * (if a0.b > a0.a then a0.b else a0.a)))).1).den)⟩).2⟩ else ⟨true, ⟨((scaleV ⟨⟨a1.x.num, a1.x.den⟩, ⟨a1.y.num, a1.y.den⟩, ⟨a1.z.num, a1.z.den⟩⟩ ⟨(((makeF a0.b (w64 (a0.a * (if a0.b > a0.a then a0.b else a0.a)))).1).num), (((makeF a0.b (w64 (a0.a * (if a0.b > a0.a then a0.b else a0.a)))).1).den)⟩).1).x, ((scaleV ⟨⟨a1.x.num, a1.x.den⟩, ⟨a1.y.num, a1.y.den⟩, ⟨a1.z.num, a1.z.den⟩⟩ ⟨(((makeF a0.b (w64 (a0.a * (if a0.b > a0.a then a0.b else a0.a)))).1).num), (((makeF a0.b (w64 (a0.a * (if a0.b > a0.a then a0.b else a0.a)))).1).den)⟩).1).y, (mulF ⟨a1.z.num, a1.z.den⟩ ⟨(((makeF a0.a (w64 (a0.b * (if a0.b > a0.a then a0.b else a0.a)))).1).num), (((makeF a0.a (w64 (a0.b * (if a0.b > a0.a then a0.b else a0.a)))).1).den)⟩).1⟩, (0 : Int)⟩)))
def F_rise_uprightOf (_a0 : Globe) (_a1 : Vec) (K : AV → List Blk → Ans) (r : O_rise_uprightOf) : Ans := bif r.ok then K (.tup [.agg [.int .i64 r.r0.x.num, .int .i64 r.r0.x.den, .int .i64 r.r0.y.num, .int .i64 r.r0.y.den, .int .i64 r.r0.z.num, .int .i64 r.r0.z.den], .c (.d (.int .i64 r.r1))]) [] else none
theorem e_rise_uprightOf (a0 : Globe) (a1 : Vec) (K : AV → List Blk → Ans) : evFn Tryz.prog GT EQT T_rise_look XT noL 80 50 [.v (.agg [.int .i64 a0.a, .int .i64 a0.b]), .v (.agg [.int .i64 a1.x.num, .int .i64 a1.x.den, .int .i64 a1.y.num, .int .i64 a1.y.den, .int .i64 a1.z.num, .int .i64 a1.z.den])] [] (fun v M => K (finR 0 v M).1 (finR 0 v M).2) = F_rise_uprightOf a0 a1 K (m_rise_uprightOf a0 a1) := by
  unfold m_rise_uprightOf
  refine Eq.trans ?_ (Eq.symm (pushT rfl (pushT rfl (pushT rfl (pushT rfl rfl)))))
  kernel_rfl
theorem c_rise_uprightOf (a0 : Globe) (a1 : Vec) (hd : (m_rise_uprightOf a0 a1).ok = true) : CallsA Tryz.prog GT gbT 50 [.v (.agg [.int .i64 a0.a, .int .i64 a0.b]), .v (.agg [.int .i64 a1.x.num, .int .i64 a1.x.den, .int .i64 a1.y.num, .int .i64 a1.y.den, .int .i64 a1.z.num, .int .i64 a1.z.den])] [] (.tup [.agg [.int .i64 ((((m_rise_uprightOf a0 a1).r0).x).num), .int .i64 ((((m_rise_uprightOf a0 a1).r0).x).den), .int .i64 ((((m_rise_uprightOf a0 a1).r0).y).num), .int .i64 ((((m_rise_uprightOf a0 a1).r0).y).den), .int .i64 ((((m_rise_uprightOf a0 a1).r0).z).num), .int .i64 ((((m_rise_uprightOf a0 a1).r0).z).den)], .c (.d (.int .i64 ((m_rise_uprightOf a0 a1).r1)))]) [] := by
  refine CallsA.ofEvR g_rise_look hEQT hmT (n0 := 0) rfl (fun _ _ _ _ => LOKn.nil) ((e_rise_uprightOf a0 a1 (fun v M => some (Res.fin v M))).trans ?_)
  unfold F_rise_uprightOf
  rw [hd]
  rfl
def s_rise_uprightOf : List AV → List Blk → (AV → List Blk → Ans) → Ans := fun xs bs K => match xs, bs with
  | [.v (.agg [.int .i64 a0_0, .int .i64 a0_1]), .v (.agg [.int .i64 a1_0, .int .i64 a1_1, .int .i64 a1_2, .int .i64 a1_3, .int .i64 a1_4, .int .i64 a1_5])], [] => F_rise_uprightOf (⟨a0_0, a0_1⟩ : Globe) (⟨⟨a1_0, a1_1⟩, ⟨a1_2, a1_3⟩, ⟨a1_4, a1_5⟩⟩ : Vec) K (m_rise_uprightOf (⟨a0_0, a0_1⟩ : Globe) (⟨⟨a1_0, a1_1⟩, ⟨a1_2, a1_3⟩, ⟨a1_4, a1_5⟩⟩ : Vec))
  | _, _ => none
def T_rise_uprightOf : Nat → List AV → List Blk → (AV → List Blk → Ans) → Ans := upd T_rise_look 50 s_rise_uprightOf
theorem g_rise_uprightOf : GOK Tryz.prog GT gbT T_rise_uprightOf XT := by
  refine GOK.upd g_rise_look (fun args w => Tryz.call50 args w) fun xs bs K r h => ?_
  unfold s_rise_uprightOf at h
  split at h
  · unfold F_rise_uprightOf at h
    simp only [cond_eq_ite] at h
    split at h
    · rename_i hd
      exact ⟨_, _, c_rise_uprightOf _ _ hd, h⟩
    · cases h
  · cases h
structure O_rise_viewOf where
  ok : Bool
  r0 : View
  r1 : Int
def m_rise_viewOf (a0 : Globe) (a1 : Vec) (a2 : Frac) : O_rise_viewOf := bif (m_rise_uprightOf a0 a1).ok then (bif ((m_rise_uprightOf a0 a1).r1 != (0 : Int)) then ⟨true, ⟨⟨⟨(0 : Int), (0 : Int)⟩, ⟨(0 : Int), (0 : Int)⟩, ⟨(0 : Int), (0 : Int)⟩⟩, ⟨(0 : Int), (0 : Int)⟩⟩, (m_rise_uprightOf a0 a1).r1⟩ else (bif ((mulF ⟨a2.num, a2.den⟩ ⟨a2.num, a2.den⟩).2 != (0 : Int)) then ⟨true, ⟨⟨⟨(0 : Int), (0 : Int)⟩, ⟨(0 : Int), (0 : Int)⟩, ⟨(0 : Int), (0 : Int)⟩⟩, ⟨(0 : Int), (0 : Int)⟩⟩, (mulF ⟨a2.num, a2.den⟩ ⟨a2.num, a2.den⟩).2⟩ else (bif ((dotV ⟨⟨((((m_rise_uprightOf a0 a1).r0).x).num), ((((m_rise_uprightOf a0 a1).r0).x).den)⟩, ⟨((((m_rise_uprightOf a0 a1).r0).y).num), ((((m_rise_uprightOf a0 a1).r0).y).den)⟩, ⟨((((m_rise_uprightOf a0 a1).r0).z).num), ((((m_rise_uprightOf a0 a1).r0).z).den)⟩⟩ ⟨⟨((((m_rise_uprightOf a0 a1).r0).x).num), ((((m_rise_uprightOf a0 a1).r0).x).den)⟩, ⟨((((m_rise_uprightOf a0 a1).r0).y).num), ((((m_rise_uprightOf a0 a1).r0).y).den)⟩, ⟨((((m_rise_uprightOf a0 a1).r0).z).num), ((((m_rise_uprightOf a0 a1).r0).z).den)⟩⟩).2 != (0 : Int)) then ⟨true, ⟨⟨⟨(0 : Int), (0 : Int)⟩, ⟨(0 : Int), (0 : Int)⟩, ⟨(0 : Int), (0 : Int)⟩⟩, ⟨(0 : Int), (0 : Int)⟩⟩, (dotV ⟨⟨((((m_rise_uprightOf a0 a1).r0).x).num), ((((m_rise_uprightOf a0 a1).r0).x).den)⟩, ⟨((((m_rise_uprightOf a0 a1).r0).y).num), ((((m_rise_uprightOf a0 a1).r0).y).den)⟩, ⟨((((m_rise_uprightOf a0 a1).r0).z).num), ((((m_rise_uprightOf a0 a1).r0).z).den)⟩⟩ ⟨⟨((((m_rise_uprightOf a0 a1).r0).x).num), ((((m_rise_uprightOf a0 a1).r0).x).den)⟩, ⟨((((m_rise_uprightOf a0 a1).r0).y).num), ((((m_rise_uprightOf a0 a1).r0).y).den)⟩, ⟨((((m_rise_uprightOf a0 a1).r0).z).num), ((((m_rise_uprightOf a0 a1).r0).z).den)⟩⟩).2⟩ else (bif ((ofS ⟨(((mulF ⟨a2.num, a2.den⟩ ⟨a2.num, a2.den⟩).1).num), (((mulF ⟨a2.num, a2.den⟩ ⟨a2.num, a2.den⟩).1).den)⟩).2 != (0 : Int)) then ⟨true, ⟨⟨⟨(0 : Int), (0 : Int)⟩, ⟨(0 : Int), (0 : Int)⟩, ⟨(0 : Int), (0 : Int)⟩⟩, ⟨(0 : Int), (0 : Int)⟩⟩, (ofS ⟨(((mulF ⟨a2.num, a2.den⟩ ⟨a2.num, a2.den⟩).1).num), (((mulF ⟨a2.num, a2.den⟩ ⟨a2.num, a2.den⟩).1).den)⟩).2⟩ else (bif ((ofS ⟨(((dotV ⟨⟨((((m_rise_uprightOf a0 a1).r0).x).num), ((((m_rise_uprightOf a0 a1).r0).x).den)⟩, ⟨((((m_rise_uprightOf a0 a1).r0).y).num), ((((m_rise_uprightOf a0 a1).r0).y).den)⟩, ⟨((((m_rise_uprightOf a0 a1).r0).z).num), ((((m_rise_uprightOf a0 a1).r0).z).den)⟩⟩ ⟨⟨((((m_rise_uprightOf a0 a1).r0).x).num), ((((m_rise_uprightOf a0 a1).r0).x).den)⟩, ⟨((((m_rise_uprightOf a0 a1).r0).y).num), ((((m_rise_uprightOf a0 a1).r0).y).den)⟩, ⟨((((m_rise_uprightOf a0 a1).r0).z).num), ((((m_rise_uprightOf a0 a1).r0).z).den)⟩⟩).1).num), (((dotV ⟨⟨((((m_rise_uprightOf a0 a1).r0).x).num), ((((m_rise_uprightOf a0 a1).r0).x).den)⟩, ⟨((((m_rise_uprightOf a0 a1).r0).y).num), ((((m_rise_uprightOf a0 a1).r0).y).den)⟩, ⟨((((m_rise_uprightOf a0 a1).r0).z).num), ((((m_rise_uprightOf a0 a1).r0).z).den)⟩⟩ ⟨⟨((((m_rise_uprightOf a0 a1).r0).x).num), ((((m_rise_uprightOf a0 a1).r0).x).den)⟩, ⟨((((m_rise_uprightOf a0 a1).r0).y).num), ((((m_rise_uprightOf a0 a1).r0).y).den)⟩, ⟨((((m_rise_uprightOf a0 a1).r0).z).num), ((((m_rise_uprightOf a0 a1).r0).z).den)⟩⟩).1).den)⟩).2 != (0 : Int)) then ⟨true, ⟨⟨⟨(0 : Int), (0 : Int)⟩, ⟨(0 : Int), (0 : Int)⟩, ⟨(0 : Int), (0 : Int)⟩⟩, ⟨(0 : Int), (0 : Int)⟩⟩, (ofS ⟨(((dotV ⟨⟨((((m_rise_uprightOf a0 a1).r0).x).num), ((((m_rise_uprightOf a0 a1).r0).x).den)⟩, ⟨((((m_rise_uprightOf a0 a1).r0).y).num), ((((m_rise_uprightOf a0 a1).r0).y).den)⟩, ⟨((((m_rise_uprightOf a0 a1).r0).z).num), ((((m_rise_uprightOf a0 a1).r0).z).den)⟩⟩ ⟨⟨((((m_rise_uprightOf a0 a1).r0).x).num), ((((m_rise_uprightOf a0 a1).r0).x).den)⟩, ⟨((((m_rise_uprightOf a0 a1).r0).y).num), ((((m_rise_uprightOf a0 a1).r0).y).den)⟩, ⟨((((m_rise_uprightOf a0 a1).r0).z).num), ((((m_rise_uprightOf a0 a1).r0).z).den)⟩⟩).1).num), (((dotV ⟨⟨((((m_rise_uprightOf a0 a1).r0).x).num), ((((m_rise_uprightOf a0 a1).r0).x).den)⟩, ⟨((((m_rise_uprightOf a0 a1).r0).y).num), ((((m_rise_uprightOf a0 a1).r0).y).den)⟩, ⟨((((m_rise_uprightOf a0 a1).r0).z).num), ((((m_rise_uprightOf a0 a1).r0).z).den)⟩⟩ ⟨⟨((((m_rise_uprightOf a0 a1).r0).x).num), ((((m_rise_uprightOf a0 a1).r0).x).den)⟩, ⟨((((m_rise_uprightOf a0 a1).r0).y).num), ((((m_rise_uprightOf a0 a1).r0).y).den)⟩, ⟨((((m_rise_uprightOf a0 a1).r0).z).num), ((((m_rise_uprightOf a0 a1).r0).z).den)⟩⟩).1).den)⟩).2⟩ else (bif ((mulS ⟨(((ofS ⟨(((mulF ⟨a2.num, a2.den⟩ ⟨a2.num, a2.den⟩).1).num), (((mulF ⟨a2.num, a2.den⟩ ⟨a2.num, a2.den⟩).1).den)⟩).1).lo), (((ofS ⟨(((mulF ⟨a2.num, a2.den⟩ ⟨a2.num, a2.den⟩).1).num), (((mulF ⟨a2.num, a2.den⟩ ⟨a2.num, a2.den⟩).1).den)⟩).1).hi)⟩ ⟨(((ofS ⟨(((dotV ⟨⟨((((m_rise_uprightOf a0 a1).r0).x).num), ((((m_rise_uprightOf a0 a1).r0).x).den)⟩, ⟨((((m_rise_uprightOf a0 a1).r0).y).num), ((((m_rise_uprightOf a0 a1).r0).y).den)⟩, ⟨((((m_rise_uprightOf a0 a1).r0).z).num), ((((m_rise_uprightOf a0 a1).r0).z).den)⟩⟩ ⟨⟨((((m_rise_uprightOf a0 a1).r0).x).num), ((((m_rise_uprightOf a0 a1).r0).x).den)⟩, ⟨((((m_rise_uprightOf a0 a1).r0).y).num), ((((m_rise_uprightOf a0 a1).r0).y).den)⟩, ⟨((((m_rise_uprightOf a0 a1).r0).z).num), ((((m_rise_uprightOf a0 a1).r0).z).den)⟩⟩).1).num), (((dotV ⟨⟨((((m_rise_uprightOf a0 a1).r0).x).num), ((((m_rise_uprightOf a0 a1).r0).x).den)⟩, ⟨((((m_rise_uprightOf a0 a1).r0).y).num), ((((m_rise_uprightOf a0 a1).r0).y).den)⟩, ⟨((((m_rise_uprightOf a0 a1).r0).z).num), ((((m_rise_uprightOf a0 a1).r0).z).den)⟩⟩ ⟨⟨((((m_rise_uprightOf a0 a1).r0).x).num), ((((m_rise_uprightOf a0 a1).r0).x).den)⟩, ⟨((((m_rise_uprightOf a0 a1).r0).y).num), ((((m_rise_uprightOf a0 a1).r0).y).den)⟩, ⟨((((m_rise_uprightOf a0 a1).r0).z).num), ((((m_rise_uprightOf a0 a1).r0).z).den)⟩⟩).1).den)⟩).1).lo), (((ofS ⟨(((dotV ⟨⟨((((m_rise_uprightOf a0 a1).r0).x).num), ((((m_rise_uprightOf a0 a1).r0).x).den)⟩, ⟨((((m_rise_uprightOf a0 a1).r0).y).num), ((((m_rise_uprightOf a0 a1).r0).y).den)⟩, ⟨((((m_rise_uprightOf a0 a1).r0).z).num), ((((m_rise_uprightOf a0 a1).r0).z).den)⟩⟩ ⟨⟨((((m_rise_uprightOf a0 a1).r0).x).num), ((((m_rise_uprightOf a0 a1).r0).x).den)⟩, ⟨((((m_rise_uprightOf a0 a1).r0).y).num), ((((m_rise_uprightOf a0 a1).r0).y).den)⟩, ⟨((((m_rise_uprightOf a0 a1).r0).z).num), ((((m_rise_uprightOf a0 a1).r0).z).den)⟩⟩).1).num), (((dotV ⟨⟨((((m_rise_uprightOf a0 a1).r0).x).num), ((((m_rise_uprightOf a0 a1).r0).x).den)⟩, ⟨((((m_rise_uprightOf a0 a1).r0).y).num), ((((m_rise_uprightOf a0 a1).r0).y).den)⟩, ⟨((((m_rise_uprightOf a0 a1).r0).z).num), ((((m_rise_uprightOf a0 a1).r0).z).den)⟩⟩ ⟨⟨((((m_rise_uprightOf a0 a1).r0).x).num), ((((m_rise_uprightOf a0 a1).r0).x).den)⟩, ⟨((((m_rise_uprightOf a0 a1).r0).y).num), ((((m_rise_uprightOf a0 a1).r0).y).den)⟩, ⟨((((m_rise_uprightOf a0 a1).r0).z).num), ((((m_rise_uprightOf a0 a1).r0).z).den)⟩⟩).1).den)⟩).1).hi)⟩).2 != (0 : Int)) then ⟨true, ⟨⟨⟨(0 : Int), (0 : Int)⟩, ⟨(0 : Int), (0 : Int)⟩, ⟨(0 : Int), (0 : Int)⟩⟩, ⟨(0 : Int), (0 : Int)⟩⟩, (mulS ⟨(((ofS ⟨(((mulF ⟨a2.num, a2.den⟩ ⟨a2.num, a2.den⟩).1).num), (((mulF ⟨a2.num, a2.den⟩ ⟨a2.num, a2.den⟩).1).den)⟩).1).lo), (((ofS ⟨(((mulF ⟨a2.num, a2.den⟩ ⟨a2.num, a2.den⟩).1).num), (((mulF ⟨a2.num, a2.den⟩ ⟨a2.num, a2.den⟩).1).den)⟩).1).hi)⟩ ⟨(((ofS ⟨(((dotV ⟨⟨((((m_rise_uprightOf a0 a1).r0).x).num), ((((m_rise_uprightOf a0 a1).r0).x).den)⟩, ⟨((((m_rise_uprightOf a0 a1).r0).y).num), ((((m_rise_uprightOf a0 a1).r0).y).den)⟩, ⟨((((m_rise_uprightOf a0 a1).r0).z).num), ((((m_rise_uprightOf a0 a1).r0).z).den)⟩⟩ ⟨⟨((((m_rise_uprightOf a0 a1).r0).x).num), ((((m_rise_uprightOf a0 a1).r0).x).den)⟩, ⟨((((m_rise_uprightOf a0 a1).r0).y).num), ((((m_rise_uprightOf a0 a1).r0).y).den)⟩, ⟨((((m_rise_uprightOf a0 a1).r0).z).num), ((((m_rise_uprightOf a0 a1).r0).z).den)⟩⟩).1).num), (((dotV ⟨⟨((((m_rise_uprightOf a0 a1).r0).x).num), ((((m_rise_uprightOf a0 a1).r0).x).den)⟩, ⟨((((m_rise_uprightOf a0 a1).r0).y).num), ((((m_rise_uprightOf a0 a1).r0).y).den)⟩, ⟨((((m_rise_uprightOf a0 a1).r0).z).num), ((((m_rise_uprightOf a0 a1).r0).z).den)⟩⟩ ⟨⟨((((m_rise_uprightOf a0 a1).r0).x).num), ((((m_rise_uprightOf a0 a1).r0).x).den)⟩, ⟨((((m_rise_uprightOf a0 a1).r0).y).num), ((((m_rise_uprightOf a0 a1).r0).y).den)⟩, ⟨((((m_rise_uprightOf a0 a1).r0).z).num), ((((m_rise_uprightOf a0 a1).r0).z).den)⟩⟩).1).den)⟩).1).lo), (((ofS ⟨(((dotV ⟨⟨((((m_rise_uprightOf a0 a1).r0).x).num), ((((m_rise_uprightOf a0 a1).r0).x).den)⟩, ⟨((((m_rise_uprightOf a0 a1).r0).y).num), ((((m_rise_uprightOf a0 a1).r0).y).den)⟩, ⟨((((m_rise_uprightOf a0 a1).r0).z).num), ((((m_rise_uprightOf a0 a1).r0).z).den)⟩⟩ ⟨⟨((((m_rise_uprightOf a0 a1).r0).x).num), ((((m_rise_uprightOf a0 a1).r0).x).den)⟩, ⟨((((m_rise_uprightOf a0 a1).r0).y).num), ((((m_rise_uprightOf a0 a1).r0).y).den)⟩, ⟨((((m_rise_uprightOf a0 a1).r0).z).num), ((((m_rise_uprightOf a0 a1).r0).z).den)⟩⟩).1).num), (((dotV ⟨⟨((((m_rise_uprightOf a0 a1).r0).x).num), ((((m_rise_uprightOf a0 a1).r0).x).den)⟩, ⟨((((m_rise_uprightOf a0 a1).r0).y).num), ((((m_rise_uprightOf a0 a1).r0).y).den)⟩, ⟨((((m_rise_uprightOf a0 a1).r0).z).num), ((((m_rise_uprightOf a0 a1).r0).z).den)⟩⟩ ⟨⟨((((m_rise_uprightOf a0 a1).r0).x).num), ((((m_rise_uprightOf a0 a1).r0).x).den)⟩, ⟨((((m_rise_uprightOf a0 a1).r0).y).num), ((((m_rise_uprightOf a0 a1).r0).y).den)⟩, ⟨((((m_rise_uprightOf a0 a1).r0).z).num), ((((m_rise_uprightOf a0 a1).r0).z).den)⟩⟩).1).den)⟩).1).hi)⟩).2⟩ else ⟨true, ⟨(m_rise_uprightOf a0 a1).r0, (mulS ⟨(((ofS ⟨(((mulF ⟨a2.num, a2.den⟩ ⟨a2.num, a2.den⟩).1).num), (((mulF ⟨a2.num, a2.den⟩ ⟨a2.num, a2.den⟩).1).den)⟩).1).lo), (((ofS ⟨(((mulF ⟨a2.num, a2.den⟩ ⟨a2.num, a2.den⟩).1).num), (((mulF ⟨a2.num, a2.den⟩ ⟨a2.num, a2.den⟩).1).den)⟩).1).hi)⟩ ⟨(((ofS ⟨(((dotV ⟨⟨((((m_rise_uprightOf a0 a1).r0).x).num), ((((m_rise_uprightOf a0 a1).r0).x).den)⟩, ⟨((((m_rise_uprightOf a0 a1).r0).y).num), ((((m_rise_uprightOf a0 a1).r0).y).den)⟩, ⟨((((m_rise_uprightOf a0 a1).r0).z).num), ((((m_rise_uprightOf a0 a1).r0).z).den)⟩⟩ ⟨⟨((((m_rise_uprightOf a0 a1).r0).x).num), ((((m_rise_uprightOf a0 a1).r0).x).den)⟩, ⟨((((m_rise_uprightOf a0 a1).r0).y).num), ((((m_rise_uprightOf a0 a1).r0).y).den)⟩, ⟨((((m_rise_uprightOf a0 a1).r0).z).num), ((((m_rise_uprightOf a0 a1).r0).z).den)⟩⟩).1).num), (((dotV ⟨⟨((((m_rise_uprightOf a0 a1).r0).x).num), ((((m_rise_uprightOf a0 a1).r0).x).den)⟩, ⟨((((m_rise_uprightOf a0 a1).r0).y).num), ((((m_rise_uprightOf a0 a1).r0).y).den)⟩, ⟨((((m_rise_uprightOf a0 a1).r0).z).num), ((((m_rise_uprightOf a0 a1).r0).z).den)⟩⟩ ⟨⟨((((m_rise_uprightOf a0 a1).r0).x).num), ((((m_rise_uprightOf a0 a1).r0).x).den)⟩, ⟨((((m_rise_uprightOf a0 a1).r0).y).num), ((((m_rise_uprightOf a0 a1).r0).y).den)⟩, ⟨((((m_rise_uprightOf a0 a1).r0).z).num), ((((m_rise_uprightOf a0 a1).r0).z).den)⟩⟩).1).den)⟩).1).lo), (((ofS ⟨(((dotV ⟨⟨((((m_rise_uprightOf a0 a1).r0).x).num), ((((m_rise_uprightOf a0 a1).r0).x).den)⟩, ⟨((((m_rise_uprightOf a0 a1).r0).y).num), ((((m_rise_uprightOf a0 a1).r0).y).den)⟩, ⟨((((m_rise_uprightOf a0 a1).r0).z).num), ((((m_rise_uprightOf a0 a1).r0).z).den)⟩⟩ ⟨⟨((((m_rise_uprightOf a0 a1).r0).x).num), ((((m_rise_uprightOf a0 a1).r0).x).den)⟩, ⟨((((m_rise_uprightOf a0 a1).r0).y).num), ((((m_rise_uprightOf a0 a1).r0).y).den)⟩, ⟨((((m_rise_uprightOf a0 a1).r0).z).num), ((((m_rise_uprightOf a0 a1).r0).z).den)⟩⟩).1).num), (((dotV ⟨⟨((((m_rise_uprightOf a0 a1).r0).x).num), ((((m_rise_uprightOf a0 a1).r0).x).den)⟩, ⟨((((m_rise_uprightOf a0 a1).r0).y).num), ((((m_rise_uprightOf a0 a1).r0).y).den)⟩, ⟨((((m_rise_uprightOf a0 a1).r0).z).num), ((((m_rise_uprightOf a0 a1).r0).z).den)⟩⟩ ⟨⟨((((m_rise_uprightOf a0 a1).r0).x).num), ((((m_rise_uprightOf a0 a1).r0).x).den)⟩, ⟨((((m_rise_uprightOf a0 a1).r0).y).num), ((((m_rise_uprightOf a0 a1).r0).y).den)⟩, ⟨((((m_rise_uprightOf a0 a1).r0).z).num), ((((m_rise_uprightOf a0 a1).r0).z).den)⟩⟩).1).den)⟩).1).hi)⟩).1⟩, (0 : Int)⟩)))))) else ⟨false, ⟨⟨⟨0, 0⟩, ⟨0, 0⟩, ⟨0, 0⟩⟩, ⟨0, 0⟩⟩, 0⟩
def F_rise_viewOf (_a0 : Globe) (_a1 : Vec) (_a2 : Frac) (K : AV → List Blk → Ans) (r : O_rise_viewOf) : Ans := bif r.ok then K (.tup [.agg [.int .i64 r.r0.up.x.num, .int .i64 r.r0.up.x.den, .int .i64 r.r0.up.y.num, .int .i64 r.r0.up.y.den, .int .i64 r.r0.up.z.num, .int .i64 r.r0.up.z.den, .int .i64 r.r0.bound.lo, .int .i64 r.r0.bound.hi], .c (.d (.int .i64 r.r1))]) [] else none
theorem e_rise_viewOf (a0 : Globe) (a1 : Vec) (a2 : Frac) (K : AV → List Blk → Ans) : evFn Tryz.prog GT EQT T_rise_uprightOf XT noL 80 31 [.v (.agg [.int .i64 a0.a, .int .i64 a0.b]), .v (.agg [.int .i64 a1.x.num, .int .i64 a1.x.den, .int .i64 a1.y.num, .int .i64 a1.y.den, .int .i64 a1.z.num, .int .i64 a1.z.den]), .v (.agg [.int .i64 a2.num, .int .i64 a2.den])] [] (fun v M => K (finR 0 v M).1 (finR 0 v M).2) = F_rise_viewOf a0 a1 a2 K (m_rise_viewOf a0 a1 a2) := by
  unfold m_rise_viewOf
  refine Eq.trans ?_ (Eq.symm (pushT (pushT rfl (pushT rfl (pushT rfl (pushT rfl (pushT rfl (pushT rfl rfl)))))) rfl))
  kernel_rfl
theorem c_rise_viewOf (a0 : Globe) (a1 : Vec) (a2 : Frac) (hd : (m_rise_viewOf a0 a1 a2).ok = true) : CallsA Tryz.prog GT gbT 31 [.v (.agg [.int .i64 a0.a, .int .i64 a0.b]), .v (.agg [.int .i64 a1.x.num, .int .i64 a1.x.den, .int .i64 a1.y.num, .int .i64 a1.y.den, .int .i64 a1.z.num, .int .i64 a1.z.den]), .v (.agg [.int .i64 a2.num, .int .i64 a2.den])] [] (.tup [.agg [.int .i64 (((((m_rise_viewOf a0 a1 a2).r0).up).x).num), .int .i64 (((((m_rise_viewOf a0 a1 a2).r0).up).x).den), .int .i64 (((((m_rise_viewOf a0 a1 a2).r0).up).y).num), .int .i64 (((((m_rise_viewOf a0 a1 a2).r0).up).y).den), .int .i64 (((((m_rise_viewOf a0 a1 a2).r0).up).z).num), .int .i64 (((((m_rise_viewOf a0 a1 a2).r0).up).z).den), .int .i64 ((((m_rise_viewOf a0 a1 a2).r0).bound).lo), .int .i64 ((((m_rise_viewOf a0 a1 a2).r0).bound).hi)], .c (.d (.int .i64 ((m_rise_viewOf a0 a1 a2).r1)))]) [] := by
  refine CallsA.ofEvR g_rise_uprightOf hEQT hmT (n0 := 0) rfl (fun _ _ _ _ => LOKn.nil) ((e_rise_viewOf a0 a1 a2 (fun v M => some (Res.fin v M))).trans ?_)
  unfold F_rise_viewOf
  rw [hd]
  rfl
def s_rise_viewOf : List AV → List Blk → (AV → List Blk → Ans) → Ans := fun xs bs K => match xs, bs with
  | [.v (.agg [.int .i64 a0_0, .int .i64 a0_1]), .v (.agg [.int .i64 a1_0, .int .i64 a1_1, .int .i64 a1_2, .int .i64 a1_3, .int .i64 a1_4, .int .i64 a1_5]), .v (.agg [.int .i64 a2_0, .int .i64 a2_1])], [] => F_rise_viewOf (⟨a0_0, a0_1⟩ : Globe) (⟨⟨a1_0, a1_1⟩, ⟨a1_2, a1_3⟩, ⟨a1_4, a1_5⟩⟩ : Vec) (⟨a2_0, a2_1⟩ : Frac) K (m_rise_viewOf (⟨a0_0, a0_1⟩ : Globe) (⟨⟨a1_0, a1_1⟩, ⟨a1_2, a1_3⟩, ⟨a1_4, a1_5⟩⟩ : Vec) (⟨a2_0, a2_1⟩ : Frac))
  | _, _ => none
def T_rise_viewOf : Nat → List AV → List Blk → (AV → List Blk → Ans) → Ans := upd T_rise_uprightOf 31 s_rise_viewOf
theorem g_rise_viewOf : GOK Tryz.prog GT gbT T_rise_viewOf XT := by
  refine GOK.upd g_rise_uprightOf (fun args w => Tryz.call31 args w) fun xs bs K r h => ?_
  unfold s_rise_viewOf at h
  split at h
  · unfold F_rise_viewOf at h
    simp only [cond_eq_ite] at h
    split at h
    · rename_i hd
      exact ⟨_, _, c_rise_viewOf _ _ _ hd, h⟩
    · cases h
  · cases h
structure O__rise_view__state where
  ok : Bool
  r0 : Int
  r1 : Int
def m__rise_view__state (a0 : View) (a1 : Dir) : O__rise_view__state := bif ((alongS ⟨⟨a1.x.lo, a1.x.hi⟩, ⟨a1.y.lo, a1.y.hi⟩, ⟨a1.z.lo, a1.z.hi⟩⟩ ⟨⟨a0.up.x.num, a0.up.x.den⟩, ⟨a0.up.y.num, a0.up.y.den⟩, ⟨a0.up.z.num, a0.up.z.den⟩⟩).2 != (0 : Int)) then ⟨true, (0 : Int), (alongS ⟨⟨a1.x.lo, a1.x.hi⟩, ⟨a1.y.lo, a1.y.hi⟩, ⟨a1.z.lo, a1.z.hi⟩⟩ ⟨⟨a0.up.x.num, a0.up.x.den⟩, ⟨a0.up.y.num, a0.up.y.den⟩, ⟨a0.up.z.num, a0.up.z.den⟩⟩).2⟩ else (bif ((mulS ⟨(((alongS ⟨⟨a1.x.lo, a1.x.hi⟩, ⟨a1.y.lo, a1.y.hi⟩, ⟨a1.z.lo, a1.z.hi⟩⟩ ⟨⟨a0.up.x.num, a0.up.x.den⟩, ⟨a0.up.y.num, a0.up.y.den⟩, ⟨a0.up.z.num, a0.up.z.den⟩⟩).1).lo), (((alongS ⟨⟨a1.x.lo, a1.x.hi⟩, ⟨a1.y.lo, a1.y.hi⟩, ⟨a1.z.lo, a1.z.hi⟩⟩ ⟨⟨a0.up.x.num, a0.up.x.den⟩, ⟨a0.up.y.num, a0.up.y.den⟩, ⟨a0.up.z.num, a0.up.z.den⟩⟩).1).hi)⟩ ⟨(((alongS ⟨⟨a1.x.lo, a1.x.hi⟩, ⟨a1.y.lo, a1.y.hi⟩, ⟨a1.z.lo, a1.z.hi⟩⟩ ⟨⟨a0.up.x.num, a0.up.x.den⟩, ⟨a0.up.y.num, a0.up.y.den⟩, ⟨a0.up.z.num, a0.up.z.den⟩⟩).1).lo), (((alongS ⟨⟨a1.x.lo, a1.x.hi⟩, ⟨a1.y.lo, a1.y.hi⟩, ⟨a1.z.lo, a1.z.hi⟩⟩ ⟨⟨a0.up.x.num, a0.up.x.den⟩, ⟨a0.up.y.num, a0.up.y.den⟩, ⟨a0.up.z.num, a0.up.z.den⟩⟩).1).hi)⟩).2 != (0 : Int)) then ⟨true, (0 : Int), (mulS ⟨(((alongS ⟨⟨a1.x.lo, a1.x.hi⟩, ⟨a1.y.lo, a1.y.hi⟩, ⟨a1.z.lo, a1.z.hi⟩⟩ ⟨⟨a0.up.x.num, a0.up.x.den⟩, ⟨a0.up.y.num, a0.up.y.den⟩, ⟨a0.up.z.num, a0.up.z.den⟩⟩).1).lo), (((alongS ⟨⟨a1.x.lo, a1.x.hi⟩, ⟨a1.y.lo, a1.y.hi⟩, ⟨a1.z.lo, a1.z.hi⟩⟩ ⟨⟨a0.up.x.num, a0.up.x.den⟩, ⟨a0.up.y.num, a0.up.y.den⟩, ⟨a0.up.z.num, a0.up.z.den⟩⟩).1).hi)⟩ ⟨(((alongS ⟨⟨a1.x.lo, a1.x.hi⟩, ⟨a1.y.lo, a1.y.hi⟩, ⟨a1.z.lo, a1.z.hi⟩⟩ ⟨⟨a0.up.x.num, a0.up.x.den⟩, ⟨a0.up.y.num, a0.up.y.den⟩, ⟨a0.up.z.num, a0.up.z.den⟩⟩).1).lo), (((alongS ⟨⟨a1.x.lo, a1.x.hi⟩, ⟨a1.y.lo, a1.y.hi⟩, ⟨a1.z.lo, a1.z.hi⟩⟩ ⟨⟨a0.up.x.num, a0.up.x.den⟩, ⟨a0.up.y.num, a0.up.y.den⟩, ⟨a0.up.z.num, a0.up.z.den⟩⟩).1).hi)⟩).2⟩ else (bif decide ((0 : Int) < ((alongS ⟨⟨a1.x.lo, a1.x.hi⟩, ⟨a1.y.lo, a1.y.hi⟩, ⟨a1.z.lo, a1.z.hi⟩⟩ ⟨⟨a0.up.x.num, a0.up.x.den⟩, ⟨a0.up.y.num, a0.up.y.den⟩, ⟨a0.up.z.num, a0.up.z.den⟩⟩).1).lo) then (bif decide (a0.bound.hi < ((mulS ⟨(((alongS ⟨⟨a1.x.lo, a1.x.hi⟩, ⟨a1.y.lo, a1.y.hi⟩, ⟨a1.z.lo, a1.z.hi⟩⟩ ⟨⟨a0.up.x.num, a0.up.x.den⟩, ⟨a0.up.y.num, a0.up.y.den⟩, ⟨a0.up.z.num, a0.up.z.den⟩⟩).1).lo), (((alongS ⟨⟨a1.x.lo, a1.x.hi⟩, ⟨a1.y.lo, a1.y.hi⟩, ⟨a1.z.lo, a1.z.hi⟩⟩ ⟨⟨a0.up.x.num, a0.up.x.den⟩, ⟨a0.up.y.num, a0.up.y.den⟩, ⟨a0.up.z.num, a0.up.z.den⟩⟩).1).hi)⟩ ⟨(((alongS ⟨⟨a1.x.lo, a1.x.hi⟩, ⟨a1.y.lo, a1.y.hi⟩, ⟨a1.z.lo, a1.z.hi⟩⟩ ⟨⟨a0.up.x.num, a0.up.x.den⟩, ⟨a0.up.y.num, a0.up.y.den⟩, ⟨a0.up.z.num, a0.up.z.den⟩⟩).1).lo), (((alongS ⟨⟨a1.x.lo, a1.x.hi⟩, ⟨a1.y.lo, a1.y.hi⟩, ⟨a1.z.lo, a1.z.hi⟩⟩ ⟨⟨a0.up.x.num, a0.up.x.den⟩, ⟨a0.up.y.num, a0.up.y.den⟩, ⟨a0.up.z.num, a0.up.z.den⟩⟩).1).hi)⟩).1).lo) then ⟨true, (1 : Int), (0 : Int)⟩ else (bif decide (((alongS ⟨⟨a1.x.lo, a1.x.hi⟩, ⟨a1.y.lo, a1.y.hi⟩, ⟨a1.z.lo, a1.z.hi⟩⟩ ⟨⟨a0.up.x.num, a0.up.x.den⟩, ⟨a0.up.y.num, a0.up.y.den⟩, ⟨a0.up.z.num, a0.up.z.den⟩⟩).1).hi < (0 : Int)) then ⟨true, (-1 : Int), (0 : Int)⟩ else (bif decide (((mulS ⟨(((alongS ⟨⟨a1.x.lo, a1.x.hi⟩, ⟨a1.y.lo, a1.y.hi⟩, ⟨a1.z.lo, a1.z.hi⟩⟩ ⟨⟨a0.up.x.num, a0.up.x.den⟩, ⟨a0.up.y.num, a0.up.y.den⟩, ⟨a0.up.z.num, a0.up.z.den⟩⟩).1).lo), (((alongS ⟨⟨a1.x.lo, a1.x.hi⟩, ⟨a1.y.lo, a1.y.hi⟩, ⟨a1.z.lo, a1.z.hi⟩⟩ ⟨⟨a0.up.x.num, a0.up.x.den⟩, ⟨a0.up.y.num, a0.up.y.den⟩, ⟨a0.up.z.num, a0.up.z.den⟩⟩).1).hi)⟩ ⟨(((alongS ⟨⟨a1.x.lo, a1.x.hi⟩, ⟨a1.y.lo, a1.y.hi⟩, ⟨a1.z.lo, a1.z.hi⟩⟩ ⟨⟨a0.up.x.num, a0.up.x.den⟩, ⟨a0.up.y.num, a0.up.y.den⟩, ⟨a0.up.z.num, a0.up.z.den⟩⟩).1).lo), (((alongS ⟨⟨a1.x.lo, a1.x.hi⟩, ⟨a1.y.lo, a1.y.hi⟩, ⟨a1.z.lo, a1.z.hi⟩⟩ ⟨⟨a0.up.x.num, a0.up.x.den⟩, ⟨a0.up.y.num, a0.up.y.den⟩, ⟨a0.up.z.num, a0.up.z.den⟩⟩).1).hi)⟩).1).hi < a0.bound.lo) then ⟨true, (-1 : Int), (0 : Int)⟩ else ⟨true, (0 : Int), (0 : Int)⟩))) else (bif decide (((alongS ⟨⟨a1.x.lo, a1.x.hi⟩, ⟨a1.y.lo, a1.y.hi⟩, ⟨a1.z.lo, a1.z.hi⟩⟩ ⟨⟨a0.up.x.num, a0.up.x.den⟩, ⟨a0.up.y.num, a0.up.y.den⟩, ⟨a0.up.z.num, a0.up.z.den⟩⟩).1).hi < (0 : Int)) then ⟨true, (-1 : Int), (0 : Int)⟩ else (bif decide (((mulS ⟨(((alongS ⟨⟨a1.x.lo, a1.x.hi⟩, ⟨a1.y.lo, a1.y.hi⟩, ⟨a1.z.lo, a1.z.hi⟩⟩ ⟨⟨a0.up.x.num, a0.up.x.den⟩, ⟨a0.up.y.num, a0.up.y.den⟩, ⟨a0.up.z.num, a0.up.z.den⟩⟩).1).lo), (((alongS ⟨⟨a1.x.lo, a1.x.hi⟩, ⟨a1.y.lo, a1.y.hi⟩, ⟨a1.z.lo, a1.z.hi⟩⟩ ⟨⟨a0.up.x.num, a0.up.x.den⟩, ⟨a0.up.y.num, a0.up.y.den⟩, ⟨a0.up.z.num, a0.up.z.den⟩⟩).1).hi)⟩ ⟨(((alongS ⟨⟨a1.x.lo, a1.x.hi⟩, ⟨a1.y.lo, a1.y.hi⟩, ⟨a1.z.lo, a1.z.hi⟩⟩ ⟨⟨a0.up.x.num, a0.up.x.den⟩, ⟨a0.up.y.num, a0.up.y.den⟩, ⟨a0.up.z.num, a0.up.z.den⟩⟩).1).lo), (((alongS ⟨⟨a1.x.lo, a1.x.hi⟩, ⟨a1.y.lo, a1.y.hi⟩, ⟨a1.z.lo, a1.z.hi⟩⟩ ⟨⟨a0.up.x.num, a0.up.x.den⟩, ⟨a0.up.y.num, a0.up.y.den⟩, ⟨a0.up.z.num, a0.up.z.den⟩⟩).1).hi)⟩).1).hi < a0.bound.lo) then ⟨true, (-1 : Int), (0 : Int)⟩ else ⟨true, (0 : Int), (0 : Int)⟩))))
def F__rise_view__state (_a0 : View) (_a1 : Dir) (K : AV → List Blk → Ans) (r : O__rise_view__state) : Ans := bif r.ok then K (.tup [.c (.d (.int .i64 r.r0)), .c (.d (.int .i64 r.r1))]) [] else none
theorem e__rise_view__state (a0 : View) (a1 : Dir) (K : AV → List Blk → Ans) : evFn Tryz.prog GT EQT T_rise_viewOf XT noL 80 40 [.v (.agg [.int .i64 a0.up.x.num, .int .i64 a0.up.x.den, .int .i64 a0.up.y.num, .int .i64 a0.up.y.den, .int .i64 a0.up.z.num, .int .i64 a0.up.z.den, .int .i64 a0.bound.lo, .int .i64 a0.bound.hi]), .v (.agg [.int .i64 a1.x.lo, .int .i64 a1.x.hi, .int .i64 a1.y.lo, .int .i64 a1.y.hi, .int .i64 a1.z.lo, .int .i64 a1.z.hi])] [] (fun v M => K (finR 0 v M).1 (finR 0 v M).2) = F__rise_view__state a0 a1 K (m__rise_view__state a0 a1) := by
  unfold m__rise_view__state
  refine Eq.trans ?_ (Eq.symm (pushT rfl (pushT rfl (pushT (pushT rfl (pushT rfl (pushT rfl rfl))) (pushT rfl (pushT rfl rfl))))))
  kernel_rfl
theorem c__rise_view__state (a0 : View) (a1 : Dir) (hd : (m__rise_view__state a0 a1).ok = true) : CallsA Tryz.prog GT gbT 40 [.v (.agg [.int .i64 a0.up.x.num, .int .i64 a0.up.x.den, .int .i64 a0.up.y.num, .int .i64 a0.up.y.den, .int .i64 a0.up.z.num, .int .i64 a0.up.z.den, .int .i64 a0.bound.lo, .int .i64 a0.bound.hi]), .v (.agg [.int .i64 a1.x.lo, .int .i64 a1.x.hi, .int .i64 a1.y.lo, .int .i64 a1.y.hi, .int .i64 a1.z.lo, .int .i64 a1.z.hi])] [] (.tup [.c (.d (.int .i64 ((m__rise_view__state a0 a1).r0))), .c (.d (.int .i64 ((m__rise_view__state a0 a1).r1)))]) [] := by
  refine CallsA.ofEvR g_rise_viewOf hEQT hmT (n0 := 0) rfl (fun _ _ _ _ => LOKn.nil) ((e__rise_view__state a0 a1 (fun v M => some (Res.fin v M))).trans ?_)
  unfold F__rise_view__state
  rw [hd]
  rfl
def s__rise_view__state : List AV → List Blk → (AV → List Blk → Ans) → Ans := fun xs bs K => match xs, bs with
  | [.v (.agg [.int .i64 a0_0, .int .i64 a0_1, .int .i64 a0_2, .int .i64 a0_3, .int .i64 a0_4, .int .i64 a0_5, .int .i64 a0_6, .int .i64 a0_7]), .v (.agg [.int .i64 a1_0, .int .i64 a1_1, .int .i64 a1_2, .int .i64 a1_3, .int .i64 a1_4, .int .i64 a1_5])], [] => F__rise_view__state (⟨⟨⟨a0_0, a0_1⟩, ⟨a0_2, a0_3⟩, ⟨a0_4, a0_5⟩⟩, ⟨a0_6, a0_7⟩⟩ : View) (⟨⟨a1_0, a1_1⟩, ⟨a1_2, a1_3⟩, ⟨a1_4, a1_5⟩⟩ : Dir) K (m__rise_view__state (⟨⟨⟨a0_0, a0_1⟩, ⟨a0_2, a0_3⟩, ⟨a0_4, a0_5⟩⟩, ⟨a0_6, a0_7⟩⟩ : View) (⟨⟨a1_0, a1_1⟩, ⟨a1_2, a1_3⟩, ⟨a1_4, a1_5⟩⟩ : Dir))
  | _, _ => none
def T__rise_view__state : Nat → List AV → List Blk → (AV → List Blk → Ans) → Ans := upd T_rise_viewOf 40 s__rise_view__state
theorem g__rise_view__state : GOK Tryz.prog GT gbT T__rise_view__state XT := by
  refine GOK.upd g_rise_viewOf (fun args w => Tryz.call40 args w) fun xs bs K r h => ?_
  unfold s__rise_view__state at h
  split at h
  · unfold F__rise_view__state at h
    simp only [cond_eq_ite] at h
    split at h
    · rename_i hd
      exact ⟨_, _, c__rise_view__state _ _ hd, h⟩
    · cases h
  · cases h
end Go.Ev

namespace Go.Ev
open Go Go.Proofs
structure R_rise_upForAll_0 where
  k : Nat
  p25 : Int
def run_rise_upForAll_0 (p6 : Bool) (p7 : Int) (p24 : Int) (m0 : List View) (q1 : Dir) : Nat → Int → R_rise_upForAll_0
  | 0, p25 => ⟨3, p25⟩
  | n + 1, p25 => bif decide (p25 < p24) then (bif (decide ((0 : Int) ≤ p25) && decide (p25 < (m0.length : Int))) then (bif (m__rise_view__state (m0.getD p25.toNat (ET.z .view)) q1).ok then (bif ((m__rise_view__state (m0.getD p25.toNat (ET.z .view)) q1).r1 != (0 : Int)) then ⟨0, p25⟩ else (bif ((m__rise_view__state (m0.getD p25.toNat (ET.z .view)) q1).r0 != (1 : Int)) then ⟨1, p25⟩ else run_rise_upForAll_0 p6 p7 p24 m0 q1 n (w64 (p25 + (1 : Int))))) else ⟨3, p25⟩) else ⟨3, p25⟩) else ⟨2, p25⟩
def lp_rise_upForAll_0 (p6 : Bool) (p7 : Int) (p24 : Int) (m0 : List View) (q1 : Dir) (p25 : Int) : R_rise_upForAll_0 := run_rise_upForAll_0 p6 p7 p24 m0 q1 (2000 + (m0.length)) p25
abbrev H_rise_upForAll_0 (p6 : Bool) (p7 : Int) (p24 : Int) (_m0 : List View) (_q1 : Dir) (p25 : Int) : TS := headT [6, 7, 8, 23, 24, 25] 41 [.v (.c (.d (.bool p6))), .v (.c (.d (.int .i64 p7))), .v (.c (.ptr 1 0)), .v (.c (.aslice 0 none)), .v (.c (.d (.int .i64 p24))), .v (.c (.d (.int .i64 p25)))]
theorem b_rise_upForAll_0 (p6 : Bool) (p7 : Int) (p24 : Int) (m0 : List View) (q1 : Dir) (p25 : Int) : evCode Tryz.prog GT EQT T__rise_view__state XT noL 80 (loopB Tryz.prog 32 0) (H_rise_upForAll_0 p6 p7 p24 m0 q1 p25) [.arr none .view m0, .rw 89 [.int .i64 q1.x.lo, .int .i64 q1.x.hi, .int .i64 q1.y.lo, .int .i64 q1.y.hi, .int .i64 q1.z.lo, .int .i64 q1.z.hi]] 2 (normK 1 [6, 7, 8, 23, 24, 25]) =
    bif decide (p25 < p24) then (bif (decide ((0 : Int) ≤ p25) && decide (p25 < (m0.length : Int))) then (bif (m__rise_view__state (m0.getD p25.toNat (ET.z .view)) q1).ok then (bif ((m__rise_view__state (m0.getD p25.toNat (ET.z .view)) q1).r1 != (0 : Int)) then some (.st .ret (headT [6, 7, 8, 23, 24, 25] 41 [.v (.c (.d (.bool false))), .v (.c (.d (.int .i64 ((m__rise_view__state (m0.getD p25.toNat (ET.z .view)) q1).r1)))), .v (.c (.ptr 1 0)), .v (.c (.aslice 0 none)), .v (.c (.d (.int .i64 p24))), .v (.c (.d (.int .i64 p25)))]) [.arr none .view m0, .rw 89 [.int .i64 q1.x.lo, .int .i64 q1.x.hi, .int .i64 q1.y.lo, .int .i64 q1.y.hi, .int .i64 q1.z.lo, .int .i64 q1.z.hi]] 2) else (bif ((m__rise_view__state (m0.getD p25.toNat (ET.z .view)) q1).r0 != (1 : Int)) then some (.st .ret (headT [6, 7, 8, 23, 24, 25] 41 [.v (.c (.d (.bool false))), .v (.c (.d (.int .i64 (0 : Int)))), .v (.c (.ptr 1 0)), .v (.c (.aslice 0 none)), .v (.c (.d (.int .i64 p24))), .v (.c (.d (.int .i64 p25)))]) [.arr none .view m0, .rw 89 [.int .i64 q1.x.lo, .int .i64 q1.x.hi, .int .i64 q1.y.lo, .int .i64 q1.y.hi, .int .i64 q1.z.lo, .int .i64 q1.z.hi]] 2) else some (.st .normal (headT [6, 7, 8, 23, 24, 25] 41 [.v (.c (.d (.bool p6))), .v (.c (.d (.int .i64 p7))), .v (.c (.ptr 1 0)), .v (.c (.aslice 0 none)), .v (.c (.d (.int .i64 p24))), .v (.c (.d (.int .i64 (w64 (p25 + (1 : Int))))))]) [.arr none .view m0, .rw 89 [.int .i64 q1.x.lo, .int .i64 q1.x.hi, .int .i64 q1.y.lo, .int .i64 q1.y.hi, .int .i64 q1.z.lo, .int .i64 q1.z.hi]] 2))) else none) else none) else some (.st (.exit 0) (headT [6, 7, 8, 23, 24, 25] 41 [.v (.c (.d (.bool p6))), .v (.c (.d (.int .i64 p7))), .v (.c (.ptr 1 0)), .v (.c (.aslice 0 none)), .v (.c (.d (.int .i64 p24))), .v (.c (.d (.int .i64 p25)))]) [.arr none .view m0, .rw 89 [.int .i64 q1.x.lo, .int .i64 q1.x.hi, .int .i64 q1.y.lo, .int .i64 q1.y.hi, .int .i64 q1.z.lo, .int .i64 q1.z.hi]] 2) := by
  kernel_rfl
def o_rise_upForAll_0 (p6 : Bool) (p7 : Int) (p24 : Int) (m0 : List View) (q1 : Dir) (r : R_rise_upForAll_0) : LT := .br (Nat.beq r.k 0) (.st .ret (headT [6, 7, 8, 23, 24, 25] 41 [.v (.c (.d (.bool false))), .v (.c (.d (.int .i64 ((m__rise_view__state (m0.getD r.p25.toNat (ET.z .view)) q1).r1)))), .v (.c (.ptr 1 0)), .v (.c (.aslice 0 none)), .v (.c (.d (.int .i64 p24))), .v (.c (.d (.int .i64 r.p25)))]) [.arr none .view m0, .rw 89 [.int .i64 q1.x.lo, .int .i64 q1.x.hi, .int .i64 q1.y.lo, .int .i64 q1.y.hi, .int .i64 q1.z.lo, .int .i64 q1.z.hi]] 2) (.br (Nat.beq r.k 1) (.st .ret (headT [6, 7, 8, 23, 24, 25] 41 [.v (.c (.d (.bool false))), .v (.c (.d (.int .i64 (0 : Int)))), .v (.c (.ptr 1 0)), .v (.c (.aslice 0 none)), .v (.c (.d (.int .i64 p24))), .v (.c (.d (.int .i64 r.p25)))]) [.arr none .view m0, .rw 89 [.int .i64 q1.x.lo, .int .i64 q1.x.hi, .int .i64 q1.y.lo, .int .i64 q1.y.hi, .int .i64 q1.z.lo, .int .i64 q1.z.hi]] 2) (.br (Nat.beq r.k 2) (.st (.exit 0) (headT [6, 7, 8, 23, 24, 25] 41 [.v (.c (.d (.bool p6))), .v (.c (.d (.int .i64 p7))), .v (.c (.ptr 1 0)), .v (.c (.aslice 0 none)), .v (.c (.d (.int .i64 p24))), .v (.c (.d (.int .i64 r.p25)))]) [.arr none .view m0, .rw 89 [.int .i64 q1.x.lo, .int .i64 q1.x.hi, .int .i64 q1.y.lo, .int .i64 q1.y.hi, .int .i64 q1.z.lo, .int .i64 q1.z.hi]] 2) (.no)))
theorem r_rise_upForAll_0 (p6 : Bool) (p7 : Int) (p24 : Int) (m0 : List View) (q1 : Dir) : ∀ (n : Nat) (p25 : Int) (x : Ex) (T' : TS) (M' : List Blk) (N' : Nat), LReach (o_rise_upForAll_0 p6 p7 p24 m0 q1 (run_rise_upForAll_0 p6 p7 p24 m0 q1 n p25)) x T' M' N' → x ≠ .normal ∧ ∃ j, RoundsN Tryz.prog GT gbT 1 (loopB Tryz.prog 32 0) j (H_rise_upForAll_0 p6 p7 p24 m0 q1 p25) [.arr none .view m0, .rw 89 [.int .i64 q1.x.lo, .int .i64 q1.x.hi, .int .i64 q1.y.lo, .int .i64 q1.y.hi, .int .i64 q1.z.lo, .int .i64 q1.z.hi]] 2 x T' M' N' := by
  have hL : LOKn Tryz.prog GT gbT 1 noL (loopsIn (loopB Tryz.prog 32 0)) := fun _ _ _ _ _ _ _ _ _ h => h.elim
  intro n
  induction n with
  | zero =>
    intro p25 x T' M' N' hr
    exact False.elim (redF (redF (redF hr)))
  | succ n ih =>
    intro p25 x T' M' N'
    rw [run_rise_upForAll_0]
    exact viaE (b_rise_upForAll_0 p6 p7 p24 m0 q1 p25) (condG (o := o_rise_upForAll_0 p6 p7 p24 m0 q1) (condG (o := o_rise_upForAll_0 p6 p7 p24 m0 q1) (condG (o := o_rise_upForAll_0 p6 p7 p24 m0 q1) (condG (o := o_rise_upForAll_0 p6 p7 p24 m0 q1) (fun he hr => stopN g__rise_view__state hEQT hmT hL he (by simp) (redT hr)) (condG (o := o_rise_upForAll_0 p6 p7 p24 m0 q1) (fun he hr => stopN g__rise_view__state hEQT hmT hL he (by simp) (redT (redF hr))) (fun he hr => goN g__rise_view__state hEQT hmT hL he (ih (w64 (p25 + (1 : Int))) x T' M' N' hr)))) (fun _ hr => False.elim (redF (redF (redF hr))))) (fun _ hr => False.elim (redF (redF (redF hr))))) (fun he hr => stopN g__rise_view__state hEQT hmT hL he (by simp) (redT (redF (redF hr)))))
def f_rise_upForAll_0 : List AV → List Blk → LT := fun vs Ms => match vs, Ms with
  | [.v (.c (.d (.bool p6))), .v (.c (.d (.int .i64 p7))), .v (.c (.ptr 1 0)), .v (.c (.aslice 0 none)), .v (.c (.d (.int .i64 p24))), .v (.c (.d (.int .i64 p25)))], [.arr none .view m0, .rw 89 [.int .i64 q1_0, .int .i64 q1_1, .int .i64 q1_2, .int .i64 q1_3, .int .i64 q1_4, .int .i64 q1_5]] => o_rise_upForAll_0 p6 p7 p24 m0 (⟨⟨q1_0, q1_1⟩, ⟨q1_2, q1_3⟩, ⟨q1_4, q1_5⟩⟩ : Dir) (lp_rise_upForAll_0 p6 p7 p24 m0 (⟨⟨q1_0, q1_1⟩, ⟨q1_2, q1_3⟩, ⟨q1_4, q1_5⟩⟩ : Dir) p25)
  | _, _ => .no
def L_rise_upForAll_0 := LamN 5 41 1 [6, 7, 8, 23, 24, 25] f_rise_upForAll_0
theorem k_rise_upForAll_0 : LOKbn Tryz.prog GT gbT 1 L_rise_upForAll_0 (loopB Tryz.prog 32 0) := by
  refine LOKbn.lamN (by kernel_rfl) fun vs Ms x T' M' N' hr => ?_
  unfold f_rise_upForAll_0 at hr
  split at hr
  · obtain ⟨q1, j, q2⟩ := r_rise_upForAll_0 _ _ _ _ _ _ _ x T' M' N' hr
    exact ⟨q1, j, q2⟩
  · exact hr.elim
structure O_rise_upForAll where
  ok : Bool
  r0 : Bool
  r1 : Int
def m_rise_upForAll (a0 : List View) (a1 : Source) (a2 : Int) : O_rise_upForAll := bif ((atS ⟨a1.name, a1.ra, a1.dec⟩ a2).2 != (0 : Int)) then ⟨true, false, (atS ⟨a1.name, a1.ra, a1.dec⟩ a2).2⟩ else (bif Nat.beq (lp_rise_upForAll_0 false (0 : Int) (a0.length : Int) a0 ((atS ⟨a1.name, a1.ra, a1.dec⟩ a2).1) (0 : Int)).k 0 then ⟨true, false, (m__rise_view__state (a0.getD ((lp_rise_upForAll_0 false (0 : Int) (a0.length : Int) a0 ((atS ⟨a1.name, a1.ra, a1.dec⟩ a2).1) (0 : Int)).p25).toNat (ET.z .view)) ((atS ⟨a1.name, a1.ra, a1.dec⟩ a2).1)).r1⟩ else (bif Nat.beq (lp_rise_upForAll_0 false (0 : Int) (a0.length : Int) a0 ((atS ⟨a1.name, a1.ra, a1.dec⟩ a2).1) (0 : Int)).k 1 then ⟨true, false, (0 : Int)⟩ else (bif Nat.beq (lp_rise_upForAll_0 false (0 : Int) (a0.length : Int) a0 ((atS ⟨a1.name, a1.ra, a1.dec⟩ a2).1) (0 : Int)).k 2 then ⟨true, true, (0 : Int)⟩ else ⟨false, false, 0⟩)))
def F_rise_upForAll (a0 : List View) (_a1 : Source) (_a2 : Int) (K : AV → List Blk → Ans) (r : O_rise_upForAll) : Ans := bif r.ok then K (.tup [.c (.d (.bool r.r0)), .c (.d (.int .i64 r.r1))]) [.arr none .view a0] else none
theorem e_rise_upForAll (a0 : List View) (a1 : Source) (a2 : Int) (K : AV → List Blk → Ans) : evFn Tryz.prog GT EQT T__rise_view__state XT (orL L_rise_upForAll_0 noL) 80 32 [.v (.c (.aslice 0 none)), .v (.agg [.str a1.name, .int .i64 a1.ra, .int .i64 a1.dec]), .v (.c (.d (.int .i64 a2)))] [.arr none .view a0] (fun v M => K (finR 1 v M).1 (finR 1 v M).2) = F_rise_upForAll a0 a1 a2 K (m_rise_upForAll a0 a1 a2) := by
  unfold m_rise_upForAll
  refine Eq.trans ?_ (Eq.symm (pushT rfl (pushT rfl (pushT rfl (pushT rfl rfl)))))
  kernel_rfl
theorem lok_rise_upForAll : ∀ fn c, Tryz.prog.funcs[32]? = some fn → fn.body = some c → LOKn Tryz.prog GT gbT 1 (orL L_rise_upForAll_0 noL) (loopsIn c) := by
  refine LOKn.ofF fun b hb => ?_
  have e : loopsF Tryz.prog 32 = [loopB Tryz.prog 32 0] := by kernel_rfl
  rw [e] at hb
  simp only [List.mem_cons, List.not_mem_nil, or_false] at hb
  subst hb
  exact (LOKbn.or k_rise_upForAll_0 (fun _ _ _ _ _ _ _ h => h.elim))
theorem c_rise_upForAll (a0 : List View) (a1 : Source) (a2 : Int) (hd : (m_rise_upForAll a0 a1 a2).ok = true) : CallsA Tryz.prog GT gbT 32 [.v (.c (.aslice 0 none)), .v (.agg [.str a1.name, .int .i64 a1.ra, .int .i64 a1.dec]), .v (.c (.d (.int .i64 a2)))] [.arr none .view a0] (.tup [.c (.d (.bool ((m_rise_upForAll a0 a1 a2).r0))), .c (.d (.int .i64 ((m_rise_upForAll a0 a1 a2).r1)))]) [.arr none .view a0] := by
  refine CallsA.ofEvR g__rise_view__state hEQT hmT (n0 := 1) rfl lok_rise_upForAll ((e_rise_upForAll a0 a1 a2 (fun v M => some (Res.fin v M))).trans ?_)
  unfold F_rise_upForAll
  rw [hd]
  rfl
def s_rise_upForAll : List AV → List Blk → (AV → List Blk → Ans) → Ans := fun xs bs K => match xs, bs with
  | [.v (.c (.aslice 0 none)), .v (.agg [.str a1_0, .int .i64 a1_1, .int .i64 a1_2]), .v (.c (.d (.int .i64 a2)))], [.arr none .view a0] => F_rise_upForAll a0 (⟨a1_0, a1_1, a1_2⟩ : Source) a2 K (m_rise_upForAll a0 (⟨a1_0, a1_1, a1_2⟩ : Source) a2)
  | _, _ => none
def T_rise_upForAll : Nat → List AV → List Blk → (AV → List Blk → Ans) → Ans := upd T__rise_view__state 32 s_rise_upForAll
theorem g_rise_upForAll : GOK Tryz.prog GT gbT T_rise_upForAll XT := by
  refine GOK.upd g__rise_view__state (fun args w => Tryz.call32 args w) fun xs bs K r h => ?_
  unfold s_rise_upForAll at h
  split at h
  · unfold F_rise_upForAll at h
    simp only [cond_eq_ite] at h
    split at h
    · rename_i hd
      exact ⟨_, _, c_rise_upForAll _ _ _ hd, h⟩
    · cases h
  · cases h
structure O_rise_tick where
  ok : Bool
  r0 : Bool
def m_rise_tick (a0 : Int) : O_rise_tick := bif decide ((-1000000 : Int) ≤ a0) then ⟨true, decide (a0 ≤ (1000000 : Int))⟩ else ⟨true, false⟩
def F_rise_tick (_a0 : Int) (K : AV → List Blk → Ans) (r : O_rise_tick) : Ans := bif r.ok then K (.v (.c (.d (.bool r.r0)))) [] else none
theorem e_rise_tick (a0 : Int) (K : AV → List Blk → Ans) : evFn Tryz.prog GT EQT T_rise_upForAll XT noL 80 30 [.v (.c (.d (.int .i64 a0)))] [] (fun v M => K (finR 0 v M).1 (finR 0 v M).2) = F_rise_tick a0 K (m_rise_tick a0) := by
  unfold m_rise_tick
  refine Eq.trans ?_ (Eq.symm (pushT rfl rfl))
  kernel_rfl
theorem c_rise_tick (a0 : Int) (hd : (m_rise_tick a0).ok = true) : CallsA Tryz.prog GT gbT 30 [.v (.c (.d (.int .i64 a0)))] [] (.v (.c (.d (.bool ((m_rise_tick a0).r0))))) [] := by
  refine CallsA.ofEvR g_rise_upForAll hEQT hmT (n0 := 0) rfl (fun _ _ _ _ => LOKn.nil) ((e_rise_tick a0 (fun v M => some (Res.fin v M))).trans ?_)
  unfold F_rise_tick
  rw [hd]
  rfl
def s_rise_tick : List AV → List Blk → (AV → List Blk → Ans) → Ans := fun xs bs K => match xs, bs with
  | [.v (.c (.d (.int .i64 a0)))], [] => F_rise_tick a0 K (m_rise_tick a0)
  | _, _ => none
def T_rise_tick : Nat → List AV → List Blk → (AV → List Blk → Ans) → Ans := upd T_rise_upForAll 30 s_rise_tick
theorem g_rise_tick : GOK Tryz.prog GT gbT T_rise_tick XT := by
  refine GOK.upd g_rise_upForAll (fun args w => Tryz.call30 args w) fun xs bs K r h => ?_
  unfold s_rise_tick at h
  split at h
  · unfold F_rise_tick at h
    simp only [cond_eq_ite] at h
    split at h
    · rename_i hd
      exact ⟨_, _, c_rise_tick _ hd, h⟩
    · cases h
  · cases h
structure R_rise_All_0 where
  k : Nat
  p57 : Int
  m5 : List View
def run_rise_All_0 (p3 : Int) (p4 : Int) (p13 : Int) (p56 : Int) (m0 : List Site) (q1 : Globe) (q2 : Source) (q3 : Frac) (m4 : List Window) (m6 : List Vec) : Nat → Int → List View → R_rise_All_0
  | 0, p57, m5 => ⟨2, p57, m5⟩
  | n + 1, p57, m5 => bif decide (p57 < p56) then (bif (decide ((0 : Int) ≤ p57) && decide (p57 < (m6.length : Int))) then (bif (m_rise_viewOf q1 (m6.getD p57.toNat (ET.z .vec)) q3).ok then (bif (decide ((0 : Int) ≤ p57) && decide (p57 < (m5.length : Int))) then (bif ((m_rise_viewOf q1 (m6.getD p57.toNat (ET.z .vec)) q3).r1 != (0 : Int)) then ⟨0, p57, m5⟩ else run_rise_All_0 p3 p4 p13 p56 m0 q1 q2 q3 m4 m6 n (w64 (p57 + (1 : Int))) (m5.set p57.toNat ((m_rise_viewOf q1 (m6.getD p57.toNat (ET.z .vec)) q3).r0))) else ⟨2, p57, m5⟩) else ⟨2, p57, m5⟩) else ⟨2, p57, m5⟩) else ⟨1, p57, m5⟩
def lp_rise_All_0 (p3 : Int) (p4 : Int) (p13 : Int) (p56 : Int) (m0 : List Site) (q1 : Globe) (q2 : Source) (q3 : Frac) (m4 : List Window) (m6 : List Vec) (p57 : Int) (m5 : List View) : R_rise_All_0 := run_rise_All_0 p3 p4 p13 p56 m0 q1 q2 q3 m4 m6 (2000 + (m0.length + m4.length + m5.length + m6.length)) p57 m5
abbrev H_rise_All_0 (p3 : Int) (p4 : Int) (p13 : Int) (p56 : Int) (_m0 : List Site) (_q1 : Globe) (_q2 : Source) (_q3 : Frac) (_m4 : List Window) (_m6 : List Vec) (p57 : Int) (_m5 : List View) : TS := headT [3, 4, 6, 8, 11, 12, 13, 16, 55, 56, 57] 126 [.v (.c (.d (.int .i64 p3))), .v (.c (.d (.int .i64 p4))), .v (.c (.ptr 1 0)), .v (.c (.ptr 2 0)), .v (.c (.ptr 3 0)), .v (.c (.aslice 4 none)), .v (.c (.d (.int .i64 p13))), .v (.c (.aslice 5 none)), .v (.c (.aslice 6 none)), .v (.c (.d (.int .i64 p56))), .v (.c (.d (.int .i64 p57)))]
theorem b_rise_All_0 (p3 : Int) (p4 : Int) (p13 : Int) (p56 : Int) (m0 : List Site) (q1 : Globe) (q2 : Source) (q3 : Frac) (m4 : List Window) (m6 : List Vec) (p57 : Int) (m5 : List View) : evCode Tryz.prog GT EQT T_rise_tick XT noL 80 (loopB Tryz.prog 11 0) (H_rise_All_0 p3 p4 p13 p56 m0 q1 q2 q3 m4 m6 p57 m5) [.arr none .site m0, .rw 23 [.int .i64 q1.a, .int .i64 q1.b], .rw 26 [.str q2.name, .int .i64 q2.ra, .int .i64 q2.dec], .rw 28 [.int .i64 q3.num, .int .i64 q3.den], .arr (some 57) .win m4, .arr (some 75) .view m5, .arr (some 71) .vec m6] 7 (normK 1 [3, 4, 6, 8, 11, 12, 13, 16, 55, 56, 57]) =
    bif decide (p57 < p56) then (bif (decide ((0 : Int) ≤ p57) && decide (p57 < (m6.length : Int))) then (bif (m_rise_viewOf q1 (m6.getD p57.toNat (ET.z .vec)) q3).ok then (bif (decide ((0 : Int) ≤ p57) && decide (p57 < (m5.length : Int))) then (bif ((m_rise_viewOf q1 (m6.getD p57.toNat (ET.z .vec)) q3).r1 != (0 : Int)) then some (.st .ret (headT [3, 4, 6, 8, 11, 12, 13, 16, 55, 56, 57] 126 [.v (.c (.d (.int .i64 p3))), .v (.c (.d (.int .i64 p4))), .v (.c (.ptr 1 0)), .v (.c (.ptr 2 0)), .v (.c (.ptr 3 0)), .v (.c (.aslice 4 none)), .v (.c (.d (.int .i64 ((m_rise_viewOf q1 (m6.getD p57.toNat (ET.z .vec)) q3).r1)))), .v (.c (.aslice 5 none)), .v (.c (.aslice 6 none)), .v (.c (.d (.int .i64 p56))), .v (.c (.d (.int .i64 p57)))]) [.arr none .site m0, .rw 23 [.int .i64 q1.a, .int .i64 q1.b], .rw 26 [.str q2.name, .int .i64 q2.ra, .int .i64 q2.dec], .rw 28 [.int .i64 q3.num, .int .i64 q3.den], .arr (some 57) .win ([] : List Window), .arr (some 75) .view (m5.set p57.toNat ((m_rise_viewOf q1 (m6.getD p57.toNat (ET.z .vec)) q3).r0)), .arr (some 71) .vec m6] 7) else some (.st .normal (headT [3, 4, 6, 8, 11, 12, 13, 16, 55, 56, 57] 126 [.v (.c (.d (.int .i64 p3))), .v (.c (.d (.int .i64 p4))), .v (.c (.ptr 1 0)), .v (.c (.ptr 2 0)), .v (.c (.ptr 3 0)), .v (.c (.aslice 4 none)), .v (.c (.d (.int .i64 p13))), .v (.c (.aslice 5 none)), .v (.c (.aslice 6 none)), .v (.c (.d (.int .i64 p56))), .v (.c (.d (.int .i64 (w64 (p57 + (1 : Int))))))]) [.arr none .site m0, .rw 23 [.int .i64 q1.a, .int .i64 q1.b], .rw 26 [.str q2.name, .int .i64 q2.ra, .int .i64 q2.dec], .rw 28 [.int .i64 q3.num, .int .i64 q3.den], .arr (some 57) .win m4, .arr (some 75) .view (m5.set p57.toNat ((m_rise_viewOf q1 (m6.getD p57.toNat (ET.z .vec)) q3).r0)), .arr (some 71) .vec m6] 7)) else none) else none) else none) else some (.st (.exit 0) (headT [3, 4, 6, 8, 11, 12, 13, 16, 55, 56, 57] 126 [.v (.c (.d (.int .i64 p3))), .v (.c (.d (.int .i64 p4))), .v (.c (.ptr 1 0)), .v (.c (.ptr 2 0)), .v (.c (.ptr 3 0)), .v (.c (.aslice 4 none)), .v (.c (.d (.int .i64 p13))), .v (.c (.aslice 5 none)), .v (.c (.aslice 6 none)), .v (.c (.d (.int .i64 p56))), .v (.c (.d (.int .i64 p57)))]) [.arr none .site m0, .rw 23 [.int .i64 q1.a, .int .i64 q1.b], .rw 26 [.str q2.name, .int .i64 q2.ra, .int .i64 q2.dec], .rw 28 [.int .i64 q3.num, .int .i64 q3.den], .arr (some 57) .win m4, .arr (some 75) .view m5, .arr (some 71) .vec m6] 7) := by
  kernel_rfl
def o_rise_All_0 (p3 : Int) (p4 : Int) (p13 : Int) (p56 : Int) (m0 : List Site) (q1 : Globe) (q2 : Source) (q3 : Frac) (m4 : List Window) (m6 : List Vec) (r : R_rise_All_0) : LT := .br (Nat.beq r.k 0) (.st .ret (headT [3, 4, 6, 8, 11, 12, 13, 16, 55, 56, 57] 126 [.v (.c (.d (.int .i64 p3))), .v (.c (.d (.int .i64 p4))), .v (.c (.ptr 1 0)), .v (.c (.ptr 2 0)), .v (.c (.ptr 3 0)), .v (.c (.aslice 4 none)), .v (.c (.d (.int .i64 ((m_rise_viewOf q1 (m6.getD r.p57.toNat (ET.z .vec)) q3).r1)))), .v (.c (.aslice 5 none)), .v (.c (.aslice 6 none)), .v (.c (.d (.int .i64 p56))), .v (.c (.d (.int .i64 r.p57)))]) [.arr none .site m0, .rw 23 [.int .i64 q1.a, .int .i64 q1.b], .rw 26 [.str q2.name, .int .i64 q2.ra, .int .i64 q2.dec], .rw 28 [.int .i64 q3.num, .int .i64 q3.den], .arr (some 57) .win ([] : List Window), .arr (some 75) .view (r.m5.set r.p57.toNat ((m_rise_viewOf q1 (m6.getD r.p57.toNat (ET.z .vec)) q3).r0)), .arr (some 71) .vec m6] 7) (.br (Nat.beq r.k 1) (.st (.exit 0) (headT [3, 4, 6, 8, 11, 12, 13, 16, 55, 56, 57] 126 [.v (.c (.d (.int .i64 p3))), .v (.c (.d (.int .i64 p4))), .v (.c (.ptr 1 0)), .v (.c (.ptr 2 0)), .v (.c (.ptr 3 0)), .v (.c (.aslice 4 none)), .v (.c (.d (.int .i64 p13))), .v (.c (.aslice 5 none)), .v (.c (.aslice 6 none)), .v (.c (.d (.int .i64 p56))), .v (.c (.d (.int .i64 r.p57)))]) [.arr none .site m0, .rw 23 [.int .i64 q1.a, .int .i64 q1.b], .rw 26 [.str q2.name, .int .i64 q2.ra, .int .i64 q2.dec], .rw 28 [.int .i64 q3.num, .int .i64 q3.den], .arr (some 57) .win m4, .arr (some 75) .view r.m5, .arr (some 71) .vec m6] 7) (.no))
theorem r_rise_All_0 (p3 : Int) (p4 : Int) (p13 : Int) (p56 : Int) (m0 : List Site) (q1 : Globe) (q2 : Source) (q3 : Frac) (m4 : List Window) (m6 : List Vec) : ∀ (n : Nat) (p57 : Int) (m5 : List View) (x : Ex) (T' : TS) (M' : List Blk) (N' : Nat), LReach (o_rise_All_0 p3 p4 p13 p56 m0 q1 q2 q3 m4 m6 (run_rise_All_0 p3 p4 p13 p56 m0 q1 q2 q3 m4 m6 n p57 m5)) x T' M' N' → x ≠ .normal ∧ ∃ j, RoundsN Tryz.prog GT gbT 1 (loopB Tryz.prog 11 0) j (H_rise_All_0 p3 p4 p13 p56 m0 q1 q2 q3 m4 m6 p57 m5) [.arr none .site m0, .rw 23 [.int .i64 q1.a, .int .i64 q1.b], .rw 26 [.str q2.name, .int .i64 q2.ra, .int .i64 q2.dec], .rw 28 [.int .i64 q3.num, .int .i64 q3.den], .arr (some 57) .win m4, .arr (some 75) .view m5, .arr (some 71) .vec m6] 7 x T' M' N' := by
  have hL : LOKn Tryz.prog GT gbT 1 noL (loopsIn (loopB Tryz.prog 11 0)) := fun _ _ _ _ _ _ _ _ _ h => h.elim
  intro n
  induction n with
  | zero =>
    intro p57 m5 x T' M' N' hr
    exact False.elim (redF (redF hr))
  | succ n ih =>
    intro p57 m5 x T' M' N'
    rw [run_rise_All_0]
    exact viaE (b_rise_All_0 p3 p4 p13 p56 m0 q1 q2 q3 m4 m6 p57 m5) (condG (o := o_rise_All_0 p3 p4 p13 p56 m0 q1 q2 q3 m4 m6) (condG (o := o_rise_All_0 p3 p4 p13 p56 m0 q1 q2 q3 m4 m6) (condG (o := o_rise_All_0 p3 p4 p13 p56 m0 q1 q2 q3 m4 m6) (condG (o := o_rise_All_0 p3 p4 p13 p56 m0 q1 q2 q3 m4 m6) (condG (o := o_rise_All_0 p3 p4 p13 p56 m0 q1 q2 q3 m4 m6) (fun he hr => stopN g_rise_tick hEQT hmT hL he (by simp) (redT hr)) (fun he hr => goN g_rise_tick hEQT hmT hL he (ih (w64 (p57 + (1 : Int))) (m5.set p57.toNat ((m_rise_viewOf q1 (m6.getD p57.toNat (ET.z .vec)) q3).r0)) x T' M' N' hr))) (fun _ hr => False.elim (redF (redF hr)))) (fun _ hr => False.elim (redF (redF hr)))) (fun _ hr => False.elim (redF (redF hr)))) (fun he hr => stopN g_rise_tick hEQT hmT hL he (by simp) (redT (redF hr))))
def f_rise_All_0 : List AV → List Blk → LT := fun vs Ms => match vs, Ms with
  | [.v (.c (.d (.int .i64 p3))), .v (.c (.d (.int .i64 p4))), .v (.c (.ptr 1 0)), .v (.c (.ptr 2 0)), .v (.c (.ptr 3 0)), .v (.c (.aslice 4 none)), .v (.c (.d (.int .i64 p13))), .v (.c (.aslice 5 none)), .v (.c (.aslice 6 none)), .v (.c (.d (.int .i64 p56))), .v (.c (.d (.int .i64 p57)))], [.arr none .site m0, .rw 23 [.int .i64 q1_0, .int .i64 q1_1], .rw 26 [.str q2_0, .int .i64 q2_1, .int .i64 q2_2], .rw 28 [.int .i64 q3_0, .int .i64 q3_1], .arr (some 57) .win m4, .arr (some 75) .view m5, .arr (some 71) .vec m6] => o_rise_All_0 p3 p4 p13 p56 m0 (⟨q1_0, q1_1⟩ : Globe) (⟨q2_0, q2_1, q2_2⟩ : Source) (⟨q3_0, q3_1⟩ : Frac) m4 m6 (lp_rise_All_0 p3 p4 p13 p56 m0 (⟨q1_0, q1_1⟩ : Globe) (⟨q2_0, q2_1, q2_2⟩ : Source) (⟨q3_0, q3_1⟩ : Frac) m4 m6 p57 m5)
  | _, _ => .no
def L_rise_All_0 := LamN 10 126 1 [3, 4, 6, 8, 11, 12, 13, 16, 55, 56, 57] f_rise_All_0
theorem k_rise_All_0 : LOKbn Tryz.prog GT gbT 1 L_rise_All_0 (loopB Tryz.prog 11 0) := by
  refine LOKbn.lamN (by kernel_rfl) fun vs Ms x T' M' N' hr => ?_
  unfold f_rise_All_0 at hr
  split at hr
  · obtain ⟨q1, j, q2⟩ := r_rise_All_0 _ _ _ _ _ _ _ _ _ _ _ _ _ x T' M' N' hr
    exact ⟨q1, j, q2⟩
  · exact hr.elim
structure R_rise_All_1 where
  k : Nat
  p20 : Int
  m4 : List Window
def run_rise_All_1 (p4 : Int) (p13 : Int) (m0 : List Site) (q1 : Source) (m2 : List Window) (m3 : List View) : Nat → Int → List Window → R_rise_All_1
  | 0, p20, m4 => ⟨2, p20, m4⟩
  | n + 1, p20, m4 => bif decide (p20 < p4) then (bif (m_rise_upForAll m3 q1 p20).ok then (bif ((m_rise_upForAll m3 q1 p20).r1 != (0 : Int)) then ⟨0, p20, m4⟩ else (bif (!(m_rise_upForAll m3 q1 p20).r0) then run_rise_All_1 p4 p13 m0 q1 m2 m3 n (w64 (p20 + (1 : Int))) m4 else (bif decide ((0 : Int) ≤ (w64 ((m4.length : Int) - (1 : Int)))) then (bif (decide ((0 : Int) ≤ (w64 ((m4.length : Int) - (1 : Int)))) && decide ((w64 ((m4.length : Int) - (1 : Int))) < (m4.length : Int))) then (bif ((m4.getD ((w64 ((m4.length : Int) - (1 : Int))).toNat) (ET.z .win)).too == p20) then (bif (decide ((0 : Int) ≤ (w64 ((m4.length : Int) - (1 : Int)))) && decide ((w64 ((m4.length : Int) - (1 : Int))) < (m4.length : Int))) then (bif (decide ((0 : Int) ≤ (w64 ((m4.length : Int) - (1 : Int)))) && decide ((w64 ((m4.length : Int) - (1 : Int))) < (m4.length : Int))) then run_rise_All_1 p4 p13 m0 q1 m2 m3 n (w64 (p20 + (1 : Int))) (m4.set ((w64 ((m4.length : Int) - (1 : Int))).toNat) ⟨(m4.getD ((w64 ((m4.length : Int) - (1 : Int))).toNat) (ET.z .win)).frm, (w64 ((m4.getD ((w64 ((m4.length : Int) - (1 : Int))).toNat) (ET.z .win)).too + (1 : Int)))⟩) else ⟨2, p20, m4⟩) else ⟨2, p20, m4⟩) else (bif (([⟨p20, (w64 (p20 + (1 : Int)))⟩] : List Window).length == 0) then run_rise_All_1 p4 p13 m0 q1 m2 m3 n (w64 (p20 + (1 : Int))) m4 else (bif (Nat.blt 0 2 && ((2 == 2) && ((2 == 2) && (Nat.ble (m4.length + ([⟨p20, (w64 (p20 + (1 : Int)))⟩] : List Window).length) roomD && Nat.ble 16 4096)))) then run_rise_All_1 p4 p13 m0 q1 m2 m3 n (w64 (p20 + (1 : Int))) (m4 ++ ([⟨p20, (w64 (p20 + (1 : Int)))⟩] : List Window)) else ⟨2, p20, m4⟩))) else ⟨2, p20, m4⟩) else (bif (([⟨p20, (w64 (p20 + (1 : Int)))⟩] : List Window).length == 0) then run_rise_All_1 p4 p13 m0 q1 m2 m3 n (w64 (p20 + (1 : Int))) m4 else (bif (Nat.blt 0 2 && ((2 == 2) && ((2 == 2) && (Nat.ble (m4.length + ([⟨p20, (w64 (p20 + (1 : Int)))⟩] : List Window).length) roomD && Nat.ble 16 4096)))) then run_rise_All_1 p4 p13 m0 q1 m2 m3 n (w64 (p20 + (1 : Int))) (m4 ++ ([⟨p20, (w64 (p20 + (1 : Int)))⟩] : List Window)) else ⟨2, p20, m4⟩))))) else ⟨2, p20, m4⟩) else ⟨1, p20, m4⟩
def lp_rise_All_1 (p4 : Int) (p13 : Int) (m0 : List Site) (q1 : Source) (m2 : List Window) (m3 : List View) (p20 : Int) (m4 : List Window) : R_rise_All_1 := run_rise_All_1 p4 p13 m0 q1 m2 m3 (2000 + (m0.length + m2.length + m3.length + m4.length)) p20 m4
abbrev H_rise_All_1 (p4 : Int) (p13 : Int) (_m0 : List Site) (_q1 : Source) (_m2 : List Window) (_m3 : List View) (p20 : Int) (_m4 : List Window) : TS := headT [4, 8, 12, 13, 16, 19, 20] 126 [.v (.c (.d (.int .i64 p4))), .v (.c (.ptr 1 0)), .v (.c (.aslice 2 none)), .v (.c (.d (.int .i64 p13))), .v (.c (.aslice 3 none)), .v (.c (.aslice 4 none)), .v (.c (.d (.int .i64 p20)))]
theorem b_rise_All_1 (p4 : Int) (p13 : Int) (m0 : List Site) (q1 : Source) (m2 : List Window) (m3 : List View) (p20 : Int) (m4 : List Window) : evCode Tryz.prog GT EQT T_rise_tick XT noL 80 (loopB Tryz.prog 11 1) (H_rise_All_1 p4 p13 m0 q1 m2 m3 p20 m4) [.arr none .site m0, .rw 26 [.str q1.name, .int .i64 q1.ra, .int .i64 q1.dec], .arr (some 57) .win m2, .arr (some 75) .view m3, .arr (some 57) .win m4] 5 (normK 1 [4, 8, 12, 13, 16, 19, 20]) =
    bif decide (p20 < p4) then (bif (m_rise_upForAll m3 q1 p20).ok then (bif ((m_rise_upForAll m3 q1 p20).r1 != (0 : Int)) then some (.st .ret (headT [4, 8, 12, 13, 16, 19, 20] 126 [.v (.c (.d (.int .i64 p4))), .v (.c (.ptr 1 0)), .v (.c (.aslice 2 none)), .v (.c (.d (.int .i64 ((m_rise_upForAll m3 q1 p20).r1)))), .v (.c (.aslice 3 none)), .v (.c (.aslice 4 none)), .v (.c (.d (.int .i64 p20)))]) [.arr none .site m0, .rw 26 [.str q1.name, .int .i64 q1.ra, .int .i64 q1.dec], .arr (some 57) .win ([] : List Window), .arr (some 75) .view m3, .arr (some 57) .win m4] 5) else (bif (!(m_rise_upForAll m3 q1 p20).r0) then some (.st .normal (headT [4, 8, 12, 13, 16, 19, 20] 126 [.v (.c (.d (.int .i64 p4))), .v (.c (.ptr 1 0)), .v (.c (.aslice 2 none)), .v (.c (.d (.int .i64 p13))), .v (.c (.aslice 3 none)), .v (.c (.aslice 4 none)), .v (.c (.d (.int .i64 (w64 (p20 + (1 : Int))))))]) [.arr none .site m0, .rw 26 [.str q1.name, .int .i64 q1.ra, .int .i64 q1.dec], .arr (some 57) .win m2, .arr (some 75) .view m3, .arr (some 57) .win m4] 5) else (bif decide ((0 : Int) ≤ (w64 ((m4.length : Int) - (1 : Int)))) then (bif (decide ((0 : Int) ≤ (w64 ((m4.length : Int) - (1 : Int)))) && decide ((w64 ((m4.length : Int) - (1 : Int))) < (m4.length : Int))) then (bif ((m4.getD ((w64 ((m4.length : Int) - (1 : Int))).toNat) (ET.z .win)).too == p20) then (bif (decide ((0 : Int) ≤ (w64 ((m4.length : Int) - (1 : Int)))) && decide ((w64 ((m4.length : Int) - (1 : Int))) < (m4.length : Int))) then (bif (decide ((0 : Int) ≤ (w64 ((m4.length : Int) - (1 : Int)))) && decide ((w64 ((m4.length : Int) - (1 : Int))) < (m4.length : Int))) then some (.st .normal (headT [4, 8, 12, 13, 16, 19, 20] 126 [.v (.c (.d (.int .i64 p4))), .v (.c (.ptr 1 0)), .v (.c (.aslice 2 none)), .v (.c (.d (.int .i64 p13))), .v (.c (.aslice 3 none)), .v (.c (.aslice 4 none)), .v (.c (.d (.int .i64 (w64 (p20 + (1 : Int))))))]) [.arr none .site m0, .rw 26 [.str q1.name, .int .i64 q1.ra, .int .i64 q1.dec], .arr (some 57) .win m2, .arr (some 75) .view m3, .arr (some 57) .win (m4.set ((w64 ((m4.length : Int) - (1 : Int))).toNat) ⟨(m4.getD ((w64 ((m4.length : Int) - (1 : Int))).toNat) (ET.z .win)).frm, (w64 ((m4.getD ((w64 ((m4.length : Int) - (1 : Int))).toNat) (ET.z .win)).too + (1 : Int)))⟩)] 5) else none) else none) else (bif (([⟨p20, (w64 (p20 + (1 : Int)))⟩] : List Window).length == 0) then some (.st .normal (headT [4, 8, 12, 13, 16, 19, 20] 126 [.v (.c (.d (.int .i64 p4))), .v (.c (.ptr 1 0)), .v (.c (.aslice 2 none)), .v (.c (.d (.int .i64 p13))), .v (.c (.aslice 3 none)), .v (.c (.aslice 4 none)), .v (.c (.d (.int .i64 (w64 (p20 + (1 : Int))))))]) [.arr none .site m0, .rw 26 [.str q1.name, .int .i64 q1.ra, .int .i64 q1.dec], .arr (some 57) .win m2, .arr (some 75) .view m3, .arr (some 57) .win m4] 5) else (bif (Nat.blt 0 2 && ((2 == 2) && ((2 == 2) && (Nat.ble (m4.length + ([⟨p20, (w64 (p20 + (1 : Int)))⟩] : List Window).length) roomD && Nat.ble 16 4096)))) then some (.st .normal (headT [4, 8, 12, 13, 16, 19, 20] 126 [.v (.c (.d (.int .i64 p4))), .v (.c (.ptr 1 0)), .v (.c (.aslice 2 none)), .v (.c (.d (.int .i64 p13))), .v (.c (.aslice 3 none)), .v (.c (.aslice 4 none)), .v (.c (.d (.int .i64 (w64 (p20 + (1 : Int))))))]) [.arr none .site m0, .rw 26 [.str q1.name, .int .i64 q1.ra, .int .i64 q1.dec], .arr (some 57) .win m2, .arr (some 75) .view m3, .arr (some 57) .win (m4 ++ ([⟨p20, (w64 (p20 + (1 : Int)))⟩] : List Window))] 5) else none))) else none) else (bif (([⟨p20, (w64 (p20 + (1 : Int)))⟩] : List Window).length == 0) then some (.st .normal (headT [4, 8, 12, 13, 16, 19, 20] 126 [.v (.c (.d (.int .i64 p4))), .v (.c (.ptr 1 0)), .v (.c (.aslice 2 none)), .v (.c (.d (.int .i64 p13))), .v (.c (.aslice 3 none)), .v (.c (.aslice 4 none)), .v (.c (.d (.int .i64 (w64 (p20 + (1 : Int))))))]) [.arr none .site m0, .rw 26 [.str q1.name, .int .i64 q1.ra, .int .i64 q1.dec], .arr (some 57) .win m2, .arr (some 75) .view m3, .arr (some 57) .win m4] 5) else (bif (Nat.blt 0 2 && ((2 == 2) && ((2 == 2) && (Nat.ble (m4.length + ([⟨p20, (w64 (p20 + (1 : Int)))⟩] : List Window).length) roomD && Nat.ble 16 4096)))) then some (.st .normal (headT [4, 8, 12, 13, 16, 19, 20] 126 [.v (.c (.d (.int .i64 p4))), .v (.c (.ptr 1 0)), .v (.c (.aslice 2 none)), .v (.c (.d (.int .i64 p13))), .v (.c (.aslice 3 none)), .v (.c (.aslice 4 none)), .v (.c (.d (.int .i64 (w64 (p20 + (1 : Int))))))]) [.arr none .site m0, .rw 26 [.str q1.name, .int .i64 q1.ra, .int .i64 q1.dec], .arr (some 57) .win m2, .arr (some 75) .view m3, .arr (some 57) .win (m4 ++ ([⟨p20, (w64 (p20 + (1 : Int)))⟩] : List Window))] 5) else none))))) else none) else some (.st (.exit 2) (headT [4, 8, 12, 13, 16, 19, 20] 126 [.v (.c (.d (.int .i64 p4))), .v (.c (.ptr 1 0)), .v (.c (.aslice 2 none)), .v (.c (.d (.int .i64 p13))), .v (.c (.aslice 3 none)), .v (.c (.aslice 4 none)), .v (.c (.d (.int .i64 p20)))]) [.arr none .site m0, .rw 26 [.str q1.name, .int .i64 q1.ra, .int .i64 q1.dec], .arr (some 57) .win m2, .arr (some 75) .view m3, .arr (some 57) .win m4] 5) := by
  kernel_rfl
def o_rise_All_1 (p4 : Int) (p13 : Int) (m0 : List Site) (q1 : Source) (m2 : List Window) (m3 : List View) (r : R_rise_All_1) : LT := .br (Nat.beq r.k 0) (.st .ret (headT [4, 8, 12, 13, 16, 19, 20] 126 [.v (.c (.d (.int .i64 p4))), .v (.c (.ptr 1 0)), .v (.c (.aslice 2 none)), .v (.c (.d (.int .i64 ((m_rise_upForAll m3 q1 r.p20).r1)))), .v (.c (.aslice 3 none)), .v (.c (.aslice 4 none)), .v (.c (.d (.int .i64 r.p20)))]) [.arr none .site m0, .rw 26 [.str q1.name, .int .i64 q1.ra, .int .i64 q1.dec], .arr (some 57) .win ([] : List Window), .arr (some 75) .view m3, .arr (some 57) .win r.m4] 5) (.br (Nat.beq r.k 1) (.st (.exit 2) (headT [4, 8, 12, 13, 16, 19, 20] 126 [.v (.c (.d (.int .i64 p4))), .v (.c (.ptr 1 0)), .v (.c (.aslice 2 none)), .v (.c (.d (.int .i64 p13))), .v (.c (.aslice 3 none)), .v (.c (.aslice 4 none)), .v (.c (.d (.int .i64 r.p20)))]) [.arr none .site m0, .rw 26 [.str q1.name, .int .i64 q1.ra, .int .i64 q1.dec], .arr (some 57) .win m2, .arr (some 75) .view m3, .arr (some 57) .win r.m4] 5) (.no))
theorem r_rise_All_1 (p4 : Int) (p13 : Int) (m0 : List Site) (q1 : Source) (m2 : List Window) (m3 : List View) : ∀ (n : Nat) (p20 : Int) (m4 : List Window) (x : Ex) (T' : TS) (M' : List Blk) (N' : Nat), LReach (o_rise_All_1 p4 p13 m0 q1 m2 m3 (run_rise_All_1 p4 p13 m0 q1 m2 m3 n p20 m4)) x T' M' N' → x ≠ .normal ∧ ∃ j, RoundsN Tryz.prog GT gbT 1 (loopB Tryz.prog 11 1) j (H_rise_All_1 p4 p13 m0 q1 m2 m3 p20 m4) [.arr none .site m0, .rw 26 [.str q1.name, .int .i64 q1.ra, .int .i64 q1.dec], .arr (some 57) .win m2, .arr (some 75) .view m3, .arr (some 57) .win m4] 5 x T' M' N' := by
  have hL : LOKn Tryz.prog GT gbT 1 noL (loopsIn (loopB Tryz.prog 11 1)) := fun _ _ _ _ _ _ _ _ _ h => h.elim
  intro n
  induction n with
  | zero =>
    intro p20 m4 x T' M' N' hr
    exact False.elim (redF (redF hr))
  | succ n ih =>
    intro p20 m4 x T' M' N'
    rw [run_rise_All_1]
    exact viaE (b_rise_All_1 p4 p13 m0 q1 m2 m3 p20 m4) (condG (o := o_rise_All_1 p4 p13 m0 q1 m2 m3) (condG (o := o_rise_All_1 p4 p13 m0 q1 m2 m3) (condG (o := o_rise_All_1 p4 p13 m0 q1 m2 m3) (fun he hr => stopN g_rise_tick hEQT hmT hL he (by simp) (redT hr)) (condG (o := o_rise_All_1 p4 p13 m0 q1 m2 m3) (fun he hr => goN g_rise_tick hEQT hmT hL he (ih (w64 (p20 + (1 : Int))) m4 x T' M' N' hr)) (condG (o := o_rise_All_1 p4 p13 m0 q1 m2 m3) (condG (o := o_rise_All_1 p4 p13 m0 q1 m2 m3) (condG (o := o_rise_All_1 p4 p13 m0 q1 m2 m3) (condG (o := o_rise_All_1 p4 p13 m0 q1 m2 m3) (condG (o := o_rise_All_1 p4 p13 m0 q1 m2 m3) (fun he hr => goN g_rise_tick hEQT hmT hL he (ih (w64 (p20 + (1 : Int))) (m4.set ((w64 ((m4.length : Int) - (1 : Int))).toNat) ⟨(m4.getD ((w64 ((m4.length : Int) - (1 : Int))).toNat) (ET.z .win)).frm, (w64 ((m4.getD ((w64 ((m4.length : Int) - (1 : Int))).toNat) (ET.z .win)).too + (1 : Int)))⟩) x T' M' N' hr)) (fun _ hr => False.elim (redF (redF hr)))) (fun _ hr => False.elim (redF (redF hr)))) (condG (o := o_rise_All_1 p4 p13 m0 q1 m2 m3) (fun he hr => goN g_rise_tick hEQT hmT hL he (ih (w64 (p20 + (1 : Int))) m4 x T' M' N' hr)) (condG (o := o_rise_All_1 p4 p13 m0 q1 m2 m3) (fun he hr => goN g_rise_tick hEQT hmT hL he (ih (w64 (p20 + (1 : Int))) (m4 ++ ([⟨p20, (w64 (p20 + (1 : Int)))⟩] : List Window)) x T' M' N' hr)) (fun _ hr => False.elim (redF (redF hr)))))) (fun _ hr => False.elim (redF (redF hr)))) (condG (o := o_rise_All_1 p4 p13 m0 q1 m2 m3) (fun he hr => goN g_rise_tick hEQT hmT hL he (ih (w64 (p20 + (1 : Int))) m4 x T' M' N' hr)) (condG (o := o_rise_All_1 p4 p13 m0 q1 m2 m3) (fun he hr => goN g_rise_tick hEQT hmT hL he (ih (w64 (p20 + (1 : Int))) (m4 ++ ([⟨p20, (w64 (p20 + (1 : Int)))⟩] : List Window)) x T' M' N' hr)) (fun _ hr => False.elim (redF (redF hr)))))))) (fun _ hr => False.elim (redF (redF hr)))) (fun he hr => stopN g_rise_tick hEQT hmT hL he (by simp) (redT (redF hr))))
def f_rise_All_1 : List AV → List Blk → LT := fun vs Ms => match vs, Ms with
  | [.v (.c (.d (.int .i64 p4))), .v (.c (.ptr 1 0)), .v (.c (.aslice 2 none)), .v (.c (.d (.int .i64 p13))), .v (.c (.aslice 3 none)), .v (.c (.aslice 4 none)), .v (.c (.d (.int .i64 p20)))], [.arr none .site m0, .rw 26 [.str q1_0, .int .i64 q1_1, .int .i64 q1_2], .arr (some 57) .win m2, .arr (some 75) .view m3, .arr (some 57) .win m4] => o_rise_All_1 p4 p13 m0 (⟨q1_0, q1_1, q1_2⟩ : Source) m2 m3 (lp_rise_All_1 p4 p13 m0 (⟨q1_0, q1_1, q1_2⟩ : Source) m2 m3 p20 m4)
  | _, _ => .no
def L_rise_All_1 := LamN 18 126 1 [4, 8, 12, 13, 16, 19, 20] f_rise_All_1
theorem k_rise_All_1 : LOKbn Tryz.prog GT gbT 1 L_rise_All_1 (loopB Tryz.prog 11 1) := by
  refine LOKbn.lamN (by kernel_rfl) fun vs Ms x T' M' N' hr => ?_
  unfold f_rise_All_1 at hr
  split at hr
  · obtain ⟨q1, j, q2⟩ := r_rise_All_1 _ _ _ _ _ _ _ _ _ x T' M' N' hr
    exact ⟨q1, j, q2⟩
  · exact hr.elim
structure O_rise_All where
  ok : Bool
  r0 : List Window
  r1 : Int
def m_rise_All (a0 : Globe) (a1 : List Site) (a2 : Source) (a3 : Int) (a4 : Int) (a5 : Frac) : O_rise_All := bif (m_rise_look a0 a1 a2 a5).ok then (bif ((m_rise_look a0 a1 a2 a5).r1 != (0 : Int)) then ⟨true, ([] : List Window), (m_rise_look a0 a1 a2 a5).r1⟩ else (bif (m_rise_tick a3).ok then (bif (!(m_rise_tick a3).r0) then ⟨true, ([] : List Window), (2 : Int)⟩ else (bif (m_rise_tick a4).ok then (bif (!(m_rise_tick a4).r0) then ⟨true, ([] : List Window), (2 : Int)⟩ else (bif decide (a4 < a3) then ⟨true, ([] : List Window), (2 : Int)⟩ else (bif decide ((720 : Int) < (w64 (a4 - a3))) then ⟨true, ([] : List Window), (4 : Int)⟩ else (bif (decide ((((m_rise_look a0 a1 a2 a5).r0).length : Int) = (((m_rise_look a0 a1 a2 a5).r0).length : Int)) && (decide (0 ≤ (((m_rise_look a0 a1 a2 a5).r0).length : Int)) && (decide ((((m_rise_look a0 a1 a2 a5).r0).length : Int) ≤ 1048576) && ((8 == 8) && (Nat.blt 0 8 && Nat.ble 64 4096))))) then (bif Nat.beq (lp_rise_All_0 a3 a4 (0 : Int) (((m_rise_look a0 a1 a2 a5).r0).length : Int) a1 a0 a2 a5 ([] : List Window) ((m_rise_look a0 a1 a2 a5).r0) (0 : Int) (List.replicate ((((m_rise_look a0 a1 a2 a5).r0).length : Int).toNat) (⟨⟨⟨(0 : Int), (0 : Int)⟩, ⟨(0 : Int), (0 : Int)⟩, ⟨(0 : Int), (0 : Int)⟩⟩, ⟨(0 : Int), (0 : Int)⟩⟩ : View))).k 0 then ⟨true, ([] : List Window), (m_rise_viewOf a0 (((m_rise_look a0 a1 a2 a5).r0).getD ((lp_rise_All_0 a3 a4 (0 : Int) (((m_rise_look a0 a1 a2 a5).r0).length : Int) a1 a0 a2 a5 ([] : List Window) ((m_rise_look a0 a1 a2 a5).r0) (0 : Int) (List.replicate ((((m_rise_look a0 a1 a2 a5).r0).length : Int).toNat) (⟨⟨⟨(0 : Int), (0 : Int)⟩, ⟨(0 : Int), (0 : Int)⟩, ⟨(0 : Int), (0 : Int)⟩⟩, ⟨(0 : Int), (0 : Int)⟩⟩ : View))).p57).toNat (ET.z .vec)) a5).r1⟩ else (bif Nat.beq (lp_rise_All_0 a3 a4 (0 : Int) (((m_rise_look a0 a1 a2 a5).r0).length : Int) a1 a0 a2 a5 ([] : List Window) ((m_rise_look a0 a1 a2 a5).r0) (0 : Int) (List.replicate ((((m_rise_look a0 a1 a2 a5).r0).length : Int).toNat) (⟨⟨⟨(0 : Int), (0 : Int)⟩, ⟨(0 : Int), (0 : Int)⟩, ⟨(0 : Int), (0 : Int)⟩⟩, ⟨(0 : Int), (0 : Int)⟩⟩ : View))).k 1 then (bif Nat.beq (lp_rise_All_1 a4 (0 : Int) a1 a2 ([] : List Window) ((lp_rise_All_0 a3 a4 (0 : Int) (((m_rise_look a0 a1 a2 a5).r0).length : Int) a1 a0 a2 a5 ([] : List Window) ((m_rise_look a0 a1 a2 a5).r0) (0 : Int) (List.replicate ((((m_rise_look a0 a1 a2 a5).r0).length : Int).toNat) (⟨⟨⟨(0 : Int), (0 : Int)⟩, ⟨(0 : Int), (0 : Int)⟩, ⟨(0 : Int), (0 : Int)⟩⟩, ⟨(0 : Int), (0 : Int)⟩⟩ : View))).m5) a3 ([] : List Window)).k 0 then ⟨true, ([] : List Window), (m_rise_upForAll ((lp_rise_All_0 a3 a4 (0 : Int) (((m_rise_look a0 a1 a2 a5).r0).length : Int) a1 a0 a2 a5 ([] : List Window) ((m_rise_look a0 a1 a2 a5).r0) (0 : Int) (List.replicate ((((m_rise_look a0 a1 a2 a5).r0).length : Int).toNat) (⟨⟨⟨(0 : Int), (0 : Int)⟩, ⟨(0 : Int), (0 : Int)⟩, ⟨(0 : Int), (0 : Int)⟩⟩, ⟨(0 : Int), (0 : Int)⟩⟩ : View))).m5) a2 ((lp_rise_All_1 a4 (0 : Int) a1 a2 ([] : List Window) ((lp_rise_All_0 a3 a4 (0 : Int) (((m_rise_look a0 a1 a2 a5).r0).length : Int) a1 a0 a2 a5 ([] : List Window) ((m_rise_look a0 a1 a2 a5).r0) (0 : Int) (List.replicate ((((m_rise_look a0 a1 a2 a5).r0).length : Int).toNat) (⟨⟨⟨(0 : Int), (0 : Int)⟩, ⟨(0 : Int), (0 : Int)⟩, ⟨(0 : Int), (0 : Int)⟩⟩, ⟨(0 : Int), (0 : Int)⟩⟩ : View))).m5) a3 ([] : List Window)).p20)).r1⟩ else (bif Nat.beq (lp_rise_All_1 a4 (0 : Int) a1 a2 ([] : List Window) ((lp_rise_All_0 a3 a4 (0 : Int) (((m_rise_look a0 a1 a2 a5).r0).length : Int) a1 a0 a2 a5 ([] : List Window) ((m_rise_look a0 a1 a2 a5).r0) (0 : Int) (List.replicate ((((m_rise_look a0 a1 a2 a5).r0).length : Int).toNat) (⟨⟨⟨(0 : Int), (0 : Int)⟩, ⟨(0 : Int), (0 : Int)⟩, ⟨(0 : Int), (0 : Int)⟩⟩, ⟨(0 : Int), (0 : Int)⟩⟩ : View))).m5) a3 ([] : List Window)).k 1 then ⟨true, ((lp_rise_All_1 a4 (0 : Int) a1 a2 ([] : List Window) ((lp_rise_All_0 a3 a4 (0 : Int) (((m_rise_look a0 a1 a2 a5).r0).length : Int) a1 a0 a2 a5 ([] : List Window) ((m_rise_look a0 a1 a2 a5).r0) (0 : Int) (List.replicate ((((m_rise_look a0 a1 a2 a5).r0).length : Int).toNat) (⟨⟨⟨(0 : Int), (0 : Int)⟩, ⟨(0 : Int), (0 : Int)⟩, ⟨(0 : Int), (0 : Int)⟩⟩, ⟨(0 : Int), (0 : Int)⟩⟩ : View))).m5) a3 ([] : List Window)).m4), (0 : Int)⟩ else ⟨false, [], 0⟩)) else ⟨false, [], 0⟩)) else ⟨false, [], 0⟩)))) else ⟨false, [], 0⟩)) else ⟨false, [], 0⟩)) else ⟨false, [], 0⟩
def F_rise_All (_a0 : Globe) (a1 : List Site) (_a2 : Source) (_a3 : Int) (_a4 : Int) (_a5 : Frac) (K : AV → List Blk → Ans) (r : O_rise_All) : Ans := bif r.ok then K (.tup [.c (.aslice 1 none), .c (.d (.int .i64 r.r1))]) [.arr none .site a1, .arr (some 57) .win r.r0] else none
theorem e_rise_All (a0 : Globe) (a1 : List Site) (a2 : Source) (a3 : Int) (a4 : Int) (a5 : Frac) (K : AV → List Blk → Ans) : evFn Tryz.prog GT EQT T_rise_tick XT (orL L_rise_All_1 (orL L_rise_All_0 noL)) 80 11 [.v (.agg [.int .i64 a0.a, .int .i64 a0.b]), .v (.c (.aslice 0 none)), .v (.agg [.str a2.name, .int .i64 a2.ra, .int .i64 a2.dec]), .v (.c (.d (.int .i64 a3))), .v (.c (.d (.int .i64 a4))), .v (.agg [.int .i64 a5.num, .int .i64 a5.den])] [.arr none .site a1] (fun v M => K (finR 1 v M).1 (finR 1 v M).2) = F_rise_All a0 a1 a2 a3 a4 a5 K (m_rise_All a0 a1 a2 a3 a4 a5) := by
  unfold m_rise_All
  refine Eq.trans ?_ (Eq.symm (pushT (pushT rfl (pushT (pushT rfl (pushT (pushT rfl (pushT rfl (pushT rfl (pushT (pushT rfl (pushT (pushT rfl (pushT rfl rfl)) rfl)) rfl)))) rfl)) rfl)) rfl))
  kernel_rfl
theorem lok_rise_All : ∀ fn c, Tryz.prog.funcs[11]? = some fn → fn.body = some c → LOKn Tryz.prog GT gbT 1 (orL L_rise_All_1 (orL L_rise_All_0 noL)) (loopsIn c) := by
  refine LOKn.ofF fun b hb => ?_
  have e : loopsF Tryz.prog 11 = [loopB Tryz.prog 11 0, loopB Tryz.prog 11 1] := by kernel_rfl
  rw [e] at hb
  simp only [List.mem_cons, List.not_mem_nil, or_false] at hb
  rcases hb with rfl | rfl
  · exact (LOKbn.or (LOKbn.lamN_other (by kernel_rfl)) (LOKbn.or k_rise_All_0 (fun _ _ _ _ _ _ _ h => h.elim)))
  · exact (LOKbn.or k_rise_All_1 (LOKbn.or (LOKbn.lamN_other (by kernel_rfl)) (fun _ _ _ _ _ _ _ h => h.elim)))
theorem c_rise_All (a0 : Globe) (a1 : List Site) (a2 : Source) (a3 : Int) (a4 : Int) (a5 : Frac) (hd : (m_rise_All a0 a1 a2 a3 a4 a5).ok = true) : CallsA Tryz.prog GT gbT 11 [.v (.agg [.int .i64 a0.a, .int .i64 a0.b]), .v (.c (.aslice 0 none)), .v (.agg [.str a2.name, .int .i64 a2.ra, .int .i64 a2.dec]), .v (.c (.d (.int .i64 a3))), .v (.c (.d (.int .i64 a4))), .v (.agg [.int .i64 a5.num, .int .i64 a5.den])] [.arr none .site a1] (.tup [.c (.aslice 1 none), .c (.d (.int .i64 ((m_rise_All a0 a1 a2 a3 a4 a5).r1)))]) [.arr none .site a1, .arr (some 57) .win ((m_rise_All a0 a1 a2 a3 a4 a5).r0)] := by
  refine CallsA.ofEvR g_rise_tick hEQT hmT (n0 := 1) rfl lok_rise_All ((e_rise_All a0 a1 a2 a3 a4 a5 (fun v M => some (Res.fin v M))).trans ?_)
  unfold F_rise_All
  rw [hd]
  rfl
def s_rise_All : List AV → List Blk → (AV → List Blk → Ans) → Ans := fun xs bs K => match xs, bs with
  | [.v (.agg [.int .i64 a0_0, .int .i64 a0_1]), .v (.c (.aslice 0 none)), .v (.agg [.str a2_0, .int .i64 a2_1, .int .i64 a2_2]), .v (.c (.d (.int .i64 a3))), .v (.c (.d (.int .i64 a4))), .v (.agg [.int .i64 a5_0, .int .i64 a5_1])], [.arr none .site a1] => F_rise_All (⟨a0_0, a0_1⟩ : Globe) a1 (⟨a2_0, a2_1, a2_2⟩ : Source) a3 a4 (⟨a5_0, a5_1⟩ : Frac) K (m_rise_All (⟨a0_0, a0_1⟩ : Globe) a1 (⟨a2_0, a2_1, a2_2⟩ : Source) a3 a4 (⟨a5_0, a5_1⟩ : Frac))
  | _, _ => none
def T_rise_All : Nat → List AV → List Blk → (AV → List Blk → Ans) → Ans := upd T_rise_tick 11 s_rise_All
theorem g_rise_All : GOK Tryz.prog GT gbT T_rise_All XT := by
  refine GOK.upd g_rise_tick (fun args w => Tryz.call11 args w) fun xs bs K r h => ?_
  unfold s_rise_All at h
  split at h
  · unfold F_rise_All at h
    simp only [cond_eq_ite] at h
    split at h
    · rename_i hd
      exact ⟨_, _, c_rise_All _ _ _ _ _ _ hd, h⟩
    · cases h
  · cases h
structure O_rise_State where
  ok : Bool
  r0 : Int
  r1 : Int
def m_rise_State (a0 : Globe) (a1 : Site) (a2 : Source) (a3 : Int) (a4 : Frac) : O_rise_State := bif (m_rise_look a0 ([a1] : List Site) a2 a4).ok then (bif ((m_rise_look a0 ([a1] : List Site) a2 a4).r1 != (0 : Int)) then ⟨true, (0 : Int), (m_rise_look a0 ([a1] : List Site) a2 a4).r1⟩ else (bif ((atS ⟨a2.name, a2.ra, a2.dec⟩ a3).2 != (0 : Int)) then ⟨true, (0 : Int), (atS ⟨a2.name, a2.ra, a2.dec⟩ a3).2⟩ else (bif (decide ((0 : Int) ≤ (0 : Int)) && decide ((0 : Int) < (((m_rise_look a0 ([a1] : List Site) a2 a4).r0).length : Int))) then (bif (m_rise_viewOf a0 (((m_rise_look a0 ([a1] : List Site) a2 a4).r0).getD 0 (ET.z .vec)) a4).ok then (bif ((m_rise_viewOf a0 (((m_rise_look a0 ([a1] : List Site) a2 a4).r0).getD 0 (ET.z .vec)) a4).r1 != (0 : Int)) then ⟨true, (0 : Int), (m_rise_viewOf a0 (((m_rise_look a0 ([a1] : List Site) a2 a4).r0).getD 0 (ET.z .vec)) a4).r1⟩ else (bif (m__rise_view__state ((m_rise_viewOf a0 (((m_rise_look a0 ([a1] : List Site) a2 a4).r0).getD 0 (ET.z .vec)) a4).r0) ((atS ⟨a2.name, a2.ra, a2.dec⟩ a3).1)).ok then ⟨true, (m__rise_view__state ((m_rise_viewOf a0 (((m_rise_look a0 ([a1] : List Site) a2 a4).r0).getD 0 (ET.z .vec)) a4).r0) ((atS ⟨a2.name, a2.ra, a2.dec⟩ a3).1)).r0, (m__rise_view__state ((m_rise_viewOf a0 (((m_rise_look a0 ([a1] : List Site) a2 a4).r0).getD 0 (ET.z .vec)) a4).r0) ((atS ⟨a2.name, a2.ra, a2.dec⟩ a3).1)).r1⟩ else ⟨false, 0, 0⟩)) else ⟨false, 0, 0⟩) else ⟨false, 0, 0⟩))) else ⟨false, 0, 0⟩
def F_rise_State (_a0 : Globe) (_a1 : Site) (_a2 : Source) (_a3 : Int) (_a4 : Frac) (K : AV → List Blk → Ans) (r : O_rise_State) : Ans := bif r.ok then K (.tup [.c (.d (.int .i64 r.r0)), .c (.d (.int .i64 r.r1))]) [] else none
theorem e_rise_State (a0 : Globe) (a1 : Site) (a2 : Source) (a3 : Int) (a4 : Frac) (K : AV → List Blk → Ans) : evFn Tryz.prog GT EQT T_rise_All XT noL 80 20 [.v (.agg [.int .i64 a0.a, .int .i64 a0.b]), .v (.agg [.str a1.name, .int .i64 a1.s.num, .int .i64 a1.s.den, .int .i64 a1.t.num, .int .i64 a1.t.den]), .v (.agg [.str a2.name, .int .i64 a2.ra, .int .i64 a2.dec]), .v (.c (.d (.int .i64 a3))), .v (.agg [.int .i64 a4.num, .int .i64 a4.den])] [] (fun v M => K (finR 0 v M).1 (finR 0 v M).2) = F_rise_State a0 a1 a2 a3 a4 K (m_rise_State a0 a1 a2 a3 a4) := by
  unfold m_rise_State
  refine Eq.trans ?_ (Eq.symm (pushT (pushT rfl (pushT rfl (pushT (pushT (pushT rfl (pushT rfl rfl)) rfl) rfl))) rfl))
  kernel_rfl
theorem c_rise_State (a0 : Globe) (a1 : Site) (a2 : Source) (a3 : Int) (a4 : Frac) (hd : (m_rise_State a0 a1 a2 a3 a4).ok = true) : CallsA Tryz.prog GT gbT 20 [.v (.agg [.int .i64 a0.a, .int .i64 a0.b]), .v (.agg [.str a1.name, .int .i64 a1.s.num, .int .i64 a1.s.den, .int .i64 a1.t.num, .int .i64 a1.t.den]), .v (.agg [.str a2.name, .int .i64 a2.ra, .int .i64 a2.dec]), .v (.c (.d (.int .i64 a3))), .v (.agg [.int .i64 a4.num, .int .i64 a4.den])] [] (.tup [.c (.d (.int .i64 ((m_rise_State a0 a1 a2 a3 a4).r0))), .c (.d (.int .i64 ((m_rise_State a0 a1 a2 a3 a4).r1)))]) [] := by
  refine CallsA.ofEvR g_rise_All hEQT hmT (n0 := 0) rfl (fun _ _ _ _ => LOKn.nil) ((e_rise_State a0 a1 a2 a3 a4 (fun v M => some (Res.fin v M))).trans ?_)
  unfold F_rise_State
  rw [hd]
  rfl
def s_rise_State : List AV → List Blk → (AV → List Blk → Ans) → Ans := fun xs bs K => match xs, bs with
  | [.v (.agg [.int .i64 a0_0, .int .i64 a0_1]), .v (.agg [.str a1_0, .int .i64 a1_1, .int .i64 a1_2, .int .i64 a1_3, .int .i64 a1_4]), .v (.agg [.str a2_0, .int .i64 a2_1, .int .i64 a2_2]), .v (.c (.d (.int .i64 a3))), .v (.agg [.int .i64 a4_0, .int .i64 a4_1])], [] => F_rise_State (⟨a0_0, a0_1⟩ : Globe) (⟨a1_0, ⟨a1_1, a1_2⟩, ⟨a1_3, a1_4⟩⟩ : Site) (⟨a2_0, a2_1, a2_2⟩ : Source) a3 (⟨a4_0, a4_1⟩ : Frac) K (m_rise_State (⟨a0_0, a0_1⟩ : Globe) (⟨a1_0, ⟨a1_1, a1_2⟩, ⟨a1_3, a1_4⟩⟩ : Site) (⟨a2_0, a2_1, a2_2⟩ : Source) a3 (⟨a4_0, a4_1⟩ : Frac))
  | _, _ => none
def T_rise_State : Nat → List AV → List Blk → (AV → List Blk → Ans) → Ans := upd T_rise_All 20 s_rise_State
theorem g_rise_State : GOK Tryz.prog GT gbT T_rise_State XT := by
  refine GOK.upd g_rise_All (fun args w => Tryz.call20 args w) fun xs bs K r h => ?_
  unfold s_rise_State at h
  split at h
  · unfold F_rise_State at h
    simp only [cond_eq_ite] at h
    split at h
    · rename_i hd
      exact ⟨_, _, c_rise_State _ _ _ _ _ hd, h⟩
    · cases h
  · cases h
structure O_rise_Windows where
  ok : Bool
  r0 : List Window
  r1 : Int
def m_rise_Windows (a0 : Globe) (a1 : Site) (a2 : Source) (a3 : Int) (a4 : Int) (a5 : Frac) : O_rise_Windows := bif (m_rise_All a0 ([a1] : List Site) a2 a3 a4 a5).ok then ⟨true, (m_rise_All a0 ([a1] : List Site) a2 a3 a4 a5).r0, (m_rise_All a0 ([a1] : List Site) a2 a3 a4 a5).r1⟩ else ⟨false, [], 0⟩
def F_rise_Windows (_a0 : Globe) (_a1 : Site) (_a2 : Source) (_a3 : Int) (_a4 : Int) (_a5 : Frac) (K : AV → List Blk → Ans) (r : O_rise_Windows) : Ans := bif r.ok then K (.tup [.c (.aslice 0 none), .c (.d (.int .i64 r.r1))]) [.arr (some 57) .win r.r0] else none
theorem e_rise_Windows (a0 : Globe) (a1 : Site) (a2 : Source) (a3 : Int) (a4 : Int) (a5 : Frac) (K : AV → List Blk → Ans) : evFn Tryz.prog GT EQT T_rise_State XT noL 80 10 [.v (.agg [.int .i64 a0.a, .int .i64 a0.b]), .v (.agg [.str a1.name, .int .i64 a1.s.num, .int .i64 a1.s.den, .int .i64 a1.t.num, .int .i64 a1.t.den]), .v (.agg [.str a2.name, .int .i64 a2.ra, .int .i64 a2.dec]), .v (.c (.d (.int .i64 a3))), .v (.c (.d (.int .i64 a4))), .v (.agg [.int .i64 a5.num, .int .i64 a5.den])] [] (fun v M => K (finR 0 v M).1 (finR 0 v M).2) = F_rise_Windows a0 a1 a2 a3 a4 a5 K (m_rise_Windows a0 a1 a2 a3 a4 a5) := by
  unfold m_rise_Windows
  refine Eq.trans ?_ (Eq.symm (pushT rfl rfl))
  kernel_rfl
theorem c_rise_Windows (a0 : Globe) (a1 : Site) (a2 : Source) (a3 : Int) (a4 : Int) (a5 : Frac) (hd : (m_rise_Windows a0 a1 a2 a3 a4 a5).ok = true) : CallsA Tryz.prog GT gbT 10 [.v (.agg [.int .i64 a0.a, .int .i64 a0.b]), .v (.agg [.str a1.name, .int .i64 a1.s.num, .int .i64 a1.s.den, .int .i64 a1.t.num, .int .i64 a1.t.den]), .v (.agg [.str a2.name, .int .i64 a2.ra, .int .i64 a2.dec]), .v (.c (.d (.int .i64 a3))), .v (.c (.d (.int .i64 a4))), .v (.agg [.int .i64 a5.num, .int .i64 a5.den])] [] (.tup [.c (.aslice 0 none), .c (.d (.int .i64 ((m_rise_Windows a0 a1 a2 a3 a4 a5).r1)))]) [.arr (some 57) .win ((m_rise_Windows a0 a1 a2 a3 a4 a5).r0)] := by
  refine CallsA.ofEvR g_rise_State hEQT hmT (n0 := 0) rfl (fun _ _ _ _ => LOKn.nil) ((e_rise_Windows a0 a1 a2 a3 a4 a5 (fun v M => some (Res.fin v M))).trans ?_)
  unfold F_rise_Windows
  rw [hd]
  rfl
def s_rise_Windows : List AV → List Blk → (AV → List Blk → Ans) → Ans := fun xs bs K => match xs, bs with
  | [.v (.agg [.int .i64 a0_0, .int .i64 a0_1]), .v (.agg [.str a1_0, .int .i64 a1_1, .int .i64 a1_2, .int .i64 a1_3, .int .i64 a1_4]), .v (.agg [.str a2_0, .int .i64 a2_1, .int .i64 a2_2]), .v (.c (.d (.int .i64 a3))), .v (.c (.d (.int .i64 a4))), .v (.agg [.int .i64 a5_0, .int .i64 a5_1])], [] => F_rise_Windows (⟨a0_0, a0_1⟩ : Globe) (⟨a1_0, ⟨a1_1, a1_2⟩, ⟨a1_3, a1_4⟩⟩ : Site) (⟨a2_0, a2_1, a2_2⟩ : Source) a3 a4 (⟨a5_0, a5_1⟩ : Frac) K (m_rise_Windows (⟨a0_0, a0_1⟩ : Globe) (⟨a1_0, ⟨a1_1, a1_2⟩, ⟨a1_3, a1_4⟩⟩ : Site) (⟨a2_0, a2_1, a2_2⟩ : Source) a3 a4 (⟨a5_0, a5_1⟩ : Frac))
  | _, _ => none
def T_rise_Windows : Nat → List AV → List Blk → (AV → List Blk → Ans) → Ans := upd T_rise_State 10 s_rise_Windows
theorem g_rise_Windows : GOK Tryz.prog GT gbT T_rise_Windows XT := by
  refine GOK.upd g_rise_State (fun args w => Tryz.call10 args w) fun xs bs K r h => ?_
  unfold s_rise_Windows at h
  split at h
  · unfold F_rise_Windows at h
    simp only [cond_eq_ite] at h
    split at h
    · rename_i hd
      exact ⟨_, _, c_rise_Windows _ _ _ _ _ _ hd, h⟩
    · cases h
  · cases h
end Go.Ev

namespace Go.Ev
open Go Go.Proofs
structure O_Q4_Valid where
  ok : Bool
  r0 : Bool
def m_Q4_Valid (a0 : Site) : O_Q4_Valid := bif (namedB a0.name) then ⟨true, (placedB a0.s a0.t)⟩ else ⟨true, false⟩
def F_Q4_Valid (_a0 : Site) (K : AV → List Blk → Ans) (r : O_Q4_Valid) : Ans := bif r.ok then K (.v (.c (.d (.bool r.r0)))) [] else none
theorem e_Q4_Valid (a0 : Site) (K : AV → List Blk → Ans) : evFn Tryz.prog GT EQT T_rise_Windows XT noL 80 69 [.v (.agg [.str a0.name, .int .i64 a0.s.num, .int .i64 a0.s.den, .int .i64 a0.t.num, .int .i64 a0.t.den])] [] (fun v M => K (finR 0 v M).1 (finR 0 v M).2) = F_Q4_Valid a0 K (m_Q4_Valid a0) := by
  unfold m_Q4_Valid
  refine Eq.trans ?_ (Eq.symm (pushT rfl rfl))
  kernel_rfl
theorem c_Q4_Valid (a0 : Site) (hd : (m_Q4_Valid a0).ok = true) : CallsA Tryz.prog GT gbT 69 [.v (.agg [.str a0.name, .int .i64 a0.s.num, .int .i64 a0.s.den, .int .i64 a0.t.num, .int .i64 a0.t.den])] [] (.v (.c (.d (.bool ((m_Q4_Valid a0).r0))))) [] := by
  refine CallsA.ofEvR g_rise_Windows hEQT hmT (n0 := 0) rfl (fun _ _ _ _ => LOKn.nil) ((e_Q4_Valid a0 (fun v M => some (Res.fin v M))).trans ?_)
  unfold F_Q4_Valid
  rw [hd]
  rfl
def s_Q4_Valid : List AV → List Blk → (AV → List Blk → Ans) → Ans := fun xs bs K => match xs, bs with
  | [.v (.agg [.str a0_0, .int .i64 a0_1, .int .i64 a0_2, .int .i64 a0_3, .int .i64 a0_4])], [] => F_Q4_Valid (⟨a0_0, ⟨a0_1, a0_2⟩, ⟨a0_3, a0_4⟩⟩ : Site) K (m_Q4_Valid (⟨a0_0, ⟨a0_1, a0_2⟩, ⟨a0_3, a0_4⟩⟩ : Site))
  | _, _ => none
def T_Q4_Valid : Nat → List AV → List Blk → (AV → List Blk → Ans) → Ans := upd T_rise_Windows 69 s_Q4_Valid
theorem g_Q4_Valid : GOK Tryz.prog GT gbT T_Q4_Valid XT := by
  refine GOK.upd g_rise_Windows (fun args w => Tryz.call69 args w) fun xs bs K r h => ?_
  unfold s_Q4_Valid at h
  split at h
  · unfold F_Q4_Valid at h
    simp only [cond_eq_ite] at h
    split at h
    · rename_i hd
      exact ⟨_, _, c_Q4_Valid _ hd, h⟩
    · cases h
  · cases h
structure R_Q4_all_0 where
  k : Nat
  p6 : Int
  m2 : List Vec
def run_Q4_all_0 (m0 : List Site) (q1 : Globe) : Nat → Int → List Vec → R_Q4_all_0
  | 0, p6, m2 => ⟨1, p6, m2⟩
  | n + 1, p6, m2 => bif decide (p6 < (m0.length : Int)) then (bif (decide ((0 : Int) ≤ p6) && decide (p6 < (m0.length : Int))) then (bif (decide ((0 : Int) ≤ p6) && decide (p6 < (m0.length : Int))) then (bif (Nat.blt 0 6 && ((6 == 6) && ((6 == 6) && (Nat.ble (m2.length + ([placeR q1 ((m0.getD p6.toNat (ET.z .site)).s) ((m0.getD p6.toNat (ET.z .site)).t)] : List Vec).length) roomD && Nat.ble 48 4096)))) then run_Q4_all_0 m0 q1 n (w64 (p6 + (1 : Int))) (m2 ++ ([placeR q1 ((m0.getD p6.toNat (ET.z .site)).s) ((m0.getD p6.toNat (ET.z .site)).t)] : List Vec)) else ⟨1, p6, m2⟩) else ⟨1, p6, m2⟩) else ⟨1, p6, m2⟩) else ⟨0, p6, m2⟩
def lp_Q4_all_0 (m0 : List Site) (q1 : Globe) (p6 : Int) (m2 : List Vec) : R_Q4_all_0 := run_Q4_all_0 m0 q1 (2000 + (m0.length + m2.length)) p6 m2
abbrev H_Q4_all_0 (_m0 : List Site) (_q1 : Globe) (p6 : Int) (_m2 : List Vec) : TS := headT [1, 2, 5, 6] 29 [.v (.c (.aslice 0 none)), .v (.c (.ptr 1 0)), .v (.c (.aslice 2 none)), .v (.c (.d (.int .i64 p6)))]
theorem b_Q4_all_0 (m0 : List Site) (q1 : Globe) (p6 : Int) (m2 : List Vec) : evCode Tryz.prog GT EQT T_Q4_Valid XT noL 80 (loopB Tryz.prog 70 0) (H_Q4_all_0 m0 q1 p6 m2) [.arr none .site m0, .rw 23 [.int .i64 q1.a, .int .i64 q1.b], .arr (some 71) .vec m2] 3 (normK 1 [1, 2, 5, 6]) =
    bif decide (p6 < (m0.length : Int)) then (bif (decide ((0 : Int) ≤ p6) && decide (p6 < (m0.length : Int))) then (bif (decide ((0 : Int) ≤ p6) && decide (p6 < (m0.length : Int))) then (bif (Nat.blt 0 6 && ((6 == 6) && ((6 == 6) && (Nat.ble (m2.length + ([placeR q1 ((m0.getD p6.toNat (ET.z .site)).s) ((m0.getD p6.toNat (ET.z .site)).t)] : List Vec).length) roomD && Nat.ble 48 4096)))) then some (.st .normal (headT [1, 2, 5, 6] 29 [.v (.c (.aslice 0 none)), .v (.c (.ptr 1 0)), .v (.c (.aslice 2 none)), .v (.c (.d (.int .i64 (w64 (p6 + (1 : Int))))))]) [.arr none .site m0, .rw 23 [.int .i64 q1.a, .int .i64 q1.b], .arr (some 71) .vec (m2 ++ ([placeR q1 ((m0.getD p6.toNat (ET.z .site)).s) ((m0.getD p6.toNat (ET.z .site)).t)] : List Vec))] 3) else none) else none) else none) else some (.st (.exit 0) (headT [1, 2, 5, 6] 29 [.v (.c (.aslice 0 none)), .v (.c (.ptr 1 0)), .v (.c (.aslice 2 none)), .v (.c (.d (.int .i64 p6)))]) [.arr none .site m0, .rw 23 [.int .i64 q1.a, .int .i64 q1.b], .arr (some 71) .vec m2] 3) := by
  kernel_rfl
def o_Q4_all_0 (m0 : List Site) (q1 : Globe) (r : R_Q4_all_0) : LT := .br (Nat.beq r.k 0) (.st (.exit 0) (headT [1, 2, 5, 6] 29 [.v (.c (.aslice 0 none)), .v (.c (.ptr 1 0)), .v (.c (.aslice 2 none)), .v (.c (.d (.int .i64 r.p6)))]) [.arr none .site m0, .rw 23 [.int .i64 q1.a, .int .i64 q1.b], .arr (some 71) .vec r.m2] 3) (.no)
theorem r_Q4_all_0 (m0 : List Site) (q1 : Globe) : ∀ (n : Nat) (p6 : Int) (m2 : List Vec) (x : Ex) (T' : TS) (M' : List Blk) (N' : Nat), LReach (o_Q4_all_0 m0 q1 (run_Q4_all_0 m0 q1 n p6 m2)) x T' M' N' → x ≠ .normal ∧ ∃ j, RoundsN Tryz.prog GT gbT 1 (loopB Tryz.prog 70 0) j (H_Q4_all_0 m0 q1 p6 m2) [.arr none .site m0, .rw 23 [.int .i64 q1.a, .int .i64 q1.b], .arr (some 71) .vec m2] 3 x T' M' N' := by
  have hL : LOKn Tryz.prog GT gbT 1 noL (loopsIn (loopB Tryz.prog 70 0)) := fun _ _ _ _ _ _ _ _ _ h => h.elim
  intro n
  induction n with
  | zero =>
    intro p6 m2 x T' M' N' hr
    exact False.elim (redF hr)
  | succ n ih =>
    intro p6 m2 x T' M' N'
    rw [run_Q4_all_0]
    exact viaE (b_Q4_all_0 m0 q1 p6 m2) (condG (o := o_Q4_all_0 m0 q1) (condG (o := o_Q4_all_0 m0 q1) (condG (o := o_Q4_all_0 m0 q1) (condG (o := o_Q4_all_0 m0 q1) (fun he hr => goN g_Q4_Valid hEQT hmT hL he (ih (w64 (p6 + (1 : Int))) (m2 ++ ([placeR q1 ((m0.getD p6.toNat (ET.z .site)).s) ((m0.getD p6.toNat (ET.z .site)).t)] : List Vec)) x T' M' N' hr)) (fun _ hr => False.elim (redF hr))) (fun _ hr => False.elim (redF hr))) (fun _ hr => False.elim (redF hr))) (fun he hr => stopN g_Q4_Valid hEQT hmT hL he (by simp) (redT hr)))
def f_Q4_all_0 : List AV → List Blk → LT := fun vs Ms => match vs, Ms with
  | [.v (.c (.aslice 0 none)), .v (.c (.ptr 1 0)), .v (.c (.aslice 2 none)), .v (.c (.d (.int .i64 p6)))], [.arr none .site m0, .rw 23 [.int .i64 q1_0, .int .i64 q1_1], .arr (some 71) .vec m2] => o_Q4_all_0 m0 (⟨q1_0, q1_1⟩ : Globe) (lp_Q4_all_0 m0 (⟨q1_0, q1_1⟩ : Globe) p6 m2)
  | _, _ => .no
def L_Q4_all_0 := LamN 3 29 1 [1, 2, 5, 6] f_Q4_all_0
theorem k_Q4_all_0 : LOKbn Tryz.prog GT gbT 1 L_Q4_all_0 (loopB Tryz.prog 70 0) := by
  refine LOKbn.lamN (by kernel_rfl) fun vs Ms x T' M' N' hr => ?_
  unfold f_Q4_all_0 at hr
  split at hr
  · obtain ⟨q1, j, q2⟩ := r_Q4_all_0 _ _ _ _ _ x T' M' N' hr
    exact ⟨q1, j, q2⟩
  · exact hr.elim
structure O_Q4_all where
  ok : Bool
  r0 : List Vec
def m_Q4_all (a0 : Globe) (a1 : List Site) : O_Q4_all := bif Nat.beq (lp_Q4_all_0 a1 a0 (0 : Int) ([] : List Vec)).k 0 then ⟨true, ((lp_Q4_all_0 a1 a0 (0 : Int) ([] : List Vec)).m2)⟩ else ⟨false, []⟩
def F_Q4_all (_a0 : Globe) (a1 : List Site) (K : AV → List Blk → Ans) (r : O_Q4_all) : Ans := bif r.ok then K (.v (.c (.aslice 1 none))) [.arr none .site a1, .arr (some 71) .vec r.r0] else none
theorem e_Q4_all (a0 : Globe) (a1 : List Site) (K : AV → List Blk → Ans) : evFn Tryz.prog GT EQT T_Q4_Valid XT (orL L_Q4_all_0 noL) 80 70 [.v (.agg [.int .i64 a0.a, .int .i64 a0.b]), .v (.c (.aslice 0 none))] [.arr none .site a1] (fun v M => K (finR 1 v M).1 (finR 1 v M).2) = F_Q4_all a0 a1 K (m_Q4_all a0 a1) := by
  unfold m_Q4_all
  refine Eq.trans ?_ (Eq.symm (pushT rfl rfl))
  kernel_rfl
theorem lok_Q4_all : ∀ fn c, Tryz.prog.funcs[70]? = some fn → fn.body = some c → LOKn Tryz.prog GT gbT 1 (orL L_Q4_all_0 noL) (loopsIn c) := by
  refine LOKn.ofF fun b hb => ?_
  have e : loopsF Tryz.prog 70 = [loopB Tryz.prog 70 0] := by kernel_rfl
  rw [e] at hb
  simp only [List.mem_cons, List.not_mem_nil, or_false] at hb
  subst hb
  exact (LOKbn.or k_Q4_all_0 (fun _ _ _ _ _ _ _ h => h.elim))
theorem c_Q4_all (a0 : Globe) (a1 : List Site) (hd : (m_Q4_all a0 a1).ok = true) : CallsA Tryz.prog GT gbT 70 [.v (.agg [.int .i64 a0.a, .int .i64 a0.b]), .v (.c (.aslice 0 none))] [.arr none .site a1] (.v (.c (.aslice 1 none))) [.arr none .site a1, .arr (some 71) .vec ((m_Q4_all a0 a1).r0)] := by
  refine CallsA.ofEvR g_Q4_Valid hEQT hmT (n0 := 1) rfl lok_Q4_all ((e_Q4_all a0 a1 (fun v M => some (Res.fin v M))).trans ?_)
  unfold F_Q4_all
  rw [hd]
  rfl
def s_Q4_all : List AV → List Blk → (AV → List Blk → Ans) → Ans := fun xs bs K => match xs, bs with
  | [.v (.agg [.int .i64 a0_0, .int .i64 a0_1]), .v (.c (.aslice 0 none))], [.arr none .site a1] => F_Q4_all (⟨a0_0, a0_1⟩ : Globe) a1 K (m_Q4_all (⟨a0_0, a0_1⟩ : Globe) a1)
  | _, _ => none
def T_Q4_all : Nat → List AV → List Blk → (AV → List Blk → Ans) → Ans := upd T_Q4_Valid 70 s_Q4_all
theorem g_Q4_all : GOK Tryz.prog GT gbT T_Q4_all XT := by
  refine GOK.upd g_Q4_Valid (fun args w => Tryz.call70 args w) fun xs bs K r h => ?_
  unfold s_Q4_all at h
  split at h
  · unfold F_Q4_all at h
    simp only [cond_eq_ite] at h
    split at h
    · rename_i hd
      exact ⟨_, _, c_Q4_all _ _ hd, h⟩
    · cases h
  · cases h
structure R_Q4_Check_0 where
  k : Nat
  p5 : Int
def run_Q4_Check_0 (p4 : Int) (m0 : List Site) (q1 : Globe) : Nat → Int → R_Q4_Check_0
  | 0, p5 => ⟨2, p5⟩
  | n + 1, p5 => bif decide (p5 < (m0.length : Int)) then (bif (decide ((0 : Int) ≤ p5) && decide (p5 < (m0.length : Int))) then (bif (m_Q4_Valid (m0.getD p5.toNat (ET.z .site))).ok then (bif (!(m_Q4_Valid (m0.getD p5.toNat (ET.z .site))).r0) then ⟨0, p5⟩ else run_Q4_Check_0 p4 m0 q1 n (w64 (p5 + (1 : Int)))) else ⟨2, p5⟩) else ⟨2, p5⟩) else ⟨1, p5⟩
def lp_Q4_Check_0 (p4 : Int) (m0 : List Site) (q1 : Globe) (p5 : Int) : R_Q4_Check_0 := run_Q4_Check_0 p4 m0 q1 (2000 + (m0.length)) p5
abbrev H_Q4_Check_0 (p4 : Int) (_m0 : List Site) (_q1 : Globe) (p5 : Int) : TS := headT [1, 2, 4, 5] 65 [.v (.c (.aslice 0 none)), .v (.c (.ptr 1 0)), .v (.c (.d (.int .i64 p4))), .v (.c (.d (.int .i64 p5)))]
theorem b_Q4_Check_0 (p4 : Int) (m0 : List Site) (q1 : Globe) (p5 : Int) : evCode Tryz.prog GT EQT T_Q4_all XT noL 80 (loopB Tryz.prog 45 0) (H_Q4_Check_0 p4 m0 q1 p5) [.arr none .site m0, .rw 23 [.int .i64 q1.a, .int .i64 q1.b]] 2 (normK 1 [1, 2, 4, 5]) =
    bif decide (p5 < (m0.length : Int)) then (bif (decide ((0 : Int) ≤ p5) && decide (p5 < (m0.length : Int))) then (bif (m_Q4_Valid (m0.getD p5.toNat (ET.z .site))).ok then (bif (!(m_Q4_Valid (m0.getD p5.toNat (ET.z .site))).r0) then some (.st .ret (headT [1, 2, 4, 5] 65 [.v (.c (.aslice 0 none)), .v (.c (.ptr 1 0)), .v (.c (.d (.int .i64 (8 : Int)))), .v (.c (.d (.int .i64 p5)))]) [.arr none .site m0, .rw 23 [.int .i64 q1.a, .int .i64 q1.b]] 2) else some (.st .normal (headT [1, 2, 4, 5] 65 [.v (.c (.aslice 0 none)), .v (.c (.ptr 1 0)), .v (.c (.d (.int .i64 p4))), .v (.c (.d (.int .i64 (w64 (p5 + (1 : Int))))))]) [.arr none .site m0, .rw 23 [.int .i64 q1.a, .int .i64 q1.b]] 2)) else none) else none) else some (.st (.exit 0) (headT [1, 2, 4, 5] 65 [.v (.c (.aslice 0 none)), .v (.c (.ptr 1 0)), .v (.c (.d (.int .i64 p4))), .v (.c (.d (.int .i64 p5)))]) [.arr none .site m0, .rw 23 [.int .i64 q1.a, .int .i64 q1.b]] 2) := by
  kernel_rfl
def o_Q4_Check_0 (p4 : Int) (m0 : List Site) (q1 : Globe) (r : R_Q4_Check_0) : LT := .br (Nat.beq r.k 0) (.st .ret (headT [1, 2, 4, 5] 65 [.v (.c (.aslice 0 none)), .v (.c (.ptr 1 0)), .v (.c (.d (.int .i64 (8 : Int)))), .v (.c (.d (.int .i64 r.p5)))]) [.arr none .site m0, .rw 23 [.int .i64 q1.a, .int .i64 q1.b]] 2) (.br (Nat.beq r.k 1) (.st (.exit 0) (headT [1, 2, 4, 5] 65 [.v (.c (.aslice 0 none)), .v (.c (.ptr 1 0)), .v (.c (.d (.int .i64 p4))), .v (.c (.d (.int .i64 r.p5)))]) [.arr none .site m0, .rw 23 [.int .i64 q1.a, .int .i64 q1.b]] 2) (.no))
theorem r_Q4_Check_0 (p4 : Int) (m0 : List Site) (q1 : Globe) : ∀ (n : Nat) (p5 : Int) (x : Ex) (T' : TS) (M' : List Blk) (N' : Nat), LReach (o_Q4_Check_0 p4 m0 q1 (run_Q4_Check_0 p4 m0 q1 n p5)) x T' M' N' → x ≠ .normal ∧ ∃ j, RoundsN Tryz.prog GT gbT 1 (loopB Tryz.prog 45 0) j (H_Q4_Check_0 p4 m0 q1 p5) [.arr none .site m0, .rw 23 [.int .i64 q1.a, .int .i64 q1.b]] 2 x T' M' N' := by
  have hL : LOKn Tryz.prog GT gbT 1 noL (loopsIn (loopB Tryz.prog 45 0)) := fun _ _ _ _ _ _ _ _ _ h => h.elim
  intro n
  induction n with
  | zero =>
    intro p5 x T' M' N' hr
    exact False.elim (redF (redF hr))
  | succ n ih =>
    intro p5 x T' M' N'
    rw [run_Q4_Check_0]
    exact viaE (b_Q4_Check_0 p4 m0 q1 p5) (condG (o := o_Q4_Check_0 p4 m0 q1) (condG (o := o_Q4_Check_0 p4 m0 q1) (condG (o := o_Q4_Check_0 p4 m0 q1) (condG (o := o_Q4_Check_0 p4 m0 q1) (fun he hr => stopN g_Q4_all hEQT hmT hL he (by simp) (redT hr)) (fun he hr => goN g_Q4_all hEQT hmT hL he (ih (w64 (p5 + (1 : Int))) x T' M' N' hr))) (fun _ hr => False.elim (redF (redF hr)))) (fun _ hr => False.elim (redF (redF hr)))) (fun he hr => stopN g_Q4_all hEQT hmT hL he (by simp) (redT (redF hr))))
def f_Q4_Check_0 : List AV → List Blk → LT := fun vs Ms => match vs, Ms with
  | [.v (.c (.aslice 0 none)), .v (.c (.ptr 1 0)), .v (.c (.d (.int .i64 p4))), .v (.c (.d (.int .i64 p5)))], [.arr none .site m0, .rw 23 [.int .i64 q1_0, .int .i64 q1_1]] => o_Q4_Check_0 p4 m0 (⟨q1_0, q1_1⟩ : Globe) (lp_Q4_Check_0 p4 m0 (⟨q1_0, q1_1⟩ : Globe) p5)
  | _, _ => .no
def L_Q4_Check_0 := LamN 6 65 1 [1, 2, 4, 5] f_Q4_Check_0
theorem k_Q4_Check_0 : LOKbn Tryz.prog GT gbT 1 L_Q4_Check_0 (loopB Tryz.prog 45 0) := by
  refine LOKbn.lamN (by kernel_rfl) fun vs Ms x T' M' N' hr => ?_
  unfold f_Q4_Check_0 at hr
  split at hr
  · obtain ⟨q1, j, q2⟩ := r_Q4_Check_0 _ _ _ _ _ x T' M' N' hr
    exact ⟨q1, j, q2⟩
  · exact hr.elim
structure R_Q4_Check_2 where
  k : Nat
  p8 : Int
def run_Q4_Check_2 (p4 : Int) (p7 : Int) (m0 : List Site) (m1 : List Vec) : Nat → Int → R_Q4_Check_2
  | 0, p8 => ⟨2, p8⟩
  | n + 1, p8 => bif decide (p8 < p7) then (bif (decide ((0 : Int) ≤ p7) && decide (p7 < (m0.length : Int))) then (bif (decide ((0 : Int) ≤ p8) && decide (p8 < (m0.length : Int))) then (bif (((m0.getD p7.toNat (ET.z .site)).name).data.toList == ((m0.getD p8.toNat (ET.z .site)).name).data.toList) then ⟨0, p8⟩ else (bif (decide ((0 : Int) ≤ p7) && decide (p7 < (m1.length : Int))) then (bif (decide ((0 : Int) ≤ p8) && decide (p8 < (m1.length : Int))) then (bif eqAll [.int .i64 (((m1.getD p7.toNat (ET.z .vec)).x).num), .int .i64 (((m1.getD p7.toNat (ET.z .vec)).x).den), .int .i64 (((m1.getD p7.toNat (ET.z .vec)).y).num), .int .i64 (((m1.getD p7.toNat (ET.z .vec)).y).den), .int .i64 (((m1.getD p7.toNat (ET.z .vec)).z).num), .int .i64 (((m1.getD p7.toNat (ET.z .vec)).z).den)] [.int .i64 (((m1.getD p8.toNat (ET.z .vec)).x).num), .int .i64 (((m1.getD p8.toNat (ET.z .vec)).x).den), .int .i64 (((m1.getD p8.toNat (ET.z .vec)).y).num), .int .i64 (((m1.getD p8.toNat (ET.z .vec)).y).den), .int .i64 (((m1.getD p8.toNat (ET.z .vec)).z).num), .int .i64 (((m1.getD p8.toNat (ET.z .vec)).z).den)] then ⟨0, p8⟩ else run_Q4_Check_2 p4 p7 m0 m1 n (w64 (p8 + (1 : Int)))) else ⟨2, p8⟩) else ⟨2, p8⟩)) else ⟨2, p8⟩) else ⟨2, p8⟩) else ⟨1, p8⟩
def lp_Q4_Check_2 (p4 : Int) (p7 : Int) (m0 : List Site) (m1 : List Vec) (p8 : Int) : R_Q4_Check_2 := run_Q4_Check_2 p4 p7 m0 m1 (2000 + (m0.length + m1.length)) p8
abbrev H_Q4_Check_2 (p4 : Int) (p7 : Int) (_m0 : List Site) (_m1 : List Vec) (p8 : Int) : TS := headT [1, 4, 6, 7, 8] 65 [.v (.c (.aslice 0 none)), .v (.c (.d (.int .i64 p4))), .v (.c (.aslice 1 none)), .v (.c (.d (.int .i64 p7))), .v (.c (.d (.int .i64 p8)))]
theorem b_Q4_Check_2 (p4 : Int) (p7 : Int) (m0 : List Site) (m1 : List Vec) (p8 : Int) : evCode Tryz.prog GT EQT T_Q4_all XT noL 80 (loopB Tryz.prog 45 2) (H_Q4_Check_2 p4 p7 m0 m1 p8) [.arr none .site m0, .arr (some 71) .vec m1] 2 (normK 1 [1, 4, 6, 7, 8]) =
    bif decide (p8 < p7) then (bif (decide ((0 : Int) ≤ p7) && decide (p7 < (m0.length : Int))) then (bif (decide ((0 : Int) ≤ p8) && decide (p8 < (m0.length : Int))) then (bif (((m0.getD p7.toNat (ET.z .site)).name).data.toList == ((m0.getD p8.toNat (ET.z .site)).name).data.toList) then some (.st .ret (headT [1, 4, 6, 7, 8] 65 [.v (.c (.aslice 0 none)), .v (.c (.d (.int .i64 (14 : Int)))), .v (.c (.aslice 1 none)), .v (.c (.d (.int .i64 p7))), .v (.c (.d (.int .i64 p8)))]) [.arr none .site m0, .arr (some 71) .vec m1] 2) else (bif (decide ((0 : Int) ≤ p7) && decide (p7 < (m1.length : Int))) then (bif (decide ((0 : Int) ≤ p8) && decide (p8 < (m1.length : Int))) then (bif eqAll [.int .i64 (((m1.getD p7.toNat (ET.z .vec)).x).num), .int .i64 (((m1.getD p7.toNat (ET.z .vec)).x).den), .int .i64 (((m1.getD p7.toNat (ET.z .vec)).y).num), .int .i64 (((m1.getD p7.toNat (ET.z .vec)).y).den), .int .i64 (((m1.getD p7.toNat (ET.z .vec)).z).num), .int .i64 (((m1.getD p7.toNat (ET.z .vec)).z).den)] [.int .i64 (((m1.getD p8.toNat (ET.z .vec)).x).num), .int .i64 (((m1.getD p8.toNat (ET.z .vec)).x).den), .int .i64 (((m1.getD p8.toNat (ET.z .vec)).y).num), .int .i64 (((m1.getD p8.toNat (ET.z .vec)).y).den), .int .i64 (((m1.getD p8.toNat (ET.z .vec)).z).num), .int .i64 (((m1.getD p8.toNat (ET.z .vec)).z).den)] then some (.st .ret (headT [1, 4, 6, 7, 8] 65 [.v (.c (.aslice 0 none)), .v (.c (.d (.int .i64 (14 : Int)))), .v (.c (.aslice 1 none)), .v (.c (.d (.int .i64 p7))), .v (.c (.d (.int .i64 p8)))]) [.arr none .site m0, .arr (some 71) .vec m1] 2) else some (.st .normal (headT [1, 4, 6, 7, 8] 65 [.v (.c (.aslice 0 none)), .v (.c (.d (.int .i64 p4))), .v (.c (.aslice 1 none)), .v (.c (.d (.int .i64 p7))), .v (.c (.d (.int .i64 (w64 (p8 + (1 : Int))))))]) [.arr none .site m0, .arr (some 71) .vec m1] 2)) else none) else none)) else none) else none) else some (.st (.exit 4) (headT [1, 4, 6, 7, 8] 65 [.v (.c (.aslice 0 none)), .v (.c (.d (.int .i64 p4))), .v (.c (.aslice 1 none)), .v (.c (.d (.int .i64 p7))), .v (.c (.d (.int .i64 p8)))]) [.arr none .site m0, .arr (some 71) .vec m1] 2) := by
  kernel_rfl
def o_Q4_Check_2 (p4 : Int) (p7 : Int) (m0 : List Site) (m1 : List Vec) (r : R_Q4_Check_2) : LT := .br (Nat.beq r.k 0) (.st .ret (headT [1, 4, 6, 7, 8] 65 [.v (.c (.aslice 0 none)), .v (.c (.d (.int .i64 (14 : Int)))), .v (.c (.aslice 1 none)), .v (.c (.d (.int .i64 p7))), .v (.c (.d (.int .i64 r.p8)))]) [.arr none .site m0, .arr (some 71) .vec m1] 2) (.br (Nat.beq r.k 1) (.st (.exit 4) (headT [1, 4, 6, 7, 8] 65 [.v (.c (.aslice 0 none)), .v (.c (.d (.int .i64 p4))), .v (.c (.aslice 1 none)), .v (.c (.d (.int .i64 p7))), .v (.c (.d (.int .i64 r.p8)))]) [.arr none .site m0, .arr (some 71) .vec m1] 2) (.no))
theorem r_Q4_Check_2 (p4 : Int) (p7 : Int) (m0 : List Site) (m1 : List Vec) : ∀ (n : Nat) (p8 : Int) (x : Ex) (T' : TS) (M' : List Blk) (N' : Nat), LReach (o_Q4_Check_2 p4 p7 m0 m1 (run_Q4_Check_2 p4 p7 m0 m1 n p8)) x T' M' N' → x ≠ .normal ∧ ∃ j, RoundsN Tryz.prog GT gbT 1 (loopB Tryz.prog 45 2) j (H_Q4_Check_2 p4 p7 m0 m1 p8) [.arr none .site m0, .arr (some 71) .vec m1] 2 x T' M' N' := by
  have hL : LOKn Tryz.prog GT gbT 1 noL (loopsIn (loopB Tryz.prog 45 2)) := fun _ _ _ _ _ _ _ _ _ h => h.elim
  intro n
  induction n with
  | zero =>
    intro p8 x T' M' N' hr
    exact False.elim (redF (redF hr))
  | succ n ih =>
    intro p8 x T' M' N'
    rw [run_Q4_Check_2]
    exact viaE (b_Q4_Check_2 p4 p7 m0 m1 p8) (condG (o := o_Q4_Check_2 p4 p7 m0 m1) (condG (o := o_Q4_Check_2 p4 p7 m0 m1) (condG (o := o_Q4_Check_2 p4 p7 m0 m1) (condG (o := o_Q4_Check_2 p4 p7 m0 m1) (fun he hr => stopN g_Q4_all hEQT hmT hL he (by simp) (redT hr)) (condG (o := o_Q4_Check_2 p4 p7 m0 m1) (condG (o := o_Q4_Check_2 p4 p7 m0 m1) (condG (o := o_Q4_Check_2 p4 p7 m0 m1) (fun he hr => stopN g_Q4_all hEQT hmT hL he (by simp) (redT hr)) (fun he hr => goN g_Q4_all hEQT hmT hL he (ih (w64 (p8 + (1 : Int))) x T' M' N' hr))) (fun _ hr => False.elim (redF (redF hr)))) (fun _ hr => False.elim (redF (redF hr))))) (fun _ hr => False.elim (redF (redF hr)))) (fun _ hr => False.elim (redF (redF hr)))) (fun he hr => stopN g_Q4_all hEQT hmT hL he (by simp) (redT (redF hr))))
def f_Q4_Check_2 : List AV → List Blk → LT := fun vs Ms => match vs, Ms with
  | [.v (.c (.aslice 0 none)), .v (.c (.d (.int .i64 p4))), .v (.c (.aslice 1 none)), .v (.c (.d (.int .i64 p7))), .v (.c (.d (.int .i64 p8)))], [.arr none .site m0, .arr (some 71) .vec m1] => o_Q4_Check_2 p4 p7 m0 m1 (lp_Q4_Check_2 p4 p7 m0 m1 p8)
  | _, _ => .no
def L_Q4_Check_2 := LamN 15 65 1 [1, 4, 6, 7, 8] f_Q4_Check_2
theorem k_Q4_Check_2 : LOKbn Tryz.prog GT gbT 1 L_Q4_Check_2 (loopB Tryz.prog 45 2) := by
  refine LOKbn.lamN (by kernel_rfl) fun vs Ms x T' M' N' hr => ?_
  unfold f_Q4_Check_2 at hr
  split at hr
  · obtain ⟨q1, j, q2⟩ := r_Q4_Check_2 _ _ _ _ _ _ x T' M' N' hr
    exact ⟨q1, j, q2⟩
  · exact hr.elim
structure R_Q4_Check_1 where
  k : Nat
  p7 : Int
def run_Q4_Check_1 (p4 : Int) (m0 : List Site) (m1 : List Vec) : Nat → Int → R_Q4_Check_1
  | 0, p7 => ⟨2, p7⟩
  | n + 1, p7 => bif decide (p7 < (m0.length : Int)) then (bif Nat.beq (lp_Q4_Check_2 p4 p7 m0 m1 (0 : Int)).k 0 then ⟨0, p7⟩ else (bif Nat.beq (lp_Q4_Check_2 p4 p7 m0 m1 (0 : Int)).k 1 then run_Q4_Check_1 p4 m0 m1 n (w64 (p7 + (1 : Int))) else ⟨2, p7⟩)) else ⟨1, p7⟩
def lp_Q4_Check_1 (p4 : Int) (m0 : List Site) (m1 : List Vec) (p7 : Int) : R_Q4_Check_1 := run_Q4_Check_1 p4 m0 m1 (2000 + (m0.length + m1.length)) p7
abbrev H_Q4_Check_1 (p4 : Int) (_m0 : List Site) (_m1 : List Vec) (p7 : Int) : TS := headT [1, 4, 6, 7] 65 [.v (.c (.aslice 0 none)), .v (.c (.d (.int .i64 p4))), .v (.c (.aslice 1 none)), .v (.c (.d (.int .i64 p7)))]
theorem b_Q4_Check_1 (p4 : Int) (m0 : List Site) (m1 : List Vec) (p7 : Int) : evCode Tryz.prog GT EQT T_Q4_all XT (orL L_Q4_Check_2 noL) 80 (loopB Tryz.prog 45 1) (H_Q4_Check_1 p4 m0 m1 p7) [.arr none .site m0, .arr (some 71) .vec m1] 2 (normK 1 [1, 4, 6, 7]) =
    bif decide (p7 < (m0.length : Int)) then (bif Nat.beq (lp_Q4_Check_2 p4 p7 m0 m1 (0 : Int)).k 0 then some (.st .ret (headT [1, 4, 6, 7] 65 [.v (.c (.aslice 0 none)), .v (.c (.d (.int .i64 (14 : Int)))), .v (.c (.aslice 1 none)), .v (.c (.d (.int .i64 p7)))]) [.arr none .site m0, .arr (some 71) .vec m1] 2) else (bif Nat.beq (lp_Q4_Check_2 p4 p7 m0 m1 (0 : Int)).k 1 then some (.st .normal (headT [1, 4, 6, 7] 65 [.v (.c (.aslice 0 none)), .v (.c (.d (.int .i64 p4))), .v (.c (.aslice 1 none)), .v (.c (.d (.int .i64 (w64 (p7 + (1 : Int))))))]) [.arr none .site m0, .arr (some 71) .vec m1] 2) else none)) else some (.st (.exit 2) (headT [1, 4, 6, 7] 65 [.v (.c (.aslice 0 none)), .v (.c (.d (.int .i64 p4))), .v (.c (.aslice 1 none)), .v (.c (.d (.int .i64 p7)))]) [.arr none .site m0, .arr (some 71) .vec m1] 2) := by
  kernel_rfl
def o_Q4_Check_1 (p4 : Int) (m0 : List Site) (m1 : List Vec) (r : R_Q4_Check_1) : LT := .br (Nat.beq r.k 0) (.st .ret (headT [1, 4, 6, 7] 65 [.v (.c (.aslice 0 none)), .v (.c (.d (.int .i64 (14 : Int)))), .v (.c (.aslice 1 none)), .v (.c (.d (.int .i64 r.p7)))]) [.arr none .site m0, .arr (some 71) .vec m1] 2) (.br (Nat.beq r.k 1) (.st (.exit 2) (headT [1, 4, 6, 7] 65 [.v (.c (.aslice 0 none)), .v (.c (.d (.int .i64 p4))), .v (.c (.aslice 1 none)), .v (.c (.d (.int .i64 r.p7)))]) [.arr none .site m0, .arr (some 71) .vec m1] 2) (.no))
theorem r_Q4_Check_1 (p4 : Int) (m0 : List Site) (m1 : List Vec) : ∀ (n : Nat) (p7 : Int) (x : Ex) (T' : TS) (M' : List Blk) (N' : Nat), LReach (o_Q4_Check_1 p4 m0 m1 (run_Q4_Check_1 p4 m0 m1 n p7)) x T' M' N' → x ≠ .normal ∧ ∃ j, RoundsN Tryz.prog GT gbT 1 (loopB Tryz.prog 45 1) j (H_Q4_Check_1 p4 m0 m1 p7) [.arr none .site m0, .arr (some 71) .vec m1] 2 x T' M' N' := by
  have hL : LOKn Tryz.prog GT gbT 1 (orL L_Q4_Check_2 noL) (loopsIn (loopB Tryz.prog 45 1)) := by
    intro b hb
    have e : loopsIn (loopB Tryz.prog 45 1) = [loopB Tryz.prog 45 2] := by kernel_rfl
    rw [e] at hb
    simp only [List.mem_cons, List.not_mem_nil, or_false] at hb
    subst hb
    exact (LOKbn.or k_Q4_Check_2 (fun _ _ _ _ _ _ _ h => h.elim))
  intro n
  induction n with
  | zero =>
    intro p7 x T' M' N' hr
    exact False.elim (redF (redF hr))
  | succ n ih =>
    intro p7 x T' M' N'
    rw [run_Q4_Check_1]
    exact viaE (b_Q4_Check_1 p4 m0 m1 p7) (condG (o := o_Q4_Check_1 p4 m0 m1) (condG (o := o_Q4_Check_1 p4 m0 m1) (fun he hr => stopN g_Q4_all hEQT hmT hL he (by simp) (redT hr)) (condG (o := o_Q4_Check_1 p4 m0 m1) (fun he hr => goN g_Q4_all hEQT hmT hL he (ih (w64 (p7 + (1 : Int))) x T' M' N' hr)) (fun _ hr => False.elim (redF (redF hr))))) (fun he hr => stopN g_Q4_all hEQT hmT hL he (by simp) (redT (redF hr))))
def f_Q4_Check_1 : List AV → List Blk → LT := fun vs Ms => match vs, Ms with
  | [.v (.c (.aslice 0 none)), .v (.c (.d (.int .i64 p4))), .v (.c (.aslice 1 none)), .v (.c (.d (.int .i64 p7)))], [.arr none .site m0, .arr (some 71) .vec m1] => o_Q4_Check_1 p4 m0 m1 (lp_Q4_Check_1 p4 m0 m1 p7)
  | _, _ => .no
def L_Q4_Check_1 := LamN 12 65 1 [1, 4, 6, 7] f_Q4_Check_1
theorem k_Q4_Check_1 : LOKbn Tryz.prog GT gbT 1 L_Q4_Check_1 (loopB Tryz.prog 45 1) := by
  refine LOKbn.lamN (by kernel_rfl) fun vs Ms x T' M' N' hr => ?_
  unfold f_Q4_Check_1 at hr
  split at hr
  · obtain ⟨q1, j, q2⟩ := r_Q4_Check_1 _ _ _ _ _ x T' M' N' hr
    exact ⟨q1, j, q2⟩
  · exact hr.elim
structure O_Q4_Check where
  ok : Bool
  r0 : Int
def m_Q4_Check (a0 : Globe) (a1 : List Site) : O_Q4_Check := bif ((checkG a0) != (0 : Int)) then ⟨true, (checkG a0)⟩ else (bif decide ((8 : Int) < (a1.length : Int)) then ⟨true, (4 : Int)⟩ else (bif Nat.beq (lp_Q4_Check_0 (0 : Int) a1 a0 (0 : Int)).k 0 then ⟨true, (8 : Int)⟩ else (bif Nat.beq (lp_Q4_Check_0 (0 : Int) a1 a0 (0 : Int)).k 1 then (bif (m_Q4_all a0 a1).ok then (bif Nat.beq (lp_Q4_Check_1 (0 : Int) a1 ((m_Q4_all a0 a1).r0) (0 : Int)).k 0 then ⟨true, (14 : Int)⟩ else (bif Nat.beq (lp_Q4_Check_1 (0 : Int) a1 ((m_Q4_all a0 a1).r0) (0 : Int)).k 1 then ⟨true, (0 : Int)⟩ else ⟨false, 0⟩)) else ⟨false, 0⟩) else ⟨false, 0⟩)))
def F_Q4_Check (_a0 : Globe) (a1 : List Site) (K : AV → List Blk → Ans) (r : O_Q4_Check) : Ans := bif r.ok then K (.v (.c (.d (.int .i64 r.r0)))) [.arr none .site a1] else none
theorem e_Q4_Check (a0 : Globe) (a1 : List Site) (K : AV → List Blk → Ans) : evFn Tryz.prog GT EQT T_Q4_all XT (orL L_Q4_Check_1 (orL L_Q4_Check_2 (orL L_Q4_Check_0 noL))) 80 45 [.v (.agg [.int .i64 a0.a, .int .i64 a0.b]), .v (.c (.aslice 0 none))] [.arr none .site a1] (fun v M => K (finR 1 v M).1 (finR 1 v M).2) = F_Q4_Check a0 a1 K (m_Q4_Check a0 a1) := by
  unfold m_Q4_Check
  refine Eq.trans ?_ (Eq.symm (pushT rfl (pushT rfl (pushT rfl (pushT (pushT (pushT rfl (pushT rfl rfl)) rfl) rfl)))))
  kernel_rfl
theorem lok_Q4_Check : ∀ fn c, Tryz.prog.funcs[45]? = some fn → fn.body = some c → LOKn Tryz.prog GT gbT 1 (orL L_Q4_Check_1 (orL L_Q4_Check_2 (orL L_Q4_Check_0 noL))) (loopsIn c) := by
  refine LOKn.ofF fun b hb => ?_
  have e : loopsF Tryz.prog 45 = [loopB Tryz.prog 45 0, loopB Tryz.prog 45 1, loopB Tryz.prog 45 2] := by kernel_rfl
  rw [e] at hb
  simp only [List.mem_cons, List.not_mem_nil, or_false] at hb
  rcases hb with rfl | rfl | rfl
  · exact (LOKbn.or (LOKbn.lamN_other (by kernel_rfl)) (LOKbn.or (LOKbn.lamN_other (by kernel_rfl)) (LOKbn.or k_Q4_Check_0 (fun _ _ _ _ _ _ _ h => h.elim))))
  · exact (LOKbn.or k_Q4_Check_1 (LOKbn.or (LOKbn.lamN_other (by kernel_rfl)) (LOKbn.or (LOKbn.lamN_other (by kernel_rfl)) (fun _ _ _ _ _ _ _ h => h.elim))))
  · exact (LOKbn.or (LOKbn.lamN_other (by kernel_rfl)) (LOKbn.or k_Q4_Check_2 (LOKbn.or (LOKbn.lamN_other (by kernel_rfl)) (fun _ _ _ _ _ _ _ h => h.elim))))
theorem c_Q4_Check (a0 : Globe) (a1 : List Site) (hd : (m_Q4_Check a0 a1).ok = true) : CallsA Tryz.prog GT gbT 45 [.v (.agg [.int .i64 a0.a, .int .i64 a0.b]), .v (.c (.aslice 0 none))] [.arr none .site a1] (.v (.c (.d (.int .i64 ((m_Q4_Check a0 a1).r0))))) [.arr none .site a1] := by
  refine CallsA.ofEvR g_Q4_all hEQT hmT (n0 := 1) rfl lok_Q4_Check ((e_Q4_Check a0 a1 (fun v M => some (Res.fin v M))).trans ?_)
  unfold F_Q4_Check
  rw [hd]
  rfl
def s_Q4_Check : List AV → List Blk → (AV → List Blk → Ans) → Ans := fun xs bs K => match xs, bs with
  | [.v (.agg [.int .i64 a0_0, .int .i64 a0_1]), .v (.c (.aslice 0 none))], [.arr none .site a1] => F_Q4_Check (⟨a0_0, a0_1⟩ : Globe) a1 K (m_Q4_Check (⟨a0_0, a0_1⟩ : Globe) a1)
  | _, _ => none
def T_Q4_Check : Nat → List AV → List Blk → (AV → List Blk → Ans) → Ans := upd T_Q4_all 45 s_Q4_Check
theorem g_Q4_Check : GOK Tryz.prog GT gbT T_Q4_Check XT := by
  refine GOK.upd g_Q4_all (fun args w => Tryz.call45 args w) fun xs bs K r h => ?_
  unfold s_Q4_Check at h
  split at h
  · unfold F_Q4_Check at h
    simp only [cond_eq_ite] at h
    split at h
    · rename_i hd
      exact ⟨_, _, c_Q4_Check _ _ hd, h⟩
    · cases h
  · cases h
structure O_Q7_Both where
  ok : Bool
  r0 : Int
def m_Q7_Both (a0 : Globe) (a1 : List Site) (a2 : Source) : O_Q7_Both := bif (m_Q4_Check a0 a1).ok then (bif ((m_Q4_Check a0 a1).r0 != (0 : Int)) then (bif (m_Q4_Check a0 a1).ok then ⟨true, (m_Q4_Check a0 a1).r0⟩ else ⟨false, 0⟩) else ⟨true, (checkSrc ⟨a2.name, a2.ra, a2.dec⟩)⟩) else ⟨false, 0⟩
def F_Q7_Both (_a0 : Globe) (a1 : List Site) (_a2 : Source) (K : AV → List Blk → Ans) (r : O_Q7_Both) : Ans := bif r.ok then K (.v (.c (.d (.int .i64 r.r0)))) [.arr none .site a1] else none
theorem e_Q7_Both (a0 : Globe) (a1 : List Site) (a2 : Source) (K : AV → List Blk → Ans) : evFn Tryz.prog GT EQT T_Q4_Check XT noL 80 26 [.v (.agg [.int .i64 a0.a, .int .i64 a0.b]), .v (.c (.aslice 0 none)), .v (.agg [.str a2.name, .int .i64 a2.ra, .int .i64 a2.dec])] [.arr none .site a1] (fun v M => K (finR 1 v M).1 (finR 1 v M).2) = F_Q7_Both a0 a1 a2 K (m_Q7_Both a0 a1 a2) := by
  unfold m_Q7_Both
  refine Eq.trans ?_ (Eq.symm (pushT (pushT (pushT rfl rfl) rfl) rfl))
  kernel_rfl
theorem c_Q7_Both (a0 : Globe) (a1 : List Site) (a2 : Source) (hd : (m_Q7_Both a0 a1 a2).ok = true) : CallsA Tryz.prog GT gbT 26 [.v (.agg [.int .i64 a0.a, .int .i64 a0.b]), .v (.c (.aslice 0 none)), .v (.agg [.str a2.name, .int .i64 a2.ra, .int .i64 a2.dec])] [.arr none .site a1] (.v (.c (.d (.int .i64 ((m_Q7_Both a0 a1 a2).r0))))) [.arr none .site a1] := by
  refine CallsA.ofEvR g_Q4_Check hEQT hmT (n0 := 1) rfl (fun _ _ _ _ => LOKn.nil) ((e_Q7_Both a0 a1 a2 (fun v M => some (Res.fin v M))).trans ?_)
  unfold F_Q7_Both
  rw [hd]
  rfl
def s_Q7_Both : List AV → List Blk → (AV → List Blk → Ans) → Ans := fun xs bs K => match xs, bs with
  | [.v (.agg [.int .i64 a0_0, .int .i64 a0_1]), .v (.c (.aslice 0 none)), .v (.agg [.str a2_0, .int .i64 a2_1, .int .i64 a2_2])], [.arr none .site a1] => F_Q7_Both (⟨a0_0, a0_1⟩ : Globe) a1 (⟨a2_0, a2_1, a2_2⟩ : Source) K (m_Q7_Both (⟨a0_0, a0_1⟩ : Globe) a1 (⟨a2_0, a2_1, a2_2⟩ : Source))
  | _, _ => none
def T_Q7_Both : Nat → List AV → List Blk → (AV → List Blk → Ans) → Ans := upd T_Q4_Check 26 s_Q7_Both
theorem g_Q7_Both : GOK Tryz.prog GT gbT T_Q7_Both XT := by
  refine GOK.upd g_Q4_Check (fun args w => Tryz.call26 args w) fun xs bs K r h => ?_
  unfold s_Q7_Both at h
  split at h
  · unfold F_Q7_Both at h
    simp only [cond_eq_ite] at h
    split at h
    · rename_i hd
      exact ⟨_, _, c_Q7_Both _ _ _ hd, h⟩
    · cases h
  · cases h
structure O_Q7_Limit where
  ok : Bool
  r0 : Bool
def m_Q7_Limit (a0 : Frac) : O_Q7_Limit := bif ((checkF ⟨a0.num, a0.den⟩) == (0 : Int)) then (bif decide (a0.den ≤ (1000 : Int)) then (bif decide ((0 : Int) ≤ a0.num) then ⟨true, decide (a0.num ≤ a0.den)⟩ else ⟨true, false⟩) else ⟨true, false⟩) else ⟨true, false⟩
def F_Q7_Limit (_a0 : Frac) (K : AV → List Blk → Ans) (r : O_Q7_Limit) : Ans := bif r.ok then K (.v (.c (.d (.bool r.r0)))) [] else none
theorem e_Q7_Limit (a0 : Frac) (K : AV → List Blk → Ans) : evFn Tryz.prog GT EQT T_Q7_Both XT noL 80 24 [.v (.agg [.int .i64 a0.num, .int .i64 a0.den])] [] (fun v M => K (finR 0 v M).1 (finR 0 v M).2) = F_Q7_Limit a0 K (m_Q7_Limit a0) := by
  unfold m_Q7_Limit
  refine Eq.trans ?_ (Eq.symm (pushT (pushT (pushT rfl rfl) rfl) rfl))
  kernel_rfl
theorem c_Q7_Limit (a0 : Frac) (hd : (m_Q7_Limit a0).ok = true) : CallsA Tryz.prog GT gbT 24 [.v (.agg [.int .i64 a0.num, .int .i64 a0.den])] [] (.v (.c (.d (.bool ((m_Q7_Limit a0).r0))))) [] := by
  refine CallsA.ofEvR g_Q7_Both hEQT hmT (n0 := 0) rfl (fun _ _ _ _ => LOKn.nil) ((e_Q7_Limit a0 (fun v M => some (Res.fin v M))).trans ?_)
  unfold F_Q7_Limit
  rw [hd]
  rfl
def s_Q7_Limit : List AV → List Blk → (AV → List Blk → Ans) → Ans := fun xs bs K => match xs, bs with
  | [.v (.agg [.int .i64 a0_0, .int .i64 a0_1])], [] => F_Q7_Limit (⟨a0_0, a0_1⟩ : Frac) K (m_Q7_Limit (⟨a0_0, a0_1⟩ : Frac))
  | _, _ => none
def T_Q7_Limit : Nat → List AV → List Blk → (AV → List Blk → Ans) → Ans := upd T_Q7_Both 24 s_Q7_Limit
theorem g_Q7_Limit : GOK Tryz.prog GT gbT T_Q7_Limit XT := by
  refine GOK.upd g_Q7_Both (fun args w => Tryz.call24 args w) fun xs bs K r h => ?_
  unfold s_Q7_Limit at h
  split at h
  · unfold F_Q7_Limit at h
    simp only [cond_eq_ite] at h
    split at h
    · rename_i hd
      exact ⟨_, _, c_Q7_Limit _ hd, h⟩
    · cases h
  · cases h
end Go.Ev

