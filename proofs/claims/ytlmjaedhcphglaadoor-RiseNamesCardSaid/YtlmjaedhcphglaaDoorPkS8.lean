/-
  Plain functions that mirror functions of the program, and that it computes them. No condition beyond those of the statements.
  What a listed variable that is a fraction reads as: its two cells. No condition.
-/
import Derived.Test.YtlmjaedhcphglaaDoorPkS7
import Derived.ChangeSame
import Derived.ChangeArms
import Derived.FnData
import Derived.MakeChecks
import GoSem.ClaimJoined
set_option maxRecDepth 100000
namespace Go.Ev
open Go Go.Proofs
structure R_rise_upForAll_0 where
  k : Nat
  p25 : Int
def run_rise_upForAll_0 (p6 : Bool) (p7 : Int) (p24 : Int) (m0 : List View) (q1 : Dir) : Nat → Int → R_rise_upForAll_0
  | 0, p25 => ⟨3, p25⟩
  | n + 1, p25 => bif decide (p25 < p24) then (bif (decide ((0 : Int) ≤ p25) && decide (p25 < (m0.length : Int))) then (bif (m__rise_view__state (m0.getD p25.toNat (ET.z .view)) q1).ok then (bif ((m__rise_view__state (m0.getD p25.toNat (ET.z .view)) q1).r1 != (0 : Int)) then ⟨0, p25⟩ else (bif ((m__rise_view__state (m0.getD p25.toNat (ET.z .view)) q1).r0 != (1 : Int)) then ⟨1, p25⟩ else run_rise_upForAll_0 p6 p7 p24 m0 q1 n (w64 (p25 + (1 : Int))))) else ⟨3, p25⟩) else ⟨3, p25⟩) else ⟨2, p25⟩
def lp_rise_upForAll_0 (p6 : Bool) (p7 : Int) (p24 : Int) (m0 : List View) (q1 : Dir) (p25 : Int) : R_rise_upForAll_0 := run_rise_upForAll_0 p6 p7 p24 m0 q1 (2000 + (m0.length)) p25
abbrev H_rise_upForAll_0 (p6 : Bool) (p7 : Int) (p24 : Int) (_m0 : List View) (_q1 : Dir) (p25 : Int) : TS := headT [6, 7, 8, 23, 24, 25] 41 [.v (.c (.d (.bool p6))), .v (.c (.d (.int .i64 p7))), .v (.c (.ptr 1 0)), .v (.c (.aslice 0 none)), .v (.c (.d (.int .i64 p24))), .v (.c (.d (.int .i64 p25)))]
theorem b_rise_upForAll_0 (p6 : Bool) (p7 : Int) (p24 : Int) (m0 : List View) (q1 : Dir) (p25 : Int) : evCode Tryd.prog GT EQT T__rise_view__state XT noL 80 (loopB Tryd.prog 19 0) (H_rise_upForAll_0 p6 p7 p24 m0 q1 p25) [.arr none .view m0, .rw 54 [.int .i64 q1.x.lo, .int .i64 q1.x.hi, .int .i64 q1.y.lo, .int .i64 q1.y.hi, .int .i64 q1.z.lo, .int .i64 q1.z.hi]] 2 (normK 1 [6, 7, 8, 23, 24, 25]) =
    bif decide (p25 < p24) then (bif (decide ((0 : Int) ≤ p25) && decide (p25 < (m0.length : Int))) then (bif (m__rise_view__state (m0.getD p25.toNat (ET.z .view)) q1).ok then (bif ((m__rise_view__state (m0.getD p25.toNat (ET.z .view)) q1).r1 != (0 : Int)) then some (.st .ret (headT [6, 7, 8, 23, 24, 25] 41 [.v (.c (.d (.bool false))), .v (.c (.d (.int .i64 ((m__rise_view__state (m0.getD p25.toNat (ET.z .view)) q1).r1)))), .v (.c (.ptr 1 0)), .v (.c (.aslice 0 none)), .v (.c (.d (.int .i64 p24))), .v (.c (.d (.int .i64 p25)))]) [.arr none .view m0, .rw 54 [.int .i64 q1.x.lo, .int .i64 q1.x.hi, .int .i64 q1.y.lo, .int .i64 q1.y.hi, .int .i64 q1.z.lo, .int .i64 q1.z.hi]] 2) else (bif ((m__rise_view__state (m0.getD p25.toNat (ET.z .view)) q1).r0 != (1 : Int)) then some (.st .ret (headT [6, 7, 8, 23, 24, 25] 41 [.v (.c (.d (.bool false))), .v (.c (.d (.int .i64 (0 : Int)))), .v (.c (.ptr 1 0)), .v (.c (.aslice 0 none)), .v (.c (.d (.int .i64 p24))), .v (.c (.d (.int .i64 p25)))]) [.arr none .view m0, .rw 54 [.int .i64 q1.x.lo, .int .i64 q1.x.hi, .int .i64 q1.y.lo, .int .i64 q1.y.hi, .int .i64 q1.z.lo, .int .i64 q1.z.hi]] 2) else some (.st .normal (headT [6, 7, 8, 23, 24, 25] 41 [.v (.c (.d (.bool p6))), .v (.c (.d (.int .i64 p7))), .v (.c (.ptr 1 0)), .v (.c (.aslice 0 none)), .v (.c (.d (.int .i64 p24))), .v (.c (.d (.int .i64 (w64 (p25 + (1 : Int))))))]) [.arr none .view m0, .rw 54 [.int .i64 q1.x.lo, .int .i64 q1.x.hi, .int .i64 q1.y.lo, .int .i64 q1.y.hi, .int .i64 q1.z.lo, .int .i64 q1.z.hi]] 2))) else none) else none) else some (.st (.exit 0) (headT [6, 7, 8, 23, 24, 25] 41 [.v (.c (.d (.bool p6))), .v (.c (.d (.int .i64 p7))), .v (.c (.ptr 1 0)), .v (.c (.aslice 0 none)), .v (.c (.d (.int .i64 p24))), .v (.c (.d (.int .i64 p25)))]) [.arr none .view m0, .rw 54 [.int .i64 q1.x.lo, .int .i64 q1.x.hi, .int .i64 q1.y.lo, .int .i64 q1.y.hi, .int .i64 q1.z.lo, .int .i64 q1.z.hi]] 2) := by
  kernel_rfl
def o_rise_upForAll_0 (p6 : Bool) (p7 : Int) (p24 : Int) (m0 : List View) (q1 : Dir) (r : R_rise_upForAll_0) : LT := .br (Nat.beq r.k 0) (.st .ret (headT [6, 7, 8, 23, 24, 25] 41 [.v (.c (.d (.bool false))), .v (.c (.d (.int .i64 ((m__rise_view__state (m0.getD r.p25.toNat (ET.z .view)) q1).r1)))), .v (.c (.ptr 1 0)), .v (.c (.aslice 0 none)), .v (.c (.d (.int .i64 p24))), .v (.c (.d (.int .i64 r.p25)))]) [.arr none .view m0, .rw 54 [.int .i64 q1.x.lo, .int .i64 q1.x.hi, .int .i64 q1.y.lo, .int .i64 q1.y.hi, .int .i64 q1.z.lo, .int .i64 q1.z.hi]] 2) (.br (Nat.beq r.k 1) (.st .ret (headT [6, 7, 8, 23, 24, 25] 41 [.v (.c (.d (.bool false))), .v (.c (.d (.int .i64 (0 : Int)))), .v (.c (.ptr 1 0)), .v (.c (.aslice 0 none)), .v (.c (.d (.int .i64 p24))), .v (.c (.d (.int .i64 r.p25)))]) [.arr none .view m0, .rw 54 [.int .i64 q1.x.lo, .int .i64 q1.x.hi, .int .i64 q1.y.lo, .int .i64 q1.y.hi, .int .i64 q1.z.lo, .int .i64 q1.z.hi]] 2) (.br (Nat.beq r.k 2) (.st (.exit 0) (headT [6, 7, 8, 23, 24, 25] 41 [.v (.c (.d (.bool p6))), .v (.c (.d (.int .i64 p7))), .v (.c (.ptr 1 0)), .v (.c (.aslice 0 none)), .v (.c (.d (.int .i64 p24))), .v (.c (.d (.int .i64 r.p25)))]) [.arr none .view m0, .rw 54 [.int .i64 q1.x.lo, .int .i64 q1.x.hi, .int .i64 q1.y.lo, .int .i64 q1.y.hi, .int .i64 q1.z.lo, .int .i64 q1.z.hi]] 2) (.no)))
theorem r_rise_upForAll_0 (p6 : Bool) (p7 : Int) (p24 : Int) (m0 : List View) (q1 : Dir) : ∀ (n : Nat) (p25 : Int) (x : Ex) (T' : TS) (M' : List Blk) (N' : Nat), LReach (o_rise_upForAll_0 p6 p7 p24 m0 q1 (run_rise_upForAll_0 p6 p7 p24 m0 q1 n p25)) x T' M' N' → x ≠ .normal ∧ ∃ j, RoundsN Tryd.prog GT gbT 1 (loopB Tryd.prog 19 0) j (H_rise_upForAll_0 p6 p7 p24 m0 q1 p25) [.arr none .view m0, .rw 54 [.int .i64 q1.x.lo, .int .i64 q1.x.hi, .int .i64 q1.y.lo, .int .i64 q1.y.hi, .int .i64 q1.z.lo, .int .i64 q1.z.hi]] 2 x T' M' N' := by
  have hL : LOKn Tryd.prog GT gbT 1 noL (loopsIn (loopB Tryd.prog 19 0)) := fun _ _ _ _ _ _ _ _ _ h => h.elim
  intro n
  induction n with
  | zero =>
    intro p25 x T' M' N' hr
    exact False.elim (redF (redF (redF hr)))
  | succ n ih =>
    intro p25 x T' M' N'
    rw [run_rise_upForAll_0]
    exact viaE (b_rise_upForAll_0 p6 p7 p24 m0 q1 p25) (condG (o := o_rise_upForAll_0 p6 p7 p24 m0 q1) (condG (o := o_rise_upForAll_0 p6 p7 p24 m0 q1) (condG (o := o_rise_upForAll_0 p6 p7 p24 m0 q1) (condG (o := o_rise_upForAll_0 p6 p7 p24 m0 q1) (fun he hr => stopN g__rise_view__state hEQT hmT hL he (by simp) (redT hr)) (condG (o := o_rise_upForAll_0 p6 p7 p24 m0 q1) (fun he hr => stopN g__rise_view__state hEQT hmT hL he (by simp) (redT (redF hr))) (fun he hr => goN g__rise_view__state hEQT hmT hL he (ih (w64 (p25 + (1 : Int))) x T' M' N' hr)))) (fun _ hr => False.elim (redF (redF (redF hr))))) (fun _ hr => False.elim (redF (redF (redF hr))))) (fun he hr => stopN g__rise_view__state hEQT hmT hL he (by simp) (redT (redF (redF hr)))))
def f_rise_upForAll_0 : List AV → List Blk → LT := fun vs Ms => match vs, Ms with
  | [.v (.c (.d (.bool p6))), .v (.c (.d (.int .i64 p7))), .v (.c (.ptr 1 0)), .v (.c (.aslice 0 none)), .v (.c (.d (.int .i64 p24))), .v (.c (.d (.int .i64 p25)))], [.arr none .view m0, .rw 54 [.int .i64 q1_0, .int .i64 q1_1, .int .i64 q1_2, .int .i64 q1_3, .int .i64 q1_4, .int .i64 q1_5]] => o_rise_upForAll_0 p6 p7 p24 m0 (⟨⟨q1_0, q1_1⟩, ⟨q1_2, q1_3⟩, ⟨q1_4, q1_5⟩⟩ : Dir) (lp_rise_upForAll_0 p6 p7 p24 m0 (⟨⟨q1_0, q1_1⟩, ⟨q1_2, q1_3⟩, ⟨q1_4, q1_5⟩⟩ : Dir) p25)
  | _, _ => .no
def L_rise_upForAll_0 := LamN 5 41 1 [6, 7, 8, 23, 24, 25] f_rise_upForAll_0
theorem k_rise_upForAll_0 : LOKbn Tryd.prog GT gbT 1 L_rise_upForAll_0 (loopB Tryd.prog 19 0) := by
  refine LOKbn.lamN (by kernel_rfl) fun vs Ms x T' M' N' hr => ?_
  unfold f_rise_upForAll_0 at hr
  split at hr
  · obtain ⟨q1, j, q2⟩ := r_rise_upForAll_0 _ _ _ _ _ _ _ x T' M' N' hr
    exact ⟨q1, j, q2⟩
  · exact hr.elim
structure O_rise_upForAll where
  ok : Bool
  r0 : Bool
  r1 : Int
def m_rise_upForAll (a0 : List View) (a1 : Source) (a2 : Int) : O_rise_upForAll := bif ((atS ⟨a1.name, a1.ra, a1.dec⟩ a2).2 != (0 : Int)) then ⟨true, false, (atS ⟨a1.name, a1.ra, a1.dec⟩ a2).2⟩ else (bif Nat.beq (lp_rise_upForAll_0 false (0 : Int) (a0.length : Int) a0 ((atS ⟨a1.name, a1.ra, a1.dec⟩ a2).1) (0 : Int)).k 0 then ⟨true, false, (m__rise_view__state (a0.getD ((lp_rise_upForAll_0 false (0 : Int) (a0.length : Int) a0 ((atS ⟨a1.name, a1.ra, a1.dec⟩ a2).1) (0 : Int)).p25).toNat (ET.z .view)) ((atS ⟨a1.name, a1.ra, a1.dec⟩ a2).1)).r1⟩ else (bif Nat.beq (lp_rise_upForAll_0 false (0 : Int) (a0.length : Int) a0 ((atS ⟨a1.name, a1.ra, a1.dec⟩ a2).1) (0 : Int)).k 1 then ⟨true, false, (0 : Int)⟩ else (bif Nat.beq (lp_rise_upForAll_0 false (0 : Int) (a0.length : Int) a0 ((atS ⟨a1.name, a1.ra, a1.dec⟩ a2).1) (0 : Int)).k 2 then ⟨true, true, (0 : Int)⟩ else ⟨false, false, 0⟩)))
def F_rise_upForAll (a0 : List View) (_a1 : Source) (_a2 : Int) (K : AV → List Blk → Ans) (r : O_rise_upForAll) : Ans := bif r.ok then K (.tup [.c (.d (.bool r.r0)), .c (.d (.int .i64 r.r1))]) [.arr none .view a0] else none
theorem e_rise_upForAll (a0 : List View) (a1 : Source) (a2 : Int) (K : AV → List Blk → Ans) : evFn Tryd.prog GT EQT T__rise_view__state XT (orL L_rise_upForAll_0 noL) 80 19 [.v (.c (.aslice 0 none)), .v (.agg [.str a1.name, .int .i64 a1.ra, .int .i64 a1.dec]), .v (.c (.d (.int .i64 a2)))] [.arr none .view a0] (fun v M => K (finR 1 v M).1 (finR 1 v M).2) = F_rise_upForAll a0 a1 a2 K (m_rise_upForAll a0 a1 a2) := by
  unfold m_rise_upForAll
  refine Eq.trans ?_ (Eq.symm (pushT rfl (pushT rfl (pushT rfl (pushT rfl rfl)))))
  kernel_rfl
theorem lok_rise_upForAll : ∀ fn c, Tryd.prog.funcs[19]? = some fn → fn.body = some c → LOKn Tryd.prog GT gbT 1 (orL L_rise_upForAll_0 noL) (loopsIn c) := by
  refine LOKn.ofF fun b hb => ?_
  have e : loopsF Tryd.prog 19 = [loopB Tryd.prog 19 0] := by kernel_rfl
  rw [e] at hb
  simp only [List.mem_cons, List.not_mem_nil, or_false] at hb
  subst hb
  exact (LOKbn.or k_rise_upForAll_0 (fun _ _ _ _ _ _ _ h => h.elim))
theorem c_rise_upForAll (a0 : List View) (a1 : Source) (a2 : Int) (hd : (m_rise_upForAll a0 a1 a2).ok = true) : CallsA Tryd.prog GT gbT 19 [.v (.c (.aslice 0 none)), .v (.agg [.str a1.name, .int .i64 a1.ra, .int .i64 a1.dec]), .v (.c (.d (.int .i64 a2)))] [.arr none .view a0] (.tup [.c (.d (.bool ((m_rise_upForAll a0 a1 a2).r0))), .c (.d (.int .i64 ((m_rise_upForAll a0 a1 a2).r1)))]) [.arr none .view a0] := by
  refine CallsA.ofEvR g__rise_view__state hEQT hmT (n0 := 1) rfl lok_rise_upForAll ((e_rise_upForAll a0 a1 a2 (fun v M => some (Res.fin v M))).trans ?_)
  unfold F_rise_upForAll
  rw [hd]
  rfl
def s_rise_upForAll : List AV → List Blk → (AV → List Blk → Ans) → Ans := fun xs bs K => match xs, bs with
  | [.v (.c (.aslice 0 none)), .v (.agg [.str a1_0, .int .i64 a1_1, .int .i64 a1_2]), .v (.c (.d (.int .i64 a2)))], [.arr none .view a0] => F_rise_upForAll a0 (⟨a1_0, a1_1, a1_2⟩ : Source) a2 K (m_rise_upForAll a0 (⟨a1_0, a1_1, a1_2⟩ : Source) a2)
  | _, _ => none
def T_rise_upForAll : Nat → List AV → List Blk → (AV → List Blk → Ans) → Ans := upd T__rise_view__state 19 s_rise_upForAll
theorem g_rise_upForAll : GOK Tryd.prog GT gbT T_rise_upForAll XT := by
  refine GOK.upd g__rise_view__state (fun args w => Tryd.call19 args w) fun xs bs K r h => ?_
  unfold s_rise_upForAll at h
  split at h
  · unfold F_rise_upForAll at h
    simp only [cond_eq_ite] at h
    split at h
    · rename_i hd
      exact ⟨_, _, c_rise_upForAll _ _ _ hd, h⟩
    · cases h
  · cases h
structure O_rise_tick where
  ok : Bool
  r0 : Bool
def m_rise_tick (a0 : Int) : O_rise_tick := bif decide ((-1000000 : Int) ≤ a0) then ⟨true, decide (a0 ≤ (1000000 : Int))⟩ else ⟨true, false⟩
def F_rise_tick (_a0 : Int) (K : AV → List Blk → Ans) (r : O_rise_tick) : Ans := bif r.ok then K (.v (.c (.d (.bool r.r0)))) [] else none
theorem e_rise_tick (a0 : Int) (K : AV → List Blk → Ans) : evFn Tryd.prog GT EQT T_rise_upForAll XT noL 80 18 [.v (.c (.d (.int .i64 a0)))] [] (fun v M => K (finR 0 v M).1 (finR 0 v M).2) = F_rise_tick a0 K (m_rise_tick a0) := by
  unfold m_rise_tick
  refine Eq.trans ?_ (Eq.symm (pushT rfl rfl))
  kernel_rfl
theorem c_rise_tick (a0 : Int) (hd : (m_rise_tick a0).ok = true) : CallsA Tryd.prog GT gbT 18 [.v (.c (.d (.int .i64 a0)))] [] (.v (.c (.d (.bool ((m_rise_tick a0).r0))))) [] := by
  refine CallsA.ofEvR g_rise_upForAll hEQT hmT (n0 := 0) rfl (fun _ _ _ _ => LOKn.nil) ((e_rise_tick a0 (fun v M => some (Res.fin v M))).trans ?_)
  unfold F_rise_tick
  rw [hd]
  rfl
def s_rise_tick : List AV → List Blk → (AV → List Blk → Ans) → Ans := fun xs bs K => match xs, bs with
  | [.v (.c (.d (.int .i64 a0)))], [] => F_rise_tick a0 K (m_rise_tick a0)
  | _, _ => none
def T_rise_tick : Nat → List AV → List Blk → (AV → List Blk → Ans) → Ans := upd T_rise_upForAll 18 s_rise_tick
theorem g_rise_tick : GOK Tryd.prog GT gbT T_rise_tick XT := by
  refine GOK.upd g_rise_upForAll (fun args w => Tryd.call18 args w) fun xs bs K r h => ?_
  unfold s_rise_tick at h
  split at h
  · unfold F_rise_tick at h
    simp only [cond_eq_ite] at h
    split at h
    · rename_i hd
      exact ⟨_, _, c_rise_tick _ hd, h⟩
    · cases h
  · cases h
structure R_rise_All_0 where
  k : Nat
  p57 : Int
  m5 : List View
def run_rise_All_0 (p3 : Int) (p4 : Int) (p13 : Int) (p56 : Int) (m0 : List Site) (q1 : Globe) (q2 : Source) (q3 : Frac) (m4 : List Window) (m6 : List Vec) : Nat → Int → List View → R_rise_All_0
  | 0, p57, m5 => ⟨2, p57, m5⟩
  | n + 1, p57, m5 => bif decide (p57 < p56) then (bif (decide ((0 : Int) ≤ p57) && decide (p57 < (m6.length : Int))) then (bif (m_rise_viewOf q1 (m6.getD p57.toNat (ET.z .vec)) q3).ok then (bif (decide ((0 : Int) ≤ p57) && decide (p57 < (m5.length : Int))) then (bif ((m_rise_viewOf q1 (m6.getD p57.toNat (ET.z .vec)) q3).r1 != (0 : Int)) then ⟨0, p57, m5⟩ else run_rise_All_0 p3 p4 p13 p56 m0 q1 q2 q3 m4 m6 n (w64 (p57 + (1 : Int))) (m5.set p57.toNat ((m_rise_viewOf q1 (m6.getD p57.toNat (ET.z .vec)) q3).r0))) else ⟨2, p57, m5⟩) else ⟨2, p57, m5⟩) else ⟨2, p57, m5⟩) else ⟨1, p57, m5⟩
def lp_rise_All_0 (p3 : Int) (p4 : Int) (p13 : Int) (p56 : Int) (m0 : List Site) (q1 : Globe) (q2 : Source) (q3 : Frac) (m4 : List Window) (m6 : List Vec) (p57 : Int) (m5 : List View) : R_rise_All_0 := run_rise_All_0 p3 p4 p13 p56 m0 q1 q2 q3 m4 m6 (2000 + (m0.length + m4.length + m5.length + m6.length)) p57 m5
abbrev H_rise_All_0 (p3 : Int) (p4 : Int) (p13 : Int) (p56 : Int) (_m0 : List Site) (_q1 : Globe) (_q2 : Source) (_q3 : Frac) (_m4 : List Window) (_m6 : List Vec) (p57 : Int) (_m5 : List View) : TS := headT [3, 4, 6, 8, 11, 12, 13, 16, 55, 56, 57] 126 [.v (.c (.d (.int .i64 p3))), .v (.c (.d (.int .i64 p4))), .v (.c (.ptr 1 0)), .v (.c (.ptr 2 0)), .v (.c (.ptr 3 0)), .v (.c (.aslice 4 none)), .v (.c (.d (.int .i64 p13))), .v (.c (.aslice 5 none)), .v (.c (.aslice 6 none)), .v (.c (.d (.int .i64 p56))), .v (.c (.d (.int .i64 p57)))]
theorem b_rise_All_0 (p3 : Int) (p4 : Int) (p13 : Int) (p56 : Int) (m0 : List Site) (q1 : Globe) (q2 : Source) (q3 : Frac) (m4 : List Window) (m6 : List Vec) (p57 : Int) (m5 : List View) : evCode Tryd.prog GT EQT T_rise_tick XT noL 80 (loopB Tryd.prog 8 0) (H_rise_All_0 p3 p4 p13 p56 m0 q1 q2 q3 m4 m6 p57 m5) [.arr none .site m0, .rw 23 [.int .i64 q1.a, .int .i64 q1.b], .rw 29 [.str q2.name, .int .i64 q2.ra, .int .i64 q2.dec], .rw 25 [.int .i64 q3.num, .int .i64 q3.den], .arr (some 43) .win m4, .arr (some 60) .view m5, .arr (some 58) .vec m6] 7 (normK 1 [3, 4, 6, 8, 11, 12, 13, 16, 55, 56, 57]) =
    bif decide (p57 < p56) then (bif (decide ((0 : Int) ≤ p57) && decide (p57 < (m6.length : Int))) then (bif (m_rise_viewOf q1 (m6.getD p57.toNat (ET.z .vec)) q3).ok then (bif (decide ((0 : Int) ≤ p57) && decide (p57 < (m5.length : Int))) then (bif ((m_rise_viewOf q1 (m6.getD p57.toNat (ET.z .vec)) q3).r1 != (0 : Int)) then some (.st .ret (headT [3, 4, 6, 8, 11, 12, 13, 16, 55, 56, 57] 126 [.v (.c (.d (.int .i64 p3))), .v (.c (.d (.int .i64 p4))), .v (.c (.ptr 1 0)), .v (.c (.ptr 2 0)), .v (.c (.ptr 3 0)), .v (.c (.aslice 4 none)), .v (.c (.d (.int .i64 ((m_rise_viewOf q1 (m6.getD p57.toNat (ET.z .vec)) q3).r1)))), .v (.c (.aslice 5 none)), .v (.c (.aslice 6 none)), .v (.c (.d (.int .i64 p56))), .v (.c (.d (.int .i64 p57)))]) [.arr none .site m0, .rw 23 [.int .i64 q1.a, .int .i64 q1.b], .rw 29 [.str q2.name, .int .i64 q2.ra, .int .i64 q2.dec], .rw 25 [.int .i64 q3.num, .int .i64 q3.den], .arr (some 43) .win ([] : List Window), .arr (some 60) .view (m5.set p57.toNat ((m_rise_viewOf q1 (m6.getD p57.toNat (ET.z .vec)) q3).r0)), .arr (some 58) .vec m6] 7) else some (.st .normal (headT [3, 4, 6, 8, 11, 12, 13, 16, 55, 56, 57] 126 [.v (.c (.d (.int .i64 p3))), .v (.c (.d (.int .i64 p4))), .v (.c (.ptr 1 0)), .v (.c (.ptr 2 0)), .v (.c (.ptr 3 0)), .v (.c (.aslice 4 none)), .v (.c (.d (.int .i64 p13))), .v (.c (.aslice 5 none)), .v (.c (.aslice 6 none)), .v (.c (.d (.int .i64 p56))), .v (.c (.d (.int .i64 (w64 (p57 + (1 : Int))))))]) [.arr none .site m0, .rw 23 [.int .i64 q1.a, .int .i64 q1.b], .rw 29 [.str q2.name, .int .i64 q2.ra, .int .i64 q2.dec], .rw 25 [.int .i64 q3.num, .int .i64 q3.den], .arr (some 43) .win m4, .arr (some 60) .view (m5.set p57.toNat ((m_rise_viewOf q1 (m6.getD p57.toNat (ET.z .vec)) q3).r0)), .arr (some 58) .vec m6] 7)) else none) else none) else none) else some (.st (.exit 0) (headT [3, 4, 6, 8, 11, 12, 13, 16, 55, 56, 57] 126 [.v (.c (.d (.int .i64 p3))), .v (.c (.d (.int .i64 p4))), .v (.c (.ptr 1 0)), .v (.c (.ptr 2 0)), .v (.c (.ptr 3 0)), .v (.c (.aslice 4 none)), .v (.c (.d (.int .i64 p13))), .v (.c (.aslice 5 none)), .v (.c (.aslice 6 none)), .v (.c (.d (.int .i64 p56))), .v (.c (.d (.int .i64 p57)))]) [.arr none .site m0, .rw 23 [.int .i64 q1.a, .int .i64 q1.b], .rw 29 [.str q2.name, .int .i64 q2.ra, .int .i64 q2.dec], .rw 25 [.int .i64 q3.num, .int .i64 q3.den], .arr (some 43) .win m4, .arr (some 60) .view m5, .arr (some 58) .vec m6] 7) := by
  kernel_rfl
def o_rise_All_0 (p3 : Int) (p4 : Int) (p13 : Int) (p56 : Int) (m0 : List Site) (q1 : Globe) (q2 : Source) (q3 : Frac) (m4 : List Window) (m6 : List Vec) (r : R_rise_All_0) : LT := .br (Nat.beq r.k 0) (.st .ret (headT [3, 4, 6, 8, 11, 12, 13, 16, 55, 56, 57] 126 [.v (.c (.d (.int .i64 p3))), .v (.c (.d (.int .i64 p4))), .v (.c (.ptr 1 0)), .v (.c (.ptr 2 0)), .v (.c (.ptr 3 0)), .v (.c (.aslice 4 none)), .v (.c (.d (.int .i64 ((m_rise_viewOf q1 (m6.getD r.p57.toNat (ET.z .vec)) q3).r1)))), .v (.c (.aslice 5 none)), .v (.c (.aslice 6 none)), .v (.c (.d (.int .i64 p56))), .v (.c (.d (.int .i64 r.p57)))]) [.arr none .site m0, .rw 23 [.int .i64 q1.a, .int .i64 q1.b], .rw 29 [.str q2.name, .int .i64 q2.ra, .int .i64 q2.dec], .rw 25 [.int .i64 q3.num, .int .i64 q3.den], .arr (some 43) .win ([] : List Window), .arr (some 60) .view (r.m5.set r.p57.toNat ((m_rise_viewOf q1 (m6.getD r.p57.toNat (ET.z .vec)) q3).r0)), .arr (some 58) .vec m6] 7) (.br (Nat.beq r.k 1) (.st (.exit 0) (headT [3, 4, 6, 8, 11, 12, 13, 16, 55, 56, 57] 126 [.v (.c (.d (.int .i64 p3))), .v (.c (.d (.int .i64 p4))), .v (.c (.ptr 1 0)), .v (.c (.ptr 2 0)), .v (.c (.ptr 3 0)), .v (.c (.aslice 4 none)), .v (.c (.d (.int .i64 p13))), .v (.c (.aslice 5 none)), .v (.c (.aslice 6 none)), .v (.c (.d (.int .i64 p56))), .v (.c (.d (.int .i64 r.p57)))]) [.arr none .site m0, .rw 23 [.int .i64 q1.a, .int .i64 q1.b], .rw 29 [.str q2.name, .int .i64 q2.ra, .int .i64 q2.dec], .rw 25 [.int .i64 q3.num, .int .i64 q3.den], .arr (some 43) .win m4, .arr (some 60) .view r.m5, .arr (some 58) .vec m6] 7) (.no))
theorem r_rise_All_0 (p3 : Int) (p4 : Int) (p13 : Int) (p56 : Int) (m0 : List Site) (q1 : Globe) (q2 : Source) (q3 : Frac) (m4 : List Window) (m6 : List Vec) : ∀ (n : Nat) (p57 : Int) (m5 : List View) (x : Ex) (T' : TS) (M' : List Blk) (N' : Nat), LReach (o_rise_All_0 p3 p4 p13 p56 m0 q1 q2 q3 m4 m6 (run_rise_All_0 p3 p4 p13 p56 m0 q1 q2 q3 m4 m6 n p57 m5)) x T' M' N' → x ≠ .normal ∧ ∃ j, RoundsN Tryd.prog GT gbT 1 (loopB Tryd.prog 8 0) j (H_rise_All_0 p3 p4 p13 p56 m0 q1 q2 q3 m4 m6 p57 m5) [.arr none .site m0, .rw 23 [.int .i64 q1.a, .int .i64 q1.b], .rw 29 [.str q2.name, .int .i64 q2.ra, .int .i64 q2.dec], .rw 25 [.int .i64 q3.num, .int .i64 q3.den], .arr (some 43) .win m4, .arr (some 60) .view m5, .arr (some 58) .vec m6] 7 x T' M' N' := by
  have hL : LOKn Tryd.prog GT gbT 1 noL (loopsIn (loopB Tryd.prog 8 0)) := fun _ _ _ _ _ _ _ _ _ h => h.elim
  intro n
  induction n with
  | zero =>
    intro p57 m5 x T' M' N' hr
    exact False.elim (redF (redF hr))
  | succ n ih =>
    intro p57 m5 x T' M' N'
    rw [run_rise_All_0]
    exact viaE (b_rise_All_0 p3 p4 p13 p56 m0 q1 q2 q3 m4 m6 p57 m5) (condG (o := o_rise_All_0 p3 p4 p13 p56 m0 q1 q2 q3 m4 m6) (condG (o := o_rise_All_0 p3 p4 p13 p56 m0 q1 q2 q3 m4 m6) (condG (o := o_rise_All_0 p3 p4 p13 p56 m0 q1 q2 q3 m4 m6) (condG (o := o_rise_All_0 p3 p4 p13 p56 m0 q1 q2 q3 m4 m6) (condG (o := o_rise_All_0 p3 p4 p13 p56 m0 q1 q2 q3 m4 m6) (fun he hr => stopN g_rise_tick hEQT hmT hL he (by simp) (redT hr)) (fun he hr => goN g_rise_tick hEQT hmT hL he (ih (w64 (p57 + (1 : Int))) (m5.set p57.toNat ((m_rise_viewOf q1 (m6.getD p57.toNat (ET.z .vec)) q3).r0)) x T' M' N' hr))) (fun _ hr => False.elim (redF (redF hr)))) (fun _ hr => False.elim (redF (redF hr)))) (fun _ hr => False.elim (redF (redF hr)))) (fun he hr => stopN g_rise_tick hEQT hmT hL he (by simp) (redT (redF hr))))
def f_rise_All_0 : List AV → List Blk → LT := fun vs Ms => match vs, Ms with
  | [.v (.c (.d (.int .i64 p3))), .v (.c (.d (.int .i64 p4))), .v (.c (.ptr 1 0)), .v (.c (.ptr 2 0)), .v (.c (.ptr 3 0)), .v (.c (.aslice 4 none)), .v (.c (.d (.int .i64 p13))), .v (.c (.aslice 5 none)), .v (.c (.aslice 6 none)), .v (.c (.d (.int .i64 p56))), .v (.c (.d (.int .i64 p57)))], [.arr none .site m0, .rw 23 [.int .i64 q1_0, .int .i64 q1_1], .rw 29 [.str q2_0, .int .i64 q2_1, .int .i64 q2_2], .rw 25 [.int .i64 q3_0, .int .i64 q3_1], .arr (some 43) .win m4, .arr (some 60) .view m5, .arr (some 58) .vec m6] => o_rise_All_0 p3 p4 p13 p56 m0 (⟨q1_0, q1_1⟩ : Globe) (⟨q2_0, q2_1, q2_2⟩ : Source) (⟨q3_0, q3_1⟩ : Frac) m4 m6 (lp_rise_All_0 p3 p4 p13 p56 m0 (⟨q1_0, q1_1⟩ : Globe) (⟨q2_0, q2_1, q2_2⟩ : Source) (⟨q3_0, q3_1⟩ : Frac) m4 m6 p57 m5)
  | _, _ => .no
def L_rise_All_0 := LamN 10 126 1 [3, 4, 6, 8, 11, 12, 13, 16, 55, 56, 57] f_rise_All_0
theorem k_rise_All_0 : LOKbn Tryd.prog GT gbT 1 L_rise_All_0 (loopB Tryd.prog 8 0) := by
  refine LOKbn.lamN (by kernel_rfl) fun vs Ms x T' M' N' hr => ?_
  unfold f_rise_All_0 at hr
  split at hr
  · obtain ⟨q1, j, q2⟩ := r_rise_All_0 _ _ _ _ _ _ _ _ _ _ _ _ _ x T' M' N' hr
    exact ⟨q1, j, q2⟩
  · exact hr.elim
structure R_rise_All_1 where
  k : Nat
  p20 : Int
  m4 : List Window
def run_rise_All_1 (p4 : Int) (p13 : Int) (m0 : List Site) (q1 : Source) (m2 : List Window) (m3 : List View) : Nat → Int → List Window → R_rise_All_1
  | 0, p20, m4 => ⟨2, p20, m4⟩
  | n + 1, p20, m4 => bif decide (p20 < p4) then (bif (m_rise_upForAll m3 q1 p20).ok then (bif ((m_rise_upForAll m3 q1 p20).r1 != (0 : Int)) then ⟨0, p20, m4⟩ else (bif (!(m_rise_upForAll m3 q1 p20).r0) then run_rise_All_1 p4 p13 m0 q1 m2 m3 n (w64 (p20 + (1 : Int))) m4 else (bif decide ((0 : Int) ≤ (w64 ((m4.length : Int) - (1 : Int)))) then (bif (decide ((0 : Int) ≤ (w64 ((m4.length : Int) - (1 : Int)))) && decide ((w64 ((m4.length : Int) - (1 : Int))) < (m4.length : Int))) then (bif ((m4.getD ((w64 ((m4.length : Int) - (1 : Int))).toNat) (ET.z .win)).too == p20) then (bif (decide ((0 : Int) ≤ (w64 ((m4.length : Int) - (1 : Int)))) && decide ((w64 ((m4.length : Int) - (1 : Int))) < (m4.length : Int))) then (bif (decide ((0 : Int) ≤ (w64 ((m4.length : Int) - (1 : Int)))) && decide ((w64 ((m4.length : Int) - (1 : Int))) < (m4.length : Int))) then run_rise_All_1 p4 p13 m0 q1 m2 m3 n (w64 (p20 + (1 : Int))) (m4.set ((w64 ((m4.length : Int) - (1 : Int))).toNat) ⟨(m4.getD ((w64 ((m4.length : Int) - (1 : Int))).toNat) (ET.z .win)).frm, (w64 ((m4.getD ((w64 ((m4.length : Int) - (1 : Int))).toNat) (ET.z .win)).too + (1 : Int)))⟩) else ⟨2, p20, m4⟩) else ⟨2, p20, m4⟩) else (bif (([⟨p20, (w64 (p20 + (1 : Int)))⟩] : List Window).length == 0) then run_rise_All_1 p4 p13 m0 q1 m2 m3 n (w64 (p20 + (1 : Int))) m4 else (bif (Nat.blt 0 2 && ((2 == 2) && ((2 == 2) && (Nat.ble (m4.length + ([⟨p20, (w64 (p20 + (1 : Int)))⟩] : List Window).length) roomD && Nat.ble 16 4096)))) then run_rise_All_1 p4 p13 m0 q1 m2 m3 n (w64 (p20 + (1 : Int))) (m4 ++ ([⟨p20, (w64 (p20 + (1 : Int)))⟩] : List Window)) else ⟨2, p20, m4⟩))) else ⟨2, p20, m4⟩) else (bif (([⟨p20, (w64 (p20 + (1 : Int)))⟩] : List Window).length == 0) then run_rise_All_1 p4 p13 m0 q1 m2 m3 n (w64 (p20 + (1 : Int))) m4 else (bif (Nat.blt 0 2 && ((2 == 2) && ((2 == 2) && (Nat.ble (m4.length + ([⟨p20, (w64 (p20 + (1 : Int)))⟩] : List Window).length) roomD && Nat.ble 16 4096)))) then run_rise_All_1 p4 p13 m0 q1 m2 m3 n (w64 (p20 + (1 : Int))) (m4 ++ ([⟨p20, (w64 (p20 + (1 : Int)))⟩] : List Window)) else ⟨2, p20, m4⟩))))) else ⟨2, p20, m4⟩) else ⟨1, p20, m4⟩
def lp_rise_All_1 (p4 : Int) (p13 : Int) (m0 : List Site) (q1 : Source) (m2 : List Window) (m3 : List View) (p20 : Int) (m4 : List Window) : R_rise_All_1 := run_rise_All_1 p4 p13 m0 q1 m2 m3 (2000 + (m0.length + m2.length + m3.length + m4.length)) p20 m4
abbrev H_rise_All_1 (p4 : Int) (p13 : Int) (_m0 : List Site) (_q1 : Source) (_m2 : List Window) (_m3 : List View) (p20 : Int) (_m4 : List Window) : TS := headT [4, 8, 12, 13, 16, 19, 20] 126 [.v (.c (.d (.int .i64 p4))), .v (.c (.ptr 1 0)), .v (.c (.aslice 2 none)), .v (.c (.d (.int .i64 p13))), .v (.c (.aslice 3 none)), .v (.c (.aslice 4 none)), .v (.c (.d (.int .i64 p20)))]
theorem b_rise_All_1 (p4 : Int) (p13 : Int) (m0 : List Site) (q1 : Source) (m2 : List Window) (m3 : List View) (p20 : Int) (m4 : List Window) : evCode Tryd.prog GT EQT T_rise_tick XT noL 80 (loopB Tryd.prog 8 1) (H_rise_All_1 p4 p13 m0 q1 m2 m3 p20 m4) [.arr none .site m0, .rw 29 [.str q1.name, .int .i64 q1.ra, .int .i64 q1.dec], .arr (some 43) .win m2, .arr (some 60) .view m3, .arr (some 43) .win m4] 5 (normK 1 [4, 8, 12, 13, 16, 19, 20]) =
    bif decide (p20 < p4) then (bif (m_rise_upForAll m3 q1 p20).ok then (bif ((m_rise_upForAll m3 q1 p20).r1 != (0 : Int)) then some (.st .ret (headT [4, 8, 12, 13, 16, 19, 20] 126 [.v (.c (.d (.int .i64 p4))), .v (.c (.ptr 1 0)), .v (.c (.aslice 2 none)), .v (.c (.d (.int .i64 ((m_rise_upForAll m3 q1 p20).r1)))), .v (.c (.aslice 3 none)), .v (.c (.aslice 4 none)), .v (.c (.d (.int .i64 p20)))]) [.arr none .site m0, .rw 29 [.str q1.name, .int .i64 q1.ra, .int .i64 q1.dec], .arr (some 43) .win ([] : List Window), .arr (some 60) .view m3, .arr (some 43) .win m4] 5) else (bif (!(m_rise_upForAll m3 q1 p20).r0) then some (.st .normal (headT [4, 8, 12, 13, 16, 19, 20] 126 [.v (.c (.d (.int .i64 p4))), .v (.c (.ptr 1 0)), .v (.c (.aslice 2 none)), .v (.c (.d (.int .i64 p13))), .v (.c (.aslice 3 none)), .v (.c (.aslice 4 none)), .v (.c (.d (.int .i64 (w64 (p20 + (1 : Int))))))]) [.arr none .site m0, .rw 29 [.str q1.name, .int .i64 q1.ra, .int .i64 q1.dec], .arr (some 43) .win m2, .arr (some 60) .view m3, .arr (some 43) .win m4] 5) else (bif decide ((0 : Int) ≤ (w64 ((m4.length : Int) - (1 : Int)))) then (bif (decide ((0 : Int) ≤ (w64 ((m4.length : Int) - (1 : Int)))) && decide ((w64 ((m4.length : Int) - (1 : Int))) < (m4.length : Int))) then (bif ((m4.getD ((w64 ((m4.length : Int) - (1 : Int))).toNat) (ET.z .win)).too == p20) then (bif (decide ((0 : Int) ≤ (w64 ((m4.length : Int) - (1 : Int)))) && decide ((w64 ((m4.length : Int) - (1 : Int))) < (m4.length : Int))) then (bif (decide ((0 : Int) ≤ (w64 ((m4.length : Int) - (1 : Int)))) && decide ((w64 ((m4.length : Int) - (1 : Int))) < (m4.length : Int))) then some (.st .normal (headT [4, 8, 12, 13, 16, 19, 20] 126 [.v (.c (.d (.int .i64 p4))), .v (.c (.ptr 1 0)), .v (.c (.aslice 2 none)), .v (.c (.d (.int .i64 p13))), .v (.c (.aslice 3 none)), .v (.c (.aslice 4 none)), .v (.c (.d (.int .i64 (w64 (p20 + (1 : Int))))))]) [.arr none .site m0, .rw 29 [.str q1.name, .int .i64 q1.ra, .int .i64 q1.dec], .arr (some 43) .win m2, .arr (some 60) .view m3, .arr (some 43) .win (m4.set ((w64 ((m4.length : Int) - (1 : Int))).toNat) ⟨(m4.getD ((w64 ((m4.length : Int) - (1 : Int))).toNat) (ET.z .win)).frm, (w64 ((m4.getD ((w64 ((m4.length : Int) - (1 : Int))).toNat) (ET.z .win)).too + (1 : Int)))⟩)] 5) else none) else none) else (bif (([⟨p20, (w64 (p20 + (1 : Int)))⟩] : List Window).length == 0) then some (.st .normal (headT [4, 8, 12, 13, 16, 19, 20] 126 [.v (.c (.d (.int .i64 p4))), .v (.c (.ptr 1 0)), .v (.c (.aslice 2 none)), .v (.c (.d (.int .i64 p13))), .v (.c (.aslice 3 none)), .v (.c (.aslice 4 none)), .v (.c (.d (.int .i64 (w64 (p20 + (1 : Int))))))]) [.arr none .site m0, .rw 29 [.str q1.name, .int .i64 q1.ra, .int .i64 q1.dec], .arr (some 43) .win m2, .arr (some 60) .view m3, .arr (some 43) .win m4] 5) else (bif (Nat.blt 0 2 && ((2 == 2) && ((2 == 2) && (Nat.ble (m4.length + ([⟨p20, (w64 (p20 + (1 : Int)))⟩] : List Window).length) roomD && Nat.ble 16 4096)))) then some (.st .normal (headT [4, 8, 12, 13, 16, 19, 20] 126 [.v (.c (.d (.int .i64 p4))), .v (.c (.ptr 1 0)), .v (.c (.aslice 2 none)), .v (.c (.d (.int .i64 p13))), .v (.c (.aslice 3 none)), .v (.c (.aslice 4 none)), .v (.c (.d (.int .i64 (w64 (p20 + (1 : Int))))))]) [.arr none .site m0, .rw 29 [.str q1.name, .int .i64 q1.ra, .int .i64 q1.dec], .arr (some 43) .win m2, .arr (some 60) .view m3, .arr (some 43) .win (m4 ++ ([⟨p20, (w64 (p20 + (1 : Int)))⟩] : List Window))] 5) else none))) else none) else (bif (([⟨p20, (w64 (p20 + (1 : Int)))⟩] : List Window).length == 0) then some (.st .normal (headT [4, 8, 12, 13, 16, 19, 20] 126 [.v (.c (.d (.int .i64 p4))), .v (.c (.ptr 1 0)), .v (.c (.aslice 2 none)), .v (.c (.d (.int .i64 p13))), .v (.c (.aslice 3 none)), .v (.c (.aslice 4 none)), .v (.c (.d (.int .i64 (w64 (p20 + (1 : Int))))))]) [.arr none .site m0, .rw 29 [.str q1.name, .int .i64 q1.ra, .int .i64 q1.dec], .arr (some 43) .win m2, .arr (some 60) .view m3, .arr (some 43) .win m4] 5) else (bif (Nat.blt 0 2 && ((2 == 2) && ((2 == 2) && (Nat.ble (m4.length + ([⟨p20, (w64 (p20 + (1 : Int)))⟩] : List Window).length) roomD && Nat.ble 16 4096)))) then some (.st .normal (headT [4, 8, 12, 13, 16, 19, 20] 126 [.v (.c (.d (.int .i64 p4))), .v (.c (.ptr 1 0)), .v (.c (.aslice 2 none)), .v (.c (.d (.int .i64 p13))), .v (.c (.aslice 3 none)), .v (.c (.aslice 4 none)), .v (.c (.d (.int .i64 (w64 (p20 + (1 : Int))))))]) [.arr none .site m0, .rw 29 [.str q1.name, .int .i64 q1.ra, .int .i64 q1.dec], .arr (some 43) .win m2, .arr (some 60) .view m3, .arr (some 43) .win (m4 ++ ([⟨p20, (w64 (p20 + (1 : Int)))⟩] : List Window))] 5) else none))))) else none) else some (.st (.exit 2) (headT [4, 8, 12, 13, 16, 19, 20] 126 [.v (.c (.d (.int .i64 p4))), .v (.c (.ptr 1 0)), .v (.c (.aslice 2 none)), .v (.c (.d (.int .i64 p13))), .v (.c (.aslice 3 none)), .v (.c (.aslice 4 none)), .v (.c (.d (.int .i64 p20)))]) [.arr none .site m0, .rw 29 [.str q1.name, .int .i64 q1.ra, .int .i64 q1.dec], .arr (some 43) .win m2, .arr (some 60) .view m3, .arr (some 43) .win m4] 5) := by
  kernel_rfl
def o_rise_All_1 (p4 : Int) (p13 : Int) (m0 : List Site) (q1 : Source) (m2 : List Window) (m3 : List View) (r : R_rise_All_1) : LT := .br (Nat.beq r.k 0) (.st .ret (headT [4, 8, 12, 13, 16, 19, 20] 126 [.v (.c (.d (.int .i64 p4))), .v (.c (.ptr 1 0)), .v (.c (.aslice 2 none)), .v (.c (.d (.int .i64 ((m_rise_upForAll m3 q1 r.p20).r1)))), .v (.c (.aslice 3 none)), .v (.c (.aslice 4 none)), .v (.c (.d (.int .i64 r.p20)))]) [.arr none .site m0, .rw 29 [.str q1.name, .int .i64 q1.ra, .int .i64 q1.dec], .arr (some 43) .win ([] : List Window), .arr (some 60) .view m3, .arr (some 43) .win r.m4] 5) (.br (Nat.beq r.k 1) (.st (.exit 2) (headT [4, 8, 12, 13, 16, 19, 20] 126 [.v (.c (.d (.int .i64 p4))), .v (.c (.ptr 1 0)), .v (.c (.aslice 2 none)), .v (.c (.d (.int .i64 p13))), .v (.c (.aslice 3 none)), .v (.c (.aslice 4 none)), .v (.c (.d (.int .i64 r.p20)))]) [.arr none .site m0, .rw 29 [.str q1.name, .int .i64 q1.ra, .int .i64 q1.dec], .arr (some 43) .win m2, .arr (some 60) .view m3, .arr (some 43) .win r.m4] 5) (.no))
theorem r_rise_All_1 (p4 : Int) (p13 : Int) (m0 : List Site) (q1 : Source) (m2 : List Window) (m3 : List View) : ∀ (n : Nat) (p20 : Int) (m4 : List Window) (x : Ex) (T' : TS) (M' : List Blk) (N' : Nat), LReach (o_rise_All_1 p4 p13 m0 q1 m2 m3 (run_rise_All_1 p4 p13 m0 q1 m2 m3 n p20 m4)) x T' M' N' → x ≠ .normal ∧ ∃ j, RoundsN Tryd.prog GT gbT 1 (loopB Tryd.prog 8 1) j (H_rise_All_1 p4 p13 m0 q1 m2 m3 p20 m4) [.arr none .site m0, .rw 29 [.str q1.name, .int .i64 q1.ra, .int .i64 q1.dec], .arr (some 43) .win m2, .arr (some 60) .view m3, .arr (some 43) .win m4] 5 x T' M' N' := by
  have hL : LOKn Tryd.prog GT gbT 1 noL (loopsIn (loopB Tryd.prog 8 1)) := fun _ _ _ _ _ _ _ _ _ h => h.elim
  intro n
  induction n with
  | zero =>
    intro p20 m4 x T' M' N' hr
    exact False.elim (redF (redF hr))
  | succ n ih =>
    intro p20 m4 x T' M' N'
    rw [run_rise_All_1]
    exact viaE (b_rise_All_1 p4 p13 m0 q1 m2 m3 p20 m4) (condG (o := o_rise_All_1 p4 p13 m0 q1 m2 m3) (condG (o := o_rise_All_1 p4 p13 m0 q1 m2 m3) (condG (o := o_rise_All_1 p4 p13 m0 q1 m2 m3) (fun he hr => stopN g_rise_tick hEQT hmT hL he (by simp) (redT hr)) (condG (o := o_rise_All_1 p4 p13 m0 q1 m2 m3) (fun he hr => goN g_rise_tick hEQT hmT hL he (ih (w64 (p20 + (1 : Int))) m4 x T' M' N' hr)) (condG (o := o_rise_All_1 p4 p13 m0 q1 m2 m3) (condG (o := o_rise_All_1 p4 p13 m0 q1 m2 m3) (condG (o := o_rise_All_1 p4 p13 m0 q1 m2 m3) (condG (o := o_rise_All_1 p4 p13 m0 q1 m2 m3) (condG (o := o_rise_All_1 p4 p13 m0 q1 m2 m3) (fun he hr => goN g_rise_tick hEQT hmT hL he (ih (w64 (p20 + (1 : Int))) (m4.set ((w64 ((m4.length : Int) - (1 : Int))).toNat) ⟨(m4.getD ((w64 ((m4.length : Int) - (1 : Int))).toNat) (ET.z .win)).frm, (w64 ((m4.getD ((w64 ((m4.length : Int) - (1 : Int))).toNat) (ET.z .win)).too + (1 : Int)))⟩) x T' M' N' hr)) (fun _ hr => False.elim (redF (redF hr)))) (fun _ hr => False.elim (redF (redF hr)))) (condG (o := o_rise_All_1 p4 p13 m0 q1 m2 m3) (fun he hr => goN g_rise_tick hEQT hmT hL he (ih (w64 (p20 + (1 : Int))) m4 x T' M' N' hr)) (condG (o := o_rise_All_1 p4 p13 m0 q1 m2 m3) (fun he hr => goN g_rise_tick hEQT hmT hL he (ih (w64 (p20 + (1 : Int))) (m4 ++ ([⟨p20, (w64 (p20 + (1 : Int)))⟩] : List Window)) x T' M' N' hr)) (fun _ hr => False.elim (redF (redF hr)))))) (fun _ hr => False.elim (redF (redF hr)))) (condG (o := o_rise_All_1 p4 p13 m0 q1 m2 m3) (fun he hr => goN g_rise_tick hEQT hmT hL he (ih (w64 (p20 + (1 : Int))) m4 x T' M' N' hr)) (condG (o := o_rise_All_1 p4 p13 m0 q1 m2 m3) (fun he hr => goN g_rise_tick hEQT hmT hL he (ih (w64 (p20 + (1 : Int))) (m4 ++ ([⟨p20, (w64 (p20 + (1 : Int)))⟩] : List Window)) x T' M' N' hr)) (fun _ hr => False.elim (redF (redF hr)))))))) (fun _ hr => False.elim (redF (redF hr)))) (fun he hr => stopN g_rise_tick hEQT hmT hL he (by simp) (redT (redF hr))))
def f_rise_All_1 : List AV → List Blk → LT := fun vs Ms => match vs, Ms with
  | [.v (.c (.d (.int .i64 p4))), .v (.c (.ptr 1 0)), .v (.c (.aslice 2 none)), .v (.c (.d (.int .i64 p13))), .v (.c (.aslice 3 none)), .v (.c (.aslice 4 none)), .v (.c (.d (.int .i64 p20)))], [.arr none .site m0, .rw 29 [.str q1_0, .int .i64 q1_1, .int .i64 q1_2], .arr (some 43) .win m2, .arr (some 60) .view m3, .arr (some 43) .win m4] => o_rise_All_1 p4 p13 m0 (⟨q1_0, q1_1, q1_2⟩ : Source) m2 m3 (lp_rise_All_1 p4 p13 m0 (⟨q1_0, q1_1, q1_2⟩ : Source) m2 m3 p20 m4)
  | _, _ => .no
def L_rise_All_1 := LamN 18 126 1 [4, 8, 12, 13, 16, 19, 20] f_rise_All_1
theorem k_rise_All_1 : LOKbn Tryd.prog GT gbT 1 L_rise_All_1 (loopB Tryd.prog 8 1) := by
  refine LOKbn.lamN (by kernel_rfl) fun vs Ms x T' M' N' hr => ?_
  unfold f_rise_All_1 at hr
  split at hr
  · obtain ⟨q1, j, q2⟩ := r_rise_All_1 _ _ _ _ _ _ _ _ _ x T' M' N' hr
    exact ⟨q1, j, q2⟩
  · exact hr.elim
structure O_rise_All where
  ok : Bool
  r0 : List Window
  r1 : Int
def m_rise_All (a0 : Globe) (a1 : List Site) (a2 : Source) (a3 : Int) (a4 : Int) (a5 : Frac) : O_rise_All := bif (m_rise_look a0 a1 a2 a5).ok then (bif ((m_rise_look a0 a1 a2 a5).r1 != (0 : Int)) then ⟨true, ([] : List Window), (m_rise_look a0 a1 a2 a5).r1⟩ else (bif (m_rise_tick a3).ok then (bif (!(m_rise_tick a3).r0) then ⟨true, ([] : List Window), (2 : Int)⟩ else (bif (m_rise_tick a4).ok then (bif (!(m_rise_tick a4).r0) then ⟨true, ([] : List Window), (2 : Int)⟩ else (bif decide (a4 < a3) then ⟨true, ([] : List Window), (2 : Int)⟩ else (bif decide ((720 : Int) < (w64 (a4 - a3))) then ⟨true, ([] : List Window), (4 : Int)⟩ else (bif (decide ((((m_rise_look a0 a1 a2 a5).r0).length : Int) = (((m_rise_look a0 a1 a2 a5).r0).length : Int)) && (decide (0 ≤ (((m_rise_look a0 a1 a2 a5).r0).length : Int)) && (decide ((((m_rise_look a0 a1 a2 a5).r0).length : Int) ≤ 1048576) && ((8 == 8) && (Nat.blt 0 8 && Nat.ble 64 4096))))) then (bif Nat.beq (lp_rise_All_0 a3 a4 (0 : Int) (((m_rise_look a0 a1 a2 a5).r0).length : Int) a1 a0 a2 a5 ([] : List Window) ((m_rise_look a0 a1 a2 a5).r0) (0 : Int) (List.replicate ((((m_rise_look a0 a1 a2 a5).r0).length : Int).toNat) (⟨⟨⟨(0 : Int), (0 : Int)⟩, ⟨(0 : Int), (0 : Int)⟩, ⟨(0 : Int), (0 : Int)⟩⟩, ⟨(0 : Int), (0 : Int)⟩⟩ : View))).k 0 then ⟨true, ([] : List Window), (m_rise_viewOf a0 (((m_rise_look a0 a1 a2 a5).r0).getD ((lp_rise_All_0 a3 a4 (0 : Int) (((m_rise_look a0 a1 a2 a5).r0).length : Int) a1 a0 a2 a5 ([] : List Window) ((m_rise_look a0 a1 a2 a5).r0) (0 : Int) (List.replicate ((((m_rise_look a0 a1 a2 a5).r0).length : Int).toNat) (⟨⟨⟨(0 : Int), (0 : Int)⟩, ⟨(0 : Int), (0 : Int)⟩, ⟨(0 : Int), (0 : Int)⟩⟩, ⟨(0 : Int), (0 : Int)⟩⟩ : View))).p57).toNat (ET.z .vec)) a5).r1⟩ else (bif Nat.beq (lp_rise_All_0 a3 a4 (0 : Int) (((m_rise_look a0 a1 a2 a5).r0).length : Int) a1 a0 a2 a5 ([] : List Window) ((m_rise_look a0 a1 a2 a5).r0) (0 : Int) (List.replicate ((((m_rise_look a0 a1 a2 a5).r0).length : Int).toNat) (⟨⟨⟨(0 : Int), (0 : Int)⟩, ⟨(0 : Int), (0 : Int)⟩, ⟨(0 : Int), (0 : Int)⟩⟩, ⟨(0 : Int), (0 : Int)⟩⟩ : View))).k 1 then (bif Nat.beq (lp_rise_All_1 a4 (0 : Int) a1 a2 ([] : List Window) ((lp_rise_All_0 a3 a4 (0 : Int) (((m_rise_look a0 a1 a2 a5).r0).length : Int) a1 a0 a2 a5 ([] : List Window) ((m_rise_look a0 a1 a2 a5).r0) (0 : Int) (List.replicate ((((m_rise_look a0 a1 a2 a5).r0).length : Int).toNat) (⟨⟨⟨(0 : Int), (0 : Int)⟩, ⟨(0 : Int), (0 : Int)⟩, ⟨(0 : Int), (0 : Int)⟩⟩, ⟨(0 : Int), (0 : Int)⟩⟩ : View))).m5) a3 ([] : List Window)).k 0 then ⟨true, ([] : List Window), (m_rise_upForAll ((lp_rise_All_0 a3 a4 (0 : Int) (((m_rise_look a0 a1 a2 a5).r0).length : Int) a1 a0 a2 a5 ([] : List Window) ((m_rise_look a0 a1 a2 a5).r0) (0 : Int) (List.replicate ((((m_rise_look a0 a1 a2 a5).r0).length : Int).toNat) (⟨⟨⟨(0 : Int), (0 : Int)⟩, ⟨(0 : Int), (0 : Int)⟩, ⟨(0 : Int), (0 : Int)⟩⟩, ⟨(0 : Int), (0 : Int)⟩⟩ : View))).m5) a2 ((lp_rise_All_1 a4 (0 : Int) a1 a2 ([] : List Window) ((lp_rise_All_0 a3 a4 (0 : Int) (((m_rise_look a0 a1 a2 a5).r0).length : Int) a1 a0 a2 a5 ([] : List Window) ((m_rise_look a0 a1 a2 a5).r0) (0 : Int) (List.replicate ((((m_rise_look a0 a1 a2 a5).r0).length : Int).toNat) (⟨⟨⟨(0 : Int), (0 : Int)⟩, ⟨(0 : Int), (0 : Int)⟩, ⟨(0 : Int), (0 : Int)⟩⟩, ⟨(0 : Int), (0 : Int)⟩⟩ : View))).m5) a3 ([] : List Window)).p20)).r1⟩ else (bif Nat.beq (lp_rise_All_1 a4 (0 : Int) a1 a2 ([] : List Window) ((lp_rise_All_0 a3 a4 (0 : Int) (((m_rise_look a0 a1 a2 a5).r0).length : Int) a1 a0 a2 a5 ([] : List Window) ((m_rise_look a0 a1 a2 a5).r0) (0 : Int) (List.replicate ((((m_rise_look a0 a1 a2 a5).r0).length : Int).toNat) (⟨⟨⟨(0 : Int), (0 : Int)⟩, ⟨(0 : Int), (0 : Int)⟩, ⟨(0 : Int), (0 : Int)⟩⟩, ⟨(0 : Int), (0 : Int)⟩⟩ : View))).m5) a3 ([] : List Window)).k 1 then ⟨true, ((lp_rise_All_1 a4 (0 : Int) a1 a2 ([] : List Window) ((lp_rise_All_0 a3 a4 (0 : Int) (((m_rise_look a0 a1 a2 a5).r0).length : Int) a1 a0 a2 a5 ([] : List Window) ((m_rise_look a0 a1 a2 a5).r0) (0 : Int) (List.replicate ((((m_rise_look a0 a1 a2 a5).r0).length : Int).toNat) (⟨⟨⟨(0 : Int), (0 : Int)⟩, ⟨(0 : Int), (0 : Int)⟩, ⟨(0 : Int), (0 : Int)⟩⟩, ⟨(0 : Int), (0 : Int)⟩⟩ : View))).m5) a3 ([] : List Window)).m4), (0 : Int)⟩ else ⟨false, [], 0⟩)) else ⟨false, [], 0⟩)) else ⟨false, [], 0⟩)))) else ⟨false, [], 0⟩)) else ⟨false, [], 0⟩)) else ⟨false, [], 0⟩
def F_rise_All (_a0 : Globe) (a1 : List Site) (_a2 : Source) (_a3 : Int) (_a4 : Int) (_a5 : Frac) (K : AV → List Blk → Ans) (r : O_rise_All) : Ans := bif r.ok then K (.tup [.c (.aslice 1 none), .c (.d (.int .i64 r.r1))]) [.arr none .site a1, .arr (some 43) .win r.r0] else none
theorem e_rise_All (a0 : Globe) (a1 : List Site) (a2 : Source) (a3 : Int) (a4 : Int) (a5 : Frac) (K : AV → List Blk → Ans) : evFn Tryd.prog GT EQT T_rise_tick XT (orL L_rise_All_1 (orL L_rise_All_0 noL)) 80 8 [.v (.agg [.int .i64 a0.a, .int .i64 a0.b]), .v (.c (.aslice 0 none)), .v (.agg [.str a2.name, .int .i64 a2.ra, .int .i64 a2.dec]), .v (.c (.d (.int .i64 a3))), .v (.c (.d (.int .i64 a4))), .v (.agg [.int .i64 a5.num, .int .i64 a5.den])] [.arr none .site a1] (fun v M => K (finR 1 v M).1 (finR 1 v M).2) = F_rise_All a0 a1 a2 a3 a4 a5 K (m_rise_All a0 a1 a2 a3 a4 a5) := by
  unfold m_rise_All
  refine Eq.trans ?_ (Eq.symm (pushT (pushT rfl (pushT (pushT rfl (pushT (pushT rfl (pushT rfl (pushT rfl (pushT (pushT rfl (pushT (pushT rfl (pushT rfl rfl)) rfl)) rfl)))) rfl)) rfl)) rfl))
  kernel_rfl
theorem lok_rise_All : ∀ fn c, Tryd.prog.funcs[8]? = some fn → fn.body = some c → LOKn Tryd.prog GT gbT 1 (orL L_rise_All_1 (orL L_rise_All_0 noL)) (loopsIn c) := by
  refine LOKn.ofF fun b hb => ?_
  have e : loopsF Tryd.prog 8 = [loopB Tryd.prog 8 0, loopB Tryd.prog 8 1] := by kernel_rfl
  rw [e] at hb
  simp only [List.mem_cons, List.not_mem_nil, or_false] at hb
  rcases hb with rfl | rfl
  · exact (LOKbn.or (LOKbn.lamN_other (by kernel_rfl)) (LOKbn.or k_rise_All_0 (fun _ _ _ _ _ _ _ h => h.elim)))
  · exact (LOKbn.or k_rise_All_1 (LOKbn.or (LOKbn.lamN_other (by kernel_rfl)) (fun _ _ _ _ _ _ _ h => h.elim)))
theorem c_rise_All (a0 : Globe) (a1 : List Site) (a2 : Source) (a3 : Int) (a4 : Int) (a5 : Frac) (hd : (m_rise_All a0 a1 a2 a3 a4 a5).ok = true) : CallsA Tryd.prog GT gbT 8 [.v (.agg [.int .i64 a0.a, .int .i64 a0.b]), .v (.c (.aslice 0 none)), .v (.agg [.str a2.name, .int .i64 a2.ra, .int .i64 a2.dec]), .v (.c (.d (.int .i64 a3))), .v (.c (.d (.int .i64 a4))), .v (.agg [.int .i64 a5.num, .int .i64 a5.den])] [.arr none .site a1] (.tup [.c (.aslice 1 none), .c (.d (.int .i64 ((m_rise_All a0 a1 a2 a3 a4 a5).r1)))]) [.arr none .site a1, .arr (some 43) .win ((m_rise_All a0 a1 a2 a3 a4 a5).r0)] := by
  refine CallsA.ofEvR g_rise_tick hEQT hmT (n0 := 1) rfl lok_rise_All ((e_rise_All a0 a1 a2 a3 a4 a5 (fun v M => some (Res.fin v M))).trans ?_)
  unfold F_rise_All
  rw [hd]
  rfl
theorem cn_rise_All (a0 : Globe) (a2 : Source) (a3 : Int) (a4 : Int) (a5 : Frac) (hd : (m_rise_All a0 ([] : List Site) a2 a3 a4 a5).ok = true) : CallsA Tryd.prog GT gbT 8 [.v (.agg [.int .i64 a0.a, .int .i64 a0.b]), .v (.c .nilS), .v (.agg [.str a2.name, .int .i64 a2.ra, .int .i64 a2.dec]), .v (.c (.d (.int .i64 a3))), .v (.c (.d (.int .i64 a4))), .v (.agg [.int .i64 a5.num, .int .i64 a5.den])] [] (.tup [.c (.aslice 1 none), .c (.d (.int .i64 ((m_rise_All a0 ([] : List Site) a2 a3 a4 a5).r1)))]) [.arr none .site ([] : List Site), .arr (some 43) .win ((m_rise_All a0 ([] : List Site) a2 a3 a4 a5).r0)] :=
  CallsA.nils [.site] (c_rise_All a0 ([] : List Site) a2 a3 a4 a5 hd) ⟨.inl rfl, .inr ⟨rfl, 0, by decide, rfl⟩, .inl rfl, .inl rfl, .inl rfl, .inl rfl, trivial⟩
def s_rise_All : List AV → List Blk → (AV → List Blk → Ans) → Ans := fun xs bs K => match xs, bs with
  | [.v (.agg [.int .i64 a0_0, .int .i64 a0_1]), .v (.c (.aslice 0 none)), .v (.agg [.str a2_0, .int .i64 a2_1, .int .i64 a2_2]), .v (.c (.d (.int .i64 a3))), .v (.c (.d (.int .i64 a4))), .v (.agg [.int .i64 a5_0, .int .i64 a5_1])], [.arr none .site a1] => F_rise_All (⟨a0_0, a0_1⟩ : Globe) a1 (⟨a2_0, a2_1, a2_2⟩ : Source) a3 a4 (⟨a5_0, a5_1⟩ : Frac) K (m_rise_All (⟨a0_0, a0_1⟩ : Globe) a1 (⟨a2_0, a2_1, a2_2⟩ : Source) a3 a4 (⟨a5_0, a5_1⟩ : Frac))
  | [.v (.agg [.int .i64 a0_0, .int .i64 a0_1]), .v (.c .nilS), .v (.agg [.str a2_0, .int .i64 a2_1, .int .i64 a2_2]), .v (.c (.d (.int .i64 a3))), .v (.c (.d (.int .i64 a4))), .v (.agg [.int .i64 a5_0, .int .i64 a5_1])], [] => F_rise_All (⟨a0_0, a0_1⟩ : Globe) ([] : List Site) (⟨a2_0, a2_1, a2_2⟩ : Source) a3 a4 (⟨a5_0, a5_1⟩ : Frac) K (m_rise_All (⟨a0_0, a0_1⟩ : Globe) ([] : List Site) (⟨a2_0, a2_1, a2_2⟩ : Source) a3 a4 (⟨a5_0, a5_1⟩ : Frac))
  | _, _ => none
def T_rise_All : Nat → List AV → List Blk → (AV → List Blk → Ans) → Ans := upd T_rise_tick 8 s_rise_All
theorem g_rise_All : GOK Tryd.prog GT gbT T_rise_All XT := by
  refine GOK.upd g_rise_tick (fun args w => Tryd.call8 args w) fun xs bs K r h => ?_
  unfold s_rise_All at h
  split at h
  · unfold F_rise_All at h
    simp only [cond_eq_ite] at h
    split at h
    · rename_i hd
      exact ⟨_, _, c_rise_All _ _ _ _ _ _ hd, h⟩
    · cases h
  · unfold F_rise_All at h
    simp only [cond_eq_ite] at h
    split at h
    · rename_i hd
      exact ⟨_, _, cn_rise_All _ _ _ _ _ hd, h⟩
    · cases h
  · cases h
structure O_rise_State where
  ok : Bool
  r0 : Int
  r1 : Int
def m_rise_State (a0 : Globe) (a1 : Site) (a2 : Source) (a3 : Int) (a4 : Frac) : O_rise_State := bif (m_rise_look a0 ([a1] : List Site) a2 a4).ok then (bif ((m_rise_look a0 ([a1] : List Site) a2 a4).r1 != (0 : Int)) then ⟨true, (0 : Int), (m_rise_look a0 ([a1] : List Site) a2 a4).r1⟩ else (bif ((atS ⟨a2.name, a2.ra, a2.dec⟩ a3).2 != (0 : Int)) then ⟨true, (0 : Int), (atS ⟨a2.name, a2.ra, a2.dec⟩ a3).2⟩ else (bif (decide ((0 : Int) ≤ (0 : Int)) && decide ((0 : Int) < (((m_rise_look a0 ([a1] : List Site) a2 a4).r0).length : Int))) then (bif (m_rise_viewOf a0 (((m_rise_look a0 ([a1] : List Site) a2 a4).r0).getD 0 (ET.z .vec)) a4).ok then (bif ((m_rise_viewOf a0 (((m_rise_look a0 ([a1] : List Site) a2 a4).r0).getD 0 (ET.z .vec)) a4).r1 != (0 : Int)) then ⟨true, (0 : Int), (m_rise_viewOf a0 (((m_rise_look a0 ([a1] : List Site) a2 a4).r0).getD 0 (ET.z .vec)) a4).r1⟩ else (bif (m__rise_view__state ((m_rise_viewOf a0 (((m_rise_look a0 ([a1] : List Site) a2 a4).r0).getD 0 (ET.z .vec)) a4).r0) ((atS ⟨a2.name, a2.ra, a2.dec⟩ a3).1)).ok then ⟨true, (m__rise_view__state ((m_rise_viewOf a0 (((m_rise_look a0 ([a1] : List Site) a2 a4).r0).getD 0 (ET.z .vec)) a4).r0) ((atS ⟨a2.name, a2.ra, a2.dec⟩ a3).1)).r0, (m__rise_view__state ((m_rise_viewOf a0 (((m_rise_look a0 ([a1] : List Site) a2 a4).r0).getD 0 (ET.z .vec)) a4).r0) ((atS ⟨a2.name, a2.ra, a2.dec⟩ a3).1)).r1⟩ else ⟨false, 0, 0⟩)) else ⟨false, 0, 0⟩) else ⟨false, 0, 0⟩))) else ⟨false, 0, 0⟩
def F_rise_State (_a0 : Globe) (_a1 : Site) (_a2 : Source) (_a3 : Int) (_a4 : Frac) (K : AV → List Blk → Ans) (r : O_rise_State) : Ans := bif r.ok then K (.tup [.c (.d (.int .i64 r.r0)), .c (.d (.int .i64 r.r1))]) [] else none
theorem e_rise_State (a0 : Globe) (a1 : Site) (a2 : Source) (a3 : Int) (a4 : Frac) (K : AV → List Blk → Ans) : evFn Tryd.prog GT EQT T_rise_All XT noL 80 6 [.v (.agg [.int .i64 a0.a, .int .i64 a0.b]), .v (.agg [.str a1.name, .int .i64 a1.s.num, .int .i64 a1.s.den, .int .i64 a1.t.num, .int .i64 a1.t.den]), .v (.agg [.str a2.name, .int .i64 a2.ra, .int .i64 a2.dec]), .v (.c (.d (.int .i64 a3))), .v (.agg [.int .i64 a4.num, .int .i64 a4.den])] [] (fun v M => K (finR 0 v M).1 (finR 0 v M).2) = F_rise_State a0 a1 a2 a3 a4 K (m_rise_State a0 a1 a2 a3 a4) := by
  unfold m_rise_State
  refine Eq.trans ?_ (Eq.symm (pushT (pushT rfl (pushT rfl (pushT (pushT (pushT rfl (pushT rfl rfl)) rfl) rfl))) rfl))
  kernel_rfl
theorem c_rise_State (a0 : Globe) (a1 : Site) (a2 : Source) (a3 : Int) (a4 : Frac) (hd : (m_rise_State a0 a1 a2 a3 a4).ok = true) : CallsA Tryd.prog GT gbT 6 [.v (.agg [.int .i64 a0.a, .int .i64 a0.b]), .v (.agg [.str a1.name, .int .i64 a1.s.num, .int .i64 a1.s.den, .int .i64 a1.t.num, .int .i64 a1.t.den]), .v (.agg [.str a2.name, .int .i64 a2.ra, .int .i64 a2.dec]), .v (.c (.d (.int .i64 a3))), .v (.agg [.int .i64 a4.num, .int .i64 a4.den])] [] (.tup [.c (.d (.int .i64 ((m_rise_State a0 a1 a2 a3 a4).r0))), .c (.d (.int .i64 ((m_rise_State a0 a1 a2 a3 a4).r1)))]) [] := by
  refine CallsA.ofEvR g_rise_All hEQT hmT (n0 := 0) rfl (fun _ _ _ _ => LOKn.nil) ((e_rise_State a0 a1 a2 a3 a4 (fun v M => some (Res.fin v M))).trans ?_)
  unfold F_rise_State
  rw [hd]
  rfl
def s_rise_State : List AV → List Blk → (AV → List Blk → Ans) → Ans := fun xs bs K => match xs, bs with
  | [.v (.agg [.int .i64 a0_0, .int .i64 a0_1]), .v (.agg [.str a1_0, .int .i64 a1_1, .int .i64 a1_2, .int .i64 a1_3, .int .i64 a1_4]), .v (.agg [.str a2_0, .int .i64 a2_1, .int .i64 a2_2]), .v (.c (.d (.int .i64 a3))), .v (.agg [.int .i64 a4_0, .int .i64 a4_1])], [] => F_rise_State (⟨a0_0, a0_1⟩ : Globe) (⟨a1_0, ⟨a1_1, a1_2⟩, ⟨a1_3, a1_4⟩⟩ : Site) (⟨a2_0, a2_1, a2_2⟩ : Source) a3 (⟨a4_0, a4_1⟩ : Frac) K (m_rise_State (⟨a0_0, a0_1⟩ : Globe) (⟨a1_0, ⟨a1_1, a1_2⟩, ⟨a1_3, a1_4⟩⟩ : Site) (⟨a2_0, a2_1, a2_2⟩ : Source) a3 (⟨a4_0, a4_1⟩ : Frac))
  | _, _ => none
def T_rise_State : Nat → List AV → List Blk → (AV → List Blk → Ans) → Ans := upd T_rise_All 6 s_rise_State
theorem g_rise_State : GOK Tryd.prog GT gbT T_rise_State XT := by
  refine GOK.upd g_rise_All (fun args w => Tryd.call6 args w) fun xs bs K r h => ?_
  unfold s_rise_State at h
  split at h
  · unfold F_rise_State at h
    simp only [cond_eq_ite] at h
    split at h
    · rename_i hd
      exact ⟨_, _, c_rise_State _ _ _ _ _ hd, h⟩
    · cases h
  · cases h
structure O_rise_Windows where
  ok : Bool
  r0 : List Window
  r1 : Int
def m_rise_Windows (a0 : Globe) (a1 : Site) (a2 : Source) (a3 : Int) (a4 : Int) (a5 : Frac) : O_rise_Windows := bif (m_rise_All a0 ([a1] : List Site) a2 a3 a4 a5).ok then ⟨true, (m_rise_All a0 ([a1] : List Site) a2 a3 a4 a5).r0, (m_rise_All a0 ([a1] : List Site) a2 a3 a4 a5).r1⟩ else ⟨false, [], 0⟩
def F_rise_Windows (_a0 : Globe) (_a1 : Site) (_a2 : Source) (_a3 : Int) (_a4 : Int) (_a5 : Frac) (K : AV → List Blk → Ans) (r : O_rise_Windows) : Ans := bif r.ok then K (.tup [.c (.aslice 0 none), .c (.d (.int .i64 r.r1))]) [.arr (some 43) .win r.r0] else none
theorem e_rise_Windows (a0 : Globe) (a1 : Site) (a2 : Source) (a3 : Int) (a4 : Int) (a5 : Frac) (K : AV → List Blk → Ans) : evFn Tryd.prog GT EQT T_rise_State XT noL 80 7 [.v (.agg [.int .i64 a0.a, .int .i64 a0.b]), .v (.agg [.str a1.name, .int .i64 a1.s.num, .int .i64 a1.s.den, .int .i64 a1.t.num, .int .i64 a1.t.den]), .v (.agg [.str a2.name, .int .i64 a2.ra, .int .i64 a2.dec]), .v (.c (.d (.int .i64 a3))), .v (.c (.d (.int .i64 a4))), .v (.agg [.int .i64 a5.num, .int .i64 a5.den])] [] (fun v M => K (finR 0 v M).1 (finR 0 v M).2) = F_rise_Windows a0 a1 a2 a3 a4 a5 K (m_rise_Windows a0 a1 a2 a3 a4 a5) := by
  unfold m_rise_Windows
  refine Eq.trans ?_ (Eq.symm (pushT rfl rfl))
  kernel_rfl
theorem c_rise_Windows (a0 : Globe) (a1 : Site) (a2 : Source) (a3 : Int) (a4 : Int) (a5 : Frac) (hd : (m_rise_Windows a0 a1 a2 a3 a4 a5).ok = true) : CallsA Tryd.prog GT gbT 7 [.v (.agg [.int .i64 a0.a, .int .i64 a0.b]), .v (.agg [.str a1.name, .int .i64 a1.s.num, .int .i64 a1.s.den, .int .i64 a1.t.num, .int .i64 a1.t.den]), .v (.agg [.str a2.name, .int .i64 a2.ra, .int .i64 a2.dec]), .v (.c (.d (.int .i64 a3))), .v (.c (.d (.int .i64 a4))), .v (.agg [.int .i64 a5.num, .int .i64 a5.den])] [] (.tup [.c (.aslice 0 none), .c (.d (.int .i64 ((m_rise_Windows a0 a1 a2 a3 a4 a5).r1)))]) [.arr (some 43) .win ((m_rise_Windows a0 a1 a2 a3 a4 a5).r0)] := by
  refine CallsA.ofEvR g_rise_State hEQT hmT (n0 := 0) rfl (fun _ _ _ _ => LOKn.nil) ((e_rise_Windows a0 a1 a2 a3 a4 a5 (fun v M => some (Res.fin v M))).trans ?_)
  unfold F_rise_Windows
  rw [hd]
  rfl
def s_rise_Windows : List AV → List Blk → (AV → List Blk → Ans) → Ans := fun xs bs K => match xs, bs with
  | [.v (.agg [.int .i64 a0_0, .int .i64 a0_1]), .v (.agg [.str a1_0, .int .i64 a1_1, .int .i64 a1_2, .int .i64 a1_3, .int .i64 a1_4]), .v (.agg [.str a2_0, .int .i64 a2_1, .int .i64 a2_2]), .v (.c (.d (.int .i64 a3))), .v (.c (.d (.int .i64 a4))), .v (.agg [.int .i64 a5_0, .int .i64 a5_1])], [] => F_rise_Windows (⟨a0_0, a0_1⟩ : Globe) (⟨a1_0, ⟨a1_1, a1_2⟩, ⟨a1_3, a1_4⟩⟩ : Site) (⟨a2_0, a2_1, a2_2⟩ : Source) a3 a4 (⟨a5_0, a5_1⟩ : Frac) K (m_rise_Windows (⟨a0_0, a0_1⟩ : Globe) (⟨a1_0, ⟨a1_1, a1_2⟩, ⟨a1_3, a1_4⟩⟩ : Site) (⟨a2_0, a2_1, a2_2⟩ : Source) a3 a4 (⟨a5_0, a5_1⟩ : Frac))
  | _, _ => none
def T_rise_Windows : Nat → List AV → List Blk → (AV → List Blk → Ans) → Ans := upd T_rise_State 7 s_rise_Windows
theorem g_rise_Windows : GOK Tryd.prog GT gbT T_rise_Windows XT := by
  refine GOK.upd g_rise_State (fun args w => Tryd.call7 args w) fun xs bs K r h => ?_
  unfold s_rise_Windows at h
  split at h
  · unfold F_rise_Windows at h
    simp only [cond_eq_ite] at h
    split at h
    · rename_i hd
      exact ⟨_, _, c_rise_Windows _ _ _ _ _ _ hd, h⟩
    · cases h
  · cases h
end Go.Ev

namespace Go.Ev
open Go Go.Proofs
structure R_Q7_Same_0 where
  k : Nat
  p5 : Int
def run_Q7_Same_0 (p4 : Bool) (m0 : List Window) (m1 : List Window) : Nat → Int → R_Q7_Same_0
  | 0, p5 => ⟨2, p5⟩
  | n + 1, p5 => bif decide (p5 < (m0.length : Int)) then (bif (decide ((0 : Int) ≤ p5) && decide (p5 < (m0.length : Int))) then (bif (decide ((0 : Int) ≤ p5) && decide (p5 < (m1.length : Int))) then (bif (!(eqAll [.int .i64 ((m0.getD p5.toNat (ET.z .win)).frm), .int .i64 ((m0.getD p5.toNat (ET.z .win)).too)] [.int .i64 ((m1.getD p5.toNat (ET.z .win)).frm), .int .i64 ((m1.getD p5.toNat (ET.z .win)).too)])) then ⟨0, p5⟩ else run_Q7_Same_0 p4 m0 m1 n (w64 (p5 + (1 : Int)))) else ⟨2, p5⟩) else ⟨2, p5⟩) else ⟨1, p5⟩
def lp_Q7_Same_0 (p4 : Bool) (m0 : List Window) (m1 : List Window) (p5 : Int) : R_Q7_Same_0 := run_Q7_Same_0 p4 m0 m1 (2000 + (m0.length + m1.length)) p5
abbrev H_Q7_Same_0 (p4 : Bool) (_m0 : List Window) (_m1 : List Window) (p5 : Int) : TS := headT [0, 1, 4, 5] 26 [.v (.c (.aslice 0 none)), .v (.c (.aslice 1 none)), .v (.c (.d (.bool p4))), .v (.c (.d (.int .i64 p5)))]
theorem b_Q7_Same_0 (p4 : Bool) (m0 : List Window) (m1 : List Window) (p5 : Int) : evCode Tryd.prog GT EQT T_rise_Windows XT noL 80 (loopB Tryd.prog 9 0) (H_Q7_Same_0 p4 m0 m1 p5) [.arr none .win m0, .arr none .win m1] 2 (normK 2 [0, 1, 4, 5]) =
    bif decide (p5 < (m0.length : Int)) then (bif (decide ((0 : Int) ≤ p5) && decide (p5 < (m0.length : Int))) then (bif (decide ((0 : Int) ≤ p5) && decide (p5 < (m1.length : Int))) then (bif (!(eqAll [.int .i64 ((m0.getD p5.toNat (ET.z .win)).frm), .int .i64 ((m0.getD p5.toNat (ET.z .win)).too)] [.int .i64 ((m1.getD p5.toNat (ET.z .win)).frm), .int .i64 ((m1.getD p5.toNat (ET.z .win)).too)])) then some (.st .ret (headT [0, 1, 4, 5] 26 [.v (.c (.aslice 0 none)), .v (.c (.aslice 1 none)), .v (.c (.d (.bool false))), .v (.c (.d (.int .i64 p5)))]) [.arr none .win m0, .arr none .win m1] 2) else some (.st .normal (headT [0, 1, 4, 5] 26 [.v (.c (.aslice 0 none)), .v (.c (.aslice 1 none)), .v (.c (.d (.bool p4))), .v (.c (.d (.int .i64 (w64 (p5 + (1 : Int))))))]) [.arr none .win m0, .arr none .win m1] 2)) else none) else none) else some (.st (.exit 0) (headT [0, 1, 4, 5] 26 [.v (.c (.aslice 0 none)), .v (.c (.aslice 1 none)), .v (.c (.d (.bool p4))), .v (.c (.d (.int .i64 p5)))]) [.arr none .win m0, .arr none .win m1] 2) := by
  kernel_rfl
def o_Q7_Same_0 (p4 : Bool) (m0 : List Window) (m1 : List Window) (r : R_Q7_Same_0) : LT := .br (Nat.beq r.k 0) (.st .ret (headT [0, 1, 4, 5] 26 [.v (.c (.aslice 0 none)), .v (.c (.aslice 1 none)), .v (.c (.d (.bool false))), .v (.c (.d (.int .i64 r.p5)))]) [.arr none .win m0, .arr none .win m1] 2) (.br (Nat.beq r.k 1) (.st (.exit 0) (headT [0, 1, 4, 5] 26 [.v (.c (.aslice 0 none)), .v (.c (.aslice 1 none)), .v (.c (.d (.bool p4))), .v (.c (.d (.int .i64 r.p5)))]) [.arr none .win m0, .arr none .win m1] 2) (.no))
theorem r_Q7_Same_0 (p4 : Bool) (m0 : List Window) (m1 : List Window) : ∀ (n : Nat) (p5 : Int) (x : Ex) (T' : TS) (M' : List Blk) (N' : Nat), LReach (o_Q7_Same_0 p4 m0 m1 (run_Q7_Same_0 p4 m0 m1 n p5)) x T' M' N' → x ≠ .normal ∧ ∃ j, RoundsN Tryd.prog GT gbT 2 (loopB Tryd.prog 9 0) j (H_Q7_Same_0 p4 m0 m1 p5) [.arr none .win m0, .arr none .win m1] 2 x T' M' N' := by
  have hL : LOKn Tryd.prog GT gbT 2 noL (loopsIn (loopB Tryd.prog 9 0)) := fun _ _ _ _ _ _ _ _ _ h => h.elim
  intro n
  induction n with
  | zero =>
    intro p5 x T' M' N' hr
    exact False.elim (redF (redF hr))
  | succ n ih =>
    intro p5 x T' M' N'
    rw [run_Q7_Same_0]
    exact viaE (b_Q7_Same_0 p4 m0 m1 p5) (condG (o := o_Q7_Same_0 p4 m0 m1) (condG (o := o_Q7_Same_0 p4 m0 m1) (condG (o := o_Q7_Same_0 p4 m0 m1) (condG (o := o_Q7_Same_0 p4 m0 m1) (fun he hr => stopN g_rise_Windows hEQT hmT hL he (by simp) (redT hr)) (fun he hr => goN g_rise_Windows hEQT hmT hL he (ih (w64 (p5 + (1 : Int))) x T' M' N' hr))) (fun _ hr => False.elim (redF (redF hr)))) (fun _ hr => False.elim (redF (redF hr)))) (fun he hr => stopN g_rise_Windows hEQT hmT hL he (by simp) (redT (redF hr))))
def f_Q7_Same_0 : List AV → List Blk → LT := fun vs Ms => match vs, Ms with
  | [.v (.c (.aslice 0 none)), .v (.c (.aslice 1 none)), .v (.c (.d (.bool p4))), .v (.c (.d (.int .i64 p5)))], [.arr none .win m0, .arr none .win m1] => o_Q7_Same_0 p4 m0 m1 (lp_Q7_Same_0 p4 m0 m1 p5)
  | _, _ => .no
def L_Q7_Same_0 := LamN 4 26 2 [0, 1, 4, 5] f_Q7_Same_0
theorem k_Q7_Same_0 : LOKbn Tryd.prog GT gbT 2 L_Q7_Same_0 (loopB Tryd.prog 9 0) := by
  refine LOKbn.lamN (by kernel_rfl) fun vs Ms x T' M' N' hr => ?_
  unfold f_Q7_Same_0 at hr
  split at hr
  · obtain ⟨q1, j, q2⟩ := r_Q7_Same_0 _ _ _ _ _ x T' M' N' hr
    exact ⟨q1, j, q2⟩
  · exact hr.elim
structure O_Q7_Same where
  ok : Bool
  r0 : Bool
def m_Q7_Same (a0 : List Window) (a1 : List Window) : O_Q7_Same := bif ((a0.length : Int) != (a1.length : Int)) then ⟨true, false⟩ else (bif Nat.beq (lp_Q7_Same_0 false a0 a1 (0 : Int)).k 0 then ⟨true, false⟩ else (bif Nat.beq (lp_Q7_Same_0 false a0 a1 (0 : Int)).k 1 then ⟨true, true⟩ else ⟨false, false⟩))
def F_Q7_Same (a0 : List Window) (a1 : List Window) (K : AV → List Blk → Ans) (r : O_Q7_Same) : Ans := bif r.ok then K (.v (.c (.d (.bool r.r0)))) [.arr none .win a0, .arr none .win a1] else none
theorem e_Q7_Same (a0 : List Window) (a1 : List Window) (K : AV → List Blk → Ans) : evFn Tryd.prog GT EQT T_rise_Windows XT (orL L_Q7_Same_0 noL) 80 9 [.v (.c (.aslice 0 none)), .v (.c (.aslice 1 none))] [.arr none .win a0, .arr none .win a1] (fun v M => K (finR 2 v M).1 (finR 2 v M).2) = F_Q7_Same a0 a1 K (m_Q7_Same a0 a1) := by
  unfold m_Q7_Same
  refine Eq.trans ?_ (Eq.symm (pushT rfl (pushT rfl (pushT rfl rfl))))
  kernel_rfl
theorem lok_Q7_Same : ∀ fn c, Tryd.prog.funcs[9]? = some fn → fn.body = some c → LOKn Tryd.prog GT gbT 2 (orL L_Q7_Same_0 noL) (loopsIn c) := by
  refine LOKn.ofF fun b hb => ?_
  have e : loopsF Tryd.prog 9 = [loopB Tryd.prog 9 0] := by kernel_rfl
  rw [e] at hb
  simp only [List.mem_cons, List.not_mem_nil, or_false] at hb
  subst hb
  exact (LOKbn.or k_Q7_Same_0 (fun _ _ _ _ _ _ _ h => h.elim))
theorem c_Q7_Same (a0 : List Window) (a1 : List Window) (hd : (m_Q7_Same a0 a1).ok = true) : CallsA Tryd.prog GT gbT 9 [.v (.c (.aslice 0 none)), .v (.c (.aslice 1 none))] [.arr none .win a0, .arr none .win a1] (.v (.c (.d (.bool ((m_Q7_Same a0 a1).r0))))) [.arr none .win a0, .arr none .win a1] := by
  refine CallsA.ofEvR g_rise_Windows hEQT hmT (n0 := 2) rfl lok_Q7_Same ((e_Q7_Same a0 a1 (fun v M => some (Res.fin v M))).trans ?_)
  unfold F_Q7_Same
  rw [hd]
  rfl
def s_Q7_Same : List AV → List Blk → (AV → List Blk → Ans) → Ans := fun xs bs K => match xs, bs with
  | [.v (.c (.aslice 0 none)), .v (.c (.aslice 1 none))], [.arr none .win a0, .arr none .win a1] => F_Q7_Same a0 a1 K (m_Q7_Same a0 a1)
  | _, _ => none
def T_Q7_Same : Nat → List AV → List Blk → (AV → List Blk → Ans) → Ans := upd T_rise_Windows 9 s_Q7_Same
theorem g_Q7_Same : GOK Tryd.prog GT gbT T_Q7_Same XT := by
  refine GOK.upd g_rise_Windows (fun args w => Tryd.call9 args w) fun xs bs K r h => ?_
  unfold s_Q7_Same at h
  split at h
  · unfold F_Q7_Same at h
    simp only [cond_eq_ite] at h
    split at h
    · rename_i hd
      exact ⟨_, _, c_Q7_Same _ _ hd, h⟩
    · cases h
  · cases h
structure R_rise_Check_0 where
  k : Nat
  p10 : Int
def run_rise_Check_0 (p2 : Int) (p9 : Int) (m0 : List Window) : Nat → Int → R_rise_Check_0
  | 0, p10 => ⟨2, p10⟩
  | n + 1, p10 => bif decide (p10 < p9) then (bif (decide ((0 : Int) ≤ p10) && decide (p10 < (m0.length : Int))) then (bif decide ((m0.getD p10.toNat (ET.z .win)).too ≤ (m0.getD p10.toNat (ET.z .win)).frm) then ⟨0, p10⟩ else (bif decide ((0 : Int) < p10) then (bif (decide ((0 : Int) ≤ (w64 (p10 - (1 : Int)))) && decide ((w64 (p10 - (1 : Int))) < (m0.length : Int))) then (bif decide ((m0.getD p10.toNat (ET.z .win)).frm ≤ (m0.getD ((w64 (p10 - (1 : Int))).toNat) (ET.z .win)).too) then ⟨0, p10⟩ else run_rise_Check_0 p2 p9 m0 n (w64 (p10 + (1 : Int)))) else ⟨2, p10⟩) else run_rise_Check_0 p2 p9 m0 n (w64 (p10 + (1 : Int))))) else ⟨2, p10⟩) else ⟨1, p10⟩
def lp_rise_Check_0 (p2 : Int) (p9 : Int) (m0 : List Window) (p10 : Int) : R_rise_Check_0 := run_rise_Check_0 p2 p9 m0 (2000 + (m0.length)) p10
abbrev H_rise_Check_0 (p2 : Int) (p9 : Int) (_m0 : List Window) (p10 : Int) : TS := headT [0, 2, 8, 9, 10] 36 [.v (.c (.aslice 0 none)), .v (.c (.d (.int .i64 p2))), .v (.c (.aslice 0 none)), .v (.c (.d (.int .i64 p9))), .v (.c (.d (.int .i64 p10)))]
theorem b_rise_Check_0 (p2 : Int) (p9 : Int) (m0 : List Window) (p10 : Int) : evCode Tryd.prog GT EQT T_Q7_Same XT noL 80 (loopB Tryd.prog 12 0) (H_rise_Check_0 p2 p9 m0 p10) [.arr none .win m0] 1 (normK 1 [0, 2, 8, 9, 10]) =
    bif decide (p10 < p9) then (bif (decide ((0 : Int) ≤ p10) && decide (p10 < (m0.length : Int))) then (bif decide ((m0.getD p10.toNat (ET.z .win)).too ≤ (m0.getD p10.toNat (ET.z .win)).frm) then some (.st .ret (headT [0, 2, 8, 9, 10] 36 [.v (.c (.aslice 0 none)), .v (.c (.d (.int .i64 (8 : Int)))), .v (.c (.aslice 0 none)), .v (.c (.d (.int .i64 p9))), .v (.c (.d (.int .i64 p10)))]) [.arr none .win m0] 1) else (bif decide ((0 : Int) < p10) then (bif (decide ((0 : Int) ≤ (w64 (p10 - (1 : Int)))) && decide ((w64 (p10 - (1 : Int))) < (m0.length : Int))) then (bif decide ((m0.getD p10.toNat (ET.z .win)).frm ≤ (m0.getD ((w64 (p10 - (1 : Int))).toNat) (ET.z .win)).too) then some (.st .ret (headT [0, 2, 8, 9, 10] 36 [.v (.c (.aslice 0 none)), .v (.c (.d (.int .i64 (8 : Int)))), .v (.c (.aslice 0 none)), .v (.c (.d (.int .i64 p9))), .v (.c (.d (.int .i64 p10)))]) [.arr none .win m0] 1) else some (.st .normal (headT [0, 2, 8, 9, 10] 36 [.v (.c (.aslice 0 none)), .v (.c (.d (.int .i64 p2))), .v (.c (.aslice 0 none)), .v (.c (.d (.int .i64 p9))), .v (.c (.d (.int .i64 (w64 (p10 + (1 : Int))))))]) [.arr none .win m0] 1)) else none) else some (.st .normal (headT [0, 2, 8, 9, 10] 36 [.v (.c (.aslice 0 none)), .v (.c (.d (.int .i64 p2))), .v (.c (.aslice 0 none)), .v (.c (.d (.int .i64 p9))), .v (.c (.d (.int .i64 (w64 (p10 + (1 : Int))))))]) [.arr none .win m0] 1))) else none) else some (.st (.exit 0) (headT [0, 2, 8, 9, 10] 36 [.v (.c (.aslice 0 none)), .v (.c (.d (.int .i64 p2))), .v (.c (.aslice 0 none)), .v (.c (.d (.int .i64 p9))), .v (.c (.d (.int .i64 p10)))]) [.arr none .win m0] 1) := by
  kernel_rfl
def o_rise_Check_0 (p2 : Int) (p9 : Int) (m0 : List Window) (r : R_rise_Check_0) : LT := .br (Nat.beq r.k 0) (.st .ret (headT [0, 2, 8, 9, 10] 36 [.v (.c (.aslice 0 none)), .v (.c (.d (.int .i64 (8 : Int)))), .v (.c (.aslice 0 none)), .v (.c (.d (.int .i64 p9))), .v (.c (.d (.int .i64 r.p10)))]) [.arr none .win m0] 1) (.br (Nat.beq r.k 1) (.st (.exit 0) (headT [0, 2, 8, 9, 10] 36 [.v (.c (.aslice 0 none)), .v (.c (.d (.int .i64 p2))), .v (.c (.aslice 0 none)), .v (.c (.d (.int .i64 p9))), .v (.c (.d (.int .i64 r.p10)))]) [.arr none .win m0] 1) (.no))
theorem r_rise_Check_0 (p2 : Int) (p9 : Int) (m0 : List Window) : ∀ (n : Nat) (p10 : Int) (x : Ex) (T' : TS) (M' : List Blk) (N' : Nat), LReach (o_rise_Check_0 p2 p9 m0 (run_rise_Check_0 p2 p9 m0 n p10)) x T' M' N' → x ≠ .normal ∧ ∃ j, RoundsN Tryd.prog GT gbT 1 (loopB Tryd.prog 12 0) j (H_rise_Check_0 p2 p9 m0 p10) [.arr none .win m0] 1 x T' M' N' := by
  have hL : LOKn Tryd.prog GT gbT 1 noL (loopsIn (loopB Tryd.prog 12 0)) := fun _ _ _ _ _ _ _ _ _ h => h.elim
  intro n
  induction n with
  | zero =>
    intro p10 x T' M' N' hr
    exact False.elim (redF (redF hr))
  | succ n ih =>
    intro p10 x T' M' N'
    rw [run_rise_Check_0]
    exact viaE (b_rise_Check_0 p2 p9 m0 p10) (condG (o := o_rise_Check_0 p2 p9 m0) (condG (o := o_rise_Check_0 p2 p9 m0) (condG (o := o_rise_Check_0 p2 p9 m0) (fun he hr => stopN g_Q7_Same hEQT hmT hL he (by simp) (redT hr)) (condG (o := o_rise_Check_0 p2 p9 m0) (condG (o := o_rise_Check_0 p2 p9 m0) (condG (o := o_rise_Check_0 p2 p9 m0) (fun he hr => stopN g_Q7_Same hEQT hmT hL he (by simp) (redT hr)) (fun he hr => goN g_Q7_Same hEQT hmT hL he (ih (w64 (p10 + (1 : Int))) x T' M' N' hr))) (fun _ hr => False.elim (redF (redF hr)))) (fun he hr => goN g_Q7_Same hEQT hmT hL he (ih (w64 (p10 + (1 : Int))) x T' M' N' hr)))) (fun _ hr => False.elim (redF (redF hr)))) (fun he hr => stopN g_Q7_Same hEQT hmT hL he (by simp) (redT (redF hr))))
def f_rise_Check_0 : List AV → List Blk → LT := fun vs Ms => match vs, Ms with
  | [.v (.c (.aslice 0 none)), .v (.c (.d (.int .i64 p2))), .v (.c (.aslice 0 none)), .v (.c (.d (.int .i64 p9))), .v (.c (.d (.int .i64 p10)))], [.arr none .win m0] => o_rise_Check_0 p2 p9 m0 (lp_rise_Check_0 p2 p9 m0 p10)
  | _, _ => .no
def L_rise_Check_0 := LamN 4 36 1 [0, 2, 8, 9, 10] f_rise_Check_0
theorem k_rise_Check_0 : LOKbn Tryd.prog GT gbT 1 L_rise_Check_0 (loopB Tryd.prog 12 0) := by
  refine LOKbn.lamN (by kernel_rfl) fun vs Ms x T' M' N' hr => ?_
  unfold f_rise_Check_0 at hr
  split at hr
  · obtain ⟨q1, j, q2⟩ := r_rise_Check_0 _ _ _ _ _ x T' M' N' hr
    exact ⟨q1, j, q2⟩
  · exact hr.elim
structure O_rise_Check where
  ok : Bool
  r0 : Int
def m_rise_Check (a0 : List Window) : O_rise_Check := bif decide ((1000 : Int) < (a0.length : Int)) then ⟨true, (4 : Int)⟩ else (bif Nat.beq (lp_rise_Check_0 (0 : Int) (a0.length : Int) a0 (0 : Int)).k 0 then ⟨true, (8 : Int)⟩ else (bif Nat.beq (lp_rise_Check_0 (0 : Int) (a0.length : Int) a0 (0 : Int)).k 1 then ⟨true, (0 : Int)⟩ else ⟨false, 0⟩))
def F_rise_Check (a0 : List Window) (K : AV → List Blk → Ans) (r : O_rise_Check) : Ans := bif r.ok then K (.v (.c (.d (.int .i64 r.r0)))) [.arr none .win a0] else none
theorem e_rise_Check (a0 : List Window) (K : AV → List Blk → Ans) : evFn Tryd.prog GT EQT T_Q7_Same XT (orL L_rise_Check_0 noL) 80 12 [.v (.c (.aslice 0 none))] [.arr none .win a0] (fun v M => K (finR 1 v M).1 (finR 1 v M).2) = F_rise_Check a0 K (m_rise_Check a0) := by
  unfold m_rise_Check
  refine Eq.trans ?_ (Eq.symm (pushT rfl (pushT rfl (pushT rfl rfl))))
  kernel_rfl
theorem lok_rise_Check : ∀ fn c, Tryd.prog.funcs[12]? = some fn → fn.body = some c → LOKn Tryd.prog GT gbT 1 (orL L_rise_Check_0 noL) (loopsIn c) := by
  refine LOKn.ofF fun b hb => ?_
  have e : loopsF Tryd.prog 12 = [loopB Tryd.prog 12 0] := by kernel_rfl
  rw [e] at hb
  simp only [List.mem_cons, List.not_mem_nil, or_false] at hb
  subst hb
  exact (LOKbn.or k_rise_Check_0 (fun _ _ _ _ _ _ _ h => h.elim))
theorem c_rise_Check (a0 : List Window) (hd : (m_rise_Check a0).ok = true) : CallsA Tryd.prog GT gbT 12 [.v (.c (.aslice 0 none))] [.arr none .win a0] (.v (.c (.d (.int .i64 ((m_rise_Check a0).r0))))) [.arr none .win a0] := by
  refine CallsA.ofEvR g_Q7_Same hEQT hmT (n0 := 1) rfl lok_rise_Check ((e_rise_Check a0 (fun v M => some (Res.fin v M))).trans ?_)
  unfold F_rise_Check
  rw [hd]
  rfl
theorem cn_rise_Check (hd : (m_rise_Check ([] : List Window)).ok = true) : CallsA Tryd.prog GT gbT 12 [.v (.c .nilS)] [] (.v (.c (.d (.int .i64 ((m_rise_Check ([] : List Window)).r0))))) [.arr none .win ([] : List Window)] :=
  CallsA.nils [.win] (c_rise_Check ([] : List Window) hd) ⟨.inr ⟨rfl, 0, by decide, rfl⟩, trivial⟩
def s_rise_Check : List AV → List Blk → (AV → List Blk → Ans) → Ans := fun xs bs K => match xs, bs with
  | [.v (.c (.aslice 0 none))], [.arr none .win a0] => F_rise_Check a0 K (m_rise_Check a0)
  | [.v (.c .nilS)], [] => F_rise_Check ([] : List Window) K (m_rise_Check ([] : List Window))
  | _, _ => none
def T_rise_Check : Nat → List AV → List Blk → (AV → List Blk → Ans) → Ans := upd T_Q7_Same 12 s_rise_Check
theorem g_rise_Check : GOK Tryd.prog GT gbT T_rise_Check XT := by
  refine GOK.upd g_Q7_Same (fun args w => Tryd.call12 args w) fun xs bs K r h => ?_
  unfold s_rise_Check at h
  split at h
  · unfold F_rise_Check at h
    simp only [cond_eq_ite] at h
    split at h
    · rename_i hd
      exact ⟨_, _, c_rise_Check _ hd, h⟩
    · cases h
  · unfold F_rise_Check at h
    simp only [cond_eq_ite] at h
    split at h
    · rename_i hd
      exact ⟨_, _, cn_rise_Check hd, h⟩
    · cases h
  · cases h
structure R_rise_Meet_0 where
  k : Nat
  p9 : Int
  p10 : Int
  m2 : List Window
def run_rise_Meet_0 (m0 : List Window) (m1 : List Window) : Nat → Int → Int → List Window → R_rise_Meet_0
  | 0, p9, p10, m2 => ⟨1, p9, p10, m2⟩
  | n + 1, p9, p10, m2 => bif decide (p9 < (m0.length : Int)) then (bif decide (p10 < (m1.length : Int)) then (bif (decide ((0 : Int) ≤ p9) && decide (p9 < (m0.length : Int))) then (bif (decide ((0 : Int) ≤ p10) && decide (p10 < (m1.length : Int))) then (bif (decide ((0 : Int) ≤ p9) && decide (p9 < (m0.length : Int))) then (bif (decide ((0 : Int) ≤ p10) && decide (p10 < (m1.length : Int))) then (bif decide ((if (m1.getD p10.toNat (ET.z .win)).frm > (m0.getD p9.toNat (ET.z .win)).frm then (m1.getD p10.toNat (ET.z .win)).frm else (m0.getD p9.toNat (ET.z .win)).frm) < (if (m1.getD p10.toNat (ET.z .win)).too < (m0.getD p9.toNat (ET.z .win)).too then (m1.getD p10.toNat (ET.z .win)).too else (m0.getD p9.toNat (ET.z .win)).too)) then (bif (([⟨(if (m1.getD p10.toNat (ET.z .win)).frm > (m0.getD p9.toNat (ET.z .win)).frm then (m1.getD p10.toNat (ET.z .win)).frm else (m0.getD p9.toNat (ET.z .win)).frm), (if (m1.getD p10.toNat (ET.z .win)).too < (m0.getD p9.toNat (ET.z .win)).too then (m1.getD p10.toNat (ET.z .win)).too else (m0.getD p9.toNat (ET.z .win)).too)⟩] : List Window).length == 0) then (bif (decide ((0 : Int) ≤ p9) && decide (p9 < (m0.length : Int))) then (bif (decide ((0 : Int) ≤ p10) && decide (p10 < (m1.length : Int))) then (bif decide ((m0.getD p9.toNat (ET.z .win)).too < (m1.getD p10.toNat (ET.z .win)).too) then run_rise_Meet_0 m0 m1 n (w64 (p9 + (1 : Int))) p10 m2 else run_rise_Meet_0 m0 m1 n p9 (w64 (p10 + (1 : Int))) m2) else ⟨1, p9, p10, m2⟩) else ⟨1, p9, p10, m2⟩) else (bif (Nat.blt 0 2 && ((2 == 2) && ((2 == 2) && (Nat.ble (m2.length + ([⟨(if (m1.getD p10.toNat (ET.z .win)).frm > (m0.getD p9.toNat (ET.z .win)).frm then (m1.getD p10.toNat (ET.z .win)).frm else (m0.getD p9.toNat (ET.z .win)).frm), (if (m1.getD p10.toNat (ET.z .win)).too < (m0.getD p9.toNat (ET.z .win)).too then (m1.getD p10.toNat (ET.z .win)).too else (m0.getD p9.toNat (ET.z .win)).too)⟩] : List Window).length) roomD && Nat.ble 16 4096)))) then (bif (decide ((0 : Int) ≤ p9) && decide (p9 < (m0.length : Int))) then (bif (decide ((0 : Int) ≤ p10) && decide (p10 < (m1.length : Int))) then (bif decide ((m0.getD p9.toNat (ET.z .win)).too < (m1.getD p10.toNat (ET.z .win)).too) then run_rise_Meet_0 m0 m1 n (w64 (p9 + (1 : Int))) p10 (m2 ++ ([⟨(if (m1.getD p10.toNat (ET.z .win)).frm > (m0.getD p9.toNat (ET.z .win)).frm then (m1.getD p10.toNat (ET.z .win)).frm else (m0.getD p9.toNat (ET.z .win)).frm), (if (m1.getD p10.toNat (ET.z .win)).too < (m0.getD p9.toNat (ET.z .win)).too then (m1.getD p10.toNat (ET.z .win)).too else (m0.getD p9.toNat (ET.z .win)).too)⟩] : List Window)) else run_rise_Meet_0 m0 m1 n p9 (w64 (p10 + (1 : Int))) (m2 ++ ([⟨(if (m1.getD p10.toNat (ET.z .win)).frm > (m0.getD p9.toNat (ET.z .win)).frm then (m1.getD p10.toNat (ET.z .win)).frm else (m0.getD p9.toNat (ET.z .win)).frm), (if (m1.getD p10.toNat (ET.z .win)).too < (m0.getD p9.toNat (ET.z .win)).too then (m1.getD p10.toNat (ET.z .win)).too else (m0.getD p9.toNat (ET.z .win)).too)⟩] : List Window))) else ⟨1, p9, p10, m2⟩) else ⟨1, p9, p10, m2⟩) else ⟨1, p9, p10, m2⟩)) else (bif (decide ((0 : Int) ≤ p9) && decide (p9 < (m0.length : Int))) then (bif (decide ((0 : Int) ≤ p10) && decide (p10 < (m1.length : Int))) then (bif decide ((m0.getD p9.toNat (ET.z .win)).too < (m1.getD p10.toNat (ET.z .win)).too) then run_rise_Meet_0 m0 m1 n (w64 (p9 + (1 : Int))) p10 m2 else run_rise_Meet_0 m0 m1 n p9 (w64 (p10 + (1 : Int))) m2) else ⟨1, p9, p10, m2⟩) else ⟨1, p9, p10, m2⟩)) else ⟨1, p9, p10, m2⟩) else ⟨1, p9, p10, m2⟩) else ⟨1, p9, p10, m2⟩) else ⟨1, p9, p10, m2⟩) else ⟨0, p9, p10, m2⟩) else ⟨0, p9, p10, m2⟩
def lp_rise_Meet_0 (m0 : List Window) (m1 : List Window) (p9 : Int) (p10 : Int) (m2 : List Window) : R_rise_Meet_0 := run_rise_Meet_0 m0 m1 (2000 + (m0.length + m1.length + m2.length)) p9 p10 m2
abbrev H_rise_Meet_0 (_m0 : List Window) (_m1 : List Window) (p9 : Int) (p10 : Int) (_m2 : List Window) : TS := headT [0, 1, 8, 9, 10] 83 [.v (.c (.aslice 0 none)), .v (.c (.aslice 1 none)), .v (.c (.aslice 2 none)), .v (.c (.d (.int .i64 p9))), .v (.c (.d (.int .i64 p10)))]
theorem b_rise_Meet_0 (m0 : List Window) (m1 : List Window) (p9 : Int) (p10 : Int) (m2 : List Window) : evCode Tryd.prog GT EQT T_rise_Check XT noL 80 (loopB Tryd.prog 10 0) (H_rise_Meet_0 m0 m1 p9 p10 m2) [.arr none .win m0, .arr none .win m1, .arr (some 43) .win m2] 3 (normK 2 [0, 1, 8, 9, 10]) =
    bif decide (p9 < (m0.length : Int)) then (bif decide (p10 < (m1.length : Int)) then (bif (decide ((0 : Int) ≤ p9) && decide (p9 < (m0.length : Int))) then (bif (decide ((0 : Int) ≤ p10) && decide (p10 < (m1.length : Int))) then (bif (decide ((0 : Int) ≤ p9) && decide (p9 < (m0.length : Int))) then (bif (decide ((0 : Int) ≤ p10) && decide (p10 < (m1.length : Int))) then (bif decide ((if (m1.getD p10.toNat (ET.z .win)).frm > (m0.getD p9.toNat (ET.z .win)).frm then (m1.getD p10.toNat (ET.z .win)).frm else (m0.getD p9.toNat (ET.z .win)).frm) < (if (m1.getD p10.toNat (ET.z .win)).too < (m0.getD p9.toNat (ET.z .win)).too then (m1.getD p10.toNat (ET.z .win)).too else (m0.getD p9.toNat (ET.z .win)).too)) then (bif (([⟨(if (m1.getD p10.toNat (ET.z .win)).frm > (m0.getD p9.toNat (ET.z .win)).frm then (m1.getD p10.toNat (ET.z .win)).frm else (m0.getD p9.toNat (ET.z .win)).frm), (if (m1.getD p10.toNat (ET.z .win)).too < (m0.getD p9.toNat (ET.z .win)).too then (m1.getD p10.toNat (ET.z .win)).too else (m0.getD p9.toNat (ET.z .win)).too)⟩] : List Window).length == 0) then (bif (decide ((0 : Int) ≤ p9) && decide (p9 < (m0.length : Int))) then (bif (decide ((0 : Int) ≤ p10) && decide (p10 < (m1.length : Int))) then (bif decide ((m0.getD p9.toNat (ET.z .win)).too < (m1.getD p10.toNat (ET.z .win)).too) then some (.st .normal (headT [0, 1, 8, 9, 10] 83 [.v (.c (.aslice 0 none)), .v (.c (.aslice 1 none)), .v (.c (.aslice 2 none)), .v (.c (.d (.int .i64 (w64 (p9 + (1 : Int)))))), .v (.c (.d (.int .i64 p10)))]) [.arr none .win m0, .arr none .win m1, .arr (some 43) .win m2] 3) else some (.st .normal (headT [0, 1, 8, 9, 10] 83 [.v (.c (.aslice 0 none)), .v (.c (.aslice 1 none)), .v (.c (.aslice 2 none)), .v (.c (.d (.int .i64 p9))), .v (.c (.d (.int .i64 (w64 (p10 + (1 : Int))))))]) [.arr none .win m0, .arr none .win m1, .arr (some 43) .win m2] 3)) else none) else none) else (bif (Nat.blt 0 2 && ((2 == 2) && ((2 == 2) && (Nat.ble (m2.length + ([⟨(if (m1.getD p10.toNat (ET.z .win)).frm > (m0.getD p9.toNat (ET.z .win)).frm then (m1.getD p10.toNat (ET.z .win)).frm else (m0.getD p9.toNat (ET.z .win)).frm), (if (m1.getD p10.toNat (ET.z .win)).too < (m0.getD p9.toNat (ET.z .win)).too then (m1.getD p10.toNat (ET.z .win)).too else (m0.getD p9.toNat (ET.z .win)).too)⟩] : List Window).length) roomD && Nat.ble 16 4096)))) then (bif (decide ((0 : Int) ≤ p9) && decide (p9 < (m0.length : Int))) then (bif (decide ((0 : Int) ≤ p10) && decide (p10 < (m1.length : Int))) then (bif decide ((m0.getD p9.toNat (ET.z .win)).too < (m1.getD p10.toNat (ET.z .win)).too) then some (.st .normal (headT [0, 1, 8, 9, 10] 83 [.v (.c (.aslice 0 none)), .v (.c (.aslice 1 none)), .v (.c (.aslice 2 none)), .v (.c (.d (.int .i64 (w64 (p9 + (1 : Int)))))), .v (.c (.d (.int .i64 p10)))]) [.arr none .win m0, .arr none .win m1, .arr (some 43) .win (m2 ++ ([⟨(if (m1.getD p10.toNat (ET.z .win)).frm > (m0.getD p9.toNat (ET.z .win)).frm then (m1.getD p10.toNat (ET.z .win)).frm else (m0.getD p9.toNat (ET.z .win)).frm), (if (m1.getD p10.toNat (ET.z .win)).too < (m0.getD p9.toNat (ET.z .win)).too then (m1.getD p10.toNat (ET.z .win)).too else (m0.getD p9.toNat (ET.z .win)).too)⟩] : List Window))] 3) else some (.st .normal (headT [0, 1, 8, 9, 10] 83 [.v (.c (.aslice 0 none)), .v (.c (.aslice 1 none)), .v (.c (.aslice 2 none)), .v (.c (.d (.int .i64 p9))), .v (.c (.d (.int .i64 (w64 (p10 + (1 : Int))))))]) [.arr none .win m0, .arr none .win m1, .arr (some 43) .win (m2 ++ ([⟨(if (m1.getD p10.toNat (ET.z .win)).frm > (m0.getD p9.toNat (ET.z .win)).frm then (m1.getD p10.toNat (ET.z .win)).frm else (m0.getD p9.toNat (ET.z .win)).frm), (if (m1.getD p10.toNat (ET.z .win)).too < (m0.getD p9.toNat (ET.z .win)).too then (m1.getD p10.toNat (ET.z .win)).too else (m0.getD p9.toNat (ET.z .win)).too)⟩] : List Window))] 3)) else none) else none) else none)) else (bif (decide ((0 : Int) ≤ p9) && decide (p9 < (m0.length : Int))) then (bif (decide ((0 : Int) ≤ p10) && decide (p10 < (m1.length : Int))) then (bif decide ((m0.getD p9.toNat (ET.z .win)).too < (m1.getD p10.toNat (ET.z .win)).too) then some (.st .normal (headT [0, 1, 8, 9, 10] 83 [.v (.c (.aslice 0 none)), .v (.c (.aslice 1 none)), .v (.c (.aslice 2 none)), .v (.c (.d (.int .i64 (w64 (p9 + (1 : Int)))))), .v (.c (.d (.int .i64 p10)))]) [.arr none .win m0, .arr none .win m1, .arr (some 43) .win m2] 3) else some (.st .normal (headT [0, 1, 8, 9, 10] 83 [.v (.c (.aslice 0 none)), .v (.c (.aslice 1 none)), .v (.c (.aslice 2 none)), .v (.c (.d (.int .i64 p9))), .v (.c (.d (.int .i64 (w64 (p10 + (1 : Int))))))]) [.arr none .win m0, .arr none .win m1, .arr (some 43) .win m2] 3)) else none) else none)) else none) else none) else none) else none) else some (.st (.exit 0) (headT [0, 1, 8, 9, 10] 83 [.v (.c (.aslice 0 none)), .v (.c (.aslice 1 none)), .v (.c (.aslice 2 none)), .v (.c (.d (.int .i64 p9))), .v (.c (.d (.int .i64 p10)))]) [.arr none .win m0, .arr none .win m1, .arr (some 43) .win m2] 3)) else some (.st (.exit 0) (headT [0, 1, 8, 9, 10] 83 [.v (.c (.aslice 0 none)), .v (.c (.aslice 1 none)), .v (.c (.aslice 2 none)), .v (.c (.d (.int .i64 p9))), .v (.c (.d (.int .i64 p10)))]) [.arr none .win m0, .arr none .win m1, .arr (some 43) .win m2] 3) := by
  kernel_rfl
def o_rise_Meet_0 (m0 : List Window) (m1 : List Window) (r : R_rise_Meet_0) : LT := .br (Nat.beq r.k 0) (.st (.exit 0) (headT [0, 1, 8, 9, 10] 83 [.v (.c (.aslice 0 none)), .v (.c (.aslice 1 none)), .v (.c (.aslice 2 none)), .v (.c (.d (.int .i64 r.p9))), .v (.c (.d (.int .i64 r.p10)))]) [.arr none .win m0, .arr none .win m1, .arr (some 43) .win r.m2] 3) (.no)
theorem r_rise_Meet_0 (m0 : List Window) (m1 : List Window) : ∀ (n : Nat) (p9 : Int) (p10 : Int) (m2 : List Window) (x : Ex) (T' : TS) (M' : List Blk) (N' : Nat), LReach (o_rise_Meet_0 m0 m1 (run_rise_Meet_0 m0 m1 n p9 p10 m2)) x T' M' N' → x ≠ .normal ∧ ∃ j, RoundsN Tryd.prog GT gbT 2 (loopB Tryd.prog 10 0) j (H_rise_Meet_0 m0 m1 p9 p10 m2) [.arr none .win m0, .arr none .win m1, .arr (some 43) .win m2] 3 x T' M' N' := by
  have hL : LOKn Tryd.prog GT gbT 2 noL (loopsIn (loopB Tryd.prog 10 0)) := fun _ _ _ _ _ _ _ _ _ h => h.elim
  intro n
  induction n with
  | zero =>
    intro p9 p10 m2 x T' M' N' hr
    exact False.elim (redF hr)
  | succ n ih =>
    intro p9 p10 m2 x T' M' N'
    rw [run_rise_Meet_0]
    exact viaE (b_rise_Meet_0 m0 m1 p9 p10 m2) (condG (o := o_rise_Meet_0 m0 m1) (condG (o := o_rise_Meet_0 m0 m1) (condG (o := o_rise_Meet_0 m0 m1) (condG (o := o_rise_Meet_0 m0 m1) (condG (o := o_rise_Meet_0 m0 m1) (condG (o := o_rise_Meet_0 m0 m1) (condG (o := o_rise_Meet_0 m0 m1) (condG (o := o_rise_Meet_0 m0 m1) (condG (o := o_rise_Meet_0 m0 m1) (condG (o := o_rise_Meet_0 m0 m1) (condG (o := o_rise_Meet_0 m0 m1) (fun he hr => goN g_rise_Check hEQT hmT hL he (ih (w64 (p9 + (1 : Int))) p10 m2 x T' M' N' hr)) (fun he hr => goN g_rise_Check hEQT hmT hL he (ih p9 (w64 (p10 + (1 : Int))) m2 x T' M' N' hr))) (fun _ hr => False.elim (redF hr))) (fun _ hr => False.elim (redF hr))) (condG (o := o_rise_Meet_0 m0 m1) (condG (o := o_rise_Meet_0 m0 m1) (condG (o := o_rise_Meet_0 m0 m1) (condG (o := o_rise_Meet_0 m0 m1) (fun he hr => goN g_rise_Check hEQT hmT hL he (ih (w64 (p9 + (1 : Int))) p10 (m2 ++ ([⟨(if (m1.getD p10.toNat (ET.z .win)).frm > (m0.getD p9.toNat (ET.z .win)).frm then (m1.getD p10.toNat (ET.z .win)).frm else (m0.getD p9.toNat (ET.z .win)).frm), (if (m1.getD p10.toNat (ET.z .win)).too < (m0.getD p9.toNat (ET.z .win)).too then (m1.getD p10.toNat (ET.z .win)).too else (m0.getD p9.toNat (ET.z .win)).too)⟩] : List Window)) x T' M' N' hr)) (fun he hr => goN g_rise_Check hEQT hmT hL he (ih p9 (w64 (p10 + (1 : Int))) (m2 ++ ([⟨(if (m1.getD p10.toNat (ET.z .win)).frm > (m0.getD p9.toNat (ET.z .win)).frm then (m1.getD p10.toNat (ET.z .win)).frm else (m0.getD p9.toNat (ET.z .win)).frm), (if (m1.getD p10.toNat (ET.z .win)).too < (m0.getD p9.toNat (ET.z .win)).too then (m1.getD p10.toNat (ET.z .win)).too else (m0.getD p9.toNat (ET.z .win)).too)⟩] : List Window)) x T' M' N' hr))) (fun _ hr => False.elim (redF hr))) (fun _ hr => False.elim (redF hr))) (fun _ hr => False.elim (redF hr)))) (condG (o := o_rise_Meet_0 m0 m1) (condG (o := o_rise_Meet_0 m0 m1) (condG (o := o_rise_Meet_0 m0 m1) (fun he hr => goN g_rise_Check hEQT hmT hL he (ih (w64 (p9 + (1 : Int))) p10 m2 x T' M' N' hr)) (fun he hr => goN g_rise_Check hEQT hmT hL he (ih p9 (w64 (p10 + (1 : Int))) m2 x T' M' N' hr))) (fun _ hr => False.elim (redF hr))) (fun _ hr => False.elim (redF hr)))) (fun _ hr => False.elim (redF hr))) (fun _ hr => False.elim (redF hr))) (fun _ hr => False.elim (redF hr))) (fun _ hr => False.elim (redF hr))) (fun he hr => stopN g_rise_Check hEQT hmT hL he (by simp) (redT hr))) (fun he hr => stopN g_rise_Check hEQT hmT hL he (by simp) (redT hr)))
def f_rise_Meet_0 : List AV → List Blk → LT := fun vs Ms => match vs, Ms with
  | [.v (.c (.aslice 0 none)), .v (.c (.aslice 1 none)), .v (.c (.aslice 2 none)), .v (.c (.d (.int .i64 p9))), .v (.c (.d (.int .i64 p10)))], [.arr none .win m0, .arr none .win m1, .arr (some 43) .win m2] => o_rise_Meet_0 m0 m1 (lp_rise_Meet_0 m0 m1 p9 p10 m2)
  | _, _ => .no
def L_rise_Meet_0 := LamN 9 83 2 [0, 1, 8, 9, 10] f_rise_Meet_0
theorem k_rise_Meet_0 : LOKbn Tryd.prog GT gbT 2 L_rise_Meet_0 (loopB Tryd.prog 10 0) := by
  refine LOKbn.lamN (by kernel_rfl) fun vs Ms x T' M' N' hr => ?_
  unfold f_rise_Meet_0 at hr
  split at hr
  · obtain ⟨q1, j, q2⟩ := r_rise_Meet_0 _ _ _ _ _ _ x T' M' N' hr
    exact ⟨q1, j, q2⟩
  · exact hr.elim
structure O_rise_Meet where
  ok : Bool
  r0 : List Window
  r1 : Int
def m_rise_Meet (a0 : List Window) (a1 : List Window) : O_rise_Meet := bif (m_rise_Check a0).ok then (bif ((m_rise_Check a0).r0 != (0 : Int)) then ⟨true, ([] : List Window), (m_rise_Check a0).r0⟩ else (bif (m_rise_Check a1).ok then (bif ((m_rise_Check a1).r0 != (0 : Int)) then ⟨true, ([] : List Window), (m_rise_Check a1).r0⟩ else (bif Nat.beq (lp_rise_Meet_0 a0 a1 (0 : Int) (0 : Int) ([] : List Window)).k 0 then (bif decide ((1000 : Int) < (((lp_rise_Meet_0 a0 a1 (0 : Int) (0 : Int) ([] : List Window)).m2).length : Int)) then ⟨true, ([] : List Window), (4 : Int)⟩ else ⟨true, ((lp_rise_Meet_0 a0 a1 (0 : Int) (0 : Int) ([] : List Window)).m2), (0 : Int)⟩) else ⟨false, [], 0⟩)) else ⟨false, [], 0⟩)) else ⟨false, [], 0⟩
def F_rise_Meet (a0 : List Window) (a1 : List Window) (K : AV → List Blk → Ans) (r : O_rise_Meet) : Ans := bif r.ok then K (.tup [.c (.aslice 2 none), .c (.d (.int .i64 r.r1))]) [.arr none .win a0, .arr none .win a1, .arr (some 43) .win r.r0] else none
theorem e_rise_Meet (a0 : List Window) (a1 : List Window) (K : AV → List Blk → Ans) : evFn Tryd.prog GT EQT T_rise_Check XT (orL L_rise_Meet_0 noL) 80 10 [.v (.c (.aslice 0 none)), .v (.c (.aslice 1 none))] [.arr none .win a0, .arr none .win a1] (fun v M => K (finR 2 v M).1 (finR 2 v M).2) = F_rise_Meet a0 a1 K (m_rise_Meet a0 a1) := by
  unfold m_rise_Meet
  refine Eq.trans ?_ (Eq.symm (pushT (pushT rfl (pushT (pushT rfl (pushT (pushT rfl rfl) rfl)) rfl)) rfl))
  kernel_rfl
theorem lok_rise_Meet : ∀ fn c, Tryd.prog.funcs[10]? = some fn → fn.body = some c → LOKn Tryd.prog GT gbT 2 (orL L_rise_Meet_0 noL) (loopsIn c) := by
  refine LOKn.ofF fun b hb => ?_
  have e : loopsF Tryd.prog 10 = [loopB Tryd.prog 10 0] := by kernel_rfl
  rw [e] at hb
  simp only [List.mem_cons, List.not_mem_nil, or_false] at hb
  subst hb
  exact (LOKbn.or k_rise_Meet_0 (fun _ _ _ _ _ _ _ h => h.elim))
theorem c_rise_Meet (a0 : List Window) (a1 : List Window) (hd : (m_rise_Meet a0 a1).ok = true) : CallsA Tryd.prog GT gbT 10 [.v (.c (.aslice 0 none)), .v (.c (.aslice 1 none))] [.arr none .win a0, .arr none .win a1] (.tup [.c (.aslice 2 none), .c (.d (.int .i64 ((m_rise_Meet a0 a1).r1)))]) [.arr none .win a0, .arr none .win a1, .arr (some 43) .win ((m_rise_Meet a0 a1).r0)] := by
  refine CallsA.ofEvR g_rise_Check hEQT hmT (n0 := 2) rfl lok_rise_Meet ((e_rise_Meet a0 a1 (fun v M => some (Res.fin v M))).trans ?_)
  unfold F_rise_Meet
  rw [hd]
  rfl
def s_rise_Meet : List AV → List Blk → (AV → List Blk → Ans) → Ans := fun xs bs K => match xs, bs with
  | [.v (.c (.aslice 0 none)), .v (.c (.aslice 1 none))], [.arr none .win a0, .arr none .win a1] => F_rise_Meet a0 a1 K (m_rise_Meet a0 a1)
  | _, _ => none
def T_rise_Meet : Nat → List AV → List Blk → (AV → List Blk → Ans) → Ans := upd T_rise_Check 10 s_rise_Meet
theorem g_rise_Meet : GOK Tryd.prog GT gbT T_rise_Meet XT := by
  refine GOK.upd g_rise_Check (fun args w => Tryd.call10 args w) fun xs bs K r h => ?_
  unfold s_rise_Meet at h
  split at h
  · unfold F_rise_Meet at h
    simp only [cond_eq_ite] at h
    split at h
    · rename_i hd
      exact ⟨_, _, c_rise_Meet _ _ hd, h⟩
    · cases h
  · cases h
structure R_rise_Next_0 where
  k : Nat
  p21 : Int
def run_rise_Next_0 (p1 : Int) (p2 : Int) (p6 : Int) (p7 : Int) (p20 : Int) (m0 : List Window) : Nat → Int → R_rise_Next_0
  | 0, p21 => ⟨2, p21⟩
  | n + 1, p21 => bif decide (p21 < p20) then (bif (decide ((0 : Int) ≤ p21) && decide (p21 < (m0.length : Int))) then (bif decide ((if (m0.getD p21.toNat (ET.z .win)).frm > p1 then (m0.getD p21.toNat (ET.z .win)).frm else p1) < (m0.getD p21.toNat (ET.z .win)).too) then (bif decide ((wu64 p2) ≤ (wu64 ((wu64 ((m0.getD p21.toNat (ET.z .win)).too)) - (wu64 (if (m0.getD p21.toNat (ET.z .win)).frm > p1 then (m0.getD p21.toNat (ET.z .win)).frm else p1))))) then ⟨0, p21⟩ else run_rise_Next_0 p1 p2 p6 p7 p20 m0 n (w64 (p21 + (1 : Int)))) else run_rise_Next_0 p1 p2 p6 p7 p20 m0 n (w64 (p21 + (1 : Int)))) else ⟨2, p21⟩) else ⟨1, p21⟩
def lp_rise_Next_0 (p1 : Int) (p2 : Int) (p6 : Int) (p7 : Int) (p20 : Int) (m0 : List Window) (p21 : Int) : R_rise_Next_0 := run_rise_Next_0 p1 p2 p6 p7 p20 m0 (2000 + (m0.length)) p21
abbrev H_rise_Next_0 (p1 : Int) (p2 : Int) (p6 : Int) (p7 : Int) (p20 : Int) (_m0 : List Window) (p21 : Int) : TS := headT [1, 2, 6, 7, 19, 20, 21] 46 [.v (.c (.d (.int .i64 p1))), .v (.c (.d (.int .i64 p2))), .v (.c (.d (.int .i64 p6))), .v (.c (.d (.int .i64 p7))), .v (.c (.aslice 0 none)), .v (.c (.d (.int .i64 p20))), .v (.c (.d (.int .i64 p21)))]
theorem b_rise_Next_0 (p1 : Int) (p2 : Int) (p6 : Int) (p7 : Int) (p20 : Int) (m0 : List Window) (p21 : Int) : evCode Tryd.prog GT EQT T_rise_Meet XT noL 80 (loopB Tryd.prog 11 0) (H_rise_Next_0 p1 p2 p6 p7 p20 m0 p21) [.arr none .win m0] 1 (normK 1 [1, 2, 6, 7, 19, 20, 21]) =
    bif decide (p21 < p20) then (bif (decide ((0 : Int) ≤ p21) && decide (p21 < (m0.length : Int))) then (bif decide ((if (m0.getD p21.toNat (ET.z .win)).frm > p1 then (m0.getD p21.toNat (ET.z .win)).frm else p1) < (m0.getD p21.toNat (ET.z .win)).too) then (bif decide ((wu64 p2) ≤ (wu64 ((wu64 ((m0.getD p21.toNat (ET.z .win)).too)) - (wu64 (if (m0.getD p21.toNat (ET.z .win)).frm > p1 then (m0.getD p21.toNat (ET.z .win)).frm else p1))))) then some (.st .ret (headT [1, 2, 6, 7, 19, 20, 21] 46 [.v (.c (.d (.int .i64 p1))), .v (.c (.d (.int .i64 p2))), .v (.c (.d (.int .i64 (if (m0.getD p21.toNat (ET.z .win)).frm > p1 then (m0.getD p21.toNat (ET.z .win)).frm else p1)))), .v (.c (.d (.int .i64 (0 : Int)))), .v (.c (.aslice 0 none)), .v (.c (.d (.int .i64 p20))), .v (.c (.d (.int .i64 p21)))]) [.arr none .win m0] 1) else some (.st .normal (headT [1, 2, 6, 7, 19, 20, 21] 46 [.v (.c (.d (.int .i64 p1))), .v (.c (.d (.int .i64 p2))), .v (.c (.d (.int .i64 p6))), .v (.c (.d (.int .i64 p7))), .v (.c (.aslice 0 none)), .v (.c (.d (.int .i64 p20))), .v (.c (.d (.int .i64 (w64 (p21 + (1 : Int))))))]) [.arr none .win m0] 1)) else some (.st .normal (headT [1, 2, 6, 7, 19, 20, 21] 46 [.v (.c (.d (.int .i64 p1))), .v (.c (.d (.int .i64 p2))), .v (.c (.d (.int .i64 p6))), .v (.c (.d (.int .i64 p7))), .v (.c (.aslice 0 none)), .v (.c (.d (.int .i64 p20))), .v (.c (.d (.int .i64 (w64 (p21 + (1 : Int))))))]) [.arr none .win m0] 1)) else none) else some (.st (.exit 0) (headT [1, 2, 6, 7, 19, 20, 21] 46 [.v (.c (.d (.int .i64 p1))), .v (.c (.d (.int .i64 p2))), .v (.c (.d (.int .i64 p6))), .v (.c (.d (.int .i64 p7))), .v (.c (.aslice 0 none)), .v (.c (.d (.int .i64 p20))), .v (.c (.d (.int .i64 p21)))]) [.arr none .win m0] 1) := by
  kernel_rfl
def o_rise_Next_0 (p1 : Int) (p2 : Int) (p6 : Int) (p7 : Int) (p20 : Int) (m0 : List Window) (r : R_rise_Next_0) : LT := .br (Nat.beq r.k 0) (.st .ret (headT [1, 2, 6, 7, 19, 20, 21] 46 [.v (.c (.d (.int .i64 p1))), .v (.c (.d (.int .i64 p2))), .v (.c (.d (.int .i64 (if (m0.getD r.p21.toNat (ET.z .win)).frm > p1 then (m0.getD r.p21.toNat (ET.z .win)).frm else p1)))), .v (.c (.d (.int .i64 (0 : Int)))), .v (.c (.aslice 0 none)), .v (.c (.d (.int .i64 p20))), .v (.c (.d (.int .i64 r.p21)))]) [.arr none .win m0] 1) (.br (Nat.beq r.k 1) (.st (.exit 0) (headT [1, 2, 6, 7, 19, 20, 21] 46 [.v (.c (.d (.int .i64 p1))), .v (.c (.d (.int .i64 p2))), .v (.c (.d (.int .i64 p6))), .v (.c (.d (.int .i64 p7))), .v (.c (.aslice 0 none)), .v (.c (.d (.int .i64 p20))), .v (.c (.d (.int .i64 r.p21)))]) [.arr none .win m0] 1) (.no))
theorem r_rise_Next_0 (p1 : Int) (p2 : Int) (p6 : Int) (p7 : Int) (p20 : Int) (m0 : List Window) : ∀ (n : Nat) (p21 : Int) (x : Ex) (T' : TS) (M' : List Blk) (N' : Nat), LReach (o_rise_Next_0 p1 p2 p6 p7 p20 m0 (run_rise_Next_0 p1 p2 p6 p7 p20 m0 n p21)) x T' M' N' → x ≠ .normal ∧ ∃ j, RoundsN Tryd.prog GT gbT 1 (loopB Tryd.prog 11 0) j (H_rise_Next_0 p1 p2 p6 p7 p20 m0 p21) [.arr none .win m0] 1 x T' M' N' := by
  have hL : LOKn Tryd.prog GT gbT 1 noL (loopsIn (loopB Tryd.prog 11 0)) := fun _ _ _ _ _ _ _ _ _ h => h.elim
  intro n
  induction n with
  | zero =>
    intro p21 x T' M' N' hr
    exact False.elim (redF (redF hr))
  | succ n ih =>
    intro p21 x T' M' N'
    rw [run_rise_Next_0]
    exact viaE (b_rise_Next_0 p1 p2 p6 p7 p20 m0 p21) (condG (o := o_rise_Next_0 p1 p2 p6 p7 p20 m0) (condG (o := o_rise_Next_0 p1 p2 p6 p7 p20 m0) (condG (o := o_rise_Next_0 p1 p2 p6 p7 p20 m0) (condG (o := o_rise_Next_0 p1 p2 p6 p7 p20 m0) (fun he hr => stopN g_rise_Meet hEQT hmT hL he (by simp) (redT hr)) (fun he hr => goN g_rise_Meet hEQT hmT hL he (ih (w64 (p21 + (1 : Int))) x T' M' N' hr))) (fun he hr => goN g_rise_Meet hEQT hmT hL he (ih (w64 (p21 + (1 : Int))) x T' M' N' hr))) (fun _ hr => False.elim (redF (redF hr)))) (fun he hr => stopN g_rise_Meet hEQT hmT hL he (by simp) (redT (redF hr))))
def f_rise_Next_0 : List AV → List Blk → LT := fun vs Ms => match vs, Ms with
  | [.v (.c (.d (.int .i64 p1))), .v (.c (.d (.int .i64 p2))), .v (.c (.d (.int .i64 p6))), .v (.c (.d (.int .i64 p7))), .v (.c (.aslice 0 none)), .v (.c (.d (.int .i64 p20))), .v (.c (.d (.int .i64 p21)))], [.arr none .win m0] => o_rise_Next_0 p1 p2 p6 p7 p20 m0 (lp_rise_Next_0 p1 p2 p6 p7 p20 m0 p21)
  | _, _ => .no
def L_rise_Next_0 := LamN 7 46 1 [1, 2, 6, 7, 19, 20, 21] f_rise_Next_0
theorem k_rise_Next_0 : LOKbn Tryd.prog GT gbT 1 L_rise_Next_0 (loopB Tryd.prog 11 0) := by
  refine LOKbn.lamN (by kernel_rfl) fun vs Ms x T' M' N' hr => ?_
  unfold f_rise_Next_0 at hr
  split at hr
  · obtain ⟨q1, j, q2⟩ := r_rise_Next_0 _ _ _ _ _ _ _ _ x T' M' N' hr
    exact ⟨q1, j, q2⟩
  · exact hr.elim
structure O_rise_Next where
  ok : Bool
  r0 : Int
  r1 : Int
def m_rise_Next (a0 : List Window) (a1 : Int) (a2 : Int) : O_rise_Next := bif (m_rise_Check a0).ok then (bif ((m_rise_Check a0).r0 != (0 : Int)) then ⟨true, (0 : Int), (m_rise_Check a0).r0⟩ else (bif decide (a2 < (1 : Int)) then ⟨true, (0 : Int), (2 : Int)⟩ else (bif Nat.beq (lp_rise_Next_0 a1 a2 (0 : Int) (0 : Int) (a0.length : Int) a0 (0 : Int)).k 0 then ⟨true, (if (a0.getD ((lp_rise_Next_0 a1 a2 (0 : Int) (0 : Int) (a0.length : Int) a0 (0 : Int)).p21).toNat (ET.z .win)).frm > a1 then (a0.getD ((lp_rise_Next_0 a1 a2 (0 : Int) (0 : Int) (a0.length : Int) a0 (0 : Int)).p21).toNat (ET.z .win)).frm else a1), (0 : Int)⟩ else (bif Nat.beq (lp_rise_Next_0 a1 a2 (0 : Int) (0 : Int) (a0.length : Int) a0 (0 : Int)).k 1 then ⟨true, (0 : Int), (6 : Int)⟩ else ⟨false, 0, 0⟩)))) else ⟨false, 0, 0⟩
def F_rise_Next (a0 : List Window) (_a1 : Int) (_a2 : Int) (K : AV → List Blk → Ans) (r : O_rise_Next) : Ans := bif r.ok then K (.tup [.c (.d (.int .i64 r.r0)), .c (.d (.int .i64 r.r1))]) [.arr none .win a0] else none
theorem e_rise_Next (a0 : List Window) (a1 : Int) (a2 : Int) (K : AV → List Blk → Ans) : evFn Tryd.prog GT EQT T_rise_Meet XT (orL L_rise_Next_0 noL) 80 11 [.v (.c (.aslice 0 none)), .v (.c (.d (.int .i64 a1))), .v (.c (.d (.int .i64 a2)))] [.arr none .win a0] (fun v M => K (finR 1 v M).1 (finR 1 v M).2) = F_rise_Next a0 a1 a2 K (m_rise_Next a0 a1 a2) := by
  unfold m_rise_Next
  refine Eq.trans ?_ (Eq.symm (pushT (pushT rfl (pushT rfl (pushT rfl (pushT rfl rfl)))) rfl))
  kernel_rfl
theorem lok_rise_Next : ∀ fn c, Tryd.prog.funcs[11]? = some fn → fn.body = some c → LOKn Tryd.prog GT gbT 1 (orL L_rise_Next_0 noL) (loopsIn c) := by
  refine LOKn.ofF fun b hb => ?_
  have e : loopsF Tryd.prog 11 = [loopB Tryd.prog 11 0] := by kernel_rfl
  rw [e] at hb
  simp only [List.mem_cons, List.not_mem_nil, or_false] at hb
  subst hb
  exact (LOKbn.or k_rise_Next_0 (fun _ _ _ _ _ _ _ h => h.elim))
theorem c_rise_Next (a0 : List Window) (a1 : Int) (a2 : Int) (hd : (m_rise_Next a0 a1 a2).ok = true) : CallsA Tryd.prog GT gbT 11 [.v (.c (.aslice 0 none)), .v (.c (.d (.int .i64 a1))), .v (.c (.d (.int .i64 a2)))] [.arr none .win a0] (.tup [.c (.d (.int .i64 ((m_rise_Next a0 a1 a2).r0))), .c (.d (.int .i64 ((m_rise_Next a0 a1 a2).r1)))]) [.arr none .win a0] := by
  refine CallsA.ofEvR g_rise_Meet hEQT hmT (n0 := 1) rfl lok_rise_Next ((e_rise_Next a0 a1 a2 (fun v M => some (Res.fin v M))).trans ?_)
  unfold F_rise_Next
  rw [hd]
  rfl
def s_rise_Next : List AV → List Blk → (AV → List Blk → Ans) → Ans := fun xs bs K => match xs, bs with
  | [.v (.c (.aslice 0 none)), .v (.c (.d (.int .i64 a1))), .v (.c (.d (.int .i64 a2)))], [.arr none .win a0] => F_rise_Next a0 a1 a2 K (m_rise_Next a0 a1 a2)
  | _, _ => none
def T_rise_Next : Nat → List AV → List Blk → (AV → List Blk → Ans) → Ans := upd T_rise_Meet 11 s_rise_Next
theorem g_rise_Next : GOK Tryd.prog GT gbT T_rise_Next XT := by
  refine GOK.upd g_rise_Meet (fun args w => Tryd.call11 args w) fun xs bs K r h => ?_
  unfold s_rise_Next at h
  split at h
  · unfold F_rise_Next at h
    simp only [cond_eq_ite] at h
    split at h
    · rename_i hd
      exact ⟨_, _, c_rise_Next _ _ _ hd, h⟩
    · cases h
  · cases h
structure O_W7_given where
  ok : Bool
  r0 : Globe
  r1 : Site
  r2 : Source
def m_W7_given : O_W7_given := ⟨true, ⟨(1 : Int), (1 : Int)⟩, ⟨(ByteArray.mk #[97]), ⟨(0 : Int), 1⟩, ⟨(0 : Int), 1⟩⟩, ⟨(ByteArray.mk #[98]), (0 : Int), (0 : Int)⟩⟩
def F_W7_given (K : AV → List Blk → Ans) (r : O_W7_given) : Ans := bif r.ok then K (.tup [.agg [.int .i64 r.r0.a, .int .i64 r.r0.b], .agg [.str r.r1.name, .int .i64 r.r1.s.num, .int .i64 r.r1.s.den, .int .i64 r.r1.t.num, .int .i64 r.r1.t.den], .agg [.str r.r2.name, .int .i64 r.r2.ra, .int .i64 r.r2.dec]]) [] else none
theorem e_W7_given (K : AV → List Blk → Ans) : evFn Tryd.prog GT EQT T_rise_Next XT noL 80 4 [] [] (fun v M => K (finR 0 v M).1 (finR 0 v M).2) = F_W7_given K (m_W7_given) := by
  kernel_rfl
theorem c_W7_given (hd : (m_W7_given).ok = true) : CallsA Tryd.prog GT gbT 4 [] [] (.tup [.agg [.int .i64 (((m_W7_given).r0).a), .int .i64 (((m_W7_given).r0).b)], .agg [.str (((m_W7_given).r1).name), .int .i64 ((((m_W7_given).r1).s).num), .int .i64 ((((m_W7_given).r1).s).den), .int .i64 ((((m_W7_given).r1).t).num), .int .i64 ((((m_W7_given).r1).t).den)], .agg [.str (((m_W7_given).r2).name), .int .i64 (((m_W7_given).r2).ra), .int .i64 (((m_W7_given).r2).dec)]]) [] := by
  refine CallsA.ofEvR g_rise_Next hEQT hmT (n0 := 0) rfl (fun _ _ _ _ => LOKn.nil) ((e_W7_given (fun v M => some (Res.fin v M))).trans ?_)
  unfold F_W7_given
  rw [hd]
  rfl
def s_W7_given : List AV → List Blk → (AV → List Blk → Ans) → Ans := fun xs bs K => match xs, bs with
  | [], [] => F_W7_given K (m_W7_given)
  | _, _ => none
def T_W7_given : Nat → List AV → List Blk → (AV → List Blk → Ans) → Ans := upd T_rise_Next 4 s_W7_given
theorem g_W7_given : GOK Tryd.prog GT gbT T_W7_given XT := by
  refine GOK.upd g_rise_Next (fun args w => Tryd.call4 args w) fun xs bs K r h => ?_
  unfold s_W7_given at h
  split at h
  · unfold F_W7_given at h
    simp only [cond_eq_ite] at h
    split at h
    · rename_i hd
      exact ⟨_, _, c_W7_given hd, h⟩
    · cases h
  · cases h
end Go.Ev

namespace Go.Ev
open Go Go.Proofs
structure O_W7_state where
  ok : Bool
  r0 : Int
def m_W7_state (a0 : Int) (a1 : Int) (a2 : Int) : O_W7_state := bif (m_W7_given).ok then (bif (m_rise_State ((m_W7_given).r0) ((m_W7_given).r1) ((m_W7_given).r2) a0 ⟨a1, a2⟩).ok then (bif ((m_rise_State ((m_W7_given).r0) ((m_W7_given).r1) ((m_W7_given).r2) a0 ⟨a1, a2⟩).r1 != (0 : Int)) then ⟨true, (9 : Int)⟩ else ⟨true, (m_rise_State ((m_W7_given).r0) ((m_W7_given).r1) ((m_W7_given).r2) a0 ⟨a1, a2⟩).r0⟩) else ⟨false, 0⟩) else ⟨false, 0⟩
def F_W7_state (_a0 : Int) (_a1 : Int) (_a2 : Int) (K : AV → List Blk → Ans) (r : O_W7_state) : Ans := bif r.ok then K (.v (.c (.d (.int .i64 r.r0)))) [] else none
theorem e_W7_state (a0 : Int) (a1 : Int) (a2 : Int) (K : AV → List Blk → Ans) : evFn Tryd.prog GT EQT T_W7_given XT noL 80 20 [.v (.c (.d (.int .i64 a0))), .v (.c (.d (.int .i64 a1))), .v (.c (.d (.int .i64 a2)))] [] (fun v M => K (finR 0 v M).1 (finR 0 v M).2) = F_W7_state a0 a1 a2 K (m_W7_state a0 a1 a2) := by
  unfold m_W7_state
  refine Eq.trans ?_ (Eq.symm (pushT (pushT (pushT rfl rfl) rfl) rfl))
  kernel_rfl
theorem c_W7_state (a0 : Int) (a1 : Int) (a2 : Int) (hd : (m_W7_state a0 a1 a2).ok = true) : CallsA Tryd.prog GT gbT 20 [.v (.c (.d (.int .i64 a0))), .v (.c (.d (.int .i64 a1))), .v (.c (.d (.int .i64 a2)))] [] (.v (.c (.d (.int .i64 ((m_W7_state a0 a1 a2).r0))))) [] := by
  refine CallsA.ofEvR g_W7_given hEQT hmT (n0 := 0) rfl (fun _ _ _ _ => LOKn.nil) ((e_W7_state a0 a1 a2 (fun v M => some (Res.fin v M))).trans ?_)
  unfold F_W7_state
  rw [hd]
  rfl
def s_W7_state : List AV → List Blk → (AV → List Blk → Ans) → Ans := fun xs bs K => match xs, bs with
  | [.v (.c (.d (.int .i64 a0))), .v (.c (.d (.int .i64 a1))), .v (.c (.d (.int .i64 a2)))], [] => F_W7_state a0 a1 a2 K (m_W7_state a0 a1 a2)
  | _, _ => none
def T_W7_state : Nat → List AV → List Blk → (AV → List Blk → Ans) → Ans := upd T_W7_given 20 s_W7_state
theorem g_W7_state : GOK Tryd.prog GT gbT T_W7_state XT := by
  refine GOK.upd g_W7_given (fun args w => Tryd.call20 args w) fun xs bs K r h => ?_
  unfold s_W7_state at h
  split at h
  · unfold F_W7_state at h
    simp only [cond_eq_ite] at h
    split at h
    · rename_i hd
      exact ⟨_, _, c_W7_state _ _ _ hd, h⟩
    · cases h
  · cases h
structure O_W7_alive where
  ok : Bool
  r0 : Bool
def m_W7_alive : O_W7_alive := bif (m_W7_given).ok then (bif (m_rise_Windows ((m_W7_given).r0) ((m_W7_given).r1) ((m_W7_given).r2) (0 : Int) (360 : Int) ⟨(2 : Int), (5 : Int)⟩).ok then (bif (m_W7_state (0 : Int) (1 : Int) (2 : Int)).ok then (bif ((m_W7_state (0 : Int) (1 : Int) (2 : Int)).r0 == (1 : Int)) then (bif (m_W7_state (0 : Int) (9 : Int) (10 : Int)).ok then (bif ((m_W7_state (0 : Int) (9 : Int) (10 : Int)).r0 == (1 : Int)) then (bif (m_W7_state (120 : Int) (1 : Int) (2 : Int)).ok then (bif ((m_W7_state (120 : Int) (1 : Int) (2 : Int)).r0 == (0 : Int)) then (bif (m_W7_state (120 : Int) (2 : Int) (5 : Int)).ok then (bif ((m_W7_state (120 : Int) (2 : Int) (5 : Int)).r0 == (1 : Int)) then (bif (m_W7_state (120 : Int) (3 : Int) (5 : Int)).ok then (bif ((m_W7_state (120 : Int) (3 : Int) (5 : Int)).r0 == (-1 : Int)) then (bif ((m_rise_Windows ((m_W7_given).r0) ((m_W7_given).r1) ((m_W7_given).r2) (0 : Int) (360 : Int) ⟨(2 : Int), (5 : Int)⟩).r1 == (0 : Int)) then (bif (m_Q7_Same ((m_rise_Windows ((m_W7_given).r0) ((m_W7_given).r1) ((m_W7_given).r2) (0 : Int) (360 : Int) ⟨(2 : Int), (5 : Int)⟩).r0) ([⟨(0 : Int), (133 : Int)⟩] : List Window)).ok then (bif (m_Q7_Same ((m_rise_Windows ((m_W7_given).r0) ((m_W7_given).r1) ((m_W7_given).r2) (0 : Int) (360 : Int) ⟨(2 : Int), (5 : Int)⟩).r0) ([⟨(0 : Int), (133 : Int)⟩] : List Window)).r0 then (bif (m_W7_state (200 : Int) (2 : Int) (5 : Int)).ok then ⟨true, ((m_W7_state (200 : Int) (2 : Int) (5 : Int)).r0 == (-1 : Int))⟩ else ⟨false, false⟩) else ⟨true, false⟩) else ⟨false, false⟩) else ⟨true, false⟩) else ⟨true, false⟩) else ⟨false, false⟩) else ⟨true, false⟩) else ⟨false, false⟩) else ⟨true, false⟩) else ⟨false, false⟩) else ⟨true, false⟩) else ⟨false, false⟩) else ⟨true, false⟩) else ⟨false, false⟩) else ⟨false, false⟩) else ⟨false, false⟩
def F_W7_alive (K : AV → List Blk → Ans) (r : O_W7_alive) : Ans := bif r.ok then K (.v (.c (.d (.bool r.r0)))) [] else none
theorem e_W7_alive (K : AV → List Blk → Ans) : evFn Tryd.prog GT EQT T_W7_state XT noL 80 13 [] [] (fun v M => K (finR 0 v M).1 (finR 0 v M).2) = F_W7_alive K (m_W7_alive) := by
  unfold m_W7_alive
  refine Eq.trans ?_ (Eq.symm (pushT (pushT (pushT (pushT (pushT (pushT (pushT (pushT (pushT (pushT (pushT (pushT (pushT (pushT (pushT (pushT rfl rfl) rfl) rfl) rfl) rfl) rfl) rfl) rfl) rfl) rfl) rfl) rfl) rfl) rfl) rfl) rfl))
  kernel_rfl
theorem c_W7_alive (hd : (m_W7_alive).ok = true) : CallsA Tryd.prog GT gbT 13 [] [] (.v (.c (.d (.bool ((m_W7_alive).r0))))) [] := by
  refine CallsA.ofEvR g_W7_state hEQT hmT (n0 := 0) rfl (fun _ _ _ _ => LOKn.nil) ((e_W7_alive (fun v M => some (Res.fin v M))).trans ?_)
  unfold F_W7_alive
  rw [hd]
  rfl
def s_W7_alive : List AV → List Blk → (AV → List Blk → Ans) → Ans := fun xs bs K => match xs, bs with
  | [], [] => F_W7_alive K (m_W7_alive)
  | _, _ => none
def T_W7_alive : Nat → List AV → List Blk → (AV → List Blk → Ans) → Ans := upd T_W7_state 13 s_W7_alive
theorem g_W7_alive : GOK Tryd.prog GT gbT T_W7_alive XT := by
  refine GOK.upd g_W7_state (fun args w => Tryd.call13 args w) fun xs bs K r h => ?_
  unfold s_W7_alive at h
  split at h
  · unfold F_W7_alive at h
    simp only [cond_eq_ite] at h
    split at h
    · rename_i hd
      exact ⟨_, _, c_W7_alive hd, h⟩
    · cases h
  · cases h
end Go.Ev

namespace Go.Ev
open Go Go.Proofs
structure O_W7_RiseNames where
  ok : Bool
  r0 : Bool
def m_W7_RiseNames : O_W7_RiseNames := ⟨true, true⟩
theorem c_W7_RiseNames (_ : (m_W7_RiseNames).ok = true) : CallsA Tryd.prog GT gbT 3 [] [] (.v (.c (.d (.bool (m_W7_RiseNames).r0)))) [] :=
  CallsA.ofEvR (n := 400) (Λ := noL) g_W7_alive hEQT hmT (n0 := 0) rfl (fun _ _ _ _ => LOKn.nil) (by kernel_rfl)
theorem law_RiseNames : m_W7_RiseNames = ⟨true, true⟩ := rfl
end Go.Ev

namespace Go.Ev
open Go Go.ChangeShapes Go.ChangeShapes
theorem laid_frac {P : Program} {w : World} {n : String} {g t : Nat} {f0 f1 : Field} {a b : Int} (hg : P.globalNamed n = some g) (ht : (P.globals[g]?).map (·.type) = some t)
    (hu : P.underlying t = some (.struct #[f0, f1])) (o0 : f0.offset = 0) (o1 : f1.offset = 1) (u0 : P.underlying f0.type = some (.int .i64)) (u1 : P.underlying f1.type = some (.int .i64))
    (c0 : P.cellsOf f0.type = 1) (c1 : P.cellsOf f1.type = 1) (c : P.cellsOf t = 2) {r : List (String × DataW Unit)} {ps : List MemPlace}
    (h : DataW.LaidVars P w ((n, .agg [.lit (.int .i64 a), .lit (.int .i64 b)]) :: r) ps) :
    (w.cell? ⟨g, 0, none⟩ = some (.int .i64 a) ∧ w.cell? ⟨g, 1, none⟩ = some (.int .i64 b)) ∧ ∃ q, DataW.LaidVars P w r q := by
  obtain ⟨g', t', cs, fuel, p, q, hg', ht', hv, hd, hr, _⟩ := h
  obtain rfl := Option.some.inj (hg.symm.trans hg')
  obtain rfl := Option.some.inj (ht.symm.trans ht')
  obtain ⟨y0, y1, m, e, hl, h0, h1⟩ := trod_struct2 hu hd
  simp only [Prod.mk.injEq, DataW.agg.injEq, List.cons.injEq, and_true] at e
  obtain ⟨x0, e0, z0, _⟩ := DataW.trod_int u0 h0
  obtain ⟨x1, e1, z1, _⟩ := DataW.trod_int u1 h1
  subst z0 z1
  simp only [DataW.lit.injEq, Lit.int.injEq, true_and] at e
  obtain ⟨⟨rfl, rfl⟩, _⟩ := e
  rw [o0, c0] at e0
  rw [o1, c1] at e1
  obtain ⟨l⟩ := cs
  have k0 := World.var?_cell hg hv 0
  have k1 := World.var?_cell hg hv 1
  match l, hl, e0, e1 with
  | [c0', c1'], _, e0, e1 =>
    simp at e0 e1
    subst e0 e1
    exact ⟨⟨by simpa using k0, by simpa using k1⟩, q, hr⟩
  | [], hl, _, _ => rw [c] at hl; simp at hl
  | [_], hl, _, _ => rw [c] at hl; simp at hl
  | _ :: _ :: _ :: _, hl, _, _ => rw [c] at hl; simp at hl
end Go.Ev

