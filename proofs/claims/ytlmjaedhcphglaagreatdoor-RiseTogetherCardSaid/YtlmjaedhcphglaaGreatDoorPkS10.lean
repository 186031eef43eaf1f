/-
  Plain functions that mirror functions of the program, and that it computes them. No condition beyond those of the statements.
  Nothing is said here.
  Arrays of stations as plain functions: which are valid, their places, their baselines; the program's and the reference's are the same. No condition.
  Uprights of stations and the states of sources: nothing of them is out of range. No program here.
  Windows of the ticks at which something is so, grown tick by tick; valid windows. No program here.
  States and windows as plain functions: the program's and the reference's are the same. No condition.
  All windows, by the program and by the reference. No condition.
-/
import Derived.Test.YtlmjaedhcphglaaGreatDoorPkS9
set_option maxRecDepth 100000
namespace Go.Ev
open Go Go.Proofs
structure O_Q4_Valid where
  ok : Bool
  r0 : Bool
def m_Q4_Valid (a0 : Site) : O_Q4_Valid := bif (namedB a0.name) then ⟨true, (placedB a0.s a0.t)⟩ else ⟨true, false⟩
def F_Q4_Valid (_a0 : Site) (K : AV → List Blk → Ans) (r : O_Q4_Valid) : Ans := bif r.ok then K (.v (.c (.d (.bool r.r0)))) [] else none
theorem e_Q4_Valid (a0 : Site) (K : AV → List Blk → Ans) : evFn Tryz.prog GT EQT T_rise_Windows XT noL 80 40 [.v (.agg [.str a0.name, .int .i64 a0.s.num, .int .i64 a0.s.den, .int .i64 a0.t.num, .int .i64 a0.t.den])] [] (fun v M => K (finR 0 v M).1 (finR 0 v M).2) = F_Q4_Valid a0 K (m_Q4_Valid a0) := by
  unfold m_Q4_Valid
  refine Eq.trans ?_ (Eq.symm (pushT rfl rfl))
  kernel_rfl
theorem c_Q4_Valid (a0 : Site) (hd : (m_Q4_Valid a0).ok = true) : CallsA Tryz.prog GT gbT 40 [.v (.agg [.str a0.name, .int .i64 a0.s.num, .int .i64 a0.s.den, .int .i64 a0.t.num, .int .i64 a0.t.den])] [] (.v (.c (.d (.bool ((m_Q4_Valid a0).r0))))) [] := by
  refine CallsA.ofEvR g_rise_Windows hEQT hmT (n0 := 0) rfl (fun _ _ _ _ => LOKn.nil) ((e_Q4_Valid a0 (fun v M => some (Res.fin v M))).trans ?_)
  unfold F_Q4_Valid
  rw [hd]
  rfl
def s_Q4_Valid : List AV → List Blk → (AV → List Blk → Ans) → Ans := fun xs bs K => match xs, bs with
  | [.v (.agg [.str a0_0, .int .i64 a0_1, .int .i64 a0_2, .int .i64 a0_3, .int .i64 a0_4])], [] => F_Q4_Valid (⟨a0_0, ⟨a0_1, a0_2⟩, ⟨a0_3, a0_4⟩⟩ : Site) K (m_Q4_Valid (⟨a0_0, ⟨a0_1, a0_2⟩, ⟨a0_3, a0_4⟩⟩ : Site))
  | _, _ => none
def T_Q4_Valid : Nat → List AV → List Blk → (AV → List Blk → Ans) → Ans := upd T_rise_Windows 40 s_Q4_Valid
theorem g_Q4_Valid : GOK Tryz.prog GT gbT T_Q4_Valid XT := by
  refine GOK.upd g_rise_Windows (fun args w => Tryz.call40 args w) fun xs bs K r h => ?_
  unfold s_Q4_Valid at h
  split at h
  · unfold F_Q4_Valid at h
    simp only [cond_eq_ite] at h
    split at h
    · rename_i hd
      exact ⟨_, _, c_Q4_Valid _ hd, h⟩
    · cases h
  · cases h
structure R_Q4_all_0 where
  k : Nat
  p6 : Int
  m2 : List Vec
def run_Q4_all_0 (m0 : List Site) (q1 : Globe) : Nat → Int → List Vec → R_Q4_all_0
  | 0, p6, m2 => ⟨1, p6, m2⟩
  | n + 1, p6, m2 => bif decide (p6 < (m0.length : Int)) then (bif (decide ((0 : Int) ≤ p6) && decide (p6 < (m0.length : Int))) then (bif (decide ((0 : Int) ≤ p6) && decide (p6 < (m0.length : Int))) then (bif (Nat.blt 0 6 && ((6 == 6) && ((6 == 6) && (Nat.ble (m2.length + ([placeR q1 ((m0.getD p6.toNat (ET.z .site)).s) ((m0.getD p6.toNat (ET.z .site)).t)] : List Vec).length) roomD && Nat.ble 48 4096)))) then run_Q4_all_0 m0 q1 n (w64 (p6 + (1 : Int))) (m2 ++ ([placeR q1 ((m0.getD p6.toNat (ET.z .site)).s) ((m0.getD p6.toNat (ET.z .site)).t)] : List Vec)) else ⟨1, p6, m2⟩) else ⟨1, p6, m2⟩) else ⟨1, p6, m2⟩) else ⟨0, p6, m2⟩
def lp_Q4_all_0 (m0 : List Site) (q1 : Globe) (p6 : Int) (m2 : List Vec) : R_Q4_all_0 := run_Q4_all_0 m0 q1 (2000 + (m0.length + m2.length)) p6 m2
abbrev H_Q4_all_0 (_m0 : List Site) (_q1 : Globe) (p6 : Int) (_m2 : List Vec) : TS := headT [1, 2, 5, 6] 29 [.v (.c (.aslice 0 none)), .v (.c (.ptr 1 0)), .v (.c (.aslice 2 none)), .v (.c (.d (.int .i64 p6)))]
theorem b_Q4_all_0 (m0 : List Site) (q1 : Globe) (p6 : Int) (m2 : List Vec) : evCode Tryz.prog GT EQT T_Q4_Valid XT noL 80 (loopB Tryz.prog 41 0) (H_Q4_all_0 m0 q1 p6 m2) [.arr none .site m0, .rw 23 [.int .i64 q1.a, .int .i64 q1.b], .arr (some 59) .vec m2] 3 (normK 1 [1, 2, 5, 6]) =
    bif decide (p6 < (m0.length : Int)) then (bif (decide ((0 : Int) ≤ p6) && decide (p6 < (m0.length : Int))) then (bif (decide ((0 : Int) ≤ p6) && decide (p6 < (m0.length : Int))) then (bif (Nat.blt 0 6 && ((6 == 6) && ((6 == 6) && (Nat.ble (m2.length + ([placeR q1 ((m0.getD p6.toNat (ET.z .site)).s) ((m0.getD p6.toNat (ET.z .site)).t)] : List Vec).length) roomD && Nat.ble 48 4096)))) then some (.st .normal (headT [1, 2, 5, 6] 29 [.v (.c (.aslice 0 none)), .v (.c (.ptr 1 0)), .v (.c (.aslice 2 none)), .v (.c (.d (.int .i64 (w64 (p6 + (1 : Int))))))]) [.arr none .site m0, .rw 23 [.int .i64 q1.a, .int .i64 q1.b], .arr (some 59) .vec (m2 ++ ([placeR q1 ((m0.getD p6.toNat (ET.z .site)).s) ((m0.getD p6.toNat (ET.z .site)).t)] : List Vec))] 3) else none) else none) else none) else some (.st (.exit 0) (headT [1, 2, 5, 6] 29 [.v (.c (.aslice 0 none)), .v (.c (.ptr 1 0)), .v (.c (.aslice 2 none)), .v (.c (.d (.int .i64 p6)))]) [.arr none .site m0, .rw 23 [.int .i64 q1.a, .int .i64 q1.b], .arr (some 59) .vec m2] 3) := by
  kernel_rfl
def o_Q4_all_0 (m0 : List Site) (q1 : Globe) (r : R_Q4_all_0) : LT := .br (Nat.beq r.k 0) (.st (.exit 0) (headT [1, 2, 5, 6] 29 [.v (.c (.aslice 0 none)), .v (.c (.ptr 1 0)), .v (.c (.aslice 2 none)), .v (.c (.d (.int .i64 r.p6)))]) [.arr none .site m0, .rw 23 [.int .i64 q1.a, .int .i64 q1.b], .arr (some 59) .vec r.m2] 3) (.no)
theorem r_Q4_all_0 (m0 : List Site) (q1 : Globe) : ∀ (n : Nat) (p6 : Int) (m2 : List Vec) (x : Ex) (T' : TS) (M' : List Blk) (N' : Nat), LReach (o_Q4_all_0 m0 q1 (run_Q4_all_0 m0 q1 n p6 m2)) x T' M' N' → x ≠ .normal ∧ ∃ j, RoundsN Tryz.prog GT gbT 1 (loopB Tryz.prog 41 0) j (H_Q4_all_0 m0 q1 p6 m2) [.arr none .site m0, .rw 23 [.int .i64 q1.a, .int .i64 q1.b], .arr (some 59) .vec m2] 3 x T' M' N' := by
  have hL : LOKn Tryz.prog GT gbT 1 noL (loopsIn (loopB Tryz.prog 41 0)) := fun _ _ _ _ _ _ _ _ _ h => h.elim
  intro n
  induction n with
  | zero =>
    intro p6 m2 x T' M' N' hr
    exact False.elim (redF hr)
  | succ n ih =>
    intro p6 m2 x T' M' N'
    rw [run_Q4_all_0]
    exact viaE (b_Q4_all_0 m0 q1 p6 m2) (condG (o := o_Q4_all_0 m0 q1) (condG (o := o_Q4_all_0 m0 q1) (condG (o := o_Q4_all_0 m0 q1) (condG (o := o_Q4_all_0 m0 q1) (fun he hr => goN g_Q4_Valid hEQT hmT hL he (ih (w64 (p6 + (1 : Int))) (m2 ++ ([placeR q1 ((m0.getD p6.toNat (ET.z .site)).s) ((m0.getD p6.toNat (ET.z .site)).t)] : List Vec)) x T' M' N' hr)) (fun _ hr => False.elim (redF hr))) (fun _ hr => False.elim (redF hr))) (fun _ hr => False.elim (redF hr))) (fun he hr => stopN g_Q4_Valid hEQT hmT hL he (by simp) (redT hr)))
def f_Q4_all_0 : List AV → List Blk → LT := fun vs Ms => match vs, Ms with
  | [.v (.c (.aslice 0 none)), .v (.c (.ptr 1 0)), .v (.c (.aslice 2 none)), .v (.c (.d (.int .i64 p6)))], [.arr none .site m0, .rw 23 [.int .i64 q1_0, .int .i64 q1_1], .arr (some 59) .vec m2] => o_Q4_all_0 m0 (⟨q1_0, q1_1⟩ : Globe) (lp_Q4_all_0 m0 (⟨q1_0, q1_1⟩ : Globe) p6 m2)
  | _, _ => .no
def L_Q4_all_0 := LamN 3 29 1 [1, 2, 5, 6] f_Q4_all_0
theorem k_Q4_all_0 : LOKbn Tryz.prog GT gbT 1 L_Q4_all_0 (loopB Tryz.prog 41 0) := by
  refine LOKbn.lamN (by kernel_rfl) fun vs Ms x T' M' N' hr => ?_
  unfold f_Q4_all_0 at hr
  split at hr
  · obtain ⟨q1, j, q2⟩ := r_Q4_all_0 _ _ _ _ _ x T' M' N' hr
    exact ⟨q1, j, q2⟩
  · exact hr.elim
structure O_Q4_all where
  ok : Bool
  r0 : List Vec
def m_Q4_all (a0 : Globe) (a1 : List Site) : O_Q4_all := bif Nat.beq (lp_Q4_all_0 a1 a0 (0 : Int) ([] : List Vec)).k 0 then ⟨true, ((lp_Q4_all_0 a1 a0 (0 : Int) ([] : List Vec)).m2)⟩ else ⟨false, []⟩
def F_Q4_all (_a0 : Globe) (a1 : List Site) (K : AV → List Blk → Ans) (r : O_Q4_all) : Ans := bif r.ok then K (.v (.c (.aslice 1 none))) [.arr none .site a1, .arr (some 59) .vec r.r0] else none
theorem e_Q4_all (a0 : Globe) (a1 : List Site) (K : AV → List Blk → Ans) : evFn Tryz.prog GT EQT T_Q4_Valid XT (orL L_Q4_all_0 noL) 80 41 [.v (.agg [.int .i64 a0.a, .int .i64 a0.b]), .v (.c (.aslice 0 none))] [.arr none .site a1] (fun v M => K (finR 1 v M).1 (finR 1 v M).2) = F_Q4_all a0 a1 K (m_Q4_all a0 a1) := by
  unfold m_Q4_all
  refine Eq.trans ?_ (Eq.symm (pushT rfl rfl))
  kernel_rfl
theorem lok_Q4_all : ∀ fn c, Tryz.prog.funcs[41]? = some fn → fn.body = some c → LOKn Tryz.prog GT gbT 1 (orL L_Q4_all_0 noL) (loopsIn c) := by
  refine LOKn.ofF fun b hb => ?_
  have e : loopsF Tryz.prog 41 = [loopB Tryz.prog 41 0] := by kernel_rfl
  rw [e] at hb
  simp only [List.mem_cons, List.not_mem_nil, or_false] at hb
  subst hb
  exact (LOKbn.or k_Q4_all_0 (fun _ _ _ _ _ _ _ h => h.elim))
theorem c_Q4_all (a0 : Globe) (a1 : List Site) (hd : (m_Q4_all a0 a1).ok = true) : CallsA Tryz.prog GT gbT 41 [.v (.agg [.int .i64 a0.a, .int .i64 a0.b]), .v (.c (.aslice 0 none))] [.arr none .site a1] (.v (.c (.aslice 1 none))) [.arr none .site a1, .arr (some 59) .vec ((m_Q4_all a0 a1).r0)] := by
  refine CallsA.ofEvR g_Q4_Valid hEQT hmT (n0 := 1) rfl lok_Q4_all ((e_Q4_all a0 a1 (fun v M => some (Res.fin v M))).trans ?_)
  unfold F_Q4_all
  rw [hd]
  rfl
def s_Q4_all : List AV → List Blk → (AV → List Blk → Ans) → Ans := fun xs bs K => match xs, bs with
  | [.v (.agg [.int .i64 a0_0, .int .i64 a0_1]), .v (.c (.aslice 0 none))], [.arr none .site a1] => F_Q4_all (⟨a0_0, a0_1⟩ : Globe) a1 K (m_Q4_all (⟨a0_0, a0_1⟩ : Globe) a1)
  | _, _ => none
def T_Q4_all : Nat → List AV → List Blk → (AV → List Blk → Ans) → Ans := upd T_Q4_Valid 41 s_Q4_all
theorem g_Q4_all : GOK Tryz.prog GT gbT T_Q4_all XT := by
  refine GOK.upd g_Q4_Valid (fun args w => Tryz.call41 args w) fun xs bs K r h => ?_
  unfold s_Q4_all at h
  split at h
  · unfold F_Q4_all at h
    simp only [cond_eq_ite] at h
    split at h
    · rename_i hd
      exact ⟨_, _, c_Q4_all _ _ hd, h⟩
    · cases h
  · cases h
structure R_Q4_Check_0 where
  k : Nat
  p5 : Int
def run_Q4_Check_0 (p4 : Int) (m0 : List Site) (q1 : Globe) : Nat → Int → R_Q4_Check_0
  | 0, p5 => ⟨2, p5⟩
  | n + 1, p5 => bif decide (p5 < (m0.length : Int)) then (bif (decide ((0 : Int) ≤ p5) && decide (p5 < (m0.length : Int))) then (bif (m_Q4_Valid (m0.getD p5.toNat (ET.z .site))).ok then (bif (!(m_Q4_Valid (m0.getD p5.toNat (ET.z .site))).r0) then ⟨0, p5⟩ else run_Q4_Check_0 p4 m0 q1 n (w64 (p5 + (1 : Int)))) else ⟨2, p5⟩) else ⟨2, p5⟩) else ⟨1, p5⟩
def lp_Q4_Check_0 (p4 : Int) (m0 : List Site) (q1 : Globe) (p5 : Int) : R_Q4_Check_0 := run_Q4_Check_0 p4 m0 q1 (2000 + (m0.length)) p5
abbrev H_Q4_Check_0 (p4 : Int) (_m0 : List Site) (_q1 : Globe) (p5 : Int) : TS := headT [1, 2, 4, 5] 65 [.v (.c (.aslice 0 none)), .v (.c (.ptr 1 0)), .v (.c (.d (.int .i64 p4))), .v (.c (.d (.int .i64 p5)))]
theorem b_Q4_Check_0 (p4 : Int) (m0 : List Site) (q1 : Globe) (p5 : Int) : evCode Tryz.prog GT EQT T_Q4_all XT noL 80 (loopB Tryz.prog 25 0) (H_Q4_Check_0 p4 m0 q1 p5) [.arr none .site m0, .rw 23 [.int .i64 q1.a, .int .i64 q1.b]] 2 (normK 1 [1, 2, 4, 5]) =
    bif decide (p5 < (m0.length : Int)) then (bif (decide ((0 : Int) ≤ p5) && decide (p5 < (m0.length : Int))) then (bif (m_Q4_Valid (m0.getD p5.toNat (ET.z .site))).ok then (bif (!(m_Q4_Valid (m0.getD p5.toNat (ET.z .site))).r0) then some (.st .ret (headT [1, 2, 4, 5] 65 [.v (.c (.aslice 0 none)), .v (.c (.ptr 1 0)), .v (.c (.d (.int .i64 (8 : Int)))), .v (.c (.d (.int .i64 p5)))]) [.arr none .site m0, .rw 23 [.int .i64 q1.a, .int .i64 q1.b]] 2) else some (.st .normal (headT [1, 2, 4, 5] 65 [.v (.c (.aslice 0 none)), .v (.c (.ptr 1 0)), .v (.c (.d (.int .i64 p4))), .v (.c (.d (.int .i64 (w64 (p5 + (1 : Int))))))]) [.arr none .site m0, .rw 23 [.int .i64 q1.a, .int .i64 q1.b]] 2)) else none) else none) else some (.st (.exit 0) (headT [1, 2, 4, 5] 65 [.v (.c (.aslice 0 none)), .v (.c (.ptr 1 0)), .v (.c (.d (.int .i64 p4))), .v (.c (.d (.int .i64 p5)))]) [.arr none .site m0, .rw 23 [.int .i64 q1.a, .int .i64 q1.b]] 2) := by
  kernel_rfl
def o_Q4_Check_0 (p4 : Int) (m0 : List Site) (q1 : Globe) (r : R_Q4_Check_0) : LT := .br (Nat.beq r.k 0) (.st .ret (headT [1, 2, 4, 5] 65 [.v (.c (.aslice 0 none)), .v (.c (.ptr 1 0)), .v (.c (.d (.int .i64 (8 : Int)))), .v (.c (.d (.int .i64 r.p5)))]) [.arr none .site m0, .rw 23 [.int .i64 q1.a, .int .i64 q1.b]] 2) (.br (Nat.beq r.k 1) (.st (.exit 0) (headT [1, 2, 4, 5] 65 [.v (.c (.aslice 0 none)), .v (.c (.ptr 1 0)), .v (.c (.d (.int .i64 p4))), .v (.c (.d (.int .i64 r.p5)))]) [.arr none .site m0, .rw 23 [.int .i64 q1.a, .int .i64 q1.b]] 2) (.no))
theorem r_Q4_Check_0 (p4 : Int) (m0 : List Site) (q1 : Globe) : ∀ (n : Nat) (p5 : Int) (x : Ex) (T' : TS) (M' : List Blk) (N' : Nat), LReach (o_Q4_Check_0 p4 m0 q1 (run_Q4_Check_0 p4 m0 q1 n p5)) x T' M' N' → x ≠ .normal ∧ ∃ j, RoundsN Tryz.prog GT gbT 1 (loopB Tryz.prog 25 0) j (H_Q4_Check_0 p4 m0 q1 p5) [.arr none .site m0, .rw 23 [.int .i64 q1.a, .int .i64 q1.b]] 2 x T' M' N' := by
  have hL : LOKn Tryz.prog GT gbT 1 noL (loopsIn (loopB Tryz.prog 25 0)) := fun _ _ _ _ _ _ _ _ _ h => h.elim
  intro n
  induction n with
  | zero =>
    intro p5 x T' M' N' hr
    exact False.elim (redF (redF hr))
  | succ n ih =>
    intro p5 x T' M' N'
    rw [run_Q4_Check_0]
    exact viaE (b_Q4_Check_0 p4 m0 q1 p5) (condG (o := o_Q4_Check_0 p4 m0 q1) (condG (o := o_Q4_Check_0 p4 m0 q1) (condG (o := o_Q4_Check_0 p4 m0 q1) (condG (o := o_Q4_Check_0 p4 m0 q1) (fun he hr => stopN g_Q4_all hEQT hmT hL he (by simp) (redT hr)) (fun he hr => goN g_Q4_all hEQT hmT hL he (ih (w64 (p5 + (1 : Int))) x T' M' N' hr))) (fun _ hr => False.elim (redF (redF hr)))) (fun _ hr => False.elim (redF (redF hr)))) (fun he hr => stopN g_Q4_all hEQT hmT hL he (by simp) (redT (redF hr))))
def f_Q4_Check_0 : List AV → List Blk → LT := fun vs Ms => match vs, Ms with
  | [.v (.c (.aslice 0 none)), .v (.c (.ptr 1 0)), .v (.c (.d (.int .i64 p4))), .v (.c (.d (.int .i64 p5)))], [.arr none .site m0, .rw 23 [.int .i64 q1_0, .int .i64 q1_1]] => o_Q4_Check_0 p4 m0 (⟨q1_0, q1_1⟩ : Globe) (lp_Q4_Check_0 p4 m0 (⟨q1_0, q1_1⟩ : Globe) p5)
  | _, _ => .no
def L_Q4_Check_0 := LamN 6 65 1 [1, 2, 4, 5] f_Q4_Check_0
theorem k_Q4_Check_0 : LOKbn Tryz.prog GT gbT 1 L_Q4_Check_0 (loopB Tryz.prog 25 0) := by
  refine LOKbn.lamN (by kernel_rfl) fun vs Ms x T' M' N' hr => ?_
  unfold f_Q4_Check_0 at hr
  split at hr
  · obtain ⟨q1, j, q2⟩ := r_Q4_Check_0 _ _ _ _ _ x T' M' N' hr
    exact ⟨q1, j, q2⟩
  · exact hr.elim
structure R_Q4_Check_2 where
  k : Nat
  p8 : Int
def run_Q4_Check_2 (p4 : Int) (p7 : Int) (m0 : List Site) (m1 : List Vec) : Nat → Int → R_Q4_Check_2
  | 0, p8 => ⟨2, p8⟩
  | n + 1, p8 => bif decide (p8 < p7) then (bif (decide ((0 : Int) ≤ p7) && decide (p7 < (m0.length : Int))) then (bif (decide ((0 : Int) ≤ p8) && decide (p8 < (m0.length : Int))) then (bif (((m0.getD p7.toNat (ET.z .site)).name).data.toList == ((m0.getD p8.toNat (ET.z .site)).name).data.toList) then ⟨0, p8⟩ else (bif (decide ((0 : Int) ≤ p7) && decide (p7 < (m1.length : Int))) then (bif (decide ((0 : Int) ≤ p8) && decide (p8 < (m1.length : Int))) then (bif eqAll [.int .i64 (((m1.getD p7.toNat (ET.z .vec)).x).num), .int .i64 (((m1.getD p7.toNat (ET.z .vec)).x).den), .int .i64 (((m1.getD p7.toNat (ET.z .vec)).y).num), .int .i64 (((m1.getD p7.toNat (ET.z .vec)).y).den), .int .i64 (((m1.getD p7.toNat (ET.z .vec)).z).num), .int .i64 (((m1.getD p7.toNat (ET.z .vec)).z).den)] [.int .i64 (((m1.getD p8.toNat (ET.z .vec)).x).num), .int .i64 (((m1.getD p8.toNat (ET.z .vec)).x).den), .int .i64 (((m1.getD p8.toNat (ET.z .vec)).y).num), .int .i64 (((m1.getD p8.toNat (ET.z .vec)).y).den), .int .i64 (((m1.getD p8.toNat (ET.z .vec)).z).num), .int .i64 (((m1.getD p8.toNat (ET.z .vec)).z).den)] then ⟨0, p8⟩ else run_Q4_Check_2 p4 p7 m0 m1 n (w64 (p8 + (1 : Int)))) else ⟨2, p8⟩) else ⟨2, p8⟩)) else ⟨2, p8⟩) else ⟨2, p8⟩) else ⟨1, p8⟩
def lp_Q4_Check_2 (p4 : Int) (p7 : Int) (m0 : List Site) (m1 : List Vec) (p8 : Int) : R_Q4_Check_2 := run_Q4_Check_2 p4 p7 m0 m1 (2000 + (m0.length + m1.length)) p8
abbrev H_Q4_Check_2 (p4 : Int) (p7 : Int) (_m0 : List Site) (_m1 : List Vec) (p8 : Int) : TS := headT [1, 4, 6, 7, 8] 65 [.v (.c (.aslice 0 none)), .v (.c (.d (.int .i64 p4))), .v (.c (.aslice 1 none)), .v (.c (.d (.int .i64 p7))), .v (.c (.d (.int .i64 p8)))]
theorem b_Q4_Check_2 (p4 : Int) (p7 : Int) (m0 : List Site) (m1 : List Vec) (p8 : Int) : evCode Tryz.prog GT EQT T_Q4_all XT noL 80 (loopB Tryz.prog 25 2) (H_Q4_Check_2 p4 p7 m0 m1 p8) [.arr none .site m0, .arr (some 59) .vec m1] 2 (normK 1 [1, 4, 6, 7, 8]) =
    bif decide (p8 < p7) then (bif (decide ((0 : Int) ≤ p7) && decide (p7 < (m0.length : Int))) then (bif (decide ((0 : Int) ≤ p8) && decide (p8 < (m0.length : Int))) then (bif (((m0.getD p7.toNat (ET.z .site)).name).data.toList == ((m0.getD p8.toNat (ET.z .site)).name).data.toList) then some (.st .ret (headT [1, 4, 6, 7, 8] 65 [.v (.c (.aslice 0 none)), .v (.c (.d (.int .i64 (14 : Int)))), .v (.c (.aslice 1 none)), .v (.c (.d (.int .i64 p7))), .v (.c (.d (.int .i64 p8)))]) [.arr none .site m0, .arr (some 59) .vec m1] 2) else (bif (decide ((0 : Int) ≤ p7) && decide (p7 < (m1.length : Int))) then (bif (decide ((0 : Int) ≤ p8) && decide (p8 < (m1.length : Int))) then (bif eqAll [.int .i64 (((m1.getD p7.toNat (ET.z .vec)).x).num), .int .i64 (((m1.getD p7.toNat (ET.z .vec)).x).den), .int .i64 (((m1.getD p7.toNat (ET.z .vec)).y).num), .int .i64 (((m1.getD p7.toNat (ET.z .vec)).y).den), .int .i64 (((m1.getD p7.toNat (ET.z .vec)).z).num), .int .i64 (((m1.getD p7.toNat (ET.z .vec)).z).den)] [.int .i64 (((m1.getD p8.toNat (ET.z .vec)).x).num), .int .i64 (((m1.getD p8.toNat (ET.z .vec)).x).den), .int .i64 (((m1.getD p8.toNat (ET.z .vec)).y).num), .int .i64 (((m1.getD p8.toNat (ET.z .vec)).y).den), .int .i64 (((m1.getD p8.toNat (ET.z .vec)).z).num), .int .i64 (((m1.getD p8.toNat (ET.z .vec)).z).den)] then some (.st .ret (headT [1, 4, 6, 7, 8] 65 [.v (.c (.aslice 0 none)), .v (.c (.d (.int .i64 (14 : Int)))), .v (.c (.aslice 1 none)), .v (.c (.d (.int .i64 p7))), .v (.c (.d (.int .i64 p8)))]) [.arr none .site m0, .arr (some 59) .vec m1] 2) else some (.st .normal (headT [1, 4, 6, 7, 8] 65 [.v (.c (.aslice 0 none)), .v (.c (.d (.int .i64 p4))), .v (.c (.aslice 1 none)), .v (.c (.d (.int .i64 p7))), .v (.c (.d (.int .i64 (w64 (p8 + (1 : Int))))))]) [.arr none .site m0, .arr (some 59) .vec m1] 2)) else none) else none)) else none) else none) else some (.st (.exit 4) (headT [1, 4, 6, 7, 8] 65 [.v (.c (.aslice 0 none)), .v (.c (.d (.int .i64 p4))), .v (.c (.aslice 1 none)), .v (.c (.d (.int .i64 p7))), .v (.c (.d (.int .i64 p8)))]) [.arr none .site m0, .arr (some 59) .vec m1] 2) := by
  kernel_rfl
def o_Q4_Check_2 (p4 : Int) (p7 : Int) (m0 : List Site) (m1 : List Vec) (r : R_Q4_Check_2) : LT := .br (Nat.beq r.k 0) (.st .ret (headT [1, 4, 6, 7, 8] 65 [.v (.c (.aslice 0 none)), .v (.c (.d (.int .i64 (14 : Int)))), .v (.c (.aslice 1 none)), .v (.c (.d (.int .i64 p7))), .v (.c (.d (.int .i64 r.p8)))]) [.arr none .site m0, .arr (some 59) .vec m1] 2) (.br (Nat.beq r.k 1) (.st (.exit 4) (headT [1, 4, 6, 7, 8] 65 [.v (.c (.aslice 0 none)), .v (.c (.d (.int .i64 p4))), .v (.c (.aslice 1 none)), .v (.c (.d (.int .i64 p7))), .v (.c (.d (.int .i64 r.p8)))]) [.arr none .site m0, .arr (some 59) .vec m1] 2) (.no))
theorem r_Q4_Check_2 (p4 : Int) (p7 : Int) (m0 : List Site) (m1 : List Vec) : ∀ (n : Nat) (p8 : Int) (x : Ex) (T' : TS) (M' : List Blk) (N' : Nat), LReach (o_Q4_Check_2 p4 p7 m0 m1 (run_Q4_Check_2 p4 p7 m0 m1 n p8)) x T' M' N' → x ≠ .normal ∧ ∃ j, RoundsN Tryz.prog GT gbT 1 (loopB Tryz.prog 25 2) j (H_Q4_Check_2 p4 p7 m0 m1 p8) [.arr none .site m0, .arr (some 59) .vec m1] 2 x T' M' N' := by
  have hL : LOKn Tryz.prog GT gbT 1 noL (loopsIn (loopB Tryz.prog 25 2)) := fun _ _ _ _ _ _ _ _ _ h => h.elim
  intro n
  induction n with
  | zero =>
    intro p8 x T' M' N' hr
    exact False.elim (redF (redF hr))
  | succ n ih =>
    intro p8 x T' M' N'
    rw [run_Q4_Check_2]
    exact viaE (b_Q4_Check_2 p4 p7 m0 m1 p8) (condG (o := o_Q4_Check_2 p4 p7 m0 m1) (condG (o := o_Q4_Check_2 p4 p7 m0 m1) (condG (o := o_Q4_Check_2 p4 p7 m0 m1) (condG (o := o_Q4_Check_2 p4 p7 m0 m1) (fun he hr => stopN g_Q4_all hEQT hmT hL he (by simp) (redT hr)) (condG (o := o_Q4_Check_2 p4 p7 m0 m1) (condG (o := o_Q4_Check_2 p4 p7 m0 m1) (condG (o := o_Q4_Check_2 p4 p7 m0 m1) (fun he hr => stopN g_Q4_all hEQT hmT hL he (by simp) (redT hr)) (fun he hr => goN g_Q4_all hEQT hmT hL he (ih (w64 (p8 + (1 : Int))) x T' M' N' hr))) (fun _ hr => False.elim (redF (redF hr)))) (fun _ hr => False.elim (redF (redF hr))))) (fun _ hr => False.elim (redF (redF hr)))) (fun _ hr => False.elim (redF (redF hr)))) (fun he hr => stopN g_Q4_all hEQT hmT hL he (by simp) (redT (redF hr))))
def f_Q4_Check_2 : List AV → List Blk → LT := fun vs Ms => match vs, Ms with
  | [.v (.c (.aslice 0 none)), .v (.c (.d (.int .i64 p4))), .v (.c (.aslice 1 none)), .v (.c (.d (.int .i64 p7))), .v (.c (.d (.int .i64 p8)))], [.arr none .site m0, .arr (some 59) .vec m1] => o_Q4_Check_2 p4 p7 m0 m1 (lp_Q4_Check_2 p4 p7 m0 m1 p8)
  | _, _ => .no
def L_Q4_Check_2 := LamN 15 65 1 [1, 4, 6, 7, 8] f_Q4_Check_2
theorem k_Q4_Check_2 : LOKbn Tryz.prog GT gbT 1 L_Q4_Check_2 (loopB Tryz.prog 25 2) := by
  refine LOKbn.lamN (by kernel_rfl) fun vs Ms x T' M' N' hr => ?_
  unfold f_Q4_Check_2 at hr
  split at hr
  · obtain ⟨q1, j, q2⟩ := r_Q4_Check_2 _ _ _ _ _ _ x T' M' N' hr
    exact ⟨q1, j, q2⟩
  · exact hr.elim
structure R_Q4_Check_1 where
  k : Nat
  p7 : Int
def run_Q4_Check_1 (p4 : Int) (m0 : List Site) (m1 : List Vec) : Nat → Int → R_Q4_Check_1
  | 0, p7 => ⟨2, p7⟩
  | n + 1, p7 => bif decide (p7 < (m0.length : Int)) then (bif Nat.beq (lp_Q4_Check_2 p4 p7 m0 m1 (0 : Int)).k 0 then ⟨0, p7⟩ else (bif Nat.beq (lp_Q4_Check_2 p4 p7 m0 m1 (0 : Int)).k 1 then run_Q4_Check_1 p4 m0 m1 n (w64 (p7 + (1 : Int))) else ⟨2, p7⟩)) else ⟨1, p7⟩
def lp_Q4_Check_1 (p4 : Int) (m0 : List Site) (m1 : List Vec) (p7 : Int) : R_Q4_Check_1 := run_Q4_Check_1 p4 m0 m1 (2000 + (m0.length + m1.length)) p7
abbrev H_Q4_Check_1 (p4 : Int) (_m0 : List Site) (_m1 : List Vec) (p7 : Int) : TS := headT [1, 4, 6, 7] 65 [.v (.c (.aslice 0 none)), .v (.c (.d (.int .i64 p4))), .v (.c (.aslice 1 none)), .v (.c (.d (.int .i64 p7)))]
theorem b_Q4_Check_1 (p4 : Int) (m0 : List Site) (m1 : List Vec) (p7 : Int) : evCode Tryz.prog GT EQT T_Q4_all XT (orL L_Q4_Check_2 noL) 80 (loopB Tryz.prog 25 1) (H_Q4_Check_1 p4 m0 m1 p7) [.arr none .site m0, .arr (some 59) .vec m1] 2 (normK 1 [1, 4, 6, 7]) =
    bif decide (p7 < (m0.length : Int)) then (bif Nat.beq (lp_Q4_Check_2 p4 p7 m0 m1 (0 : Int)).k 0 then some (.st .ret (headT [1, 4, 6, 7] 65 [.v (.c (.aslice 0 none)), .v (.c (.d (.int .i64 (14 : Int)))), .v (.c (.aslice 1 none)), .v (.c (.d (.int .i64 p7)))]) [.arr none .site m0, .arr (some 59) .vec m1] 2) else (bif Nat.beq (lp_Q4_Check_2 p4 p7 m0 m1 (0 : Int)).k 1 then some (.st .normal (headT [1, 4, 6, 7] 65 [.v (.c (.aslice 0 none)), .v (.c (.d (.int .i64 p4))), .v (.c (.aslice 1 none)), .v (.c (.d (.int .i64 (w64 (p7 + (1 : Int))))))]) [.arr none .site m0, .arr (some 59) .vec m1] 2) else none)) else some (.st (.exit 2) (headT [1, 4, 6, 7] 65 [.v (.c (.aslice 0 none)), .v (.c (.d (.int .i64 p4))), .v (.c (.aslice 1 none)), .v (.c (.d (.int .i64 p7)))]) [.arr none .site m0, .arr (some 59) .vec m1] 2) := by
  kernel_rfl
def o_Q4_Check_1 (p4 : Int) (m0 : List Site) (m1 : List Vec) (r : R_Q4_Check_1) : LT := .br (Nat.beq r.k 0) (.st .ret (headT [1, 4, 6, 7] 65 [.v (.c (.aslice 0 none)), .v (.c (.d (.int .i64 (14 : Int)))), .v (.c (.aslice 1 none)), .v (.c (.d (.int .i64 r.p7)))]) [.arr none .site m0, .arr (some 59) .vec m1] 2) (.br (Nat.beq r.k 1) (.st (.exit 2) (headT [1, 4, 6, 7] 65 [.v (.c (.aslice 0 none)), .v (.c (.d (.int .i64 p4))), .v (.c (.aslice 1 none)), .v (.c (.d (.int .i64 r.p7)))]) [.arr none .site m0, .arr (some 59) .vec m1] 2) (.no))
theorem r_Q4_Check_1 (p4 : Int) (m0 : List Site) (m1 : List Vec) : ∀ (n : Nat) (p7 : Int) (x : Ex) (T' : TS) (M' : List Blk) (N' : Nat), LReach (o_Q4_Check_1 p4 m0 m1 (run_Q4_Check_1 p4 m0 m1 n p7)) x T' M' N' → x ≠ .normal ∧ ∃ j, RoundsN Tryz.prog GT gbT 1 (loopB Tryz.prog 25 1) j (H_Q4_Check_1 p4 m0 m1 p7) [.arr none .site m0, .arr (some 59) .vec m1] 2 x T' M' N' := by
  have hL : LOKn Tryz.prog GT gbT 1 (orL L_Q4_Check_2 noL) (loopsIn (loopB Tryz.prog 25 1)) := by
    intro b hb
    have e : loopsIn (loopB Tryz.prog 25 1) = [loopB Tryz.prog 25 2] := by kernel_rfl
    rw [e] at hb
    simp only [List.mem_cons, List.not_mem_nil, or_false] at hb
    subst hb
    exact (LOKbn.or k_Q4_Check_2 (fun _ _ _ _ _ _ _ h => h.elim))
  intro n
  induction n with
  | zero =>
    intro p7 x T' M' N' hr
    exact False.elim (redF (redF hr))
  | succ n ih =>
    intro p7 x T' M' N'
    rw [run_Q4_Check_1]
    exact viaE (b_Q4_Check_1 p4 m0 m1 p7) (condG (o := o_Q4_Check_1 p4 m0 m1) (condG (o := o_Q4_Check_1 p4 m0 m1) (fun he hr => stopN g_Q4_all hEQT hmT hL he (by simp) (redT hr)) (condG (o := o_Q4_Check_1 p4 m0 m1) (fun he hr => goN g_Q4_all hEQT hmT hL he (ih (w64 (p7 + (1 : Int))) x T' M' N' hr)) (fun _ hr => False.elim (redF (redF hr))))) (fun he hr => stopN g_Q4_all hEQT hmT hL he (by simp) (redT (redF hr))))
def f_Q4_Check_1 : List AV → List Blk → LT := fun vs Ms => match vs, Ms with
  | [.v (.c (.aslice 0 none)), .v (.c (.d (.int .i64 p4))), .v (.c (.aslice 1 none)), .v (.c (.d (.int .i64 p7)))], [.arr none .site m0, .arr (some 59) .vec m1] => o_Q4_Check_1 p4 m0 m1 (lp_Q4_Check_1 p4 m0 m1 p7)
  | _, _ => .no
def L_Q4_Check_1 := LamN 12 65 1 [1, 4, 6, 7] f_Q4_Check_1
theorem k_Q4_Check_1 : LOKbn Tryz.prog GT gbT 1 L_Q4_Check_1 (loopB Tryz.prog 25 1) := by
  refine LOKbn.lamN (by kernel_rfl) fun vs Ms x T' M' N' hr => ?_
  unfold f_Q4_Check_1 at hr
  split at hr
  · obtain ⟨q1, j, q2⟩ := r_Q4_Check_1 _ _ _ _ _ x T' M' N' hr
    exact ⟨q1, j, q2⟩
  · exact hr.elim
structure O_Q4_Check where
  ok : Bool
  r0 : Int
def m_Q4_Check (a0 : Globe) (a1 : List Site) : O_Q4_Check := bif ((checkG a0) != (0 : Int)) then ⟨true, (checkG a0)⟩ else (bif decide ((8 : Int) < (a1.length : Int)) then ⟨true, (4 : Int)⟩ else (bif Nat.beq (lp_Q4_Check_0 (0 : Int) a1 a0 (0 : Int)).k 0 then ⟨true, (8 : Int)⟩ else (bif Nat.beq (lp_Q4_Check_0 (0 : Int) a1 a0 (0 : Int)).k 1 then (bif (m_Q4_all a0 a1).ok then (bif Nat.beq (lp_Q4_Check_1 (0 : Int) a1 ((m_Q4_all a0 a1).r0) (0 : Int)).k 0 then ⟨true, (14 : Int)⟩ else (bif Nat.beq (lp_Q4_Check_1 (0 : Int) a1 ((m_Q4_all a0 a1).r0) (0 : Int)).k 1 then ⟨true, (0 : Int)⟩ else ⟨false, 0⟩)) else ⟨false, 0⟩) else ⟨false, 0⟩)))
def F_Q4_Check (_a0 : Globe) (a1 : List Site) (K : AV → List Blk → Ans) (r : O_Q4_Check) : Ans := bif r.ok then K (.v (.c (.d (.int .i64 r.r0)))) [.arr none .site a1] else none
theorem e_Q4_Check (a0 : Globe) (a1 : List Site) (K : AV → List Blk → Ans) : evFn Tryz.prog GT EQT T_Q4_all XT (orL L_Q4_Check_1 (orL L_Q4_Check_2 (orL L_Q4_Check_0 noL))) 80 25 [.v (.agg [.int .i64 a0.a, .int .i64 a0.b]), .v (.c (.aslice 0 none))] [.arr none .site a1] (fun v M => K (finR 1 v M).1 (finR 1 v M).2) = F_Q4_Check a0 a1 K (m_Q4_Check a0 a1) := by
  unfold m_Q4_Check
  refine Eq.trans ?_ (Eq.symm (pushT rfl (pushT rfl (pushT rfl (pushT (pushT (pushT rfl (pushT rfl rfl)) rfl) rfl)))))
  kernel_rfl
theorem lok_Q4_Check : ∀ fn c, Tryz.prog.funcs[25]? = some fn → fn.body = some c → LOKn Tryz.prog GT gbT 1 (orL L_Q4_Check_1 (orL L_Q4_Check_2 (orL L_Q4_Check_0 noL))) (loopsIn c) := by
  refine LOKn.ofF fun b hb => ?_
  have e : loopsF Tryz.prog 25 = [loopB Tryz.prog 25 0, loopB Tryz.prog 25 1, loopB Tryz.prog 25 2] := by kernel_rfl
  rw [e] at hb
  simp only [List.mem_cons, List.not_mem_nil, or_false] at hb
  rcases hb with rfl | rfl | rfl
  · exact (LOKbn.or (LOKbn.lamN_other (by kernel_rfl)) (LOKbn.or (LOKbn.lamN_other (by kernel_rfl)) (LOKbn.or k_Q4_Check_0 (fun _ _ _ _ _ _ _ h => h.elim))))
  · exact (LOKbn.or k_Q4_Check_1 (LOKbn.or (LOKbn.lamN_other (by kernel_rfl)) (LOKbn.or (LOKbn.lamN_other (by kernel_rfl)) (fun _ _ _ _ _ _ _ h => h.elim))))
  · exact (LOKbn.or (LOKbn.lamN_other (by kernel_rfl)) (LOKbn.or k_Q4_Check_2 (LOKbn.or (LOKbn.lamN_other (by kernel_rfl)) (fun _ _ _ _ _ _ _ h => h.elim))))
theorem c_Q4_Check (a0 : Globe) (a1 : List Site) (hd : (m_Q4_Check a0 a1).ok = true) : CallsA Tryz.prog GT gbT 25 [.v (.agg [.int .i64 a0.a, .int .i64 a0.b]), .v (.c (.aslice 0 none))] [.arr none .site a1] (.v (.c (.d (.int .i64 ((m_Q4_Check a0 a1).r0))))) [.arr none .site a1] := by
  refine CallsA.ofEvR g_Q4_all hEQT hmT (n0 := 1) rfl lok_Q4_Check ((e_Q4_Check a0 a1 (fun v M => some (Res.fin v M))).trans ?_)
  unfold F_Q4_Check
  rw [hd]
  rfl
def s_Q4_Check : List AV → List Blk → (AV → List Blk → Ans) → Ans := fun xs bs K => match xs, bs with
  | [.v (.agg [.int .i64 a0_0, .int .i64 a0_1]), .v (.c (.aslice 0 none))], [.arr none .site a1] => F_Q4_Check (⟨a0_0, a0_1⟩ : Globe) a1 K (m_Q4_Check (⟨a0_0, a0_1⟩ : Globe) a1)
  | _, _ => none
def T_Q4_Check : Nat → List AV → List Blk → (AV → List Blk → Ans) → Ans := upd T_Q4_all 25 s_Q4_Check
theorem g_Q4_Check : GOK Tryz.prog GT gbT T_Q4_Check XT := by
  refine GOK.upd g_Q4_all (fun args w => Tryz.call25 args w) fun xs bs K r h => ?_
  unfold s_Q4_Check at h
  split at h
  · unfold F_Q4_Check at h
    simp only [cond_eq_ite] at h
    split at h
    · rename_i hd
      exact ⟨_, _, c_Q4_Check _ _ hd, h⟩
    · cases h
  · cases h
structure O_Q7_Both where
  ok : Bool
  r0 : Int
def m_Q7_Both (a0 : Globe) (a1 : List Site) (a2 : Source) : O_Q7_Both := bif (m_Q4_Check a0 a1).ok then (bif ((m_Q4_Check a0 a1).r0 != (0 : Int)) then (bif (m_Q4_Check a0 a1).ok then ⟨true, (m_Q4_Check a0 a1).r0⟩ else ⟨false, 0⟩) else ⟨true, (checkSrc ⟨a2.name, a2.ra, a2.dec⟩)⟩) else ⟨false, 0⟩
def F_Q7_Both (_a0 : Globe) (a1 : List Site) (_a2 : Source) (K : AV → List Blk → Ans) (r : O_Q7_Both) : Ans := bif r.ok then K (.v (.c (.d (.int .i64 r.r0)))) [.arr none .site a1] else none
theorem e_Q7_Both (a0 : Globe) (a1 : List Site) (a2 : Source) (K : AV → List Blk → Ans) : evFn Tryz.prog GT EQT T_Q4_Check XT noL 80 14 [.v (.agg [.int .i64 a0.a, .int .i64 a0.b]), .v (.c (.aslice 0 none)), .v (.agg [.str a2.name, .int .i64 a2.ra, .int .i64 a2.dec])] [.arr none .site a1] (fun v M => K (finR 1 v M).1 (finR 1 v M).2) = F_Q7_Both a0 a1 a2 K (m_Q7_Both a0 a1 a2) := by
  unfold m_Q7_Both
  refine Eq.trans ?_ (Eq.symm (pushT (pushT (pushT rfl rfl) rfl) rfl))
  kernel_rfl
theorem c_Q7_Both (a0 : Globe) (a1 : List Site) (a2 : Source) (hd : (m_Q7_Both a0 a1 a2).ok = true) : CallsA Tryz.prog GT gbT 14 [.v (.agg [.int .i64 a0.a, .int .i64 a0.b]), .v (.c (.aslice 0 none)), .v (.agg [.str a2.name, .int .i64 a2.ra, .int .i64 a2.dec])] [.arr none .site a1] (.v (.c (.d (.int .i64 ((m_Q7_Both a0 a1 a2).r0))))) [.arr none .site a1] := by
  refine CallsA.ofEvR g_Q4_Check hEQT hmT (n0 := 1) rfl (fun _ _ _ _ => LOKn.nil) ((e_Q7_Both a0 a1 a2 (fun v M => some (Res.fin v M))).trans ?_)
  unfold F_Q7_Both
  rw [hd]
  rfl
def s_Q7_Both : List AV → List Blk → (AV → List Blk → Ans) → Ans := fun xs bs K => match xs, bs with
  | [.v (.agg [.int .i64 a0_0, .int .i64 a0_1]), .v (.c (.aslice 0 none)), .v (.agg [.str a2_0, .int .i64 a2_1, .int .i64 a2_2])], [.arr none .site a1] => F_Q7_Both (⟨a0_0, a0_1⟩ : Globe) a1 (⟨a2_0, a2_1, a2_2⟩ : Source) K (m_Q7_Both (⟨a0_0, a0_1⟩ : Globe) a1 (⟨a2_0, a2_1, a2_2⟩ : Source))
  | _, _ => none
def T_Q7_Both : Nat → List AV → List Blk → (AV → List Blk → Ans) → Ans := upd T_Q4_Check 14 s_Q7_Both
theorem g_Q7_Both : GOK Tryz.prog GT gbT T_Q7_Both XT := by
  refine GOK.upd g_Q4_Check (fun args w => Tryz.call14 args w) fun xs bs K r h => ?_
  unfold s_Q7_Both at h
  split at h
  · unfold F_Q7_Both at h
    simp only [cond_eq_ite] at h
    split at h
    · rename_i hd
      exact ⟨_, _, c_Q7_Both _ _ _ hd, h⟩
    · cases h
  · cases h
structure O_Q7_Limit where
  ok : Bool
  r0 : Bool
def m_Q7_Limit (a0 : Frac) : O_Q7_Limit := bif ((checkF ⟨a0.num, a0.den⟩) == (0 : Int)) then (bif decide (a0.den ≤ (1000 : Int)) then (bif decide ((0 : Int) ≤ a0.num) then ⟨true, decide (a0.num ≤ a0.den)⟩ else ⟨true, false⟩) else ⟨true, false⟩) else ⟨true, false⟩
def F_Q7_Limit (_a0 : Frac) (K : AV → List Blk → Ans) (r : O_Q7_Limit) : Ans := bif r.ok then K (.v (.c (.d (.bool r.r0)))) [] else none
theorem e_Q7_Limit (a0 : Frac) (K : AV → List Blk → Ans) : evFn Tryz.prog GT EQT T_Q7_Both XT noL 80 15 [.v (.agg [.int .i64 a0.num, .int .i64 a0.den])] [] (fun v M => K (finR 0 v M).1 (finR 0 v M).2) = F_Q7_Limit a0 K (m_Q7_Limit a0) := by
  unfold m_Q7_Limit
  refine Eq.trans ?_ (Eq.symm (pushT (pushT (pushT rfl rfl) rfl) rfl))
  kernel_rfl
theorem c_Q7_Limit (a0 : Frac) (hd : (m_Q7_Limit a0).ok = true) : CallsA Tryz.prog GT gbT 15 [.v (.agg [.int .i64 a0.num, .int .i64 a0.den])] [] (.v (.c (.d (.bool ((m_Q7_Limit a0).r0))))) [] := by
  refine CallsA.ofEvR g_Q7_Both hEQT hmT (n0 := 0) rfl (fun _ _ _ _ => LOKn.nil) ((e_Q7_Limit a0 (fun v M => some (Res.fin v M))).trans ?_)
  unfold F_Q7_Limit
  rw [hd]
  rfl
def s_Q7_Limit : List AV → List Blk → (AV → List Blk → Ans) → Ans := fun xs bs K => match xs, bs with
  | [.v (.agg [.int .i64 a0_0, .int .i64 a0_1])], [] => F_Q7_Limit (⟨a0_0, a0_1⟩ : Frac) K (m_Q7_Limit (⟨a0_0, a0_1⟩ : Frac))
  | _, _ => none
def T_Q7_Limit : Nat → List AV → List Blk → (AV → List Blk → Ans) → Ans := upd T_Q7_Both 15 s_Q7_Limit
theorem g_Q7_Limit : GOK Tryz.prog GT gbT T_Q7_Limit XT := by
  refine GOK.upd g_Q7_Both (fun args w => Tryz.call15 args w) fun xs bs K r h => ?_
  unfold s_Q7_Limit at h
  split at h
  · unfold F_Q7_Limit at h
    simp only [cond_eq_ite] at h
    split at h
    · rename_i hd
      exact ⟨_, _, c_Q7_Limit _ hd, h⟩
    · cases h
  · cases h
end Go.Ev

namespace Go.Ev
open Go Go.Proofs
structure R_Q7_Same_0 where
  k : Nat
  p5 : Int
def run_Q7_Same_0 (p4 : Bool) (m0 : List Window) (m1 : List Window) : Nat → Int → R_Q7_Same_0
  | 0, p5 => ⟨2, p5⟩
  | n + 1, p5 => bif decide (p5 < (m0.length : Int)) then (bif (decide ((0 : Int) ≤ p5) && decide (p5 < (m0.length : Int))) then (bif (decide ((0 : Int) ≤ p5) && decide (p5 < (m1.length : Int))) then (bif (!(eqAll [.int .i64 ((m0.getD p5.toNat (ET.z .win)).frm), .int .i64 ((m0.getD p5.toNat (ET.z .win)).too)] [.int .i64 ((m1.getD p5.toNat (ET.z .win)).frm), .int .i64 ((m1.getD p5.toNat (ET.z .win)).too)])) then ⟨0, p5⟩ else run_Q7_Same_0 p4 m0 m1 n (w64 (p5 + (1 : Int)))) else ⟨2, p5⟩) else ⟨2, p5⟩) else ⟨1, p5⟩
def lp_Q7_Same_0 (p4 : Bool) (m0 : List Window) (m1 : List Window) (p5 : Int) : R_Q7_Same_0 := run_Q7_Same_0 p4 m0 m1 (2000 + (m0.length + m1.length)) p5
abbrev H_Q7_Same_0 (p4 : Bool) (_m0 : List Window) (_m1 : List Window) (p5 : Int) : TS := headT [0, 1, 4, 5] 26 [.v (.c (.aslice 0 none)), .v (.c (.aslice 1 none)), .v (.c (.d (.bool p4))), .v (.c (.d (.int .i64 p5)))]
theorem b_Q7_Same_0 (p4 : Bool) (m0 : List Window) (m1 : List Window) (p5 : Int) : evCode Tryz.prog GT EQT T_Q7_Limit XT noL 80 (loopB Tryz.prog 9 0) (H_Q7_Same_0 p4 m0 m1 p5) [.arr none .win m0, .arr none .win m1] 2 (normK 2 [0, 1, 4, 5]) =
    bif decide (p5 < (m0.length : Int)) then (bif (decide ((0 : Int) ≤ p5) && decide (p5 < (m0.length : Int))) then (bif (decide ((0 : Int) ≤ p5) && decide (p5 < (m1.length : Int))) then (bif (!(eqAll [.int .i64 ((m0.getD p5.toNat (ET.z .win)).frm), .int .i64 ((m0.getD p5.toNat (ET.z .win)).too)] [.int .i64 ((m1.getD p5.toNat (ET.z .win)).frm), .int .i64 ((m1.getD p5.toNat (ET.z .win)).too)])) then some (.st .ret (headT [0, 1, 4, 5] 26 [.v (.c (.aslice 0 none)), .v (.c (.aslice 1 none)), .v (.c (.d (.bool false))), .v (.c (.d (.int .i64 p5)))]) [.arr none .win m0, .arr none .win m1] 2) else some (.st .normal (headT [0, 1, 4, 5] 26 [.v (.c (.aslice 0 none)), .v (.c (.aslice 1 none)), .v (.c (.d (.bool p4))), .v (.c (.d (.int .i64 (w64 (p5 + (1 : Int))))))]) [.arr none .win m0, .arr none .win m1] 2)) else none) else none) else some (.st (.exit 0) (headT [0, 1, 4, 5] 26 [.v (.c (.aslice 0 none)), .v (.c (.aslice 1 none)), .v (.c (.d (.bool p4))), .v (.c (.d (.int .i64 p5)))]) [.arr none .win m0, .arr none .win m1] 2) := by
  kernel_rfl
def o_Q7_Same_0 (p4 : Bool) (m0 : List Window) (m1 : List Window) (r : R_Q7_Same_0) : LT := .br (Nat.beq r.k 0) (.st .ret (headT [0, 1, 4, 5] 26 [.v (.c (.aslice 0 none)), .v (.c (.aslice 1 none)), .v (.c (.d (.bool false))), .v (.c (.d (.int .i64 r.p5)))]) [.arr none .win m0, .arr none .win m1] 2) (.br (Nat.beq r.k 1) (.st (.exit 0) (headT [0, 1, 4, 5] 26 [.v (.c (.aslice 0 none)), .v (.c (.aslice 1 none)), .v (.c (.d (.bool p4))), .v (.c (.d (.int .i64 r.p5)))]) [.arr none .win m0, .arr none .win m1] 2) (.no))
theorem r_Q7_Same_0 (p4 : Bool) (m0 : List Window) (m1 : List Window) : ∀ (n : Nat) (p5 : Int) (x : Ex) (T' : TS) (M' : List Blk) (N' : Nat), LReach (o_Q7_Same_0 p4 m0 m1 (run_Q7_Same_0 p4 m0 m1 n p5)) x T' M' N' → x ≠ .normal ∧ ∃ j, RoundsN Tryz.prog GT gbT 2 (loopB Tryz.prog 9 0) j (H_Q7_Same_0 p4 m0 m1 p5) [.arr none .win m0, .arr none .win m1] 2 x T' M' N' := by
  have hL : LOKn Tryz.prog GT gbT 2 noL (loopsIn (loopB Tryz.prog 9 0)) := fun _ _ _ _ _ _ _ _ _ h => h.elim
  intro n
  induction n with
  | zero =>
    intro p5 x T' M' N' hr
    exact False.elim (redF (redF hr))
  | succ n ih =>
    intro p5 x T' M' N'
    rw [run_Q7_Same_0]
    exact viaE (b_Q7_Same_0 p4 m0 m1 p5) (condG (o := o_Q7_Same_0 p4 m0 m1) (condG (o := o_Q7_Same_0 p4 m0 m1) (condG (o := o_Q7_Same_0 p4 m0 m1) (condG (o := o_Q7_Same_0 p4 m0 m1) (fun he hr => stopN g_Q7_Limit hEQT hmT hL he (by simp) (redT hr)) (fun he hr => goN g_Q7_Limit hEQT hmT hL he (ih (w64 (p5 + (1 : Int))) x T' M' N' hr))) (fun _ hr => False.elim (redF (redF hr)))) (fun _ hr => False.elim (redF (redF hr)))) (fun he hr => stopN g_Q7_Limit hEQT hmT hL he (by simp) (redT (redF hr))))
def f_Q7_Same_0 : List AV → List Blk → LT := fun vs Ms => match vs, Ms with
  | [.v (.c (.aslice 0 none)), .v (.c (.aslice 1 none)), .v (.c (.d (.bool p4))), .v (.c (.d (.int .i64 p5)))], [.arr none .win m0, .arr none .win m1] => o_Q7_Same_0 p4 m0 m1 (lp_Q7_Same_0 p4 m0 m1 p5)
  | _, _ => .no
def L_Q7_Same_0 := LamN 4 26 2 [0, 1, 4, 5] f_Q7_Same_0
theorem k_Q7_Same_0 : LOKbn Tryz.prog GT gbT 2 L_Q7_Same_0 (loopB Tryz.prog 9 0) := by
  refine LOKbn.lamN (by kernel_rfl) fun vs Ms x T' M' N' hr => ?_
  unfold f_Q7_Same_0 at hr
  split at hr
  · obtain ⟨q1, j, q2⟩ := r_Q7_Same_0 _ _ _ _ _ x T' M' N' hr
    exact ⟨q1, j, q2⟩
  · exact hr.elim
structure O_Q7_Same where
  ok : Bool
  r0 : Bool
def m_Q7_Same (a0 : List Window) (a1 : List Window) : O_Q7_Same := bif ((a0.length : Int) != (a1.length : Int)) then ⟨true, false⟩ else (bif Nat.beq (lp_Q7_Same_0 false a0 a1 (0 : Int)).k 0 then ⟨true, false⟩ else (bif Nat.beq (lp_Q7_Same_0 false a0 a1 (0 : Int)).k 1 then ⟨true, true⟩ else ⟨false, false⟩))
def F_Q7_Same (a0 : List Window) (a1 : List Window) (K : AV → List Blk → Ans) (r : O_Q7_Same) : Ans := bif r.ok then K (.v (.c (.d (.bool r.r0)))) [.arr none .win a0, .arr none .win a1] else none
theorem e_Q7_Same (a0 : List Window) (a1 : List Window) (K : AV → List Blk → Ans) : evFn Tryz.prog GT EQT T_Q7_Limit XT (orL L_Q7_Same_0 noL) 80 9 [.v (.c (.aslice 0 none)), .v (.c (.aslice 1 none))] [.arr none .win a0, .arr none .win a1] (fun v M => K (finR 2 v M).1 (finR 2 v M).2) = F_Q7_Same a0 a1 K (m_Q7_Same a0 a1) := by
  unfold m_Q7_Same
  refine Eq.trans ?_ (Eq.symm (pushT rfl (pushT rfl (pushT rfl rfl))))
  kernel_rfl
theorem lok_Q7_Same : ∀ fn c, Tryz.prog.funcs[9]? = some fn → fn.body = some c → LOKn Tryz.prog GT gbT 2 (orL L_Q7_Same_0 noL) (loopsIn c) := by
  refine LOKn.ofF fun b hb => ?_
  have e : loopsF Tryz.prog 9 = [loopB Tryz.prog 9 0] := by kernel_rfl
  rw [e] at hb
  simp only [List.mem_cons, List.not_mem_nil, or_false] at hb
  subst hb
  exact (LOKbn.or k_Q7_Same_0 (fun _ _ _ _ _ _ _ h => h.elim))
theorem c_Q7_Same (a0 : List Window) (a1 : List Window) (hd : (m_Q7_Same a0 a1).ok = true) : CallsA Tryz.prog GT gbT 9 [.v (.c (.aslice 0 none)), .v (.c (.aslice 1 none))] [.arr none .win a0, .arr none .win a1] (.v (.c (.d (.bool ((m_Q7_Same a0 a1).r0))))) [.arr none .win a0, .arr none .win a1] := by
  refine CallsA.ofEvR g_Q7_Limit hEQT hmT (n0 := 2) rfl lok_Q7_Same ((e_Q7_Same a0 a1 (fun v M => some (Res.fin v M))).trans ?_)
  unfold F_Q7_Same
  rw [hd]
  rfl
def s_Q7_Same : List AV → List Blk → (AV → List Blk → Ans) → Ans := fun xs bs K => match xs, bs with
  | [.v (.c (.aslice 0 none)), .v (.c (.aslice 1 none))], [.arr none .win a0, .arr none .win a1] => F_Q7_Same a0 a1 K (m_Q7_Same a0 a1)
  | _, _ => none
def T_Q7_Same : Nat → List AV → List Blk → (AV → List Blk → Ans) → Ans := upd T_Q7_Limit 9 s_Q7_Same
theorem g_Q7_Same : GOK Tryz.prog GT gbT T_Q7_Same XT := by
  refine GOK.upd g_Q7_Limit (fun args w => Tryz.call9 args w) fun xs bs K r h => ?_
  unfold s_Q7_Same at h
  split at h
  · unfold F_Q7_Same at h
    simp only [cond_eq_ite] at h
    split at h
    · rename_i hd
      exact ⟨_, _, c_Q7_Same _ _ hd, h⟩
    · cases h
  · cases h
end Go.Ev

namespace Go.Ev
end Go.Ev

namespace Go.Ev
open Go
theorem w64_up {n : Nat} (h : n < 9223372036854775807) : w64 ((n : Int) + 1) = ((n + 1 : Nat) : Int) := by simp only [w64, wr]; omega
theorem room_le {n : Nat} (h : n ≤ 1048576) : Nat.ble n roomD = true := by rw [Nat.ble_eq]; exact h
abbrev sAt (l : List Site) (n : Nat) : Site := l.getD n (ET.z .site)
theorem drop_at {α : Type} {l : List α} {n : Nat} (z : α) (h : n < l.length) : l.drop n = l.getD n z :: l.drop (n + 1) := by
  rw [List.drop_eq_getElem_cons h]
  congr 1
  rw [List.getD_eq_getElem?_getD, List.getElem?_eq_getElem h]
  rfl
theorem drop_all {α : Type} {l : List α} {n : Nat} (h : ¬ n < l.length) : l.drop n = [] := List.drop_eq_nil_of_le (by omega)
theorem run_great (l : List Site) (p : Bool) (hl : l.length ≤ maxLen) : ∀ (f n : Nat), n ≤ l.length → l.length - n < f → (run_Q4_Great_0 p l f (n : Int)).k = bif (l.drop n).any (fun x => decide (100 < x.name.size)) then 0 else 1 := by
  intro f
  induction f with
  | zero => intro n _ h; omega
  | succ f ih =>
    intro n hn h
    rw [run_Q4_Great_0]
    simp only [maxLen] at hl
    by_cases h1 : n < l.length
    · simp only [nn_t, lt_t h1, Bool.and_self, cond_true, w64_up (show n < 9223372036854775807 by omega), Int.toNat_natCast]
      rw [drop_at (ET.z .site) h1, List.any_cons]
      by_cases c : 100 < (sAt l n).name.size
      · rw [dec_t (show (100 : Int) < ((sAt l n).name.size : Int) by omega), dec_t c]; rfl
      · rw [dec_f (show ¬ (100 : Int) < ((sAt l n).name.size : Int) by omega), dec_f c]
        simp only [cond_false, Bool.false_or]
        exact ih (n + 1) (by omega) (by omega)
    · simp only [lt_f h1, cond_false]
      rw [drop_all h1]
      rfl
def greatB (l : List Site) : Bool := l.any (fun x => decide (100 < x.name.size)) || decide (20 < l.length)
theorem m_great (l : List Site) (hl : l.length ≤ maxLen) : m_Q4_Great l = ⟨true, greatB l⟩ := by
  unfold m_Q4_Great lp_Q4_Great_0 greatB
  have := run_great l false hl (2000 + l.length) 0 (by omega) (by omega)
  rw [show ((0 : Nat) : Int) = 0 from rfl, List.drop_zero] at this
  rw [this]
  cases l.any (fun x => decide (100 < x.name.size)) with
  | true => rfl
  | false =>
    by_cases c : 20 < l.length
    · rw [dec_t c, dec_t (show (20 : Int) < (l.length : Int) by omega)]; rfl
    · rw [dec_f c, dec_f (show ¬ (20 : Int) < (l.length : Int) by omega)]; rfl
def siteB (x : Site) : Bool := namedB x.name && placedB x.s x.t
theorem run_valid (x : Site) (p : Bool) (hs : x.name.size ≤ 40) : ∀ (f m : Nat) (i : Int), 0 ≤ i → i + m = x.name.size → m < f → (run_array_valid_0 p (x.name.size : Int) x f i).k = bif restOk x.name i m then 1 else 0 := by
  intro f
  induction f with
  | zero => intro m i _ _ h; omega
  | succ f ih =>
    intro m i h0 h1 h2
    rw [run_array_valid_0]
    change (bif decide (i < (x.name.size : Int)) then (bif (decide (0 ≤ i) && decide (i < (x.name.size : Int))) then nameStep (byteAt x.name i) ⟨0, i⟩ (run_array_valid_0 p (x.name.size : Int) x f (w64 (i + 1))) else ⟨2, i⟩) else ⟨1, i⟩ : R_array_valid_0).k = _
    cases m with
    | zero => rw [dec_f (show ¬ i < (x.name.size : Int) by omega)]; rfl
    | succ m =>
      rw [dec_t (show i < (x.name.size : Int) by omega), dec_t h0, nameStep_eq, restOk, show w64 (i + 1) = i + 1 by simp only [w64, wr]; omega]
      simp only [Bool.and_self, cond_true]
      cases byteOk (byteAt x.name i) with
      | false => rfl
      | true =>
        simp only [cond_true]
        exact ih m (i + 1) (by omega) (by omega) (by omega)
theorem at_one (s t : Frac) : ((atV ⟨1, 1⟩ s t).2 == (0 : Int)) = placedB s t := by
  unfold atV
  rw [show globeOkB ⟨1, 1⟩ = true by decide]
  cases placedB s t <;> rfl
theorem m_valid (x : Site) : m_array_valid x = ⟨true, siteB x⟩ := by
  unfold m_array_valid siteB namedB lp_array_valid_0
  by_cases h1 : (x.name.size : Int) < 1
  · rw [dec_t h1]; rfl
  by_cases h2 : 40 < (x.name.size : Int)
  · rw [dec_f h1, dec_t h2]; rfl
  rw [dec_f h1, dec_f h2, dec_t (show (0 : Int) < (x.name.size : Int) by omega)]
  simp only [Int.le_refl, decide_true, Bool.and_self, cond_true, cond_false, at_one]
  cases decide (byteAt x.name 0 < 97) with
  | true => rfl
  | false =>
    cases decide (122 < byteAt x.name 0) with
    | true => rfl
    | false =>
      simp only [cond_false]
      rw [run_valid x false (by omega) _ x.name.size 0 (by omega) (by omega) (by omega)]
      cases restOk x.name 0 x.name.size <;> rfl
theorem m_validR (x : Site) : m_Q4_Valid x = ⟨true, siteB x⟩ := by
  unfold m_Q4_Valid siteB
  cases namedB x.name <;> rfl
def stationsE (l : List Site) : Int := bif decide (8 < l.length) then 4 else bif l.all siteB then 0 else 8
theorem run_stations (l : List Site) (p : Int) (hl : l.length ≤ 8) : ∀ (f n : Nat), n ≤ l.length → l.length - n < f → (run_array_stations_0 p (l.length : Int) l f (n : Int)).k = bif (l.drop n).all siteB then 1 else 0 := by
  intro f
  induction f with
  | zero => intro n _ h; omega
  | succ f ih =>
    intro n hn h
    rw [run_array_stations_0]
    by_cases h1 : n < l.length
    · simp only [nn_t, lt_t h1, Bool.and_self, cond_true, w64_up (show n < 9223372036854775807 by omega), Int.toNat_natCast, m_valid]
      rw [drop_at (ET.z .site) h1, List.all_cons]
      cases siteB (sAt l n) with
      | false => rfl
      | true =>
        simp only [Bool.not_true, cond_false, Bool.true_and]
        exact ih (n + 1) (by omega) (by omega)
    · simp only [lt_f h1, cond_false]
      rw [drop_all h1]
      rfl
theorem m_stations (l : List Site) : m_array_stations l = ⟨true, stationsE l⟩ := by
  unfold m_array_stations stationsE lp_array_stations_0
  by_cases h : 8 < l.length
  · rw [dec_t h, dec_t (show (8 : Int) < (l.length : Int) by omega)]; rfl
  · rw [dec_f h, dec_f (show ¬ (8 : Int) < (l.length : Int) by omega)]
    have := run_stations l 0 (by omega) (2000 + l.length) 0 (by omega) (by omega)
    rw [show ((0 : Nat) : Int) = 0 from rfl, List.drop_zero] at this
    simp only [cond_false]
    rw [this]
    cases l.all siteB <;> rfl
theorem stations_ok {l : List Site} (h : stationsE l = 0) : l.length ≤ 8 ∧ ∀ x ∈ l, siteB x = true := by
  unfold stationsE at h
  by_cases h1 : 8 < l.length
  · rw [dec_t h1] at h; cases h
  · rw [dec_f h1] at h
    refine ⟨by omega, ?_⟩
    cases h2 : l.all siteB with
    | false => rw [h2] at h; cases h
    | true => exact List.all_eq_true.1 h2
theorem site_placed {x : Site} (h : siteB x = true) : placedB x.s x.t = true := by
  unfold siteB at h
  simp only [Bool.and_eq_true] at h
  exact h.2
def placedL (g : Globe) (l : List Site) : List Placed := l.map fun x => ⟨x, placeV g x.s x.t⟩
def placesL (g : Globe) (l : List Site) : List Vec := l.map fun x => placeV g x.s x.t
theorem placedL_len (g : Globe) (l : List Site) : (placedL g l).length = l.length := List.length_map _
theorem placesL_len (g : Globe) (l : List Site) : (placesL g l).length = l.length := List.length_map _
theorem placedL_at (g : Globe) {l : List Site} {n : Nat} (h : n < l.length) : (placedL g l).getD n (ET.z .placed) = ⟨sAt l n, placeV g (sAt l n).s (sAt l n).t⟩ := by
  unfold placedL
  rw [List.getD_eq_getElem?_getD, List.getElem?_map, List.getElem?_eq_getElem h, sAt, List.getD_eq_getElem?_getD, List.getElem?_eq_getElem h]
  rfl
theorem placesL_at (g : Globe) {l : List Site} {n : Nat} (h : n < l.length) : (placesL g l).getD n (ET.z .vec) = placeV g (sAt l n).s (sAt l n).t := by
  unfold placesL
  rw [List.getD_eq_getElem?_getD, List.getElem?_map, List.getElem?_eq_getElem h, sAt, List.getD_eq_getElem?_getD, List.getElem?_eq_getElem h]
  rfl
theorem sAt_mem {l : List Site} {n : Nat} (h : n < l.length) : sAt l n ∈ l := by
  rw [sAt, List.getD_eq_getElem?_getD, List.getElem?_eq_getElem h]
  exact List.getElem_mem h
theorem at_valid {g : Globe} {x : Site} (hg : checkG g = 0) (hx : siteB x = true) : atV g x.s x.t = (placeV g x.s x.t, 0) := by
  unfold atV
  rw [site_placed hx]
  unfold checkG at hg
  cases h : globeOkB g with
  | false => rw [h] at hg; cases hg
  | true => rfl
theorem take_set {α : Type} : ∀ {l : List α} {n : Nat} {y : α}, n < l.length → (l.set n y).take (n + 1) = l.take n ++ [y]
  | [], _, _, h => by simp at h
  | _ :: _, 0, _, _ => by simp
  | x :: l, n + 1, y, h => by
    simp only [List.set_cons_succ, List.take_succ_cons, List.cons_append]
    rw [take_set (by simpa using h)]
theorem run_place (g : Globe) (l : List Site) (q : Int) (hg : checkG g = 0) (hl : l.length ≤ 8) (hv : ∀ x ∈ l, siteB x = true) : ∀ (f n : Nat) (acc : List Placed), n ≤ l.length → l.length - n < f → acc.length = l.length →
    (run_array_place_0 (l.length : Int) l g q f (n : Int) acc).k = 1 ∧ (run_array_place_0 (l.length : Int) l g q f (n : Int) acc).m5 = acc.take n ++ (placedL g l).drop n := by
  intro f
  induction f with
  | zero => intro n acc _ h; omega
  | succ f ih =>
    intro n acc hn h ha
    rw [run_array_place_0]
    by_cases h1 : n < l.length
    · simp only [nn_t, lt_t h1, lt_t (show n < acc.length by omega), Bool.and_self, cond_true, w64_up (show n < 9223372036854775807 by omega), Int.toNat_natCast, at_valid hg (hv _ (sAt_mem h1))]
      have := ih (n + 1) (acc.set n ⟨sAt l n, placeV g (sAt l n).s (sAt l n).t⟩) (by omega) (by omega) (by simp [ha])
      rw [take_set (by omega)] at this
      rw [drop_at (ET.z .placed) (show n < (placedL g l).length by rw [placedL_len]; exact h1), placedL_at g h1]
      refine ⟨this.1, this.2.trans ?_⟩
      rw [List.append_assoc]
      rfl
    · simp only [lt_f h1, cond_false]
      rw [drop_all (show ¬ n < (placedL g l).length by rw [placedL_len]; exact h1), List.append_nil, List.take_of_length_le (by omega)]
      exact ⟨trivial, rfl⟩
def dupL (g : Globe) (l : List Site) : Bool := dupP (placedL g l)
def checkA (g : Globe) (l : List Site) : Int := bif checkG g != 0 then checkG g else bif stationsE l != 0 then stationsE l else bif dupL g l then 14 else 0
theorem nat_of {i : Int} (h : 0 ≤ i) : ∃ n : Nat, i = n := ⟨i.toNat, by omega⟩
theorem eq0_of {n : Int} (h : (n != 0) = false) : n = 0 := by simpa using h
theorem m_place (g : Globe) (l : List Site) : m_array_place g l = ⟨true, bif checkA g l == 0 then placedL g l else [], checkA g l⟩ := by
  unfold m_array_place checkA m0_array_place
  simp only [m_stations, cond_true]
  cases h1 : (checkG g != 0) with
  | true =>
    simp only [cond_true]
    rw [show (checkG g == 0) = false by simpa [bne] using h1]
    rfl
  | false =>
    cases h2 : (stationsE l != 0) with
    | true =>
      simp only [cond_true, cond_false]
      rw [show (stationsE l == 0) = false by simpa [bne] using h2]
      rfl
    | false =>
      obtain ⟨hl, hv⟩ := stations_ok (eq0_of h2)
      have e0 : (decide (0 ≤ (l.length : Int)) && (decide ((l.length : Int) ≤ 1048576) && ((11 == 11) && (Nat.blt 0 11 && Nat.ble 96 4096)))) = true := by
        rw [nn_t, dec_t (show (l.length : Int) ≤ 1048576 by omega)]; rfl
      unfold lp_array_place_0
      obtain ⟨k1, k2⟩ := run_place g l 0 (eq0_of h1) hl hv (2000 + (l.length + (List.replicate l.length (⟨⟨ByteArray.empty, ⟨(0 : Int), (0 : Int)⟩, ⟨(0 : Int), (0 : Int)⟩⟩, ⟨⟨(0 : Int), (0 : Int)⟩, ⟨(0 : Int), (0 : Int)⟩, ⟨(0 : Int), (0 : Int)⟩⟩⟩ : Placed)).length)) 0 (List.replicate l.length (⟨⟨ByteArray.empty, ⟨(0 : Int), (0 : Int)⟩, ⟨(0 : Int), (0 : Int)⟩⟩, ⟨⟨(0 : Int), (0 : Int)⟩, ⟨(0 : Int), (0 : Int)⟩, ⟨(0 : Int), (0 : Int)⟩⟩⟩ : Placed)) (by omega) (by omega) (by simp)
      rw [show ((0 : Nat) : Int) = 0 from rfl] at k1 k2
      rw [List.take_zero, List.nil_append, List.drop_zero] at k2
      simp only [cond_false, decide_true, Bool.true_and, e0, cond_true, k1, k2, show Nat.beq 1 0 = false from rfl, show Nat.beq 1 1 = true from rfl]
      unfold dupL
      cases dupP (placedL g l) <;> rfl
theorem placeR_valid {g : Globe} {x : Site} (hx : siteB x = true) : placeR g x.s x.t = placeV g x.s x.t := by
  have := site_placed hx
  unfold placedB at this
  simp only [Bool.and_eq_true] at this
  exact placeR_eq (paramB_iff.1 this.1) (paramB_iff.1 this.2.1)
theorem run_all (g : Globe) (l : List Site) (hl : l.length ≤ 8) (hv : ∀ x ∈ l, siteB x = true) : ∀ (f n : Nat) (o : List Vec), n ≤ l.length → l.length - n < f → o.length + (l.length - n) ≤ 1000 →
    (run_Q4_all_0 l g f (n : Int) o).k = 0 ∧ (run_Q4_all_0 l g f (n : Int) o).m2 = o ++ (placesL g l).drop n := by
  intro f
  induction f with
  | zero => intro n o _ h; omega
  | succ f ih =>
    intro n o hn h ho
    rw [run_Q4_all_0]
    by_cases h1 : n < l.length
    · simp only [nn_t, lt_t h1, Bool.and_self, cond_true, w64_up (show n < 9223372036854775807 by omega), Int.toNat_natCast, placeR_valid (hv _ (sAt_mem h1)), List.length_singleton, room_le (show o.length + 1 ≤ 1048576 by omega)]
      rw [drop_at (ET.z .vec) (show n < (placesL g l).length by rw [placesL_len]; exact h1), placesL_at g h1]
      obtain ⟨k1, k2⟩ := ih (n + 1) (o ++ [placeV g (sAt l n).s (sAt l n).t]) (by omega) (by omega) (by simp; omega)
      refine ⟨k1, k2.trans ?_⟩
      rw [List.append_assoc]
      rfl
    · simp only [lt_f h1, cond_false]
      rw [drop_all (show ¬ n < (placesL g l).length by rw [placesL_len]; exact h1), List.append_nil]
      exact ⟨trivial, rfl⟩
theorem m_all (g : Globe) (l : List Site) (h : stationsE l = 0) : m_Q4_all g l = ⟨true, placesL g l⟩ := by
  obtain ⟨hl, hv⟩ := stations_ok h
  unfold m_Q4_all lp_Q4_all_0
  obtain ⟨k1, k2⟩ := run_all g l hl hv (2000 + (l.length + ([] : List Vec).length)) 0 [] (by omega) (by omega) (by simp; omega)
  rw [show ((0 : Nat) : Int) = 0 from rfl] at k1 k2
  rw [k1, k2]
  rfl
theorem run_checkS (g : Globe) (l : List Site) (p : Int) (hl : l.length ≤ 8) : ∀ (f n : Nat), n ≤ l.length → l.length - n < f → (run_Q4_Check_0 p l g f (n : Int)).k = bif (l.drop n).all siteB then 1 else 0 := by
  intro f
  induction f with
  | zero => intro n _ h; omega
  | succ f ih =>
    intro n hn h
    rw [run_Q4_Check_0]
    by_cases h1 : n < l.length
    · simp only [nn_t, lt_t h1, Bool.and_self, cond_true, w64_up (show n < 9223372036854775807 by omega), Int.toNat_natCast, m_validR]
      rw [drop_at (ET.z .site) h1, List.all_cons]
      cases siteB (sAt l n) with
      | false => rfl
      | true =>
        simp only [Bool.not_true, cond_false, Bool.true_and]
        exact ih (n + 1) (by omega) (by omega)
    · simp only [lt_f h1, cond_false]
      rw [drop_all h1]
      rfl
theorem eq_vec (a b : Vec) : eqAll [.int .i64 a.x.num, .int .i64 a.x.den, .int .i64 a.y.num, .int .i64 a.y.den, .int .i64 a.z.num, .int .i64 a.z.den] [.int .i64 b.x.num, .int .i64 b.x.den, .int .i64 b.y.num, .int .i64 b.y.den, .int .i64 b.z.num, .int .i64 b.z.den] = decide (a = b) := by
  obtain ⟨⟨a1, a2⟩, ⟨a3, a4⟩, ⟨a5, a6⟩⟩ := a
  obtain ⟨⟨b1, b2⟩, ⟨b3, b4⟩, ⟨b5, b6⟩⟩ := b
  rw [Bool.eq_iff_iff]
  simp [eqAll, D.eq, and_assoc]
theorem dup_at (g : Globe) {l : List Site} {i j : Nat} (hi : i < l.length) (hj : j < l.length) : dupAt (placedL g l) i j = (decide ((sAt l i).name.data.toList = (sAt l j).name.data.toList) || decide (placeV g (sAt l i).s (sAt l i).t = placeV g (sAt l j).s (sAt l j).t)) := by
  unfold dupAt
  rw [eq_vec, placedL_at g hi, placedL_at g hj]
  simp only
  by_cases c : (sAt l i).name.data.toList = (sAt l j).name.data.toList
  · rw [show ((sAt l i).name.data.toList == (sAt l j).name.data.toList) = true by simpa using c, dec_t c]; rfl
  · rw [show ((sAt l i).name.data.toList == (sAt l j).name.data.toList) = false by simpa using c, dec_f c]; rfl
theorem run_pair2 (g : Globe) (l : List Site) (p : Int) (hl : l.length ≤ 8) (i : Nat) (hi : i < l.length) : ∀ (f n : Nat), n ≤ i → i - n < f → (run_Q4_Check_2 p (i : Int) l (placesL g l) f (n : Int)).k = bif (List.range' n (i - n)).any (fun k => dupAt (placedL g l) k i) then 0 else 1 := by
  intro f
  induction f with
  | zero => intro n _ h; omega
  | succ f ih =>
    intro n hn h
    rw [run_Q4_Check_2]
    by_cases h1 : n < i
    · simp only [nn_t, lt_t h1, lt_t hi, lt_t (show n < l.length by omega), lt_t (show i < (placesL g l).length by rw [placesL_len]; exact hi), lt_t (show n < (placesL g l).length by rw [placesL_len]; omega), Bool.and_self, cond_true, w64_up (show n < 9223372036854775807 by omega), Int.toNat_natCast]
      rw [eq_vec, placesL_at g hi, placesL_at g (show n < l.length by omega), show i - n = (i - (n + 1)) + 1 by omega, List.range'_succ, List.any_cons, dup_at g (show n < l.length by omega) hi]
      by_cases c : (sAt l n).name.data.toList = (sAt l i).name.data.toList
      · rw [show ((sAt l i).name.data.toList == (sAt l n).name.data.toList) = true by simpa using c.symm, dec_t c]; rfl
      · rw [show ((sAt l i).name.data.toList == (sAt l n).name.data.toList) = false from beq_eq_false_iff_ne.2 fun e => c e.symm, dec_f c]
        simp only [cond_false, Bool.false_or]
        by_cases d : placeV g (sAt l n).s (sAt l n).t = placeV g (sAt l i).s (sAt l i).t
        · rw [dec_t d, dec_t d.symm]; rfl
        · rw [dec_f d, dec_f (fun e => d e.symm)]
          simp only [cond_false, Bool.false_or]
          exact ih (n + 1) (by omega) (by omega)
    · simp only [lt_f h1, cond_false]
      rw [show i - n = 0 by omega]
      rfl
theorem run_pair1 (g : Globe) (l : List Site) (p : Int) (hl : l.length ≤ 8) : ∀ (f n : Nat), n ≤ l.length → l.length - n < f → (run_Q4_Check_1 p l (placesL g l) f (n : Int)).k = bif (List.range' n (l.length - n)).any (fun j => (List.range j).any fun k => dupAt (placedL g l) k j) then 0 else 1 := by
  intro f
  induction f with
  | zero => intro n _ h; omega
  | succ f ih =>
    intro n hn h
    rw [run_Q4_Check_1]
    by_cases h1 : n < l.length
    · have := run_pair2 g l p hl n h1 (2000 + (l.length + (placesL g l).length)) 0 (by omega) (by omega)
      rw [show ((0 : Nat) : Int) = 0 from rfl, Nat.sub_zero, ← List.range_eq_range'] at this
      unfold lp_Q4_Check_2
      simp only [lt_t h1, cond_true, this, w64_up (show n < 9223372036854775807 by omega)]
      rw [show l.length - n = (l.length - (n + 1)) + 1 by omega, List.range'_succ, List.any_cons]
      cases (List.range n).any (fun k => dupAt (placedL g l) k n) with
      | true => rfl
      | false =>
        simp only [cond_false, Bool.false_or, show Nat.beq 1 0 = false from rfl, show Nat.beq 1 1 = true from rfl, cond_true]
        exact ih (n + 1) (by omega) (by omega)
    · simp only [lt_f h1, cond_false]
      rw [show l.length - n = 0 by omega]
      rfl
theorem m_checkRA (g : Globe) (l : List Site) : m_Q4_Check g l = ⟨true, checkA g l⟩ := by
  unfold m_Q4_Check checkA
  cases h1 : (checkG g != 0) with
  | true => rfl
  | false =>
    simp only [cond_false]
    by_cases h2 : 8 < l.length
    · rw [dec_t (show (8 : Int) < (l.length : Int) by omega), show stationsE l = 4 by unfold stationsE; rw [dec_t h2]; rfl]
      rfl
    · rw [dec_f (show ¬ (8 : Int) < (l.length : Int) by omega)]
      unfold lp_Q4_Check_0 lp_Q4_Check_1
      have hs := run_checkS g l 0 (by omega) (2000 + l.length) 0 (by omega) (by omega)
      rw [show ((0 : Nat) : Int) = 0 from rfl, List.drop_zero] at hs
      simp only [cond_false, hs]
      cases h3 : l.all siteB with
      | false =>
        rw [show stationsE l = 8 by unfold stationsE; rw [dec_f h2, h3]; rfl]
        rfl
      | true =>
        have h4 : stationsE l = 0 := by unfold stationsE; rw [dec_f h2, h3]; rfl
        have hp := run_pair1 g l 0 (by omega) (2000 + (l.length + (placesL g l).length)) 0 (by omega) (by omega)
        rw [show ((0 : Nat) : Int) = 0 from rfl, Nat.sub_zero, ← List.range_eq_range'] at hp
        simp only [m_all g l h4, h4, cond_true, show Nat.beq 1 0 = false from rfl, show Nat.beq 1 1 = true from rfl, cond_false, bne_self_eq_false, hp]
        unfold dupL dupP
        rw [placedL_len]
        cases (List.range l.length).any (fun j => (List.range j).any fun i => dupAt (placedL g l) i j) <;> rfl
end Go.Ev

namespace Go.Ev
open Go
def mostI (a b : Int) : Int := if b > a then b else a
theorem mostI_spec (a b : Int) : (mostI a b = a ∨ mostI a b = b) ∧ a ≤ mostI a b ∧ b ≤ mostI a b := by
  unfold mostI
  split <;> omega
def flatF (g : Globe) : Frac := (makeF g.b (g.a * mostI g.a g.b)).1
def steepF (g : Globe) : Frac := (makeF g.a (g.b * mostI g.a g.b)).1
def upV (g : Globe) (p : Vec) : Vec := ⟨(mulF p.x (flatF g)).1, (mulF p.y (flatF g)).1, (mulF p.z (steepF g)).1⟩
theorem one_sq {x : Rat} (h : x * x ≤ 1) : -1 ≤ x ∧ x ≤ 1 := by
  constructor
  · apply Rat.not_lt.1
    intro c
    have : 0 < (-x - 1) * (-x + 1) := Rat.mul_pos (by grind) (by grind)
    grind
  · apply Rat.not_lt.1
    intro c
    have : 0 < (x - 1) * (x + 1) := Rat.mul_pos (by grind) (by grind)
    grind
theorem part_sq {q c : Rat} (h0 : 0 ≤ q) (h1 : q ≤ 1) : 0 ≤ q * q * (c * c) ∧ q * q * (c * c) ≤ c * c := by
  have hc := rsq c
  have hq : q * q ≤ 1 := by
    have := Rat.mul_le_mul_of_nonneg_left h1 h0
    grind
  have := Rat.mul_le_mul_of_nonneg_right hq hc
  exact ⟨Rat.mul_nonneg (rsq q) hc, by grind⟩
structure UpQ (g : Globe) (p u : Vec) (n : Frac) : Prop where
  flat : makeF g.b (g.a * mostI g.a g.b) = (flatF g, 0)
  steep : makeF g.a (g.b * mostI g.a g.b) = (steepF g, 0)
  scale : ∃ z, scaleV p (flatF g) = (⟨u.x, u.y, z⟩, 0)
  x : mulF p.x (flatF g) = (u.x, 0)
  y : mulF p.y (flatF g) = (u.y, 0)
  z : mulF p.z (steepF g) = (u.z, 0)
  ok : VecOk u
  dot : dotV u u = (n, 0)
  nok : FracOk n
  n0 : 0 ≤ val n
  n1 : val n ≤ 1
  ux : -1 ≤ val u.x ∧ val u.x ≤ 1
  uy : -1 ≤ val u.y ∧ val u.y ≤ 1
  uz : -1 ≤ val u.z ∧ val u.z ≤ 1
theorem ratio_q {a m : Int} (h0 : 0 < a) (h : a ≤ m) : 0 ≤ (a : Rat) / (m : Rat) ∧ (a : Rat) / (m : Rat) ≤ 1 ∧ (a : Rat) / (m : Rat) * (m : Rat) = a := by
  have hm : (0 : Rat) < (m : Rat) := by exact_mod_cast (show 0 < m by omega)
  have ha : (0 : Rat) ≤ (a : Rat) := by exact_mod_cast (show 0 ≤ a by omega)
  have hle : (a : Rat) ≤ (m : Rat) := by exact_mod_cast h
  have e : (a : Rat) / (m : Rat) * (m : Rat) = a := Rat.div_mul_cancel (by grind)
  refine ⟨?_, ?_, e⟩
  · apply Rat.not_lt.1
    intro c
    have : 0 < (-((a : Rat) / (m : Rat))) * (m : Rat) := Rat.mul_pos (by grind) hm
    grind
  · apply Rat.not_lt.1
    intro c
    have : 0 < ((a : Rat) / (m : Rat) - 1) * (m : Rat) := Rat.mul_pos (by grind) hm
    grind
theorem rep_up {Q R b a m c s W V U : Rat} (h1 : Q * m = b) (h2 : R * m = a) (h3 : c * W = V) (h4 : s * W = U) : (Q * Q * (c * c) + R * R * (s * s)) * (m * m * (W * W)) = b * b * (V * V) + a * a * (U * U) := by
  rw [← h1, ← h2, ← h3, ← h4]
  grind
theorem up_q {g : Globe} {s t : Frac} {p : Vec} (h : PlaceQ g s t p) : ∃ n, UpQ g p (upV g p) n := by
  have a1 := h.kg.alo; have a2 := h.kg.ahi; have b1 := h.kg.blo; have b2 := h.kg.bhi
  obtain ⟨hm, hm1, hm2⟩ := mostI_spec g.a g.b
  have us := unitQ h.ks; have ut := unitQ h.kt
  have m1 : mostI g.a g.b ≤ 1000 := by omega
  have m0 : 1 ≤ mostI g.a g.b := by omega
  obtain ⟨pb0, pb1, pbe⟩ := ratio_q (a := g.b) (m := mostI g.a g.b) (by omega) hm2
  obtain ⟨pa0, pa1, pae⟩ := ratio_q (a := g.a) (m := mostI g.a g.b) (by omega) hm1
  have rb : BR ((g.b : Rat) / (mostI g.a g.b : Rat)) 1000 := ⟨g.b, mostI g.a g.b, ⟨by omega, pbe⟩, by rw [absI_eq]; omega, m1⟩
  have ra : BR ((g.a : Rat) / (mostI g.a g.b : Rat)) 1000 := ⟨g.a, mostI g.a g.b, ⟨by omega, pae⟩, by rw [absI_eq]; omega, m1⟩
  have hma : 0 < g.a * mostI g.a g.b := Int.mul_pos (by omega) (by omega)
  have hmb : 0 < g.b * mostI g.a g.b := Int.mul_pos (by omega) (by omega)
  have hma' : g.a * mostI g.a g.b ≤ 1000 * 1000 := mul_le (by omega) (by omega) (by omega) m1
  have hmb' : g.b * mostI g.a g.b ≤ 1000 * 1000 := mul_le (by omega) (by omega) (by omega) m1
  obtain ⟨fl, efl, kfl, vfl⟩ := make_small (n := g.b) hma (by omega) (by rw [absI_eq]; omega)
  obtain ⟨st, est, kst, vst⟩ := make_small (n := g.a) hmb (by omega) (by rw [absI_eq]; omega)
  have hfl : flatF g = fl := by unfold flatF; rw [efl]
  have hst : steepF g = st := by unfold steepF; rw [est]
  have l1 := least kfl hma vfl
  have sfl : Sz 1000 1000000 fl := ⟨kfl, by have := l1.2; rw [absI_eq g.b] at this; omega, by omega⟩
  have vfl' := val_of kfl vfl
  have vst' := val_of kst vst
  rw [Rat.intCast_mul] at vfl' vst'
  have na : (g.a : Rat) ≠ 0 := by exact_mod_cast (show g.a ≠ 0 by omega)
  have nb : (g.b : Rat) ≠ 0 := by exact_mod_cast (show g.b ≠ 0 by omega)
  have nm : (mostI g.a g.b : Rat) ≠ 0 := by exact_mod_cast (show mostI g.a g.b ≠ 0 by omega)
  generalize hQ : (g.b : Rat) / (mostI g.a g.b : Rat) = Q at *
  generalize hR : (g.a : Rat) / (mostI g.a g.b : Rat) = R at *
  have qx : val p.x * val fl = Q * (val (cosU s) * val (cosU t)) := by rw [h.vx]; grind
  have qy : val p.y * val fl = Q * (val (cosU s) * val (sinU t)) := by rw [h.vy]; grind
  have qz : val p.z * val st = R * val (sinU s) := by rw [h.vz]; grind
  obtain ⟨x, ex, kx, vx⟩ := mul_br h.x.ok kfl (by rw [qx]; exact rb.mul (us.c.mul ut.c)) (by decide)
  obtain ⟨y, ey, ky, vy⟩ := mul_br h.y.ok kfl (by rw [qy]; exact rb.mul (us.c.mul ut.s)) (by decide)
  obtain ⟨z, ez, kz, vz⟩ := mul_br h.z.ok kst (by rw [qz]; exact ra.mul us.s) (by decide)
  obtain ⟨z', ez', _⟩ := h.z.mul sfl (by decide) (by decide)
  have hu : upV g p = ⟨x, y, z⟩ := by unfold upV; rw [hfl, hst, ex, ey, ez]
  have ku : VecOk (⟨x, y, z⟩ : Vec) := ⟨kx, ky, kz⟩
  have o1 := us.one; have o2 := ut.one
  have c1 := part_sq (c := val (cosU s)) pb0 pb1
  have c2 := part_sq (c := val (sinU s)) pa0 pa1
  have rx := rb.mul (us.c.mul ut.c); have ry := rb.mul (us.c.mul ut.s); have rz := ra.mul us.s
  have exy : val x * val x + val y * val y = Q * Q * (val (cosU s) * val (cosU s)) := by rw [vx, vy, qx, qy]; grind
  have edot : dotQ ⟨x, y, z⟩ ⟨x, y, z⟩ = Q * Q * (val (cosU s) * val (cosU s)) + R * R * (val (sinU s) * val (sinU s)) := by
    unfold dotQ
    simp only
    rw [exy, vz, qz]
    grind
  have hrep : BR (Q * Q * (val (cosU s) * val (cosU s)) + R * R * (val (sinU s) * val (sinU s))) 2000000000000 := by
    have q := uq h.ks
    have i := q.i
    have hc := q.hc; have hs := q.hs
    have i0 := i.r0; have i1 := i.r1; have ip := i.p; have iq := i.q
    generalize u1 : s.den * s.den + s.num * s.num = W at *
    generalize u2 : s.den * s.den - s.num * s.num = V at *
    generalize u3 : 2 * s.num * s.den = U at *
    generalize mostI g.a g.b = m at *
    have w2 : W * W ≤ 800 * 800 := mul_le (by omega) (by omega) i1 i1
    have w0 : 0 < W * W := Int.mul_pos i0 i0
    have mm : m * m ≤ 1000 * 1000 := mul_le (by omega) (by omega) m1 m1
    have mm0 : 0 < m * m := Int.mul_pos (by omega) (by omega)
    have vv : absI (V * V) ≤ 800 * 800 := by rw [absI_mul]; exact mul_le (absI_nn _) (absI_nn _) (by omega) (by omega)
    have uu : absI (U * U) ≤ 800 * 800 := by rw [absI_mul]; exact mul_le (absI_nn _) (absI_nn _) (by omega) (by omega)
    have bb : absI (g.b * g.b) ≤ 1000 * 1000 := by rw [absI_mul]; exact mul_le (absI_nn _) (absI_nn _) (by rw [absI_eq]; omega) (by rw [absI_eq]; omega)
    have aa : absI (g.a * g.a) ≤ 1000 * 1000 := by rw [absI_mul]; exact mul_le (absI_nn _) (absI_nn _) (by rw [absI_eq]; omega) (by rw [absI_eq]; omega)
    refine ⟨g.b * g.b * (V * V) + g.a * g.a * (U * U), m * m * (W * W), ⟨Int.mul_pos mm0 w0, ?_⟩, ?_, ?_⟩
    · simp only [Rat.intCast_add, Rat.intCast_mul]
      exact rep_up pbe pae hc hs
    · refine Int.le_trans (absI_add_le _ _) ?_
      rw [absI_mul (g.b * g.b), absI_mul (g.a * g.a)]
      have := mul_le (absI_nn _) (absI_nn _) bb vv
      have := mul_le (absI_nn _) (absI_nn _) aa uu
      omega
    · have := mul_le (a := m * m) (b := W * W) (by omega) (by omega) mm w2
      omega
  obtain ⟨n, en, kn, vn⟩ := dot_br ku ku (B := 409600000000000000) (by decide) (by simp only; rw [vx, qx]; exact rx.mul rx) (by simp only; rw [vy, qy]; exact ry.mul ry) (by simp only; rw [vz, qz]; exact (rz.mul rz).mono (by decide))
    (by simp only; rw [exy]; exact ((rb.mul rb).mul (us.c.mul us.c)).mono (by decide)) (by rw [edot]; exact hrep.mono (by decide))
  have sx := rsq (val x); have sy := rsq (val y); have sz := rsq (val z)
  have n1 : val n ≤ 1 := by rw [vn, edot]; grind
  have ed : val n = val x * val x + val y * val y + val z * val z := vn
  refine ⟨n, ?_⟩
  rw [hu]
  refine ⟨by rw [efl, hfl], by rw [est, hst], ⟨z', ?_⟩, by rw [hfl, ex], by rw [hfl, ey], by rw [hst, ez], ku, by rw [dotV_ok ku ku, en], kn, by grind, n1, one_sq (by grind), one_sq (by grind), one_sq (by grind)⟩
  rw [hfl]
  unfold scaleV eachV
  rw [vecOkB_iff.2 h.ok, fracOkB_iff.2 kfl, ex, ey, ez']
  rfl
theorem of_unit {f : Frac} (hf : FracOk f) (h : -1 ≤ val f ∧ val f ≤ 1) : ofS f = (aroundS f, 0) ∧ Unit1 (aroundS f) := by
  have d1 := hf.denlo
  have hv := val_mul hf
  have hd : (0 : Rat) ≤ (f.den : Rat) := by exact_mod_cast (show 0 ≤ f.den by omega)
  have h1 := Rat.mul_le_mul_of_nonneg_right h.1 hd
  have h2 := Rat.mul_le_mul_of_nonneg_right h.2 hd
  rw [hv] at h1 h2
  have n1 : -f.den ≤ f.num := by
    have : ((-f.den : Int) : Rat) ≤ (f.num : Rat) := by rw [Rat.intCast_neg]; grind
    exact_mod_cast this
  have n2 : f.num ≤ f.den := by
    have : (f.num : Rat) ≤ (f.den : Rat) := by grind
    exact_mod_cast this
  have e1 : -1000000 ≤ f.num * 1000000 / f.den := (Int.le_ediv_iff_mul_le (by omega)).2 (by omega)
  have e2 : -1000000 ≤ -(f.num * 1000000) / f.den := (Int.le_ediv_iff_mul_le (by omega)).2 (by omega)
  have e3 : f.num * 1000000 / f.den ≤ -(-(f.num * 1000000) / f.den) := by
    have q1 := Int.ediv_mul_le (f.num * 1000000) (b := f.den) (by omega)
    have q2 := Int.ediv_mul_le (-(f.num * 1000000)) (b := f.den) (by omega)
    have : (f.num * 1000000 / f.den + -(f.num * 1000000) / f.den) * f.den ≤ 0 * f.den := by rw [Int.add_mul]; omega
    have := Int.le_of_mul_le_mul_right this (by omega)
    omega
  have hu : Unit1 (aroundS f) := by
    unfold Unit1 aroundS
    simp only
    omega
  refine ⟨?_, hu⟩
  unfold ofS rangedS
  rw [fracOkB_iff.2 hf, show spanValid (aroundS f) = true from unit_valid hu]
  rfl
def Three (a : Span) : Prop := -3000000 ≤ a.lo ∧ a.lo ≤ a.hi ∧ a.hi ≤ 3000000
theorem three_mul {x y : Int} (hx : -3000000 ≤ x ∧ x ≤ 3000000) (hy : -3000000 ≤ y ∧ y ≤ 3000000) : -9000000000000 ≤ x * y ∧ x * y ≤ 9000000000000 := Abs.mul (x := x) (y := y) (a := 3000000) (b := 3000000) hx hy
theorem mulS_three {a b : Span} (ha : Three a) (hb : Three b) : ∃ p, mulS a b = (p, 0) := by
  unfold Three at *
  have v1 : spanValid a = true := by rw [spanValid_iff]; omega
  have v2 : spanValid b = true := by rw [spanValid_iff]; omega
  have p1 := three_mul (x := a.lo) (y := b.lo) (by omega) (by omega)
  have p2 := three_mul (x := a.lo) (y := b.hi) (by omega) (by omega)
  have p3 := three_mul (x := a.hi) (y := b.lo) (by omega) (by omega)
  have p4 := three_mul (x := a.hi) (y := b.hi) (by omega) (by omega)
  unfold mulS
  rw [v1, v2]
  simp only [Bool.and_self, cond_true]
  have h1 := min4_le (a.lo * b.lo) (a.lo * b.hi) (a.hi * b.lo) (a.hi * b.hi)
  have h2 := le_max4 (a.lo * b.lo) (a.lo * b.hi) (a.hi * b.lo) (a.hi * b.hi)
  have h3 := min4_one (p := a.lo * b.lo) (q := a.lo * b.hi) (r := a.hi * b.lo) (s := a.hi * b.hi)
  have h4 := max4_one (p := a.lo * b.lo) (q := a.lo * b.hi) (r := a.hi * b.lo) (s := a.hi * b.hi)
  generalize min4 (a.lo * b.lo) (a.lo * b.hi) (a.hi * b.lo) (a.hi * b.hi) = m at *
  generalize max4 (a.lo * b.lo) (a.lo * b.hi) (a.hi * b.lo) (a.hi * b.hi) = M at *
  have hv : spanValid ⟨m / 1000000, -(-M / 1000000)⟩ = true := by rw [spanValid_iff]; simp only; omega
  refine ⟨⟨m / 1000000, -(-M / 1000000)⟩, ?_⟩
  unfold rangedS
  rw [hv]
  rfl
theorem along_unit {d : Dir} (hd : Unit1 d.x ∧ Unit1 d.y ∧ Unit1 d.z) {u : Vec} (hu : VecOk u) (ux : -1 ≤ val u.x ∧ val u.x ≤ 1) (uy : -1 ≤ val u.y ∧ val u.y ≤ 1) (uz : -1 ≤ val u.z ∧ val u.z ≤ 1) : ∃ l, alongS d u = (l, 0) ∧ Three l := by
  obtain ⟨e1, k1⟩ := of_unit hu.x ux
  obtain ⟨e2, k2⟩ := of_unit hu.y uy
  obtain ⟨e3, k3⟩ := of_unit hu.z uz
  obtain ⟨p, ep, up⟩ := mulS_unit hd.1 k1
  obtain ⟨q, eq, uq⟩ := mulS_unit hd.2.1 k2
  obtain ⟨r, er, ur⟩ := mulS_unit hd.2.2 k3
  unfold Unit1 at up uq ur
  have s1 : addS spanZ p = (⟨spanZ.lo + p.lo, spanZ.hi + p.hi⟩, 0) := addS_some (by decide) (by omega)
  have s2 : addS ⟨spanZ.lo + p.lo, spanZ.hi + p.hi⟩ q = (⟨spanZ.lo + p.lo + q.lo, spanZ.hi + p.hi + q.hi⟩, 0) := addS_some (by simp only [spanZ]; omega) (by omega)
  have s3 : addS ⟨spanZ.lo + p.lo + q.lo, spanZ.hi + p.hi + q.hi⟩ r = (⟨spanZ.lo + p.lo + q.lo + r.lo, spanZ.hi + p.hi + q.hi + r.hi⟩, 0) := addS_some (by simp only [spanZ]; omega) (by omega)
  refine ⟨⟨spanZ.lo + p.lo + q.lo + r.lo, spanZ.hi + p.hi + q.hi + r.hi⟩, ?_, by unfold Three; simp only [spanZ]; omega⟩
  unfold alongS
  have hv : [d.x, d.y, d.z].all spanValid = true := by simp [unit_valid hd.1, unit_valid hd.2.1, unit_valid hd.2.2]
  rw [hv, vecOkB_iff.2 hu, e1, e2, e3]
  simp [prodsS, ep, eq, er, s1, s2, s3]
structure LimOk (f : Frac) : Prop where
  ok : FracOk f
  n0 : 0 ≤ f.num
  n1 : f.num ≤ f.den
  d : f.den ≤ 1000
theorem lim_q {f : Frac} (h : LimOk f) : ∃ q, mulF f f = (q, 0) ∧ FracOk q ∧ 0 ≤ val q ∧ val q ≤ 1 ∧ val q = val f * val f ∧ 0 ≤ val f ∧ val f ≤ 1 := by
  have d1 := h.ok.denlo; have n0 := h.n0; have n1 := h.n1; have d := h.d
  have hs : Sz 1000 1000 f := ⟨h.ok, by rw [absI_eq]; omega, d⟩
  obtain ⟨q, e, k⟩ := hs.mul hs (by decide) (by decide)
  have v := (mul_val h.ok h.ok e).2
  obtain ⟨r0, r1, _⟩ : 0 ≤ val f ∧ val f ≤ 1 ∧ val f * (f.den : Rat) = f.num := by
    rcases Int.lt_or_le 0 f.num with hp | hp
    · exact ratio_q hp n1
    · have hz : f.num = 0 := by omega
      have e0 : val f * (f.den : Rat) = 0 := by rw [val_mul h.ok, hz]; rfl
      have hd := den_ne h.ok
      have e1 : val f = 0 := by grind
      refine ⟨by rw [e1]; grind, by rw [e1]; grind, val_mul h.ok⟩
  have p := part_sq (c := 1) r0 r1
  exact ⟨q, e, k.ok, by rw [v]; grind, by rw [v]; grind, v, r0, r1⟩
end Go.Ev

namespace Go.Ev
open Go
def stepR (t : Int) (b : Bool) (R : List Window) : List Window :=
  bif b then (match R with
    | w :: r => bif w.too == t then ⟨w.frm, t + 1⟩ :: r else ⟨t, t + 1⟩ :: w :: r
    | [] => [⟨t, t + 1⟩]) else R
def winsR (up : Nat → Bool) (fr : Int) : Nat → List Window
  | 0 => []
  | n + 1 => stepR (fr + n) (up n) (winsR up fr n)
def Desc : Int → List Window → Prop
  | _, [] => True
  | hi, w :: r => w.frm < w.too ∧ w.too ≤ hi ∧ Desc (w.frm - 1) r
def hasR (R : List Window) (t : Int) : Prop := ∃ w ∈ R, w.frm ≤ t ∧ t < w.too
theorem Desc.mono {hi hi' : Int} (h : hi ≤ hi') : ∀ {R : List Window}, Desc hi R → Desc hi' R
  | [], _ => trivial
  | _ :: _, ⟨a, b, c⟩ => ⟨a, by omega, c⟩
theorem Desc.before : ∀ {R : List Window} {hi t : Int}, Desc hi R → hasR R t → t < hi
  | [], _, _, _, ⟨_, h, _⟩ => by cases h
  | w :: r, hi, t, ⟨a, b, c⟩, ⟨v, h, h1, h2⟩ => by
    rcases List.mem_cons.1 h with rfl | h
    · omega
    · have := Desc.before c ⟨v, h, h1, h2⟩
      omega
def endsAt (R : List Window) (t : Int) : Bool := match R with
  | w :: _ => w.too == t
  | [] => false
structure WR (up : Nat → Bool) (fr : Int) (n : Nat) (R : List Window) : Prop where
  desc : Desc (fr + n) R
  low : ∀ w ∈ R, fr ≤ w.frm
  ends : endsAt R (fr + n) = (decide (0 < n) && up (n - 1))
  has : ∀ t, hasR R t ↔ ∃ k, k < n ∧ t = fr + k ∧ up k = true
theorem hasR_cons {w : Window} {r : List Window} {t : Int} : hasR (w :: r) t ↔ (w.frm ≤ t ∧ t < w.too) ∨ hasR r t := by
  unfold hasR
  constructor
  · rintro ⟨v, h, h1⟩
    rcases List.mem_cons.1 h with rfl | h
    · exact .inl h1
    · exact .inr ⟨v, h, h1⟩
  · rintro (h | ⟨v, h, h1⟩)
    · exact ⟨w, List.mem_cons_self .., h⟩
    · exact ⟨v, List.mem_cons_of_mem _ h, h1⟩
theorem wins_inv (up : Nat → Bool) (fr : Int) : ∀ n, WR up fr n (winsR up fr n)
  | 0 => ⟨trivial, fun _ h => by simp [winsR] at h, rfl, fun t => ⟨fun ⟨_, h, _⟩ => by simp [winsR] at h, fun ⟨k, h, _⟩ => by omega⟩⟩
  | n + 1 => by
    have ih := wins_inv up fr n
    rw [winsR]
    generalize winsR up fr n = R at ih
    have e : (fr : Int) + ((n + 1 : Nat) : Int) = fr + n + 1 := by omega
    unfold stepR
    cases hu : up n with
    | false =>
      simp only [cond_false]
      refine ⟨ih.desc.mono (by omega), ih.low, ?_, fun t => ?_⟩
      · rw [Nat.add_sub_cancel, hu, Bool.and_false]
        have hd := ih.desc
        cases R with
        | nil => rfl
        | cons w r =>
          have := hd.2.1
          exact beq_eq_false_iff_ne.2 (by omega)
      · rw [ih.has t]
        constructor
        · rintro ⟨k, h1, h2⟩
          exact ⟨k, by omega, h2⟩
        · rintro ⟨k, h1, h2, h3⟩
          refine ⟨k, ?_, h2, h3⟩
          rcases Nat.lt_or_ge k n with q | q
          · exact q
          · have : k = n := by omega
            rw [this, hu] at h3
            cases h3
    | true =>
      simp only [cond_true]
      have hh : ∀ t, (∃ k, k < n + 1 ∧ t = fr + k ∧ up k = true) ↔ (t = fr + n ∨ ∃ k, k < n ∧ t = fr + k ∧ up k = true) := fun t => by
        constructor
        · rintro ⟨k, h1, h2, h3⟩
          rcases Nat.lt_or_ge k n with q | q
          · exact .inr ⟨k, q, h2, h3⟩
          · exact .inl (by have : k = n := by omega
                           rw [h2, this])
        · rintro (h | ⟨k, h1, h2⟩)
          · exact ⟨n, by omega, h, hu⟩
          · exact ⟨k, by omega, h2⟩
      have hd := ih.desc; have hl := ih.low; have hs := ih.has
      cases R with
      | nil =>
        refine ⟨⟨by simp only; omega, by simp only; omega, trivial⟩, fun w h => by simp at h; subst h; simp only; omega, ?_, fun t => ?_⟩
        · rw [Nat.add_sub_cancel, hu]
          simp only [endsAt, e, beq_self_eq_true]
          simp
        · rw [hh, ← hs t, hasR_cons]
          simp only
          constructor
          · rintro (h | h)
            · exact .inl (by omega)
            · exact .inr h
          · rintro (h | h)
            · exact .inl (by omega)
            · exact .inr h
      | cons w r =>
        obtain ⟨d1, d2, d3⟩ := hd
        simp only
        by_cases c : w.too = fr + n
        · rw [show (w.too == fr + n) = true by simpa using c]
          simp only [cond_true]
          refine ⟨⟨by simp only; omega, by simp only; omega, d3⟩, fun v h => ?_, ?_, fun t => ?_⟩
          · rcases List.mem_cons.1 h with rfl | h
            · exact hl w (List.mem_cons_self ..)
            · exact hl v (List.mem_cons_of_mem _ h)
          · rw [Nat.add_sub_cancel, hu]
            simp only [endsAt, e, beq_self_eq_true]
            simp
          · rw [hh, ← hs t, hasR_cons, hasR_cons]
            simp only
            constructor
            · rintro (h | h)
              · rcases Int.lt_or_le t (fr + n) with q | q
                · exact .inr (.inl (by omega))
                · exact .inl (by omega)
              · exact .inr (.inr h)
            · rintro (h | h | h)
              · exact .inl (by omega)
              · exact .inl (by omega)
              · exact .inr h
        · rw [show (w.too == fr + n) = false by simpa using c]
          simp only [cond_false]
          refine ⟨⟨by simp only; omega, by simp only; omega, d1, by simp only; omega, d3⟩, fun v h => ?_, ?_, fun t => ?_⟩
          · rcases List.mem_cons.1 h with rfl | h
            · simp only; omega
            · exact hl v h
          · rw [Nat.add_sub_cancel, hu]
            simp only [endsAt, e, beq_self_eq_true]
            simp
          · rw [hh, ← hs t, hasR_cons]
            simp only
            constructor
            · rintro (h | h)
              · exact .inl (by omega)
              · exact .inr h
            · rintro (h | h)
              · exact .inl (by omega)
              · exact .inr h
def winsF (up : Nat → Bool) (fr : Int) (n : Nat) : List Window := (winsR up fr n).reverse
theorem wins_len (up : Nat → Bool) (fr : Int) : ∀ n, (winsR up fr n).length ≤ n
  | 0 => by simp [winsR]
  | n + 1 => by
    have ih := wins_len up fr n
    rw [winsR]
    unfold stepR
    cases up n with
    | false => simp only [cond_false]; omega
    | true =>
      simp only [cond_true]
      cases h : winsR up fr n with
      | nil => simp
      | cons w r =>
        rw [h] at ih
        simp only
        cases w.too == fr + n <;> simp at ih ⊢ <;> omega
theorem winsF_len (up : Nat → Bool) (fr : Int) (n : Nat) : (winsF up fr n).length ≤ n := by unfold winsF; rw [List.length_reverse]; exact wins_len up fr n
theorem step_last {R : List Window} {t : Int} (h : endsAt R t = true) : R.reverse ≠ [] ∧ 0 < R.reverse.length ∧ (R.reverse.getD (R.reverse.length - 1) (ET.z .win)).too = t ∧
    R.reverse.set (R.reverse.length - 1) ⟨(R.reverse.getD (R.reverse.length - 1) (ET.z .win)).frm, t + 1⟩ = (stepR t true R).reverse := by
  cases R with
  | nil => cases h
  | cons w r =>
    have e : w.too = t := by simpa [endsAt] using h
    unfold stepR
    simp only [cond_true, List.reverse_cons, List.length_append, List.length_reverse, List.length_singleton, Nat.add_sub_cancel]
    rw [show (w.too == t) = true by simpa using e]
    have g : (r.reverse ++ [w]).getD r.length (ET.z .win) = w := by
      rw [List.getD_eq_getElem?_getD, List.getElem?_append_right (by simp)]
      simp
    rw [g]
    refine ⟨by simp, by omega, e, ?_⟩
    rw [List.set_append_right _ _ (by simp)]
    simp
theorem step_new {R : List Window} {t : Int} (h : endsAt R t = false) : R.reverse ++ [(⟨t, t + 1⟩ : Window)] = (stepR t true R).reverse := by
  unfold stepR
  cases R with
  | nil => rfl
  | cons w r =>
    simp only [endsAt] at h
    simp only [cond_true]
    rw [h]
    simp
theorem last_ends {R : List Window} {t : Int} (h : 0 < R.length) : ((R.reverse.getD (R.reverse.length - 1) (ET.z .win)).too == t) = endsAt R t := by
  cases R with
  | nil => simp at h
  | cons w r =>
    simp only [List.reverse_cons, List.length_append, List.length_reverse, List.length_singleton, Nat.add_sub_cancel]
    rw [List.getD_eq_getElem?_getD, List.getElem?_append_right (by simp)]
    simp [endsAt]
end Go.Ev

namespace Go.Ev
open Go
def viewV (g : Globe) (p : Vec) (lim : Frac) : View := ⟨upV g p, (mulS (ofS (mulF lim lim).1).1 (ofS (dotV (upV g p) (upV g p)).1).1).1⟩
theorem most_w {g : Globe} (h : GlobeOk g) : w64 (g.a * (if g.b > g.a then g.b else g.a)) = g.a * mostI g.a g.b ∧ w64 (g.b * (if g.b > g.a then g.b else g.a)) = g.b * mostI g.a g.b := by
  have a1 := h.alo; have a2 := h.ahi; have b1 := h.blo; have b2 := h.bhi
  obtain ⟨hm, hm1, hm2⟩ := mostI_spec g.a g.b
  change w64 (g.a * mostI g.a g.b) = _ ∧ w64 (g.b * mostI g.a g.b) = _
  have h1 : g.a * mostI g.a g.b ≤ 1000 * 1000 := mul_le (by omega) (by omega) (by omega) (by omega)
  have h2 : g.b * mostI g.a g.b ≤ 1000 * 1000 := mul_le (by omega) (by omega) (by omega) (by omega)
  have h3 : 0 < g.a * mostI g.a g.b := Int.mul_pos (by omega) (by omega)
  have h4 : 0 < g.b * mostI g.a g.b := Int.mul_pos (by omega) (by omega)
  exact ⟨w64_id (by omega), w64_id (by omega)⟩
theorem m_upright {g : Globe} {s t : Frac} {p : Vec} (h : PlaceQ g s t p) : m_rise_uprightOf g p = ⟨true, upV g p, 0⟩ := by
  obtain ⟨n, U⟩ := up_q h
  obtain ⟨z, ez⟩ := U.scale
  obtain ⟨w1, w2⟩ := most_w h.kg
  unfold m_rise_uprightOf
  rw [w1, w2, U.flat, U.steep]
  simp only [bne_self_eq_false, cond_false]
  rw [ez, U.z]
  rfl
structure VOk (v : View) : Prop where
  ok : VecOk v.up
  x : -1 ≤ val v.up.x ∧ val v.up.x ≤ 1
  y : -1 ≤ val v.up.y ∧ val v.up.y ≤ 1
  z : -1 ≤ val v.up.z ∧ val v.up.z ≤ 1
theorem one_pos {x : Rat} (h : 0 ≤ x) : -1 ≤ x := by grind
theorem m_viewOf {g : Globe} {s t : Frac} {p : Vec} (h : PlaceQ g s t p) {lim : Frac} (hl : LimOk lim) : m_rise_viewOf g p lim = ⟨true, viewV g p lim, 0⟩ ∧ VOk (viewV g p lim) := by
  obtain ⟨n, U⟩ := up_q h
  obtain ⟨q, eq, kq, q0, q1, _⟩ := lim_q hl
  obtain ⟨e1, u1⟩ := of_unit kq ⟨one_pos q0, q1⟩
  obtain ⟨e2, u2⟩ := of_unit U.nok ⟨one_pos U.n0, U.n1⟩
  obtain ⟨b, eb, _⟩ := mulS_unit u1 u2
  refine ⟨?_, U.ok, U.ux, U.uy, U.uz⟩
  unfold m_rise_viewOf viewV
  rw [m_upright h]
  simp only [cond_true, bne_self_eq_false, cond_false]
  rw [eq, U.dot]
  simp only [bne_self_eq_false, cond_false]
  rw [e1, e2]
  simp only [bne_self_eq_false, cond_false]
  rw [eb]
  rfl
def stI (l q b : Span) : Int :=
  bif decide (0 < l.lo) then (bif decide (b.hi < q.lo) then 1 else bif decide (l.hi < 0) then -1 else bif decide (q.hi < b.lo) then -1 else 0) else (bif decide (l.hi < 0) then -1 else bif decide (q.hi < b.lo) then -1 else 0)
def stateV (v : View) (d : Dir) : Int := stI (alongS d v.up).1 (mulS (alongS d v.up).1 (alongS d v.up).1).1 v.bound
theorem m_state {v : View} (hv : VOk v) {d : Dir} (hd : Unit1 d.x ∧ Unit1 d.y ∧ Unit1 d.z) : m__rise_view__state v d = ⟨true, stateV v d, 0⟩ := by
  obtain ⟨l, el, tl⟩ := along_unit hd hv.ok hv.x hv.y hv.z
  obtain ⟨q, eq⟩ := mulS_three tl tl
  unfold m__rise_view__state stateV stI
  rw [el]
  simp only [bne_self_eq_false, cond_false]
  rw [eq]
  simp only [bne_self_eq_false, cond_false]
  cases decide (0 < l.lo) <;> cases decide (v.bound.hi < q.lo) <;> cases decide (l.hi < 0) <;> cases decide (q.hi < v.bound.lo) <;> rfl
def upAll (vs : List View) (d : Dir) : Bool := vs.all fun v => stateV v d == 1
theorem run_up (vs : List View) (hv : ∀ v ∈ vs, VOk v) (hl : vs.length ≤ 8) (a : Bool) (b : Int) {d : Dir} (hd : Unit1 d.x ∧ Unit1 d.y ∧ Unit1 d.z) : ∀ (f n : Nat), n ≤ vs.length → vs.length - n < f →
    (run_rise_upForAll_0 a b (vs.length : Int) vs d f (n : Int)).k = bif upAll (vs.drop n) d then 2 else 1 := by
  intro f
  induction f with
  | zero => intro n _ h; omega
  | succ f ih =>
    intro n hn h
    rw [run_rise_upForAll_0]
    by_cases h1 : n < vs.length
    · have hm : vs.getD n (ET.z .view) ∈ vs := by
        rw [List.getD_eq_getElem?_getD, List.getElem?_eq_getElem h1]
        exact List.getElem_mem h1
      simp only [nn_t, lt_t h1, Bool.and_self, cond_true, w64_up (show n < 9223372036854775807 by omega), Int.toNat_natCast, m_state (hv _ hm) hd, bne_self_eq_false, cond_false]
      rw [drop_at (ET.z .view) h1]
      unfold upAll
      rw [List.all_cons]
      cases c : stateV (vs.getD n (ET.z .view)) d == 1 with
      | false =>
        rw [show (stateV (vs.getD n (ET.z .view)) d != 1) = true by rw [bne, c]; rfl]
        rfl
      | true =>
        rw [show (stateV (vs.getD n (ET.z .view)) d != 1) = false by rw [bne, c]; rfl]
        simp only [cond_false, Bool.true_and]
        exact ih (n + 1) (by omega) (by omega)
    · simp only [lt_f h1, cond_false]
      rw [drop_all h1]
      rfl
theorem m_upForAll (vs : List View) (hv : ∀ v ∈ vs, VOk v) (hl : vs.length ≤ 8) {s : Source} (hs : SrcOk s) {t : Int} (ht : -1000000 ≤ t ∧ t ≤ 1000000) : m_rise_upForAll vs s t = ⟨true, upAll vs (dirS s.ra s.dec t), 0⟩ := by
  unfold m_rise_upForAll lp_rise_upForAll_0
  have e : atS s t = (dirS s.ra s.dec t, 0) := atS_ok hs ht
  have r := run_up vs hv hl false 0 (dirS_unit s.ra s.dec t) (2000 + vs.length) 0 (by omega) (by omega)
  rw [show ((0 : Nat) : Int) = 0 from rfl, List.drop_zero] at r
  rw [e]
  simp only [bne_self_eq_false, cond_false]
  rw [r]
  cases upAll vs (dirS s.ra s.dec t) <;> rfl
end Go.Ev

namespace Go.Ev
open Go
theorem run_places (g : Globe) (l : List Site) (m : List Site) (hl : l.length ≤ 8) : ∀ (f n : Nat) (acc : List Vec), n ≤ l.length → l.length - n < f → acc.length = l.length →
    (run_array_Places_0 (l.length : Int) m (placedL g l) f (n : Int) acc).k = 0 ∧ (run_array_Places_0 (l.length : Int) m (placedL g l) f (n : Int) acc).m1 = acc.take n ++ (placesL g l).drop n := by
  intro f
  induction f with
  | zero => intro n acc _ h; omega
  | succ f ih =>
    intro n acc hn h ha
    rw [run_array_Places_0]
    by_cases h1 : n < l.length
    · simp only [nn_t, lt_t h1, lt_t (show n < (placedL g l).length by rw [placedL_len]; exact h1), lt_t (show n < acc.length by omega), Bool.and_self, cond_true, w64_up (show n < 9223372036854775807 by omega), Int.toNat_natCast]
      have := ih (n + 1) (acc.set n ((placedL g l).getD n (ET.z .placed)).at_) (by omega) (by omega) (by simp [ha])
      rw [take_set (by omega)] at this
      rw [drop_at (ET.z .vec) (show n < (placesL g l).length by rw [placesL_len]; exact h1), placesL_at g h1]
      refine ⟨this.1, this.2.trans ?_⟩
      rw [placedL_at g h1, List.append_assoc]
      rfl
    · simp only [lt_f h1, cond_false]
      rw [drop_all (show ¬ n < (placesL g l).length by rw [placesL_len]; exact h1), List.append_nil, List.take_of_length_le (by omega)]
      exact ⟨trivial, rfl⟩
theorem check_parts {g : Globe} {l : List Site} (h : checkA g l = 0) : checkG g = 0 ∧ stationsE l = 0 := by
  unfold checkA at h
  cases h3 : (checkG g != 0) with
  | true => rw [h3, cond_true] at h; rw [h] at h3; cases h3
  | false =>
    rw [h3, cond_false] at h
    cases h5 : (stationsE l != 0) with
    | true => rw [h5, cond_true] at h; rw [h] at h5; cases h5
    | false => exact ⟨eq0_of h3, eq0_of h5⟩
theorem m_placesA (g : Globe) (l : List Site) : m_array_Places g l = ⟨true, bif checkA g l == 0 then placesL g l else [], checkA g l⟩ := by
  unfold m_array_Places
  simp only [m_place, cond_true]
  cases h1 : (checkA g l != 0) with
  | true =>
    rw [show (checkA g l == 0) = false by simpa [bne] using h1]
    rfl
  | false =>
    have h0 := eq0_of h1
    have hl := (stations_ok (check_parts h0).2).1
    rw [h0]
    have e0 : (decide (0 ≤ (l.length : Int)) && (decide ((l.length : Int) ≤ 1048576) && (Nat.blt 0 6 && Nat.ble 48 4096))) = true := by
      rw [nn_t, dec_t (show (l.length : Int) ≤ 1048576 by omega)]; rfl
    obtain ⟨k1, k2⟩ := run_places g l l hl (2000 + (l.length + (List.replicate l.length (⟨⟨(0 : Int), (0 : Int)⟩, ⟨(0 : Int), (0 : Int)⟩, ⟨(0 : Int), (0 : Int)⟩⟩ : Vec)).length + (placedL g l).length)) 0 (List.replicate l.length (⟨⟨(0 : Int), (0 : Int)⟩, ⟨(0 : Int), (0 : Int)⟩, ⟨(0 : Int), (0 : Int)⟩⟩ : Vec)) (by omega) (by omega) (by simp)
    rw [show ((0 : Nat) : Int) = 0 from rfl] at k1 k2
    rw [List.take_zero, List.nil_append, List.drop_zero] at k2
    rw [placedL_len] at k1 k2
    unfold lp_array_Places_0
    simp only [beq_self_eq_true, cond_true, cond_false, placedL_len, decide_true, Bool.true_and, e0, Int.toNat_natCast, k1, k2, show Nat.beq 0 0 = true from rfl]
def limB (f : Frac) : Bool := fracOkB f && (decide (0 ≤ f.num) && (decide (f.num ≤ f.den) && decide (f.den ≤ 1000)))
theorem limB_ok {f : Frac} (h : limB f = true) : LimOk f := by
  unfold limB at h
  simp only [Bool.and_eq_true, decide_eq_true_eq, fracOkB_iff] at h
  exact ⟨h.1, h.2.1, h.2.2.1, h.2.2.2⟩
def lookE (g : Globe) (l : List Site) (s : Source) (lim : Frac) : Int := bif checkA g l != 0 then checkA g l else bif checkSrc s != 0 then checkSrc s else bif limB lim then 0 else 8
theorem m_look (g : Globe) (l : List Site) (s : Source) (lim : Frac) : m_rise_look g l s lim = ⟨true, bif lookE g l s lim == 0 then placesL g l else [], lookE g l s lim⟩ := by
  unfold m_rise_look lookE
  simp only [m_placesA, cond_true]
  cases h1 : (checkA g l != 0) with
  | true => simp only [cond_true]; rw [show (checkA g l == 0) = false by simpa [bne] using h1]; rfl
  | false =>
    rw [eq0_of h1]
    simp only [cond_false, beq_self_eq_true, cond_true]
    cases h2 : (checkSrc s != 0) with
    | true =>
      simp only [cond_true]
      rw [show (checkSrc s == 0) = false by simpa [bne] using h2]
      rfl
    | false =>
      simp only [cond_false]
      unfold limB
      rw [show (checkF ⟨lim.num, lim.den⟩ != 0) = !fracOkB lim by rw [bne, show (checkF ⟨lim.num, lim.den⟩ == 0) = fracOkB lim from check_ok lim], dlt lim.num, dlt lim.den, dlt 1000]
      cases fracOkB lim <;> cases decide (0 ≤ lim.num) <;> cases decide (lim.num ≤ lim.den) <;> cases decide (lim.den ≤ 1000) <;> rfl
theorem m_both (g : Globe) (l : List Site) (s : Source) : m_Q7_Both g l s = ⟨true, bif checkA g l != 0 then checkA g l else checkSrc s⟩ := by
  unfold m_Q7_Both
  simp only [m_checkRA, cond_true]
  cases checkA g l != 0 <;> rfl
theorem m_limit (lim : Frac) : m_Q7_Limit lim = ⟨true, limB lim⟩ := by
  unfold m_Q7_Limit limB
  rw [show (checkF ⟨lim.num, lim.den⟩ == 0) = fracOkB lim from check_ok lim]
  cases fracOkB lim <;> cases decide (0 ≤ lim.num) <;> cases decide (lim.num ≤ lim.den) <;> cases decide (lim.den ≤ 1000) <;> rfl
structure Fine (g : Globe) (l : List Site) (s : Source) (lim : Frac) : Prop where
  kg : GlobeOk g
  n : l.length ≤ 8
  v : ∀ x ∈ l, siteB x = true
  ks : SrcOk s
  kl : LimOk lim
  c : checkA g l = 0
  cs : checkSrc s = 0
  cl : limB lim = true
theorem fine {g : Globe} {l : List Site} {s : Source} {lim : Frac} (h : lookE g l s lim = 0) : Fine g l s lim := by
  unfold lookE at h
  cases h1 : (checkA g l != 0) with
  | true => rw [h1, cond_true] at h; rw [h] at h1; cases h1
  | false =>
    rw [h1, cond_false] at h
    cases h2 : (checkSrc s != 0) with
    | true => rw [h2, cond_true] at h; rw [h] at h2; cases h2
    | false =>
      rw [h2, cond_false] at h
      cases h3 : limB lim with
      | false => rw [h3] at h; cases h
      | true =>
        have c := eq0_of h1; have cs := eq0_of h2
        obtain ⟨k1, k2⟩ := check_parts c
        obtain ⟨k3, k4⟩ := stations_ok k2
        refine ⟨?_, k3, k4, checkSrc_iff.1 cs, limB_ok h3, c, cs, h3⟩
        unfold checkG at k1
        cases hg : globeOkB g with
        | false => rw [hg] at k1; cases k1
        | true => exact globeOkB_iff.1 hg
def viewsL (g : Globe) (l : List Site) (lim : Frac) : List View := l.map fun x => viewV g (placeV g x.s x.t) lim
theorem viewsL_len (g : Globe) (l : List Site) (lim : Frac) : (viewsL g l lim).length = l.length := List.length_map _
theorem viewsL_at (g : Globe) {l : List Site} (lim : Frac) {n : Nat} (h : n < l.length) : (viewsL g l lim).getD n (ET.z .view) = viewV g (placeV g (sAt l n).s (sAt l n).t) lim := by
  unfold viewsL
  rw [List.getD_eq_getElem?_getD, List.getElem?_map, List.getElem?_eq_getElem h, sAt, List.getD_eq_getElem?_getD, List.getElem?_eq_getElem h]
  rfl
theorem Fine.place {g : Globe} {l : List Site} {s : Source} {lim : Frac} (h : Fine g l s lim) {x : Site} (hx : x ∈ l) : PlaceQ g x.s x.t (placeV g x.s x.t) := (given_place (check_parts h.c).1 (site_placed (h.v x hx))).2
theorem Fine.view {g : Globe} {l : List Site} {s : Source} {lim : Frac} (h : Fine g l s lim) {x : Site} (hx : x ∈ l) : m_rise_viewOf g (placeV g x.s x.t) lim = ⟨true, viewV g (placeV g x.s x.t) lim, 0⟩ ∧ VOk (viewV g (placeV g x.s x.t) lim) := m_viewOf (h.place hx) h.kl
theorem Fine.views {g : Globe} {l : List Site} {s : Source} {lim : Frac} (h : Fine g l s lim) : ∀ v ∈ viewsL g l lim, VOk v := by
  intro v hv
  obtain ⟨x, hx, rfl⟩ := List.mem_map.1 hv
  exact (h.view hx).2
theorem run_views {g : Globe} {l : List Site} {s : Source} {lim : Frac} (h : Fine g l s lim) (a b c : Int) (m : List Site) (w : List Window) (r : Source) : ∀ (f n : Nat) (acc : List View), n ≤ l.length → l.length - n < f → acc.length = l.length →
    (run_rise_All_0 a b c (l.length : Int) m g r lim w (placesL g l) f (n : Int) acc).k = 1 ∧ (run_rise_All_0 a b c (l.length : Int) m g r lim w (placesL g l) f (n : Int) acc).m5 = acc.take n ++ (viewsL g l lim).drop n := by
  intro f
  induction f with
  | zero => intro n acc _ h; omega
  | succ f ih =>
    intro n acc hn hf ha
    rw [run_rise_All_0]
    have hl := h.n
    by_cases h1 : n < l.length
    · have hv := (h.view (sAt_mem h1)).1
      simp only [nn_t, lt_t h1, lt_t (show n < (placesL g l).length by rw [placesL_len]; exact h1), lt_t (show n < acc.length by omega), Bool.and_self, cond_true, w64_up (show n < 9223372036854775807 by omega), Int.toNat_natCast, placesL_at g h1, hv, bne_self_eq_false, cond_false]
      have := ih (n + 1) (acc.set n (viewV g (placeV g (sAt l n).s (sAt l n).t) lim)) (by omega) (by omega) (by simp [ha])
      rw [take_set (by omega)] at this
      rw [drop_at (ET.z .view) (show n < (viewsL g l lim).length by rw [viewsL_len]; exact h1), viewsL_at g lim h1]
      refine ⟨this.1, this.2.trans ?_⟩
      rw [List.append_assoc]
      rfl
    · simp only [lt_f h1, cond_false]
      rw [drop_all (show ¬ n < (viewsL g l lim).length by rw [viewsL_len]; exact h1), List.append_nil, List.take_of_length_le (by omega)]
      exact ⟨trivial, rfl⟩
def upN (g : Globe) (l : List Site) (s : Source) (fr : Int) (lim : Frac) (k : Nat) : Bool := upAll (viewsL g l lim) (dirS s.ra s.dec (fr + k))
theorem w64_last {n : Nat} (h : n < 1000) : w64 ((n : Int) - 1) = (n : Int) - 1 := w64_id (by omega)
theorem step_eq (up : Nat → Bool) (fr : Int) (n : Nat) (hu : up n = true) :
    (0 < (winsF up fr n).length ∧ ((winsF up fr n).getD ((winsF up fr n).length - 1) (ET.z .win)).too = fr + n ∧ (winsF up fr n).set ((winsF up fr n).length - 1) ⟨((winsF up fr n).getD ((winsF up fr n).length - 1) (ET.z .win)).frm, fr + n + 1⟩ = winsF up fr (n + 1)) ∨
    (winsF up fr n ++ [(⟨fr + n, fr + n + 1⟩ : Window)] = winsF up fr (n + 1) ∧ (0 < (winsF up fr n).length → ((winsF up fr n).getD ((winsF up fr n).length - 1) (ET.z .win)).too ≠ fr + n)) := by
  have e : winsF up fr (n + 1) = (stepR (fr + n) true (winsR up fr n)).reverse := by unfold winsF; rw [winsR, hu]
  rw [e]
  unfold winsF
  cases h : endsAt (winsR up fr n) (fr + n) with
  | true =>
    obtain ⟨_, h1, h2, h3⟩ := step_last h
    exact .inl ⟨h1, h2, h3⟩
  | false =>
    refine .inr ⟨step_new h, fun h1 => ?_⟩
    have := last_ends (R := winsR up fr n) (t := fr + n) (by simpa using h1)
    rw [h] at this
    exact beq_eq_false_iff_ne.1 this
theorem wins_skip {up : Nat → Bool} {fr : Int} {n : Nat} (hu : up n = false) : winsF up fr (n + 1) = winsF up fr n := by
  unfold winsF
  rw [winsR, hu]
  rfl
theorem ble_room {n : Nat} (h : n < 1000) : (Nat.blt 0 2 && ((2 == 2) && ((2 == 2) && (Nat.ble (n + 1) roomD && Nat.ble 16 4096)))) = true := by
  rw [room_le (show n + 1 ≤ 1048576 by omega)]; rfl
theorem run_wins {g : Globe} {l : List Site} {s : Source} {lim : Frac} (h : Fine g l s lim) {fr to : Int} (hf : -1000000 ≤ fr) (ht : to ≤ 1000000) (hd : to - fr ≤ 720) (a : Int) (m : List Site) (w : List Window) : ∀ (f n : Nat), fr + n ≤ to → to - fr - n < f →
    (run_rise_All_1 to a m s w (viewsL g l lim) f (fr + n) (winsF (upN g l s fr lim) fr n)).k = 1 ∧ (run_rise_All_1 to a m s w (viewsL g l lim) f (fr + n) (winsF (upN g l s fr lim) fr n)).m4 = winsF (upN g l s fr lim) fr (to - fr).toNat := by
  intro f
  induction f with
  | zero => intro n _ h; omega
  | succ f ih =>
    intro n hn hk
    rw [run_rise_All_1]
    by_cases h1 : fr + n < to
    · have hl := winsF_len (upN g l s fr lim) fr n
      have hu := m_upForAll (viewsL g l lim) h.views (by rw [viewsL_len]; exact h.n) h.ks (t := fr + n) (by omega)
      have e1 : w64 (fr + n + 1) = fr + ((n + 1 : Nat) : Int) := by rw [w64_id (by omega)]; omega
      have e2 : (fr : Int) + ((n + 1 : Nat) : Int) = fr + n + 1 := by omega
      have ih' := ih (n + 1) (by omega) (by omega)
      rw [dec_t h1, hu]
      simp only [cond_true, bne_self_eq_false, cond_false]
      change (bif !upN g l s fr lim n then _ else _ : R_rise_All_1).k = 1 ∧ (bif !upN g l s fr lim n then _ else _ : R_rise_All_1).m4 = _
      cases hb : upN g l s fr lim n with
      | false =>
        simp only [Bool.not_false, cond_true]
        rw [wins_skip hb] at ih'
        rw [e1]
        exact ih'
      | true =>
        simp only [Bool.not_true, cond_false]
        rw [w64_last (show (winsF (upN g l s fr lim) fr n).length < 1000 by omega), e1]
        rcases step_eq (upN g l s fr lim) fr n hb with ⟨q1, q2, q3⟩ | ⟨q1, q2⟩
        · have e3 : (((winsF (upN g l s fr lim) fr n).length : Int) - 1).toNat = (winsF (upN g l s fr lim) fr n).length - 1 := by omega
          rw [dec_t (show (0 : Int) ≤ ((winsF (upN g l s fr lim) fr n).length : Int) - 1 by omega), dec_t (show ((winsF (upN g l s fr lim) fr n).length : Int) - 1 < ((winsF (upN g l s fr lim) fr n).length : Int) by omega), e3, q2]
          simp only [Bool.and_self, cond_true, beq_self_eq_true]
          rw [w64_id (n := fr + n + 1) (by omega), q3]
          exact ih'
        · have e4 : (winsF (upN g l s fr lim) fr n ++ [(⟨fr + n, fr + ((n + 1 : Nat) : Int)⟩ : Window)]) = winsF (upN g l s fr lim) fr (n + 1) := by rw [e2]; exact q1
          by_cases c : 0 < (winsF (upN g l s fr lim) fr n).length
          · have e3 : (((winsF (upN g l s fr lim) fr n).length : Int) - 1).toNat = (winsF (upN g l s fr lim) fr n).length - 1 := by omega
            rw [dec_t (show (0 : Int) ≤ ((winsF (upN g l s fr lim) fr n).length : Int) - 1 by omega), dec_t (show ((winsF (upN g l s fr lim) fr n).length : Int) - 1 < ((winsF (upN g l s fr lim) fr n).length : Int) by omega), e3]
            rw [show (((winsF (upN g l s fr lim) fr n).getD ((winsF (upN g l s fr lim) fr n).length - 1) (ET.z .win)).too == fr + n) = false from beq_eq_false_iff_ne.2 (q2 c)]
            simp only [Bool.and_self, cond_true, cond_false, List.length_singleton]
            rw [ble_room (show (winsF (upN g l s fr lim) fr n).length < 1000 by omega), e4]
            exact ih'
          · rw [dec_f (show ¬ (0 : Int) ≤ ((winsF (upN g l s fr lim) fr n).length : Int) - 1 by omega)]
            simp only [cond_false, List.length_singleton]
            rw [ble_room (show (winsF (upN g l s fr lim) fr n).length < 1000 by omega), e4]
            exact ih'
    · have : (to - fr).toNat = n := by omega
      rw [dec_f h1, this]
      exact ⟨rfl, rfl⟩
def allE (g : Globe) (l : List Site) (s : Source) (fr to : Int) (lim : Frac) : List Window × Int :=
  bif lookE g l s lim != 0 then ([], lookE g l s lim) else bif !tickB fr then ([], 2) else bif !tickB to then ([], 2) else bif decide (to < fr) then ([], 2) else bif decide (720 < to - fr) then ([], 4) else (winsF (upN g l s fr lim) fr (to - fr).toNat, 0)
theorem m_tick (t : Int) : m_rise_tick t = ⟨true, tickB t⟩ := by
  unfold m_rise_tick tickB
  rw [show decide (-1000000 ≤ t) = decide (t ≥ -1000000) from rfl]
  cases decide (t ≥ -1000000) <;> rfl
theorem tick_iff {t : Int} : tickB t = true ↔ -1000000 ≤ t ∧ t ≤ 1000000 := by
  unfold tickB
  by_cases h : t ≥ -1000000
  · rw [dec_t h]; simp; omega
  · rw [dec_f h]; simp; omega
theorem m_allW (g : Globe) (l : List Site) (s : Source) (fr to : Int) (lim : Frac) : m_rise_All g l s fr to lim = ⟨true, (allE g l s fr to lim).1, (allE g l s fr to lim).2⟩ := by
  unfold m_rise_All allE
  simp only [m_look, m_tick, cond_true]
  cases h1 : (lookE g l s lim != 0) with
  | true => rfl
  | false =>
    have h := fine (eq0_of h1)
    have hl := h.n
    rw [eq0_of h1]
    simp only [cond_false, beq_self_eq_true, cond_true]
    cases h2 : tickB fr with
    | false => rfl
    | true =>
      cases h3 : tickB to with
      | false => rfl
      | true =>
        have t1 := tick_iff.1 h2; have t2 := tick_iff.1 h3
        simp only [Bool.not_true, cond_false]
        by_cases h4 : to < fr
        · rw [dec_t h4]; rfl
        · rw [dec_f h4, w64_id (n := to - fr) (by omega)]
          simp only [cond_false]
          by_cases h5 : 720 < to - fr
          · rw [dec_t h5]; rfl
          · rw [dec_f h5]
            have e0 : (decide (0 ≤ (l.length : Int)) && (decide ((l.length : Int) ≤ 1048576) && (Nat.blt 0 8 && Nat.ble 64 4096))) = true := by
              rw [nn_t, dec_t (show (l.length : Int) ≤ 1048576 by omega)]; rfl
            obtain ⟨k1, k2⟩ := run_views h fr to 0 l [] s (2000 + (l.length + ([] : List Window).length + (List.replicate l.length (⟨⟨⟨(0 : Int), (0 : Int)⟩, ⟨(0 : Int), (0 : Int)⟩, ⟨(0 : Int), (0 : Int)⟩⟩, ⟨(0 : Int), (0 : Int)⟩⟩ : View)).length + (placesL g l).length)) 0 (List.replicate l.length (⟨⟨⟨(0 : Int), (0 : Int)⟩, ⟨(0 : Int), (0 : Int)⟩, ⟨(0 : Int), (0 : Int)⟩⟩, ⟨(0 : Int), (0 : Int)⟩⟩ : View)) (by omega) (by omega) (by simp)
            rw [show ((0 : Nat) : Int) = 0 from rfl] at k1 k2
            rw [List.take_zero, List.nil_append, List.drop_zero] at k2
            rw [placesL_len] at k1 k2
            obtain ⟨j1, j2⟩ := run_wins h t1.1 t2.2 (by omega) 0 l [] (2000 + (l.length + ([] : List Window).length + (viewsL g l lim).length + ([] : List Window).length)) 0 (by omega) (by omega)
            rw [show fr + ((0 : Nat) : Int) = fr by omega, show winsF (upN g l s fr lim) fr 0 = [] from rfl] at j1 j2
            unfold lp_rise_All_0 lp_rise_All_1
            simp only [cond_false, placesL_len, decide_true, Bool.true_and, e0, Int.toNat_natCast, cond_true, k1, k2, j1, j2, show Nat.beq 1 0 = false from rfl, show Nat.beq 1 1 = true from rfl]
end Go.Ev

namespace Go.Ev
open Go Go.Proofs
structure R_Q7_Has_0 where
  k : Nat
  p5 : Int
def run_Q7_Has_0 (p1 : Int) (p4 : Bool) (m0 : List Window) : Nat → Int → R_Q7_Has_0
  | 0, p5 => ⟨2, p5⟩
  | n + 1, p5 => bif decide (p5 < (m0.length : Int)) then (bif (decide ((0 : Int) ≤ p5) && decide (p5 < (m0.length : Int))) then (bif decide ((m0.getD p5.toNat (ET.z .win)).frm ≤ p1) then (bif (decide ((0 : Int) ≤ p5) && decide (p5 < (m0.length : Int))) then (bif decide (p1 < (m0.getD p5.toNat (ET.z .win)).too) then ⟨0, p5⟩ else run_Q7_Has_0 p1 p4 m0 n (w64 (p5 + (1 : Int)))) else ⟨2, p5⟩) else run_Q7_Has_0 p1 p4 m0 n (w64 (p5 + (1 : Int)))) else ⟨2, p5⟩) else ⟨1, p5⟩
def lp_Q7_Has_0 (p1 : Int) (p4 : Bool) (m0 : List Window) (p5 : Int) : R_Q7_Has_0 := run_Q7_Has_0 p1 p4 m0 (2000 + (m0.length)) p5
abbrev H_Q7_Has_0 (p1 : Int) (p4 : Bool) (_m0 : List Window) (p5 : Int) : TS := headT [0, 1, 4, 5] 28 [.v (.c (.aslice 0 none)), .v (.c (.d (.int .i64 p1))), .v (.c (.d (.bool p4))), .v (.c (.d (.int .i64 p5)))]
theorem b_Q7_Has_0 (p1 : Int) (p4 : Bool) (m0 : List Window) (p5 : Int) : evCode Tryz.prog GT EQT T_Q7_Same XT noL 80 (loopB Tryz.prog 11 0) (H_Q7_Has_0 p1 p4 m0 p5) [.arr none .win m0] 1 (normK 1 [0, 1, 4, 5]) =
    bif decide (p5 < (m0.length : Int)) then (bif (decide ((0 : Int) ≤ p5) && decide (p5 < (m0.length : Int))) then (bif decide ((m0.getD p5.toNat (ET.z .win)).frm ≤ p1) then (bif (decide ((0 : Int) ≤ p5) && decide (p5 < (m0.length : Int))) then (bif decide (p1 < (m0.getD p5.toNat (ET.z .win)).too) then some (.st .ret (headT [0, 1, 4, 5] 28 [.v (.c (.aslice 0 none)), .v (.c (.d (.int .i64 p1))), .v (.c (.d (.bool true))), .v (.c (.d (.int .i64 p5)))]) [.arr none .win m0] 1) else some (.st .normal (headT [0, 1, 4, 5] 28 [.v (.c (.aslice 0 none)), .v (.c (.d (.int .i64 p1))), .v (.c (.d (.bool p4))), .v (.c (.d (.int .i64 (w64 (p5 + (1 : Int))))))]) [.arr none .win m0] 1)) else none) else some (.st .normal (headT [0, 1, 4, 5] 28 [.v (.c (.aslice 0 none)), .v (.c (.d (.int .i64 p1))), .v (.c (.d (.bool p4))), .v (.c (.d (.int .i64 (w64 (p5 + (1 : Int))))))]) [.arr none .win m0] 1)) else none) else some (.st (.exit 0) (headT [0, 1, 4, 5] 28 [.v (.c (.aslice 0 none)), .v (.c (.d (.int .i64 p1))), .v (.c (.d (.bool p4))), .v (.c (.d (.int .i64 p5)))]) [.arr none .win m0] 1) := by
  kernel_rfl
def o_Q7_Has_0 (p1 : Int) (p4 : Bool) (m0 : List Window) (r : R_Q7_Has_0) : LT := .br (Nat.beq r.k 0) (.st .ret (headT [0, 1, 4, 5] 28 [.v (.c (.aslice 0 none)), .v (.c (.d (.int .i64 p1))), .v (.c (.d (.bool true))), .v (.c (.d (.int .i64 r.p5)))]) [.arr none .win m0] 1) (.br (Nat.beq r.k 1) (.st (.exit 0) (headT [0, 1, 4, 5] 28 [.v (.c (.aslice 0 none)), .v (.c (.d (.int .i64 p1))), .v (.c (.d (.bool p4))), .v (.c (.d (.int .i64 r.p5)))]) [.arr none .win m0] 1) (.no))
theorem r_Q7_Has_0 (p1 : Int) (p4 : Bool) (m0 : List Window) : ∀ (n : Nat) (p5 : Int) (x : Ex) (T' : TS) (M' : List Blk) (N' : Nat), LReach (o_Q7_Has_0 p1 p4 m0 (run_Q7_Has_0 p1 p4 m0 n p5)) x T' M' N' → x ≠ .normal ∧ ∃ j, RoundsN Tryz.prog GT gbT 1 (loopB Tryz.prog 11 0) j (H_Q7_Has_0 p1 p4 m0 p5) [.arr none .win m0] 1 x T' M' N' := by
  have hL : LOKn Tryz.prog GT gbT 1 noL (loopsIn (loopB Tryz.prog 11 0)) := fun _ _ _ _ _ _ _ _ _ h => h.elim
  intro n
  induction n with
  | zero =>
    intro p5 x T' M' N' hr
    exact False.elim (redF (redF hr))
  | succ n ih =>
    intro p5 x T' M' N'
    rw [run_Q7_Has_0]
    exact viaE (b_Q7_Has_0 p1 p4 m0 p5) (condG (o := o_Q7_Has_0 p1 p4 m0) (condG (o := o_Q7_Has_0 p1 p4 m0) (condG (o := o_Q7_Has_0 p1 p4 m0) (condG (o := o_Q7_Has_0 p1 p4 m0) (condG (o := o_Q7_Has_0 p1 p4 m0) (fun he hr => stopN g_Q7_Same hEQT hmT hL he (by simp) (redT hr)) (fun he hr => goN g_Q7_Same hEQT hmT hL he (ih (w64 (p5 + (1 : Int))) x T' M' N' hr))) (fun _ hr => False.elim (redF (redF hr)))) (fun he hr => goN g_Q7_Same hEQT hmT hL he (ih (w64 (p5 + (1 : Int))) x T' M' N' hr))) (fun _ hr => False.elim (redF (redF hr)))) (fun he hr => stopN g_Q7_Same hEQT hmT hL he (by simp) (redT (redF hr))))
def f_Q7_Has_0 : List AV → List Blk → LT := fun vs Ms => match vs, Ms with
  | [.v (.c (.aslice 0 none)), .v (.c (.d (.int .i64 p1))), .v (.c (.d (.bool p4))), .v (.c (.d (.int .i64 p5)))], [.arr none .win m0] => o_Q7_Has_0 p1 p4 m0 (lp_Q7_Has_0 p1 p4 m0 p5)
  | _, _ => .no
def L_Q7_Has_0 := LamN 2 28 1 [0, 1, 4, 5] f_Q7_Has_0
theorem k_Q7_Has_0 : LOKbn Tryz.prog GT gbT 1 L_Q7_Has_0 (loopB Tryz.prog 11 0) := by
  refine LOKbn.lamN (by kernel_rfl) fun vs Ms x T' M' N' hr => ?_
  unfold f_Q7_Has_0 at hr
  split at hr
  · obtain ⟨q1, j, q2⟩ := r_Q7_Has_0 _ _ _ _ _ x T' M' N' hr
    exact ⟨q1, j, q2⟩
  · exact hr.elim
structure O_Q7_Has where
  ok : Bool
  r0 : Bool
def m_Q7_Has (a0 : List Window) (a1 : Int) : O_Q7_Has := bif Nat.beq (lp_Q7_Has_0 a1 false a0 (0 : Int)).k 0 then ⟨true, true⟩ else (bif Nat.beq (lp_Q7_Has_0 a1 false a0 (0 : Int)).k 1 then ⟨true, false⟩ else ⟨false, false⟩)
def F_Q7_Has (a0 : List Window) (_a1 : Int) (K : AV → List Blk → Ans) (r : O_Q7_Has) : Ans := bif r.ok then K (.v (.c (.d (.bool r.r0)))) [.arr none .win a0] else none
theorem e_Q7_Has (a0 : List Window) (a1 : Int) (K : AV → List Blk → Ans) : evFn Tryz.prog GT EQT T_Q7_Same XT (orL L_Q7_Has_0 noL) 80 11 [.v (.c (.aslice 0 none)), .v (.c (.d (.int .i64 a1)))] [.arr none .win a0] (fun v M => K (finR 1 v M).1 (finR 1 v M).2) = F_Q7_Has a0 a1 K (m_Q7_Has a0 a1) := by
  unfold m_Q7_Has
  refine Eq.trans ?_ (Eq.symm (pushT rfl (pushT rfl rfl)))
  kernel_rfl
theorem lok_Q7_Has : ∀ fn c, Tryz.prog.funcs[11]? = some fn → fn.body = some c → LOKn Tryz.prog GT gbT 1 (orL L_Q7_Has_0 noL) (loopsIn c) := by
  refine LOKn.ofF fun b hb => ?_
  have e : loopsF Tryz.prog 11 = [loopB Tryz.prog 11 0] := by kernel_rfl
  rw [e] at hb
  simp only [List.mem_cons, List.not_mem_nil, or_false] at hb
  subst hb
  exact (LOKbn.or k_Q7_Has_0 (fun _ _ _ _ _ _ _ h => h.elim))
theorem c_Q7_Has (a0 : List Window) (a1 : Int) (hd : (m_Q7_Has a0 a1).ok = true) : CallsA Tryz.prog GT gbT 11 [.v (.c (.aslice 0 none)), .v (.c (.d (.int .i64 a1)))] [.arr none .win a0] (.v (.c (.d (.bool ((m_Q7_Has a0 a1).r0))))) [.arr none .win a0] := by
  refine CallsA.ofEvR g_Q7_Same hEQT hmT (n0 := 1) rfl lok_Q7_Has ((e_Q7_Has a0 a1 (fun v M => some (Res.fin v M))).trans ?_)
  unfold F_Q7_Has
  rw [hd]
  rfl
def s_Q7_Has : List AV → List Blk → (AV → List Blk → Ans) → Ans := fun xs bs K => match xs, bs with
  | [.v (.c (.aslice 0 none)), .v (.c (.d (.int .i64 a1)))], [.arr none .win a0] => F_Q7_Has a0 a1 K (m_Q7_Has a0 a1)
  | _, _ => none
def T_Q7_Has : Nat → List AV → List Blk → (AV → List Blk → Ans) → Ans := upd T_Q7_Same 11 s_Q7_Has
theorem g_Q7_Has : GOK Tryz.prog GT gbT T_Q7_Has XT := by
  refine GOK.upd g_Q7_Same (fun args w => Tryz.call11 args w) fun xs bs K r h => ?_
  unfold s_Q7_Has at h
  split at h
  · unfold F_Q7_Has at h
    simp only [cond_eq_ite] at h
    split at h
    · rename_i hd
      exact ⟨_, _, c_Q7_Has _ _ hd, h⟩
    · cases h
  · cases h
structure O_W7_given where
  ok : Bool
  r0 : Globe
  r1 : Site
  r2 : Source
def m_W7_given : O_W7_given := ⟨true, ⟨(1 : Int), (1 : Int)⟩, ⟨(ByteArray.mk #[97]), ⟨(0 : Int), 1⟩, ⟨(0 : Int), 1⟩⟩, ⟨(ByteArray.mk #[98]), (0 : Int), (0 : Int)⟩⟩
def F_W7_given (K : AV → List Blk → Ans) (r : O_W7_given) : Ans := bif r.ok then K (.tup [.agg [.int .i64 r.r0.a, .int .i64 r.r0.b], .agg [.str r.r1.name, .int .i64 r.r1.s.num, .int .i64 r.r1.s.den, .int .i64 r.r1.t.num, .int .i64 r.r1.t.den], .agg [.str r.r2.name, .int .i64 r.r2.ra, .int .i64 r.r2.dec]]) [] else none
theorem e_W7_given (K : AV → List Blk → Ans) : evFn Tryz.prog GT EQT T_Q7_Has XT noL 80 16 [] [] (fun v M => K (finR 0 v M).1 (finR 0 v M).2) = F_W7_given K (m_W7_given) := by
  kernel_rfl
theorem c_W7_given (hd : (m_W7_given).ok = true) : CallsA Tryz.prog GT gbT 16 [] [] (.tup [.agg [.int .i64 (((m_W7_given).r0).a), .int .i64 (((m_W7_given).r0).b)], .agg [.str (((m_W7_given).r1).name), .int .i64 ((((m_W7_given).r1).s).num), .int .i64 ((((m_W7_given).r1).s).den), .int .i64 ((((m_W7_given).r1).t).num), .int .i64 ((((m_W7_given).r1).t).den)], .agg [.str (((m_W7_given).r2).name), .int .i64 (((m_W7_given).r2).ra), .int .i64 (((m_W7_given).r2).dec)]]) [] := by
  refine CallsA.ofEvR g_Q7_Has hEQT hmT (n0 := 0) rfl (fun _ _ _ _ => LOKn.nil) ((e_W7_given (fun v M => some (Res.fin v M))).trans ?_)
  unfold F_W7_given
  rw [hd]
  rfl
def s_W7_given : List AV → List Blk → (AV → List Blk → Ans) → Ans := fun xs bs K => match xs, bs with
  | [], [] => F_W7_given K (m_W7_given)
  | _, _ => none
def T_W7_given : Nat → List AV → List Blk → (AV → List Blk → Ans) → Ans := upd T_Q7_Has 16 s_W7_given
theorem g_W7_given : GOK Tryz.prog GT gbT T_W7_given XT := by
  refine GOK.upd g_Q7_Has (fun args w => Tryz.call16 args w) fun xs bs K r h => ?_
  unfold s_W7_given at h
  split at h
  · unfold F_W7_given at h
    simp only [cond_eq_ite] at h
    split at h
    · rename_i hd
      exact ⟨_, _, c_W7_given hd, h⟩
    · cases h
  · cases h
structure O_W7_state where
  ok : Bool
  r0 : Int
def m_W7_state (a0 : Int) (a1 : Int) (a2 : Int) : O_W7_state := bif (m_W7_given).ok then (bif (m_rise_State ((m_W7_given).r0) ((m_W7_given).r1) ((m_W7_given).r2) a0 ⟨a1, a2⟩).ok then (bif ((m_rise_State ((m_W7_given).r0) ((m_W7_given).r1) ((m_W7_given).r2) a0 ⟨a1, a2⟩).r1 != (0 : Int)) then ⟨true, (9 : Int)⟩ else ⟨true, (m_rise_State ((m_W7_given).r0) ((m_W7_given).r1) ((m_W7_given).r2) a0 ⟨a1, a2⟩).r0⟩) else ⟨false, 0⟩) else ⟨false, 0⟩
def F_W7_state (_a0 : Int) (_a1 : Int) (_a2 : Int) (K : AV → List Blk → Ans) (r : O_W7_state) : Ans := bif r.ok then K (.v (.c (.d (.int .i64 r.r0)))) [] else none
theorem e_W7_state (a0 : Int) (a1 : Int) (a2 : Int) (K : AV → List Blk → Ans) : evFn Tryz.prog GT EQT T_W7_given XT noL 80 17 [.v (.c (.d (.int .i64 a0))), .v (.c (.d (.int .i64 a1))), .v (.c (.d (.int .i64 a2)))] [] (fun v M => K (finR 0 v M).1 (finR 0 v M).2) = F_W7_state a0 a1 a2 K (m_W7_state a0 a1 a2) := by
  unfold m_W7_state
  refine Eq.trans ?_ (Eq.symm (pushT (pushT (pushT rfl rfl) rfl) rfl))
  kernel_rfl
theorem c_W7_state (a0 : Int) (a1 : Int) (a2 : Int) (hd : (m_W7_state a0 a1 a2).ok = true) : CallsA Tryz.prog GT gbT 17 [.v (.c (.d (.int .i64 a0))), .v (.c (.d (.int .i64 a1))), .v (.c (.d (.int .i64 a2)))] [] (.v (.c (.d (.int .i64 ((m_W7_state a0 a1 a2).r0))))) [] := by
  refine CallsA.ofEvR g_W7_given hEQT hmT (n0 := 0) rfl (fun _ _ _ _ => LOKn.nil) ((e_W7_state a0 a1 a2 (fun v M => some (Res.fin v M))).trans ?_)
  unfold F_W7_state
  rw [hd]
  rfl
def s_W7_state : List AV → List Blk → (AV → List Blk → Ans) → Ans := fun xs bs K => match xs, bs with
  | [.v (.c (.d (.int .i64 a0))), .v (.c (.d (.int .i64 a1))), .v (.c (.d (.int .i64 a2)))], [] => F_W7_state a0 a1 a2 K (m_W7_state a0 a1 a2)
  | _, _ => none
def T_W7_state : Nat → List AV → List Blk → (AV → List Blk → Ans) → Ans := upd T_W7_given 17 s_W7_state
theorem g_W7_state : GOK Tryz.prog GT gbT T_W7_state XT := by
  refine GOK.upd g_W7_given (fun args w => Tryz.call17 args w) fun xs bs K r h => ?_
  unfold s_W7_state at h
  split at h
  · unfold F_W7_state at h
    simp only [cond_eq_ite] at h
    split at h
    · rename_i hd
      exact ⟨_, _, c_W7_state _ _ _ hd, h⟩
    · cases h
  · cases h
structure O_W7_alive where
  ok : Bool
  r0 : Bool
def m_W7_alive : O_W7_alive := bif (m_W7_given).ok then (bif (m_rise_Windows ((m_W7_given).r0) ((m_W7_given).r1) ((m_W7_given).r2) (0 : Int) (360 : Int) ⟨(2 : Int), (5 : Int)⟩).ok then (bif (m_W7_state (0 : Int) (1 : Int) (2 : Int)).ok then (bif ((m_W7_state (0 : Int) (1 : Int) (2 : Int)).r0 == (1 : Int)) then (bif (m_W7_state (0 : Int) (9 : Int) (10 : Int)).ok then (bif ((m_W7_state (0 : Int) (9 : Int) (10 : Int)).r0 == (1 : Int)) then (bif (m_W7_state (120 : Int) (1 : Int) (2 : Int)).ok then (bif ((m_W7_state (120 : Int) (1 : Int) (2 : Int)).r0 == (0 : Int)) then (bif (m_W7_state (120 : Int) (2 : Int) (5 : Int)).ok then (bif ((m_W7_state (120 : Int) (2 : Int) (5 : Int)).r0 == (1 : Int)) then (bif (m_W7_state (120 : Int) (3 : Int) (5 : Int)).ok then (bif ((m_W7_state (120 : Int) (3 : Int) (5 : Int)).r0 == (-1 : Int)) then (bif ((m_rise_Windows ((m_W7_given).r0) ((m_W7_given).r1) ((m_W7_given).r2) (0 : Int) (360 : Int) ⟨(2 : Int), (5 : Int)⟩).r1 == (0 : Int)) then (bif (m_Q7_Same ((m_rise_Windows ((m_W7_given).r0) ((m_W7_given).r1) ((m_W7_given).r2) (0 : Int) (360 : Int) ⟨(2 : Int), (5 : Int)⟩).r0) ([⟨(0 : Int), (133 : Int)⟩] : List Window)).ok then (bif (m_Q7_Same ((m_rise_Windows ((m_W7_given).r0) ((m_W7_given).r1) ((m_W7_given).r2) (0 : Int) (360 : Int) ⟨(2 : Int), (5 : Int)⟩).r0) ([⟨(0 : Int), (133 : Int)⟩] : List Window)).r0 then (bif (m_W7_state (200 : Int) (2 : Int) (5 : Int)).ok then ⟨true, ((m_W7_state (200 : Int) (2 : Int) (5 : Int)).r0 == (-1 : Int))⟩ else ⟨false, false⟩) else ⟨true, false⟩) else ⟨false, false⟩) else ⟨true, false⟩) else ⟨true, false⟩) else ⟨false, false⟩) else ⟨true, false⟩) else ⟨false, false⟩) else ⟨true, false⟩) else ⟨false, false⟩) else ⟨true, false⟩) else ⟨false, false⟩) else ⟨true, false⟩) else ⟨false, false⟩) else ⟨false, false⟩) else ⟨false, false⟩
def F_W7_alive (K : AV → List Blk → Ans) (r : O_W7_alive) : Ans := bif r.ok then K (.v (.c (.d (.bool r.r0)))) [] else none
theorem e_W7_alive (K : AV → List Blk → Ans) : evFn Tryz.prog GT EQT T_W7_state XT noL 80 5 [] [] (fun v M => K (finR 0 v M).1 (finR 0 v M).2) = F_W7_alive K (m_W7_alive) := by
  unfold m_W7_alive
  refine Eq.trans ?_ (Eq.symm (pushT (pushT (pushT (pushT (pushT (pushT (pushT (pushT (pushT (pushT (pushT (pushT (pushT (pushT (pushT (pushT rfl rfl) rfl) rfl) rfl) rfl) rfl) rfl) rfl) rfl) rfl) rfl) rfl) rfl) rfl) rfl) rfl))
  kernel_rfl
theorem c_W7_alive (hd : (m_W7_alive).ok = true) : CallsA Tryz.prog GT gbT 5 [] [] (.v (.c (.d (.bool ((m_W7_alive).r0))))) [] := by
  refine CallsA.ofEvR g_W7_state hEQT hmT (n0 := 0) rfl (fun _ _ _ _ => LOKn.nil) ((e_W7_alive (fun v M => some (Res.fin v M))).trans ?_)
  unfold F_W7_alive
  rw [hd]
  rfl
def s_W7_alive : List AV → List Blk → (AV → List Blk → Ans) → Ans := fun xs bs K => match xs, bs with
  | [], [] => F_W7_alive K (m_W7_alive)
  | _, _ => none
def T_W7_alive : Nat → List AV → List Blk → (AV → List Blk → Ans) → Ans := upd T_W7_state 5 s_W7_alive
theorem g_W7_alive : GOK Tryz.prog GT gbT T_W7_alive XT := by
  refine GOK.upd g_W7_state (fun args w => Tryz.call5 args w) fun xs bs K r h => ?_
  unfold s_W7_alive at h
  split at h
  · unfold F_W7_alive at h
    simp only [cond_eq_ite] at h
    split at h
    · rename_i hd
      exact ⟨_, _, c_W7_alive hd, h⟩
    · cases h
  · cases h
structure O_W7_fit where
  ok : Bool
  r0 : Bool
def m_W7_fit (a0 : Globe) (a1 : List Site) (a2 : Source) (a3 : Int) (a4 : Frac) : O_W7_fit := bif (m_W7_long a1 a2).ok then (bif (!(m_W7_long a1 a2).r0) then (bif (m_Q7_Both a0 a1 a2).ok then (bif ((m_Q7_Both a0 a1 a2).r0 == (0 : Int)) then (bif (m_Q7_Limit a4).ok then (bif (m_Q7_Limit a4).r0 then (bif decide ((-900000 : Int) ≤ a3) then ⟨true, decide (a3 ≤ (900000 : Int))⟩ else ⟨true, false⟩) else ⟨true, false⟩) else ⟨false, false⟩) else ⟨true, false⟩) else ⟨false, false⟩) else ⟨true, false⟩) else ⟨false, false⟩
def F_W7_fit (_a0 : Globe) (a1 : List Site) (_a2 : Source) (_a3 : Int) (_a4 : Frac) (K : AV → List Blk → Ans) (r : O_W7_fit) : Ans := bif r.ok then K (.v (.c (.d (.bool r.r0)))) [.arr none .site a1] else none
theorem e_W7_fit (a0 : Globe) (a1 : List Site) (a2 : Source) (a3 : Int) (a4 : Frac) (K : AV → List Blk → Ans) : evFn Tryz.prog GT EQT T_W7_alive XT noL 80 4 [.v (.agg [.int .i64 a0.a, .int .i64 a0.b]), .v (.c (.aslice 0 none)), .v (.agg [.str a2.name, .int .i64 a2.ra, .int .i64 a2.dec]), .v (.c (.d (.int .i64 a3))), .v (.agg [.int .i64 a4.num, .int .i64 a4.den])] [.arr none .site a1] (fun v M => K (finR 1 v M).1 (finR 1 v M).2) = F_W7_fit a0 a1 a2 a3 a4 K (m_W7_fit a0 a1 a2 a3 a4) := by
  unfold m_W7_fit
  refine Eq.trans ?_ (Eq.symm (pushT (pushT (pushT (pushT (pushT (pushT (pushT rfl rfl) rfl) rfl) rfl) rfl) rfl) rfl))
  kernel_rfl
theorem c_W7_fit (a0 : Globe) (a1 : List Site) (a2 : Source) (a3 : Int) (a4 : Frac) (hd : (m_W7_fit a0 a1 a2 a3 a4).ok = true) : CallsA Tryz.prog GT gbT 4 [.v (.agg [.int .i64 a0.a, .int .i64 a0.b]), .v (.c (.aslice 0 none)), .v (.agg [.str a2.name, .int .i64 a2.ra, .int .i64 a2.dec]), .v (.c (.d (.int .i64 a3))), .v (.agg [.int .i64 a4.num, .int .i64 a4.den])] [.arr none .site a1] (.v (.c (.d (.bool ((m_W7_fit a0 a1 a2 a3 a4).r0))))) [.arr none .site a1] := by
  refine CallsA.ofEvR g_W7_alive hEQT hmT (n0 := 1) rfl (fun _ _ _ _ => LOKn.nil) ((e_W7_fit a0 a1 a2 a3 a4 (fun v M => some (Res.fin v M))).trans ?_)
  unfold F_W7_fit
  rw [hd]
  rfl
def s_W7_fit : List AV → List Blk → (AV → List Blk → Ans) → Ans := fun xs bs K => match xs, bs with
  | [.v (.agg [.int .i64 a0_0, .int .i64 a0_1]), .v (.c (.aslice 0 none)), .v (.agg [.str a2_0, .int .i64 a2_1, .int .i64 a2_2]), .v (.c (.d (.int .i64 a3))), .v (.agg [.int .i64 a4_0, .int .i64 a4_1])], [.arr none .site a1] => F_W7_fit (⟨a0_0, a0_1⟩ : Globe) a1 (⟨a2_0, a2_1, a2_2⟩ : Source) a3 (⟨a4_0, a4_1⟩ : Frac) K (m_W7_fit (⟨a0_0, a0_1⟩ : Globe) a1 (⟨a2_0, a2_1, a2_2⟩ : Source) a3 (⟨a4_0, a4_1⟩ : Frac))
  | _, _ => none
def T_W7_fit : Nat → List AV → List Blk → (AV → List Blk → Ans) → Ans := upd T_W7_alive 4 s_W7_fit
theorem g_W7_fit : GOK Tryz.prog GT gbT T_W7_fit XT := by
  refine GOK.upd g_W7_alive (fun args w => Tryz.call4 args w) fun xs bs K r h => ?_
  unfold s_W7_fit at h
  split at h
  · unfold F_W7_fit at h
    simp only [cond_eq_ite] at h
    split at h
    · rename_i hd
      exact ⟨_, _, c_W7_fit _ _ _ _ _ hd, h⟩
    · cases h
  · cases h
end Go.Ev

namespace Go.Ev
end Go.Ev

