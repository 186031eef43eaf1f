/-
  Plain functions that mirror functions of the program, and that it computes them. No condition beyond those of the statements.
  The iterator over the pairs of n stations: it hands each pair to the loop's body, or stops where the body says so. No condition.
  array.place: the stations with their places, or an error; by a loop over the pairs of stations. No condition.
-/
import Derived.Test.YtlmjaedhcphglaaDoorPkS6
import Derived.RangeFuncNested
import Derived.RangeFuncBound
import Derived.RangeFuncCalls
import Derived.RangeFuncLeaves
import Derived.Shelf.Abstract
import Derived.WalkKit
import Derived.OwnWalkIn
import Derived.TacticsInMore
import Derived.LoopNIn
import Derived.LoopIn
import Derived.Test.YtlmjaedhcphglaaDoorRows
set_option maxRecDepth 100000
namespace Go.Ev
open Go Go.Proofs
structure R_array_valid_0 where
  k : Nat
  p32 : Int
def run_array_valid_0 (p2 : Bool) (p31 : Int) (q0 : Site) : Nat → Int → R_array_valid_0
  | 0, p32 => ⟨2, p32⟩
  | n + 1, p32 => bif decide (p32 < p31) then (bif (decide (0 ≤ p32) && decide (p32 < (q0.name.size : Int))) then (bif decide ((byteAt q0.name p32) < (97 : Int)) then (bif decide ((byteAt q0.name p32) < (48 : Int)) then (bif ((byteAt q0.name p32) != (45 : Int)) then ⟨0, p32⟩ else run_array_valid_0 p2 p31 q0 n (w64 (p32 + (1 : Int)))) else (bif decide ((57 : Int) < (byteAt q0.name p32)) then (bif ((byteAt q0.name p32) != (45 : Int)) then ⟨0, p32⟩ else run_array_valid_0 p2 p31 q0 n (w64 (p32 + (1 : Int)))) else run_array_valid_0 p2 p31 q0 n (w64 (p32 + (1 : Int))))) else (bif decide ((122 : Int) < (byteAt q0.name p32)) then (bif decide ((byteAt q0.name p32) < (48 : Int)) then (bif ((byteAt q0.name p32) != (45 : Int)) then ⟨0, p32⟩ else run_array_valid_0 p2 p31 q0 n (w64 (p32 + (1 : Int)))) else (bif decide ((57 : Int) < (byteAt q0.name p32)) then (bif ((byteAt q0.name p32) != (45 : Int)) then ⟨0, p32⟩ else run_array_valid_0 p2 p31 q0 n (w64 (p32 + (1 : Int)))) else run_array_valid_0 p2 p31 q0 n (w64 (p32 + (1 : Int))))) else run_array_valid_0 p2 p31 q0 n (w64 (p32 + (1 : Int))))) else ⟨2, p32⟩) else ⟨1, p32⟩
def lp_array_valid_0 (p2 : Bool) (p31 : Int) (q0 : Site) (p32 : Int) : R_array_valid_0 := run_array_valid_0 p2 p31 q0 (2000 + (stuckI p31)) p32
abbrev H_array_valid_0 (p2 : Bool) (p31 : Int) (_q0 : Site) (p32 : Int) : TS := headT [1, 2, 31, 32] 69 [.v (.c (.ptr 0 0)), .v (.c (.d (.bool p2))), .v (.c (.d (.int .i64 p31))), .v (.c (.d (.int .i64 p32)))]
theorem b_array_valid_0 (p2 : Bool) (p31 : Int) (q0 : Site) (p32 : Int) : evCode Tryd.prog GT EQT T_geoid_At XT noL 120 (loopB Tryd.prog 66 0) (H_array_valid_0 p2 p31 q0 p32) [.rw 27 [.str q0.name, .int .i64 q0.s.num, .int .i64 q0.s.den, .int .i64 q0.t.num, .int .i64 q0.t.den]] 1 (normK 0 [1, 2, 31, 32]) =
    bif decide (p32 < p31) then (bif (decide (0 ≤ p32) && decide (p32 < (q0.name.size : Int))) then (bif decide ((byteAt q0.name p32) < (97 : Int)) then (bif decide ((byteAt q0.name p32) < (48 : Int)) then (bif ((byteAt q0.name p32) != (45 : Int)) then some (.st .ret (headT [1, 2, 31, 32] 69 [.v (.c (.ptr 0 0)), .v (.c (.d (.bool false))), .v (.c (.d (.int .i64 p31))), .v (.c (.d (.int .i64 p32)))]) [.rw 27 [.str q0.name, .int .i64 q0.s.num, .int .i64 q0.s.den, .int .i64 q0.t.num, .int .i64 q0.t.den]] 1) else some (.st .normal (headT [1, 2, 31, 32] 69 [.v (.c (.ptr 0 0)), .v (.c (.d (.bool p2))), .v (.c (.d (.int .i64 p31))), .v (.c (.d (.int .i64 (w64 (p32 + (1 : Int))))))]) [.rw 27 [.str q0.name, .int .i64 q0.s.num, .int .i64 q0.s.den, .int .i64 q0.t.num, .int .i64 q0.t.den]] 1)) else (bif decide ((57 : Int) < (byteAt q0.name p32)) then (bif ((byteAt q0.name p32) != (45 : Int)) then some (.st .ret (headT [1, 2, 31, 32] 69 [.v (.c (.ptr 0 0)), .v (.c (.d (.bool false))), .v (.c (.d (.int .i64 p31))), .v (.c (.d (.int .i64 p32)))]) [.rw 27 [.str q0.name, .int .i64 q0.s.num, .int .i64 q0.s.den, .int .i64 q0.t.num, .int .i64 q0.t.den]] 1) else some (.st .normal (headT [1, 2, 31, 32] 69 [.v (.c (.ptr 0 0)), .v (.c (.d (.bool p2))), .v (.c (.d (.int .i64 p31))), .v (.c (.d (.int .i64 (w64 (p32 + (1 : Int))))))]) [.rw 27 [.str q0.name, .int .i64 q0.s.num, .int .i64 q0.s.den, .int .i64 q0.t.num, .int .i64 q0.t.den]] 1)) else some (.st .normal (headT [1, 2, 31, 32] 69 [.v (.c (.ptr 0 0)), .v (.c (.d (.bool p2))), .v (.c (.d (.int .i64 p31))), .v (.c (.d (.int .i64 (w64 (p32 + (1 : Int))))))]) [.rw 27 [.str q0.name, .int .i64 q0.s.num, .int .i64 q0.s.den, .int .i64 q0.t.num, .int .i64 q0.t.den]] 1))) else (bif decide ((122 : Int) < (byteAt q0.name p32)) then (bif decide ((byteAt q0.name p32) < (48 : Int)) then (bif ((byteAt q0.name p32) != (45 : Int)) then some (.st .ret (headT [1, 2, 31, 32] 69 [.v (.c (.ptr 0 0)), .v (.c (.d (.bool false))), .v (.c (.d (.int .i64 p31))), .v (.c (.d (.int .i64 p32)))]) [.rw 27 [.str q0.name, .int .i64 q0.s.num, .int .i64 q0.s.den, .int .i64 q0.t.num, .int .i64 q0.t.den]] 1) else some (.st .normal (headT [1, 2, 31, 32] 69 [.v (.c (.ptr 0 0)), .v (.c (.d (.bool p2))), .v (.c (.d (.int .i64 p31))), .v (.c (.d (.int .i64 (w64 (p32 + (1 : Int))))))]) [.rw 27 [.str q0.name, .int .i64 q0.s.num, .int .i64 q0.s.den, .int .i64 q0.t.num, .int .i64 q0.t.den]] 1)) else (bif decide ((57 : Int) < (byteAt q0.name p32)) then (bif ((byteAt q0.name p32) != (45 : Int)) then some (.st .ret (headT [1, 2, 31, 32] 69 [.v (.c (.ptr 0 0)), .v (.c (.d (.bool false))), .v (.c (.d (.int .i64 p31))), .v (.c (.d (.int .i64 p32)))]) [.rw 27 [.str q0.name, .int .i64 q0.s.num, .int .i64 q0.s.den, .int .i64 q0.t.num, .int .i64 q0.t.den]] 1) else some (.st .normal (headT [1, 2, 31, 32] 69 [.v (.c (.ptr 0 0)), .v (.c (.d (.bool p2))), .v (.c (.d (.int .i64 p31))), .v (.c (.d (.int .i64 (w64 (p32 + (1 : Int))))))]) [.rw 27 [.str q0.name, .int .i64 q0.s.num, .int .i64 q0.s.den, .int .i64 q0.t.num, .int .i64 q0.t.den]] 1)) else some (.st .normal (headT [1, 2, 31, 32] 69 [.v (.c (.ptr 0 0)), .v (.c (.d (.bool p2))), .v (.c (.d (.int .i64 p31))), .v (.c (.d (.int .i64 (w64 (p32 + (1 : Int))))))]) [.rw 27 [.str q0.name, .int .i64 q0.s.num, .int .i64 q0.s.den, .int .i64 q0.t.num, .int .i64 q0.t.den]] 1))) else some (.st .normal (headT [1, 2, 31, 32] 69 [.v (.c (.ptr 0 0)), .v (.c (.d (.bool p2))), .v (.c (.d (.int .i64 p31))), .v (.c (.d (.int .i64 (w64 (p32 + (1 : Int))))))]) [.rw 27 [.str q0.name, .int .i64 q0.s.num, .int .i64 q0.s.den, .int .i64 q0.t.num, .int .i64 q0.t.den]] 1))) else none) else some (.st (.exit 0) (headT [1, 2, 31, 32] 69 [.v (.c (.ptr 0 0)), .v (.c (.d (.bool p2))), .v (.c (.d (.int .i64 p31))), .v (.c (.d (.int .i64 p32)))]) [.rw 27 [.str q0.name, .int .i64 q0.s.num, .int .i64 q0.s.den, .int .i64 q0.t.num, .int .i64 q0.t.den]] 1) := by
  kernel_rfl
def o_array_valid_0 (p2 : Bool) (p31 : Int) (q0 : Site) (r : R_array_valid_0) : LT := .br (Nat.beq r.k 0) (.st .ret (headT [1, 2, 31, 32] 69 [.v (.c (.ptr 0 0)), .v (.c (.d (.bool false))), .v (.c (.d (.int .i64 p31))), .v (.c (.d (.int .i64 r.p32)))]) [.rw 27 [.str q0.name, .int .i64 q0.s.num, .int .i64 q0.s.den, .int .i64 q0.t.num, .int .i64 q0.t.den]] 1) (.br (Nat.beq r.k 1) (.st (.exit 0) (headT [1, 2, 31, 32] 69 [.v (.c (.ptr 0 0)), .v (.c (.d (.bool p2))), .v (.c (.d (.int .i64 p31))), .v (.c (.d (.int .i64 r.p32)))]) [.rw 27 [.str q0.name, .int .i64 q0.s.num, .int .i64 q0.s.den, .int .i64 q0.t.num, .int .i64 q0.t.den]] 1) (.no))
theorem r_array_valid_0 (p2 : Bool) (p31 : Int) (q0 : Site) : ∀ (n : Nat) (p32 : Int) (x : Ex) (T' : TS) (M' : List Blk) (N' : Nat), LReach (o_array_valid_0 p2 p31 q0 (run_array_valid_0 p2 p31 q0 n p32)) x T' M' N' → x ≠ .normal ∧ ∃ j, RoundsN Tryd.prog GT gbT 0 (loopB Tryd.prog 66 0) j (H_array_valid_0 p2 p31 q0 p32) [.rw 27 [.str q0.name, .int .i64 q0.s.num, .int .i64 q0.s.den, .int .i64 q0.t.num, .int .i64 q0.t.den]] 1 x T' M' N' := by
  have hL : LOKn Tryd.prog GT gbT 0 noL (loopsIn (loopB Tryd.prog 66 0)) := fun _ _ _ _ _ _ _ _ _ h => h.elim
  intro n
  induction n with
  | zero =>
    intro p32 x T' M' N' hr
    exact False.elim (redF (redF hr))
  | succ n ih =>
    intro p32 x T' M' N'
    rw [run_array_valid_0]
    exact viaE (b_array_valid_0 p2 p31 q0 p32) (condG (o := o_array_valid_0 p2 p31 q0) (condG (o := o_array_valid_0 p2 p31 q0) (condG (o := o_array_valid_0 p2 p31 q0) (condG (o := o_array_valid_0 p2 p31 q0) (condG (o := o_array_valid_0 p2 p31 q0) (fun he hr => stopN g_geoid_At hEQT hmT hL he (by simp) (redT hr)) (fun he hr => goN g_geoid_At hEQT hmT hL he (ih (w64 (p32 + (1 : Int))) x T' M' N' hr))) (condG (o := o_array_valid_0 p2 p31 q0) (condG (o := o_array_valid_0 p2 p31 q0) (fun he hr => stopN g_geoid_At hEQT hmT hL he (by simp) (redT hr)) (fun he hr => goN g_geoid_At hEQT hmT hL he (ih (w64 (p32 + (1 : Int))) x T' M' N' hr))) (fun he hr => goN g_geoid_At hEQT hmT hL he (ih (w64 (p32 + (1 : Int))) x T' M' N' hr)))) (condG (o := o_array_valid_0 p2 p31 q0) (condG (o := o_array_valid_0 p2 p31 q0) (condG (o := o_array_valid_0 p2 p31 q0) (fun he hr => stopN g_geoid_At hEQT hmT hL he (by simp) (redT hr)) (fun he hr => goN g_geoid_At hEQT hmT hL he (ih (w64 (p32 + (1 : Int))) x T' M' N' hr))) (condG (o := o_array_valid_0 p2 p31 q0) (condG (o := o_array_valid_0 p2 p31 q0) (fun he hr => stopN g_geoid_At hEQT hmT hL he (by simp) (redT hr)) (fun he hr => goN g_geoid_At hEQT hmT hL he (ih (w64 (p32 + (1 : Int))) x T' M' N' hr))) (fun he hr => goN g_geoid_At hEQT hmT hL he (ih (w64 (p32 + (1 : Int))) x T' M' N' hr)))) (fun he hr => goN g_geoid_At hEQT hmT hL he (ih (w64 (p32 + (1 : Int))) x T' M' N' hr)))) (fun _ hr => False.elim (redF (redF hr)))) (fun he hr => stopN g_geoid_At hEQT hmT hL he (by simp) (redT (redF hr))))
def f_array_valid_0 : List AV → List Blk → LT := fun vs Ms => match vs, Ms with
  | [.v (.c (.ptr 0 0)), .v (.c (.d (.bool p2))), .v (.c (.d (.int .i64 p31))), .v (.c (.d (.int .i64 p32)))], [.rw 27 [.str q0_0, .int .i64 q0_1, .int .i64 q0_2, .int .i64 q0_3, .int .i64 q0_4]] => o_array_valid_0 p2 p31 (⟨q0_0, ⟨q0_1, q0_2⟩, ⟨q0_3, q0_4⟩⟩ : Site) (lp_array_valid_0 p2 p31 (⟨q0_0, ⟨q0_1, q0_2⟩, ⟨q0_3, q0_4⟩⟩ : Site) p32)
  | _, _ => .no
def L_array_valid_0 := LamN 4 69 0 [1, 2, 31, 32] f_array_valid_0
theorem k_array_valid_0 : LOKbn Tryd.prog GT gbT 0 L_array_valid_0 (loopB Tryd.prog 66 0) := by
  refine LOKbn.lamN (by kernel_rfl) fun vs Ms x T' M' N' hr => ?_
  unfold f_array_valid_0 at hr
  split at hr
  · obtain ⟨q1, j, q2⟩ := r_array_valid_0 _ _ _ _ _ x T' M' N' hr
    exact ⟨q1, j, q2⟩
  · exact hr.elim
structure O_array_valid where
  ok : Bool
  r0 : Bool
def m_array_valid (a0 : Site) : O_array_valid := bif decide ((a0.name.size : Int) < (1 : Int)) then ⟨true, false⟩ else (bif decide ((40 : Int) < (a0.name.size : Int)) then ⟨true, false⟩ else (bif (decide (0 ≤ (0 : Int)) && decide ((0 : Int) < (a0.name.size : Int))) then (bif decide ((byteAt a0.name (0 : Int)) < (97 : Int)) then ⟨true, false⟩ else (bif (decide (0 ≤ (0 : Int)) && decide ((0 : Int) < (a0.name.size : Int))) then (bif decide ((122 : Int) < (byteAt a0.name (0 : Int))) then ⟨true, false⟩ else (bif Nat.beq (lp_array_valid_0 false (a0.name.size : Int) a0 (0 : Int)).k 0 then ⟨true, false⟩ else (bif Nat.beq (lp_array_valid_0 false (a0.name.size : Int) a0 (0 : Int)).k 1 then ⟨true, ((atV ⟨(1 : Int), (1 : Int)⟩ a0.s a0.t).2 == (0 : Int))⟩ else ⟨false, false⟩))) else ⟨false, false⟩)) else ⟨false, false⟩))
def F_array_valid (_a0 : Site) (K : AV → List Blk → Ans) (r : O_array_valid) : Ans := bif r.ok then K (.v (.c (.d (.bool r.r0)))) [] else none
theorem e_array_valid (a0 : Site) (K : AV → List Blk → Ans) : evFn Tryd.prog GT EQT T_geoid_At XT (orL L_array_valid_0 noL) 120 66 [.v (.agg [.str a0.name, .int .i64 a0.s.num, .int .i64 a0.s.den, .int .i64 a0.t.num, .int .i64 a0.t.den])] [] (fun v M => K (finR 0 v M).1 (finR 0 v M).2) = F_array_valid a0 K (m_array_valid a0) := by
  unfold m_array_valid
  refine Eq.trans ?_ (Eq.symm (pushT rfl (pushT rfl (pushT (pushT rfl (pushT (pushT rfl (pushT rfl (pushT rfl rfl))) rfl)) rfl))))
  kernel_rfl
theorem lok_array_valid : ∀ fn c, Tryd.prog.funcs[66]? = some fn → fn.body = some c → LOKn Tryd.prog GT gbT 0 (orL L_array_valid_0 noL) (loopsIn c) := by
  refine LOKn.ofF fun b hb => ?_
  have e : loopsF Tryd.prog 66 = [loopB Tryd.prog 66 0] := by kernel_rfl
  rw [e] at hb
  simp only [List.mem_cons, List.not_mem_nil, or_false] at hb
  subst hb
  exact (LOKbn.or k_array_valid_0 (fun _ _ _ _ _ _ _ h => h.elim))
theorem c_array_valid (a0 : Site) (hd : (m_array_valid a0).ok = true) : CallsA Tryd.prog GT gbT 66 [.v (.agg [.str a0.name, .int .i64 a0.s.num, .int .i64 a0.s.den, .int .i64 a0.t.num, .int .i64 a0.t.den])] [] (.v (.c (.d (.bool ((m_array_valid a0).r0))))) [] := by
  refine CallsA.ofEvR g_geoid_At hEQT hmT (n0 := 0) rfl lok_array_valid ((e_array_valid a0 (fun v M => some (Res.fin v M))).trans ?_)
  unfold F_array_valid
  rw [hd]
  rfl
def s_array_valid : List AV → List Blk → (AV → List Blk → Ans) → Ans := fun xs bs K => match xs, bs with
  | [.v (.agg [.str a0_0, .int .i64 a0_1, .int .i64 a0_2, .int .i64 a0_3, .int .i64 a0_4])], [] => F_array_valid (⟨a0_0, ⟨a0_1, a0_2⟩, ⟨a0_3, a0_4⟩⟩ : Site) K (m_array_valid (⟨a0_0, ⟨a0_1, a0_2⟩, ⟨a0_3, a0_4⟩⟩ : Site))
  | _, _ => none
def T_array_valid : Nat → List AV → List Blk → (AV → List Blk → Ans) → Ans := upd T_geoid_At 66 s_array_valid
theorem g_array_valid : GOK Tryd.prog GT gbT T_array_valid XT := by
  refine GOK.upd g_geoid_At (fun args w => Tryd.call66 args w) fun xs bs K r h => ?_
  unfold s_array_valid at h
  split at h
  · unfold F_array_valid at h
    simp only [cond_eq_ite] at h
    split at h
    · rename_i hd
      exact ⟨_, _, c_array_valid _ hd, h⟩
    · cases h
  · cases h
structure R_array_stations_0 where
  k : Nat
  p10 : Int
def run_array_stations_0 (p2 : Int) (p9 : Int) (m0 : List Site) : Nat → Int → R_array_stations_0
  | 0, p10 => ⟨2, p10⟩
  | n + 1, p10 => bif decide (p10 < p9) then (bif (decide ((0 : Int) ≤ p10) && decide (p10 < (m0.length : Int))) then (bif (m_array_valid (m0.getD p10.toNat (ET.z .site))).ok then (bif (!(m_array_valid (m0.getD p10.toNat (ET.z .site))).r0) then ⟨0, p10⟩ else run_array_stations_0 p2 p9 m0 n (w64 (p10 + (1 : Int)))) else ⟨2, p10⟩) else ⟨2, p10⟩) else ⟨1, p10⟩
def lp_array_stations_0 (p2 : Int) (p9 : Int) (m0 : List Site) (p10 : Int) : R_array_stations_0 := run_array_stations_0 p2 p9 m0 (2000 + (m0.length)) p10
abbrev H_array_stations_0 (p2 : Int) (p9 : Int) (_m0 : List Site) (p10 : Int) : TS := headT [2, 8, 9, 10] 18 [.v (.c (.d (.int .i64 p2))), .v (.c (.aslice 0 none)), .v (.c (.d (.int .i64 p9))), .v (.c (.d (.int .i64 p10)))]
theorem b_array_stations_0 (p2 : Int) (p9 : Int) (m0 : List Site) (p10 : Int) : evCode Tryd.prog GT EQT T_array_valid XT noL 80 (loopB Tryd.prog 52 0) (H_array_stations_0 p2 p9 m0 p10) [.arr none .site m0] 1 (normK 1 [2, 8, 9, 10]) =
    bif decide (p10 < p9) then (bif (decide ((0 : Int) ≤ p10) && decide (p10 < (m0.length : Int))) then (bif (m_array_valid (m0.getD p10.toNat (ET.z .site))).ok then (bif (!(m_array_valid (m0.getD p10.toNat (ET.z .site))).r0) then some (.st .ret (headT [2, 8, 9, 10] 18 [.v (.c (.d (.int .i64 (8 : Int)))), .v (.c (.aslice 0 none)), .v (.c (.d (.int .i64 p9))), .v (.c (.d (.int .i64 p10)))]) [.arr none .site m0] 1) else some (.st .normal (headT [2, 8, 9, 10] 18 [.v (.c (.d (.int .i64 p2))), .v (.c (.aslice 0 none)), .v (.c (.d (.int .i64 p9))), .v (.c (.d (.int .i64 (w64 (p10 + (1 : Int))))))]) [.arr none .site m0] 1)) else none) else none) else some (.st (.exit 0) (headT [2, 8, 9, 10] 18 [.v (.c (.d (.int .i64 p2))), .v (.c (.aslice 0 none)), .v (.c (.d (.int .i64 p9))), .v (.c (.d (.int .i64 p10)))]) [.arr none .site m0] 1) := by
  kernel_rfl
def o_array_stations_0 (p2 : Int) (p9 : Int) (m0 : List Site) (r : R_array_stations_0) : LT := .br (Nat.beq r.k 0) (.st .ret (headT [2, 8, 9, 10] 18 [.v (.c (.d (.int .i64 (8 : Int)))), .v (.c (.aslice 0 none)), .v (.c (.d (.int .i64 p9))), .v (.c (.d (.int .i64 r.p10)))]) [.arr none .site m0] 1) (.br (Nat.beq r.k 1) (.st (.exit 0) (headT [2, 8, 9, 10] 18 [.v (.c (.d (.int .i64 p2))), .v (.c (.aslice 0 none)), .v (.c (.d (.int .i64 p9))), .v (.c (.d (.int .i64 r.p10)))]) [.arr none .site m0] 1) (.no))
theorem r_array_stations_0 (p2 : Int) (p9 : Int) (m0 : List Site) : ∀ (n : Nat) (p10 : Int) (x : Ex) (T' : TS) (M' : List Blk) (N' : Nat), LReach (o_array_stations_0 p2 p9 m0 (run_array_stations_0 p2 p9 m0 n p10)) x T' M' N' → x ≠ .normal ∧ ∃ j, RoundsN Tryd.prog GT gbT 1 (loopB Tryd.prog 52 0) j (H_array_stations_0 p2 p9 m0 p10) [.arr none .site m0] 1 x T' M' N' := by
  have hL : LOKn Tryd.prog GT gbT 1 noL (loopsIn (loopB Tryd.prog 52 0)) := fun _ _ _ _ _ _ _ _ _ h => h.elim
  intro n
  induction n with
  | zero =>
    intro p10 x T' M' N' hr
    exact False.elim (redF (redF hr))
  | succ n ih =>
    intro p10 x T' M' N'
    rw [run_array_stations_0]
    exact viaE (b_array_stations_0 p2 p9 m0 p10) (condG (o := o_array_stations_0 p2 p9 m0) (condG (o := o_array_stations_0 p2 p9 m0) (condG (o := o_array_stations_0 p2 p9 m0) (condG (o := o_array_stations_0 p2 p9 m0) (fun he hr => stopN g_array_valid hEQT hmT hL he (by simp) (redT hr)) (fun he hr => goN g_array_valid hEQT hmT hL he (ih (w64 (p10 + (1 : Int))) x T' M' N' hr))) (fun _ hr => False.elim (redF (redF hr)))) (fun _ hr => False.elim (redF (redF hr)))) (fun he hr => stopN g_array_valid hEQT hmT hL he (by simp) (redT (redF hr))))
def f_array_stations_0 : List AV → List Blk → LT := fun vs Ms => match vs, Ms with
  | [.v (.c (.d (.int .i64 p2))), .v (.c (.aslice 0 none)), .v (.c (.d (.int .i64 p9))), .v (.c (.d (.int .i64 p10)))], [.arr none .site m0] => o_array_stations_0 p2 p9 m0 (lp_array_stations_0 p2 p9 m0 p10)
  | _, _ => .no
def L_array_stations_0 := LamN 4 18 1 [2, 8, 9, 10] f_array_stations_0
theorem k_array_stations_0 : LOKbn Tryd.prog GT gbT 1 L_array_stations_0 (loopB Tryd.prog 52 0) := by
  refine LOKbn.lamN (by kernel_rfl) fun vs Ms x T' M' N' hr => ?_
  unfold f_array_stations_0 at hr
  split at hr
  · obtain ⟨q1, j, q2⟩ := r_array_stations_0 _ _ _ _ _ x T' M' N' hr
    exact ⟨q1, j, q2⟩
  · exact hr.elim
structure O_array_stations where
  ok : Bool
  r0 : Int
def m_array_stations (a0 : List Site) : O_array_stations := bif decide ((8 : Int) < (a0.length : Int)) then ⟨true, (4 : Int)⟩ else (bif Nat.beq (lp_array_stations_0 (0 : Int) (a0.length : Int) a0 (0 : Int)).k 0 then ⟨true, (8 : Int)⟩ else (bif Nat.beq (lp_array_stations_0 (0 : Int) (a0.length : Int) a0 (0 : Int)).k 1 then ⟨true, (0 : Int)⟩ else ⟨false, 0⟩))
def F_array_stations (a0 : List Site) (K : AV → List Blk → Ans) (r : O_array_stations) : Ans := bif r.ok then K (.v (.c (.d (.int .i64 r.r0)))) [.arr none .site a0] else none
theorem e_array_stations (a0 : List Site) (K : AV → List Blk → Ans) : evFn Tryd.prog GT EQT T_array_valid XT (orL L_array_stations_0 noL) 80 52 [.v (.c (.aslice 0 none))] [.arr none .site a0] (fun v M => K (finR 1 v M).1 (finR 1 v M).2) = F_array_stations a0 K (m_array_stations a0) := by
  unfold m_array_stations
  refine Eq.trans ?_ (Eq.symm (pushT rfl (pushT rfl (pushT rfl rfl))))
  kernel_rfl
theorem lok_array_stations : ∀ fn c, Tryd.prog.funcs[52]? = some fn → fn.body = some c → LOKn Tryd.prog GT gbT 1 (orL L_array_stations_0 noL) (loopsIn c) := by
  refine LOKn.ofF fun b hb => ?_
  have e : loopsF Tryd.prog 52 = [loopB Tryd.prog 52 0] := by kernel_rfl
  rw [e] at hb
  simp only [List.mem_cons, List.not_mem_nil, or_false] at hb
  subst hb
  exact (LOKbn.or k_array_stations_0 (fun _ _ _ _ _ _ _ h => h.elim))
theorem c_array_stations (a0 : List Site) (hd : (m_array_stations a0).ok = true) : CallsA Tryd.prog GT gbT 52 [.v (.c (.aslice 0 none))] [.arr none .site a0] (.v (.c (.d (.int .i64 ((m_array_stations a0).r0))))) [.arr none .site a0] := by
  refine CallsA.ofEvR g_array_valid hEQT hmT (n0 := 1) rfl lok_array_stations ((e_array_stations a0 (fun v M => some (Res.fin v M))).trans ?_)
  unfold F_array_stations
  rw [hd]
  rfl
def s_array_stations : List AV → List Blk → (AV → List Blk → Ans) → Ans := fun xs bs K => match xs, bs with
  | [.v (.c (.aslice 0 none))], [.arr none .site a0] => F_array_stations a0 K (m_array_stations a0)
  | _, _ => none
def T_array_stations : Nat → List AV → List Blk → (AV → List Blk → Ans) → Ans := upd T_array_valid 52 s_array_stations
theorem g_array_stations : GOK Tryd.prog GT gbT T_array_stations XT := by
  refine GOK.upd g_array_valid (fun args w => Tryd.call52 args w) fun xs bs K r h => ?_
  unfold s_array_stations at h
  split at h
  · unfold F_array_stations at h
    simp only [cond_eq_ite] at h
    split at h
    · rename_i hd
      exact ⟨_, _, c_array_stations _ hd, h⟩
    · cases h
  · cases h
theorem c_array_pairs (a0 : Int) : CallsA Tryd.prog GT gbT 54 [.v (.c (.d (.int .i64 a0)))] [] (.v (.c (.fn 70 [0]))) [.rw 3 [.int .i64 a0]] :=
  CallsA.ofEvN g_array_stations hEQT hmT (n := 40) (Λ := noL) (fun _ M => M) (fun _ _ _ => .inl rfl) (fun _ _ _ _ => LOKn.nil) (by kernel_rfl)
def s_array_pairs : List AV → List Blk → (AV → List Blk → Ans) → Ans := fun xs bs K => match xs, bs with
  | [.v (.c (.d (.int .i64 a0)))], [] => K (.v (.c (.fn 70 [0]))) [.rw 3 [.int .i64 a0]]
  | _, _ => none
def T_array_pairs : Nat → List AV → List Blk → (AV → List Blk → Ans) → Ans := upd T_array_stations 54 s_array_pairs
theorem g_array_pairs : GOK Tryd.prog GT gbT T_array_pairs XT := by
  refine GOK.upd g_array_stations (fun args w => Tryd.call54 args w) fun xs bs K r h => ?_
  unfold s_array_pairs at h
  split at h
  · exact ⟨_, _, c_array_pairs _, h⟩
  · cases h
end Go.Ev

namespace Go.Ev
open Go Go.Proofs
structure R_array_place_0 where
  k : Nat
  p29 : Int
  m5 : List Placed
def run_array_place_0 (p28 : Int) (m0 : List Site) (q1 : Globe) (q3_0 : Int) : Nat → Int → List Placed → R_array_place_0
  | 0, p29, m5 => ⟨2, p29, m5⟩
  | n + 1, p29, m5 => bif decide (p29 < p28) then (bif (decide ((0 : Int) ≤ p29) && decide (p29 < (m0.length : Int))) then (bif ((atV q1 ((m0.getD p29.toNat (ET.z .site)).s) ((m0.getD p29.toNat (ET.z .site)).t)).2 != (0 : Int)) then ⟨0, p29, m5⟩ else (bif (decide ((0 : Int) ≤ p29) && decide (p29 < (m5.length : Int))) then run_array_place_0 p28 m0 q1 q3_0 n (w64 (p29 + (1 : Int))) (m5.set p29.toNat ⟨m0.getD p29.toNat (ET.z .site), (atV q1 ((m0.getD p29.toNat (ET.z .site)).s) ((m0.getD p29.toNat (ET.z .site)).t)).1⟩) else ⟨2, p29, m5⟩)) else ⟨2, p29, m5⟩) else ⟨1, p29, m5⟩
def lp_array_place_0 (p28 : Int) (m0 : List Site) (q1 : Globe) (q3_0 : Int) (p29 : Int) (m5 : List Placed) : R_array_place_0 := run_array_place_0 p28 m0 q1 q3_0 (2000 + (m0.length + m5.length)) p29 m5
abbrev H_array_place_0 (p28 : Int) (_m0 : List Site) (_q1 : Globe) (_q3_0 : Int) (p29 : Int) (_m5 : List Placed) : TS := headT [2, 4, 5, 8, 27, 28, 29] 88 [.v (.c (.ptr 1 0)), .v (.c (.ptr 2 0)), .v (.c (.ptr 3 0)), .v (.c (.ptr 4 0)), .v (.c (.aslice 0 none)), .v (.c (.d (.int .i64 p28))), .v (.c (.d (.int .i64 p29)))]
theorem b_array_place_0 (p28 : Int) (m0 : List Site) (q1 : Globe) (q3_0 : Int) (p29 : Int) (m5 : List Placed) : evCode Tryd.prog GT EQT T_array_pairs XT noL 120 (loopB Tryd.prog 32 0) (H_array_place_0 p28 m0 q1 q3_0 p29 m5) [.arr none .site m0, .rw 23 [.int .i64 q1.a, .int .i64 q1.b], .cell 83 .nilS, .rw 33 [.int .i64 q3_0], .cell 83 (.aslice 5 none), .arr (some 87) .placed m5] 6 (normK 1 [2, 4, 5, 8, 27, 28, 29]) =
    bif decide (p29 < p28) then (bif (decide ((0 : Int) ≤ p29) && decide (p29 < (m0.length : Int))) then (bif ((atV q1 ((m0.getD p29.toNat (ET.z .site)).s) ((m0.getD p29.toNat (ET.z .site)).t)).2 != (0 : Int)) then some (.st .ret (headT [2, 4, 5, 8, 27, 28, 29] 88 [.v (.c (.ptr 1 0)), .v (.c (.ptr 2 0)), .v (.c (.ptr 3 0)), .v (.c (.ptr 4 0)), .v (.c (.aslice 0 none)), .v (.c (.d (.int .i64 p28))), .v (.c (.d (.int .i64 p29)))]) [.arr none .site m0, .rw 23 [.int .i64 q1.a, .int .i64 q1.b], .cell 83 .nilS, .rw 33 [.int .i64 ((atV q1 ((m0.getD p29.toNat (ET.z .site)).s) ((m0.getD p29.toNat (ET.z .site)).t)).2)], .cell 83 (.aslice 5 none), .arr (some 87) .placed m5] 6) else (bif (decide ((0 : Int) ≤ p29) && decide (p29 < (m5.length : Int))) then some (.st .normal (headT [2, 4, 5, 8, 27, 28, 29] 88 [.v (.c (.ptr 1 0)), .v (.c (.ptr 2 0)), .v (.c (.ptr 3 0)), .v (.c (.ptr 4 0)), .v (.c (.aslice 0 none)), .v (.c (.d (.int .i64 p28))), .v (.c (.d (.int .i64 (w64 (p29 + (1 : Int))))))]) [.arr none .site m0, .rw 23 [.int .i64 q1.a, .int .i64 q1.b], .cell 83 .nilS, .rw 33 [.int .i64 q3_0], .cell 83 (.aslice 5 none), .arr (some 87) .placed (m5.set p29.toNat ⟨m0.getD p29.toNat (ET.z .site), (atV q1 ((m0.getD p29.toNat (ET.z .site)).s) ((m0.getD p29.toNat (ET.z .site)).t)).1⟩)] 6) else none)) else none) else some (.st (.exit 0) (headT [2, 4, 5, 8, 27, 28, 29] 88 [.v (.c (.ptr 1 0)), .v (.c (.ptr 2 0)), .v (.c (.ptr 3 0)), .v (.c (.ptr 4 0)), .v (.c (.aslice 0 none)), .v (.c (.d (.int .i64 p28))), .v (.c (.d (.int .i64 p29)))]) [.arr none .site m0, .rw 23 [.int .i64 q1.a, .int .i64 q1.b], .cell 83 .nilS, .rw 33 [.int .i64 q3_0], .cell 83 (.aslice 5 none), .arr (some 87) .placed m5] 6) := by
  kernel_rfl
def o_array_place_0 (p28 : Int) (m0 : List Site) (q1 : Globe) (q3_0 : Int) (r : R_array_place_0) : LT := .br (Nat.beq r.k 0) (.st .ret (headT [2, 4, 5, 8, 27, 28, 29] 88 [.v (.c (.ptr 1 0)), .v (.c (.ptr 2 0)), .v (.c (.ptr 3 0)), .v (.c (.ptr 4 0)), .v (.c (.aslice 0 none)), .v (.c (.d (.int .i64 p28))), .v (.c (.d (.int .i64 r.p29)))]) [.arr none .site m0, .rw 23 [.int .i64 q1.a, .int .i64 q1.b], .cell 83 .nilS, .rw 33 [.int .i64 ((atV q1 ((m0.getD r.p29.toNat (ET.z .site)).s) ((m0.getD r.p29.toNat (ET.z .site)).t)).2)], .cell 83 (.aslice 5 none), .arr (some 87) .placed r.m5] 6) (.br (Nat.beq r.k 1) (.st (.exit 0) (headT [2, 4, 5, 8, 27, 28, 29] 88 [.v (.c (.ptr 1 0)), .v (.c (.ptr 2 0)), .v (.c (.ptr 3 0)), .v (.c (.ptr 4 0)), .v (.c (.aslice 0 none)), .v (.c (.d (.int .i64 p28))), .v (.c (.d (.int .i64 r.p29)))]) [.arr none .site m0, .rw 23 [.int .i64 q1.a, .int .i64 q1.b], .cell 83 .nilS, .rw 33 [.int .i64 q3_0], .cell 83 (.aslice 5 none), .arr (some 87) .placed r.m5] 6) (.no))
theorem r_array_place_0 (p28 : Int) (m0 : List Site) (q1 : Globe) (q3_0 : Int) : ∀ (n : Nat) (p29 : Int) (m5 : List Placed) (x : Ex) (T' : TS) (M' : List Blk) (N' : Nat), LReach (o_array_place_0 p28 m0 q1 q3_0 (run_array_place_0 p28 m0 q1 q3_0 n p29 m5)) x T' M' N' → x ≠ .normal ∧ ∃ j, RoundsN Tryd.prog GT gbT 1 (loopB Tryd.prog 32 0) j (H_array_place_0 p28 m0 q1 q3_0 p29 m5) [.arr none .site m0, .rw 23 [.int .i64 q1.a, .int .i64 q1.b], .cell 83 .nilS, .rw 33 [.int .i64 q3_0], .cell 83 (.aslice 5 none), .arr (some 87) .placed m5] 6 x T' M' N' := by
  have hL : LOKn Tryd.prog GT gbT 1 noL (loopsIn (loopB Tryd.prog 32 0)) := fun _ _ _ _ _ _ _ _ _ h => h.elim
  intro n
  induction n with
  | zero =>
    intro p29 m5 x T' M' N' hr
    exact False.elim (redF (redF hr))
  | succ n ih =>
    intro p29 m5 x T' M' N'
    rw [run_array_place_0]
    exact viaE (b_array_place_0 p28 m0 q1 q3_0 p29 m5) (condG (o := o_array_place_0 p28 m0 q1 q3_0) (condG (o := o_array_place_0 p28 m0 q1 q3_0) (condG (o := o_array_place_0 p28 m0 q1 q3_0) (fun he hr => stopN g_array_pairs hEQT hmT hL he (by simp) (redT hr)) (condG (o := o_array_place_0 p28 m0 q1 q3_0) (fun he hr => goN g_array_pairs hEQT hmT hL he (ih (w64 (p29 + (1 : Int))) (m5.set p29.toNat ⟨m0.getD p29.toNat (ET.z .site), (atV q1 ((m0.getD p29.toNat (ET.z .site)).s) ((m0.getD p29.toNat (ET.z .site)).t)).1⟩) x T' M' N' hr)) (fun _ hr => False.elim (redF (redF hr))))) (fun _ hr => False.elim (redF (redF hr)))) (fun he hr => stopN g_array_pairs hEQT hmT hL he (by simp) (redT (redF hr))))
def f_array_place_0 : List AV → List Blk → LT := fun vs Ms => match vs, Ms with
  | [.v (.c (.ptr 1 0)), .v (.c (.ptr 2 0)), .v (.c (.ptr 3 0)), .v (.c (.ptr 4 0)), .v (.c (.aslice 0 none)), .v (.c (.d (.int .i64 p28))), .v (.c (.d (.int .i64 p29)))], [.arr none .site m0, .rw 23 [.int .i64 q1_0, .int .i64 q1_1], .cell 83 .nilS, .rw 33 [.int .i64 q3_0], .cell 83 (.aslice 5 none), .arr (some 87) .placed m5] => o_array_place_0 p28 m0 (⟨q1_0, q1_1⟩ : Globe) q3_0 (lp_array_place_0 p28 m0 (⟨q1_0, q1_1⟩ : Globe) q3_0 p29 m5)
  | _, _ => .no
def L_array_place_0 := LamN 9 88 1 [2, 4, 5, 8, 27, 28, 29] f_array_place_0
theorem k_array_place_0 : LOKbn Tryd.prog GT gbT 1 L_array_place_0 (loopB Tryd.prog 32 0) := by
  refine LOKbn.lamN (by kernel_rfl) fun vs Ms x T' M' N' hr => ?_
  unfold f_array_place_0 at hr
  split at hr
  · obtain ⟨q1, j, q2⟩ := r_array_place_0 _ _ _ _ _ _ _ x T' M' N' hr
    exact ⟨q1, j, q2⟩
  · exact hr.elim
abbrev TP := T_array_pairs
theorem gP : GOK Tryd.prog GT gbT TP XT := g_array_pairs
abbrev LP := (orL L_array_place_0 noL)
structure O0_array_place where
  k : Nat
  e : Int
  ps : List Placed
def m0_array_place (a0 : Globe) (a1 : List Site) : O0_array_place := bif ((checkG a0) != (0 : Int)) then ⟨0, (checkG a0), []⟩ else (bif (m_array_stations a1).ok then (bif ((m_array_stations a1).r0 != (0 : Int)) then ⟨0, (m_array_stations a1).r0, []⟩ else (bif (decide ((a1.length : Int) = (a1.length : Int)) && (decide (0 ≤ (a1.length : Int)) && (decide ((a1.length : Int) ≤ 1048576) && ((11 == 11) && (Nat.blt 0 11 && Nat.ble 96 4096))))) then (bif Nat.beq (lp_array_place_0 (a1.length : Int) a1 a0 (0 : Int) (0 : Int) (List.replicate a1.length (⟨⟨ByteArray.empty, ⟨(0 : Int), (0 : Int)⟩, ⟨(0 : Int), (0 : Int)⟩⟩, ⟨⟨(0 : Int), (0 : Int)⟩, ⟨(0 : Int), (0 : Int)⟩, ⟨(0 : Int), (0 : Int)⟩⟩⟩ : Placed))).k 0 then ⟨0, (atV a0 ((a1.getD ((lp_array_place_0 (a1.length : Int) a1 a0 (0 : Int) (0 : Int) (List.replicate a1.length (⟨⟨ByteArray.empty, ⟨(0 : Int), (0 : Int)⟩, ⟨(0 : Int), (0 : Int)⟩⟩, ⟨⟨(0 : Int), (0 : Int)⟩, ⟨(0 : Int), (0 : Int)⟩, ⟨(0 : Int), (0 : Int)⟩⟩⟩ : Placed))).p29).toNat (ET.z .site)).s) ((a1.getD ((lp_array_place_0 (a1.length : Int) a1 a0 (0 : Int) (0 : Int) (List.replicate a1.length (⟨⟨ByteArray.empty, ⟨(0 : Int), (0 : Int)⟩, ⟨(0 : Int), (0 : Int)⟩⟩, ⟨⟨(0 : Int), (0 : Int)⟩, ⟨(0 : Int), (0 : Int)⟩, ⟨(0 : Int), (0 : Int)⟩⟩⟩ : Placed))).p29).toNat (ET.z .site)).t)).2, []⟩ else (bif Nat.beq (lp_array_place_0 (a1.length : Int) a1 a0 (0 : Int) (0 : Int) (List.replicate a1.length (⟨⟨ByteArray.empty, ⟨(0 : Int), (0 : Int)⟩, ⟨(0 : Int), (0 : Int)⟩⟩, ⟨⟨(0 : Int), (0 : Int)⟩, ⟨(0 : Int), (0 : Int)⟩, ⟨(0 : Int), (0 : Int)⟩⟩⟩ : Placed))).k 1 then ⟨1, 0, ((lp_array_place_0 (a1.length : Int) a1 a0 (0 : Int) (0 : Int) (List.replicate a1.length (⟨⟨ByteArray.empty, ⟨(0 : Int), (0 : Int)⟩, ⟨(0 : Int), (0 : Int)⟩⟩, ⟨⟨(0 : Int), (0 : Int)⟩, ⟨(0 : Int), (0 : Int)⟩, ⟨(0 : Int), (0 : Int)⟩⟩⟩ : Placed))).m5)⟩ else ⟨2, 0, []⟩)) else ⟨2, 0, []⟩)) else ⟨2, 0, []⟩)
def F0_array_place (_a0 : Globe) (a1 : List Site) (r : O0_array_place) : Ans := bif Nat.beq r.k 0 then some (.st .ret (headT [4, 5] 88 [.v (.c (.ptr 1 0)), .v (.c (.ptr 2 0))]) [.arr none .site a1, .cell 83 .nilS, .rw 33 [.int .i64 r.e]] 3) else bif Nat.beq r.k 1 then some (.st .normal (headT [4, 5, 8, 55] 88 [.v (.c (.ptr 1 0)), .v (.c (.ptr 2 0)), .v (.c (.ptr 3 0)), .v (.c (.fn 70 [4]))]) [.arr none .site a1, .cell 83 .nilS, .rw 33 [.int .i64 (0 : Int)], .cell 83 (.aslice 5 none), .rw 3 [.int .i64 (r.ps.length : Int)], .arr (some 87) .placed r.ps] 6) else none
theorem w0_array_place (a0 : Globe) (a1 : List Site) : evList Tryd.prog GT EQT TP XT LP 120 (splitC 5 (bodyC Tryd.prog 32)).1 (frameT [.v (.agg [.int .i64 a0.a, .int .i64 a0.b]), .v (.c (.aslice 0 none))] 86) [.arr none .site a1] 1 (placeK Tryd.prog GT EQT TP XT LP 120 (fstC (fstC (splitC 5 (bodyC Tryd.prog 32)).2)) 1 [4, 5] [4, 5, 8, 55]) =
    bif ((checkG a0) != (0 : Int)) then some (.st .ret (headT [4, 5] 88 [.v (.c (.ptr 1 0)), .v (.c (.ptr 2 0))]) [.arr none .site a1, .cell 83 .nilS, .rw 33 [.int .i64 (checkG a0)]] 3) else (bif (m_array_stations a1).ok then (bif ((m_array_stations a1).r0 != (0 : Int)) then some (.st .ret (headT [4, 5] 88 [.v (.c (.ptr 1 0)), .v (.c (.ptr 2 0))]) [.arr none .site a1, .cell 83 .nilS, .rw 33 [.int .i64 ((m_array_stations a1).r0)]] 3) else (bif (decide ((a1.length : Int) = (a1.length : Int)) && (decide (0 ≤ (a1.length : Int)) && (decide ((a1.length : Int) ≤ 1048576) && ((11 == 11) && (Nat.blt 0 11 && Nat.ble 96 4096))))) then (bif Nat.beq (lp_array_place_0 (a1.length : Int) a1 a0 (0 : Int) (0 : Int) (List.replicate a1.length (⟨⟨ByteArray.empty, ⟨(0 : Int), (0 : Int)⟩, ⟨(0 : Int), (0 : Int)⟩⟩, ⟨⟨(0 : Int), (0 : Int)⟩, ⟨(0 : Int), (0 : Int)⟩, ⟨(0 : Int), (0 : Int)⟩⟩⟩ : Placed))).k 0 then some (.st .ret (headT [4, 5] 88 [.v (.c (.ptr 1 0)), .v (.c (.ptr 2 0))]) [.arr none .site a1, .cell 83 .nilS, .rw 33 [.int .i64 ((atV a0 ((a1.getD ((lp_array_place_0 (a1.length : Int) a1 a0 (0 : Int) (0 : Int) (List.replicate a1.length (⟨⟨ByteArray.empty, ⟨(0 : Int), (0 : Int)⟩, ⟨(0 : Int), (0 : Int)⟩⟩, ⟨⟨(0 : Int), (0 : Int)⟩, ⟨(0 : Int), (0 : Int)⟩, ⟨(0 : Int), (0 : Int)⟩⟩⟩ : Placed))).p29).toNat (ET.z .site)).s) ((a1.getD ((lp_array_place_0 (a1.length : Int) a1 a0 (0 : Int) (0 : Int) (List.replicate a1.length (⟨⟨ByteArray.empty, ⟨(0 : Int), (0 : Int)⟩, ⟨(0 : Int), (0 : Int)⟩⟩, ⟨⟨(0 : Int), (0 : Int)⟩, ⟨(0 : Int), (0 : Int)⟩, ⟨(0 : Int), (0 : Int)⟩⟩⟩ : Placed))).p29).toNat (ET.z .site)).t)).2)]] 3) else (bif Nat.beq (lp_array_place_0 (a1.length : Int) a1 a0 (0 : Int) (0 : Int) (List.replicate a1.length (⟨⟨ByteArray.empty, ⟨(0 : Int), (0 : Int)⟩, ⟨(0 : Int), (0 : Int)⟩⟩, ⟨⟨(0 : Int), (0 : Int)⟩, ⟨(0 : Int), (0 : Int)⟩, ⟨(0 : Int), (0 : Int)⟩⟩⟩ : Placed))).k 1 then some (.st .normal (headT [4, 5, 8, 55] 88 [.v (.c (.ptr 1 0)), .v (.c (.ptr 2 0)), .v (.c (.ptr 3 0)), .v (.c (.fn 70 [4]))]) [.arr none .site a1, .cell 83 .nilS, .rw 33 [.int .i64 (0 : Int)], .cell 83 (.aslice 5 none), .rw 3 [.int .i64 (((lp_array_place_0 (a1.length : Int) a1 a0 (0 : Int) (0 : Int) (List.replicate a1.length (⟨⟨ByteArray.empty, ⟨(0 : Int), (0 : Int)⟩, ⟨(0 : Int), (0 : Int)⟩⟩, ⟨⟨(0 : Int), (0 : Int)⟩, ⟨(0 : Int), (0 : Int)⟩, ⟨(0 : Int), (0 : Int)⟩⟩⟩ : Placed))).m5).length : Int)], .arr (some 87) .placed ((lp_array_place_0 (a1.length : Int) a1 a0 (0 : Int) (0 : Int) (List.replicate a1.length (⟨⟨ByteArray.empty, ⟨(0 : Int), (0 : Int)⟩, ⟨(0 : Int), (0 : Int)⟩⟩, ⟨⟨(0 : Int), (0 : Int)⟩, ⟨(0 : Int), (0 : Int)⟩, ⟨(0 : Int), (0 : Int)⟩⟩⟩ : Placed))).m5)] 6) else none)) else none)) else none) := by
  kernel_rfl
theorem e0_array_place (a0 : Globe) (a1 : List Site) : evList Tryd.prog GT EQT TP XT LP 120 (splitC 5 (bodyC Tryd.prog 32)).1 (frameT [.v (.agg [.int .i64 a0.a, .int .i64 a0.b]), .v (.c (.aslice 0 none))] 86) [.arr none .site a1] 1 (placeK Tryd.prog GT EQT TP XT LP 120 (fstC (fstC (splitC 5 (bodyC Tryd.prog 32)).2)) 1 [4, 5] [4, 5, 8, 55]) = F0_array_place a0 a1 (m0_array_place a0 a1) := by
  refine (w0_array_place a0 a1).trans ?_
  unfold m0_array_place
  exact (condF rfl (condF (condF rfl (condF (condF rfl (condF rfl rfl)) rfl)) rfl))
theorem wa_array_place (a1 : List Site) (ps : List Placed) (i j : Int) : evCode Tryd.prog GT EQT TP XT noL 120 (asgC (sndC (fstC (splitC 5 (bodyC Tryd.prog 32)).2))) (tset (.v (.agg [.int .i64 i, .int .i64 j])) (headT [4, 5, 8, 55] 88 [.v (.c (.ptr 1 0)), .v (.c (.ptr 2 0)), .v (.c (.ptr 3 0)), .v (.c (.fn 70 [4]))]) 56) [.arr none .site a1, .cell 83 .nilS, .rw 33 [.int .i64 (0 : Int)], .cell 83 (.aslice 5 none), .dead, .arr (some 87) .placed ps] 6 (fun x T M N => some (.st x T M N)) =
    some (.st .normal (tset (.v (.c (.ptr 6 0))) (tset (.v (.agg [.int .i64 i, .int .i64 j])) (headT [4, 5, 8, 55] 88 [.v (.c (.ptr 1 0)), .v (.c (.ptr 2 0)), .v (.c (.ptr 3 0)), .v (.c (.fn 70 [4]))]) 56) 13) [.arr none .site a1, .cell 83 .nilS, .rw 33 [.int .i64 (0 : Int)], .cell 83 (.aslice 5 none), .dead, .arr (some 87) .placed ps, .rw 117 [.int .i64 i, .int .i64 j]] 7) := by
  kernel_rfl
theorem wb_array_place (a1 : List Site) (ps : List Placed) (i j : Int) : evCode Tryd.prog GT EQT TP XT noL 120 (bodC (sndC (fstC (splitC 5 (bodyC Tryd.prog 32)).2))) (tset (.v (.c (.ptr 6 0))) (tset (.v (.agg [.int .i64 i, .int .i64 j])) (headT [4, 5, 8, 55] 88 [.v (.c (.ptr 1 0)), .v (.c (.ptr 2 0)), .v (.c (.ptr 3 0)), .v (.c (.fn 70 [4]))]) 56) 13) [.arr none .site a1, .cell 83 .nilS, .rw 33 [.int .i64 (0 : Int)], .cell 83 (.aslice 5 none), .dead, .arr (some 87) .placed ps, .rw 117 [.int .i64 i, .int .i64 j]] 7 (cutR 6) =
    bif (decide ((0 : Int) ≤ i) && decide (i < (ps.length : Int))) then (bif (decide ((0 : Int) ≤ j) && decide (j < (ps.length : Int))) then (bif ((((ps.getD i.toNat (ET.z .placed)).site).name).data.toList == (((ps.getD j.toNat (ET.z .placed)).site).name).data.toList) then some (.st .ret ⟨0, .any, []⟩ [.arr none .site a1, .cell 83 .nilS, .rw 33 [.int .i64 (14 : Int)], .cell 83 (.aslice 5 none), .dead, .arr (some 87) .placed ps] 7) else (bif (decide ((0 : Int) ≤ i) && decide (i < (ps.length : Int))) then (bif (decide ((0 : Int) ≤ j) && decide (j < (ps.length : Int))) then (bif eqAll [.int .i64 ((((ps.getD i.toNat (ET.z .placed)).at_).x).num), .int .i64 ((((ps.getD i.toNat (ET.z .placed)).at_).x).den), .int .i64 ((((ps.getD i.toNat (ET.z .placed)).at_).y).num), .int .i64 ((((ps.getD i.toNat (ET.z .placed)).at_).y).den), .int .i64 ((((ps.getD i.toNat (ET.z .placed)).at_).z).num), .int .i64 ((((ps.getD i.toNat (ET.z .placed)).at_).z).den)] [.int .i64 ((((ps.getD j.toNat (ET.z .placed)).at_).x).num), .int .i64 ((((ps.getD j.toNat (ET.z .placed)).at_).x).den), .int .i64 ((((ps.getD j.toNat (ET.z .placed)).at_).y).num), .int .i64 ((((ps.getD j.toNat (ET.z .placed)).at_).y).den), .int .i64 ((((ps.getD j.toNat (ET.z .placed)).at_).z).num), .int .i64 ((((ps.getD j.toNat (ET.z .placed)).at_).z).den)] then some (.st .ret ⟨0, .any, []⟩ [.arr none .site a1, .cell 83 .nilS, .rw 33 [.int .i64 (14 : Int)], .cell 83 (.aslice 5 none), .dead, .arr (some 87) .placed ps] 7) else some (.st .normal ⟨0, .any, []⟩ [.arr none .site a1, .cell 83 .nilS, .rw 33 [.int .i64 (0 : Int)], .cell 83 (.aslice 5 none), .dead, .arr (some 87) .placed ps] 7)) else none) else none)) else none) else none := by
  kernel_rfl
theorem lok_array_place : ∀ fn c, Tryd.prog.funcs[32]? = some fn → fn.body = some c → LOKn Tryd.prog GT gbT 1 LP (loopsIn c) := by
  refine LOKn.ofF fun b hb => ?_
  have e : loopsF Tryd.prog 32 = [loopB Tryd.prog 32 0] := by kernel_rfl
  rw [e] at hb
  simp only [List.mem_cons, List.not_mem_nil, or_false] at hb
  subst hb
  exact (LOKbn.or k_array_place_0 (fun _ _ _ _ _ _ _ h => h.elim))
end Go.Ev

namespace Go.Proofs
open Go.RowKit Go.Shelf
attribute [local go_sem] Oper.semAt_some
abbrev PairN (n : Nat) : Type := { p : Nat × Nat // p.1 < p.2 ∧ p.2 < n }
def encP {n : Nat} (x : PairN n) : Array Value := #[.agg #[.int .i64 (x.1.1 : Int), .int .i64 (x.1.2 : Int)]]
set_option maxHeartbeats 4000000 in
theorem pairs1_in (m l bn n : Nat) (hn : n ≤ 9223372036854775807) (J Jx : List (PairN n) → World → Prop)
    (hY : ∀ pre x W, J pre W → pre.length < n * n → YieldAt Fence.wide (m - 1) Tryd.prog l (encP x) W fun e W' =>
      (e = .returned (.bool true) ∧ J (pre ++ [x]) W' ∧ W'.heap[bn]? = W.heap[bn]?) ∨ (e = .returned (.bool false) ∧ Jx (pre ++ [x]) W'))
    (W : World) (hb : W.cell? ⟨bn, 0, none⟩ = some (.int .i64 n)) (h0 : J [] W) :
    CallsIn Fence.wide m Tryd.prog 70 #[.func (.yield l) #[] #[], .pointer (some ⟨bn, 0, none⟩)] W fun e W' => (∃ v, e = .returned v) ∧
      ((∃ ys, (∀ p, p ∈ ys) ∧ J ys W') ∨ (∃ pre, True ∧ Jx pre W')) := by
  refine callsIn_of_wp Tryd.func70 rfl trivial ?_ rfl
  simp only [Tryd.ntmps70, List.size_toArray, List.length_cons, List.length_nil, Nat.reduceAdd, Nat.reduceSub, Array.replicate_succ, Array.replicate_zero, List.push_toArray, List.append_toArray, List.nil_append, List.cons_append]
  gi_wp2
  gi_loopw [6] (fun i wr => ∃ k : Nat, k ≤ n ∧ i = .int .i64 k ∧ ∃ pre, J pre wr ∧ (∀ p : PairN n, p.1.1 < k → p ∈ pre) ∧ pre.length ≤ k * n ∧ wr.heap[bn]? = W.heap[bn]?)
    (fun i _ => n - (intOf i).toNat)
  case atStart => exact ⟨0, Nat.zero_le _, rfl, [], h0, fun p hp => by omega, by simp, rfl⟩
  case round =>
    obtain ⟨k, hk, rfl, pre, hJ, hall, hlen, hbn⟩ := hrel
    by_cases hlt : k < n
    · have hbc : wr.cell? ⟨bn, 0, none⟩ = some (.int .i64 n) := (World.cell?_of_block (a := ⟨bn, 0, none⟩) hbn).trans hb
      gi_wp2
      gi_loopw [4] (fun j wq => ∃ c : Nat, k + 1 ≤ c ∧ c ≤ n ∧ j = .int .i64 c ∧ ∃ pre, J pre wq ∧ (∀ p : PairN n, p.1.1 < k → p ∈ pre) ∧ (∀ p : PairN n, p.1.1 = k → p.1.2 < c → p ∈ pre) ∧ pre.length ≤ k * n + c ∧ wq.heap[bn]? = W.heap[bn]?)
        (fun j _ => n - (intOf j).toNat)
      case atStart => exact ⟨k + 1, Nat.le_refl _, hlt, by simp, pre, hJ, hall, fun p h1 h2 => by have := p.2.1; omega, by omega, hbn⟩
      case round =>
        clear hJ hall hlen hbn hbc pre
        obtain ⟨c, hc1, hc2, rfl, pre, hJ, hall, hrow, hlen, hbn⟩ := hrel
        have hbc : wr.cell? ⟨bn, 0, none⟩ = some (.int .i64 n) := (World.cell?_of_block (a := ⟨bn, 0, none⟩) hbn).trans hb
        by_cases hlt2 : c < n
        · have hkn : k * n + n ≤ n * n := by rw [← Nat.succ_mul]; exact Nat.mul_le_mul_right n hlt
          obtain ⟨fn, tmps, assign, body, hy, hR⟩ := hY pre ⟨(k, c), by omega, hlt2⟩ wr hJ (by omega)
          simp only [encP] at hy
          gi_wp2
          refine ⟨fun h => (by cases h), hR.mono ?_⟩
          rintro e W3 (⟨rfl, hJ3, hk3⟩ | ⟨rfl, hJx3⟩)
          · gi_wp2
            go_roundw
            case rel =>
              refine ⟨c + 1, by omega, by omega, by simp, _, hJ3, fun p hp => by simp [hall p hp], fun p h1 h2 => ?_, by simp; omega, hk3.trans hbn⟩
              by_cases h3 : p.1.2 < c
              · simp [hrow p h1 h3]
              · have : p = ⟨(k, c), by omega, hlt2⟩ := Subtype.ext (Prod.ext h1 (show p.1.2 = c by omega))
                simp [this]
            case measure => simp [intOf]; omega
          · gi_wp2
            refine bodyPost_ret (results_none rfl _ _ _) rfl ?_
            exact ⟨⟨_, rfl⟩, .inr ⟨_, trivial, hJx3⟩⟩
        · obtain rfl : c = n := by omega
          gi_wp2
          go_roundw
          case rel =>
            refine ⟨k + 1, by omega, by simp, pre, hJ, fun p hp => ?_, by rw [Nat.succ_mul]; exact hlen, hbn⟩
            by_cases h3 : p.1.1 < k
            · exact hall p h3
            · exact hrow p (by omega) p.2.2
          case measure => simp [intOf]; omega
    · obtain rfl : k = n := by omega
      gi_wp2
      go_end0
      exact ⟨⟨_, rfl⟩, .inl ⟨pre, fun p => hall p (by have := p.2; omega), hJ⟩⟩
end Go.Proofs

namespace Go.Ev
open Go Go.Proofs Go.RowKit
def dupAt (ps : List Placed) (i j : Nat) : Bool :=
  bif ((ps.getD i (ET.z .placed)).site.name.data.toList == (ps.getD j (ET.z .placed)).site.name.data.toList) then true else
    eqAll [.int .i64 (ps.getD i (ET.z .placed)).at_.x.num, .int .i64 (ps.getD i (ET.z .placed)).at_.x.den, .int .i64 (ps.getD i (ET.z .placed)).at_.y.num, .int .i64 (ps.getD i (ET.z .placed)).at_.y.den, .int .i64 (ps.getD i (ET.z .placed)).at_.z.num, .int .i64 (ps.getD i (ET.z .placed)).at_.z.den]
      [.int .i64 (ps.getD j (ET.z .placed)).at_.x.num, .int .i64 (ps.getD j (ET.z .placed)).at_.x.den, .int .i64 (ps.getD j (ET.z .placed)).at_.y.num, .int .i64 (ps.getD j (ET.z .placed)).at_.y.den, .int .i64 (ps.getD j (ET.z .placed)).at_.z.num, .int .i64 (ps.getD j (ET.z .placed)).at_.z.den]
def dupP (ps : List Placed) : Bool := (List.range ps.length).any fun j => (List.range j).any fun i => dupAt ps i j
theorem dupP_true {ps : List Placed} {i j : Nat} (h1 : i < j) (h2 : j < ps.length) (h : dupAt ps i j = true) : dupP ps = true := by
  unfold dupP
  rw [List.any_eq_true]
  exact ⟨j, List.mem_range.2 h2, List.any_eq_true.2 ⟨i, List.mem_range.2 h1, h⟩⟩
theorem dupP_false {ps : List Placed} (h : ∀ i j, i < j → j < ps.length → dupAt ps i j = false) : dupP ps = false := by
  unfold dupP
  rw [List.any_eq_false]
  intro j hj
  rw [List.any_eq_true]
  rintro ⟨i, hi, he⟩
  rw [h i j (List.mem_range.1 hi) (List.mem_range.1 hj)] at he
  cases he
structure O_array_place where
  ok : Bool
  r0 : List Placed
  r1 : Int
def m_array_place (a0 : Globe) (a1 : List Site) : O_array_place :=
  bif Nat.beq (m0_array_place a0 a1).k 0 then ⟨true, [], (m0_array_place a0 a1).e⟩
  else bif Nat.beq (m0_array_place a0 a1).k 1 then (bif dupP (m0_array_place a0 a1).ps then ⟨true, [], 14⟩ else ⟨true, (m0_array_place a0 a1).ps, 0⟩)
  else ⟨false, [], 0⟩
theorem round_eval (l : List Site) (ps : List Placed) (i j : Nat) (hi : i < j) (hj : j < ps.length) :
    evCode Tryd.prog GT EQT TP XT noL 120 (bodC (sndC (fstC (splitC 5 (bodyC Tryd.prog 32)).2))) (tset (.v (.c (.ptr 6 0))) (tset (.v (.agg [.int .i64 i, .int .i64 j])) (headT [4, 5, 8, 55] 88 [.v (.c (.ptr 1 0)), .v (.c (.ptr 2 0)), .v (.c (.ptr 3 0)), .v (.c (.fn 70 [4]))]) 56) 13) [.arr none .site l, .cell 83 .nilS, .rw 33 [.int .i64 (0 : Int)], .cell 83 (.aslice 5 none), .dead, .arr (some 87) .placed ps, .rw 117 [.int .i64 i, .int .i64 j]] 7 (cutR 6) =
    bif dupAt ps i j then some (.st .ret ⟨0, .any, []⟩ [.arr none .site l, .cell 83 .nilS, .rw 33 [.int .i64 (14 : Int)], .cell 83 (.aslice 5 none), .dead, .arr (some 87) .placed ps] 7)
    else some (.st .normal ⟨0, .any, []⟩ [.arr none .site l, .cell 83 .nilS, .rw 33 [.int .i64 (0 : Int)], .cell 83 (.aslice 5 none), .dead, .arr (some 87) .placed ps] 7) := by
  refine (wb_array_place l ps i j).trans ?_
  unfold dupAt
  simp only [nn_t, lt_t (show i < ps.length by omega), lt_t hj, Bool.and_self, cond_true, Int.toNat_natCast]
  cases ((ps.getD i (ET.z .placed)).site.name.data.toList == (ps.getD j (ET.z .placed)).site.name.data.toList) <;> rfl
theorem tail_eval (l : List Site) (ps : List Placed) : evCode Tryd.prog GT EQT TP XT noL 20 (fstC (sndC (splitC 5 (bodyC Tryd.prog 32)).2)) (headT [4, 5, 8, 55] 88 [.v (.c (.ptr 1 0)), .v (.c (.ptr 2 0)), .v (.c (.ptr 3 0)), .v (.c (.fn 70 [4]))])
      [.arr none .site l, .cell 83 .nilS, .rw 33 [.int .i64 (0 : Int)], .cell 83 (.aslice 5 none), .dead, .arr (some 87) .placed ps] 6 (fun x T M N => some (.st x T M N)) =
    some (.st .normal (tset (.v (.c (.aslice 5 none))) (headT [4, 5, 8, 55] 88 [.v (.c (.ptr 1 0)), .v (.c (.ptr 2 0)), .v (.c (.ptr 3 0)), .v (.c (.fn 70 [4]))]) 87)
      [.arr none .site l, .cell 83 (.aslice 5 none), .rw 33 [.int .i64 (0 : Int)], .cell 83 (.aslice 5 none), .dead, .arr (some 87) .placed ps] 6) := by
  kernel_rfl
theorem shape_place : (splitC 5 (bodyC Tryd.prog 32)).2 = .seq (.seq (fstC (fstC (splitC 5 (bodyC Tryd.prog 32)).2)) (.block 2 (.rangeFunc (.tmp 55) #[56] (asgC (sndC (fstC (splitC 5 (bodyC Tryd.prog 32)).2))) (bodC (sndC (fstC (splitC 5 (bodyC Tryd.prog 32)).2)))))) (.seq (fstC (sndC (splitC 5 (bodyC Tryd.prog 32)).2)) .ret) := by kernel_rfl
theorem none_result {P : Program} {wA w : World} {W : Nat → Prop} {σ τ : Sg} {T : TS} {M : List Blk} {a : Act} {l : List Site} {e : Int} {fn : Func} {n0 : Nat} (ty : Nat) (hn0 : n0 = 1) (hfr : ∀ b, n0 ≤ b → σ b = none) (hle : leB n0 σ τ) (hT : TRel τ T a) (hM : MRel wA W τ M w) (hm0 : mget M 0 = .arr none .site l)
    (hr : resDs P T M fn.results.toList = some [.c .nilS, .c (.d (.int .i64 e))]) : ∃ v, (results fn a.tmps).run P w = .ok v w ∧ ∃ υ, σ.le υ ∧ AVRel υ (.tup [.c (.aslice 1 none), .c (.d (.int .i64 e))]) v ∧ MRel wA W υ [.arr none .site l, .arr (some ty) .placed []] w := by
  subst hn0
  obtain ⟨v, h1, h2⟩ := results_rel hT hM hr
  refine ⟨v, h1, fun c => if c = 0 then τ 0 else if c = 1 then some ⟨0, 0, 0, true, 0, ET.len .placed⟩ else none, fun b L hL => ?_, ?_, ?_⟩
  · have hb : b < 1 := by
      rcases Nat.lt_or_ge b 1 with h | h
      · exact h
      · rw [hfr b h] at hL; cases hL
    obtain rfl : b = 0 := by omega
    exact hle 0 L hb hL
  · obtain ⟨vs, e1, e2⟩ := h2
    refine ⟨vs, e1, ?_⟩
    cases hv : vs.toList with
    | nil => rw [hv] at e2; exact e2.elim
    | cons v1 r =>
      rw [hv] at e2
      obtain ⟨k1, k2⟩ := e2
      refine ⟨⟨_, rfl, .inl ⟨rfl, k1⟩⟩, ?_⟩
      cases r with
      | nil => exact k2.elim
      | cons v2 s =>
        obtain ⟨k3, k4⟩ := k2
        refine ⟨k3, ?_⟩
        cases s with
        | nil => trivial
        | cons _ _ => exact k4.elim
  · refine ⟨fun b => ?_, fun b _ _ _ _ hb => ?_, fun b _ hb => ?_, hM.kept⟩
    · match b with
      | 0 =>
        have := hM.blk 0
        rw [hm0] at this
        obtain ⟨L, h3, h4⟩ := this
        exact ⟨L, h3, h4⟩
      | 1 => exact ⟨_, rfl, rfl, rfl, by simp [ET.flat], rfl, rfl, .inl rfl⟩
      | _ + 2 => trivial
    · match b with
      | 0 => cases l <;> cases hb
      | 1 => cases hb
      | _ + 2 => cases hb
    · match b with
      | 0 => cases l <;> cases hb
      | 1 => cases hb
      | _ + 2 => cases hb
theorem some_result {P : Program} {wA w : World} {W : Nat → Prop} {σ τ : Sg} {T : TS} {M : List Blk} {a : Act} {l : List Site} {ps : List Placed} {e : Int} {fn : Func} {n0 b5 : Nat} (ty : Nat) (hn0 : n0 = 1) (hb5 : 1 ≤ b5) (hfr : ∀ b, n0 ≤ b → σ b = none) (hle : leB n0 σ τ) (hT : TRel τ T a) (hM : MRel wA W τ M w) (hm0 : mget M 0 = .arr none .site l) (hm5 : mget M b5 = .arr (some ty) .placed ps)
    (hr : resDs P T M fn.results.toList = some [.c (.aslice b5 none), .c (.d (.int .i64 e))]) : ∃ v, (results fn a.tmps).run P w = .ok v w ∧ ∃ υ, σ.le υ ∧ AVRel υ (.tup [.c (.aslice 1 none), .c (.d (.int .i64 e))]) v ∧ MRel wA W υ [.arr none .site l, .arr (some ty) .placed ps] w := by
  subst hn0
  obtain ⟨v, h1, h2⟩ := results_rel hT hM hr
  refine ⟨v, h1, _, fun b L hL => ?_, ?_, hM.ren (N' := 2) (fun c => if c = 1 then b5 else c) (fun c => ?_) (fun c c' h1 h2 h3 => ?_)⟩
  · have hb : b < 1 := by
      rcases Nat.lt_or_ge b 1 with h | h
      · exact h
      · rw [hfr b h] at hL; cases hL
    obtain rfl : b = 0 := by omega
    exact hle 0 L hb hL
  · have : AVRel τ (renA (fun c => if c = 1 then b5 else c) (.tup [.c (.aslice 1 none), .c (.d (.int .i64 e))])) v := h2
    refine AVRel.ren (fun b hb => ?_) this
    simp [refsX, refsV, refsC] at hb
    subst hb
    rfl
  · match c with
    | 0 => exact .inr ⟨hm0, by omega, fun b hb => by cases hb⟩
    | 1 => exact .inr ⟨hm5, by omega, fun b hb => by cases hb⟩
    | _ + 2 => exact .inl rfl
  · split at h3 <;> split at h3 <;> omega
set_option maxHeartbeats 1000000 in
theorem place_calls (g : Globe) (l : List Site) (hok : (m_array_place g l).ok = true) :
    CallsA Tryd.prog GT gbT 32 [.v (.agg [.int .i64 g.a, .int .i64 g.b]), .v (.c (.aslice 0 none))] [.arr none .site l] (.tup [.c (.aslice 1 none), .c (.d (.int .i64 (m_array_place g l).r1))]) [.arr none .site l, .arr (some 87) .placed (m_array_place g l).r0] := by
  intro σ w args hargs hM hG hfr
  have hbody : Tryd.f32.body = some (bodyC Tryd.prog 32) := by kernel_rfl
  have hE := e0_array_place g l
  have hL : ∀ c ∈ (splitC 5 (bodyC Tryd.prog 32)).1, LOKn Tryd.prog GT gbT 1 LP (loopsIn c) := fun c hc b hb => lok_array_place _ _ Tryd.func32 hbody b (splitC_loops _ _ _ hc b hb)
  have hLc : LOKn Tryd.prog GT gbT 1 LP (loopsIn (fstC (fstC (splitC 5 (bodyC Tryd.prog 32)).2))) := by
    have : loopsIn (fstC (fstC (splitC 5 (bodyC Tryd.prog 32)).2)) = [] := by kernel_rfl
    rw [this]
    intro b hb
    cases hb
  have hlen := hargs.length
  have hT0 : TRel σ (frameT [.v (.agg [.int .i64 g.a, .int .i64 g.b]), .v (.c (.aslice 0 none))] 86) { tmps := args ++ Array.replicate (Tryd.f32.ntmps - args.size) undef, defers := [] } := by
    refine ⟨?_, fun t => ?_, rfl⟩
    · have : Tryd.f32.ntmps = 88 := by kernel_rfl
      simp [frameT, TS.length] at hlen ⊢
      omega
    · have := enter_rel 86 hargs t
      rw [frame_get]
      rw [Array.getD_eq_getD_getElem?]
      rw [List.getD_eq_getElem?_getD] at this
      rw [← Array.getElem?_toList, Array.toList_append, Array.toList_replicate]
      have e : Tryd.f32.ntmps - args.size = 86 := by
        have : Tryd.f32.ntmps = 88 := by kernel_rfl
        simp at hlen
        omega
      rw [e]
      exact this
  refine callsIn_wide.1 (callsIn_of_wp_marks (n := 10) Tryd.func32 hbody trivial ?_ rfl)
  rw [wpIn_wide]
  rw [← splitC_eq 5 (bodyC Tryd.prog 32), shape_place]
  unfold m_array_place at hok ⊢
  unfold F0_array_place at hE
  cases hk0 : Nat.beq (m0_array_place g l).k 0 with
  | true =>
    rw [hk0] at hE
    simp only [cond_true] at hE ⊢
    refine place_pre hEQT hmT gP hL hLc hE _ _ w (Wof σ [.arr none .site l]) σ _ w _ hG hT0 hM hfr fun τ a' w' hle hT' hM' hN' => ?_
    show LeavesInM _ _ _ _ _ _ a'.defers _ _
    rw [hT'.df]
    obtain ⟨v, hv1, υ, hv2, hv3, hv4⟩ := none_result (P := Tryd.prog) (fn := Tryd.f32) 87 rfl hfr hle hT' hM' rfl (by kernel_rfl)
    exact ⟨v, hv1, v, υ, rfl, hv2, hv3, hv4⟩
  | false =>
    rw [hk0] at hE hok
    simp only [cond_false] at hE hok ⊢
    cases hk1 : Nat.beq (m0_array_place g l).k 1 with
    | false => rw [hk1] at hok; cases hok
    | true =>
    rw [hk1] at hE
    simp only [cond_true] at hE ⊢
    generalize (m0_array_place g l).ps = ps at hE ⊢
    refine place_pre hEQT hmT gP hL hLc hE _ _ w (Wof σ [.arr none .site l]) σ _ w _ hG hT0 hM hfr fun τ a' w' hle hT' hM' hN' => ?_
    -- what lies in memory
    obtain ⟨Mr, hMrd⟩ : ∃ Mr : List Blk, Mr = [.arr none .site l, .cell 83 .nilS, .rw 33 [.int .i64 (0 : Int)], .cell 83 (.aslice 5 none), .dead, .arr (some 87) .placed ps] := ⟨_, rfl⟩
    have d0 : ∃ L, τ 0 = some L := by obtain ⟨L, h, _⟩ := hM'.blk 0; exact ⟨L, h⟩
    have d1 : ∃ L, τ 1 = some L := by obtain ⟨L, _, h, _⟩ := hM'.blk 1; exact ⟨L, h⟩
    have d2 : ∃ L, τ 2 = some L := by obtain ⟨L, _, h, _⟩ := hM'.blk 2; exact ⟨L, h⟩
    have d3 : ∃ L, τ 3 = some L := by obtain ⟨L, _, h, _⟩ := hM'.blk 3; exact ⟨L, h⟩
    have d5 : ∃ L, τ 5 = some L := by obtain ⟨L, h, _⟩ := hM'.blk 5; exact ⟨L, h⟩
    have hn : ps.length ≤ 9223372036854775807 := by
      obtain ⟨_, _, _, _, _, _, _, L5, h1, h2⟩ := hM'.blk 3
      obtain ⟨L5', h3, h4, _⟩ := hM'.blk 5
      rw [h1] at h3
      cases h3
      rcases h2 with ⟨h2, _⟩ | ⟨_, _, _, h2, _⟩
      · omega
      · simp only [maxLen] at h2; omega
    obtain ⟨L4, cur4, q1, q2, q3, q4, q5, q6, q7⟩ := hM'.blk 4
    obtain ⟨bn, hbn⟩ : ∃ bn, L4.blk = bn := ⟨_, rfl⟩
    rw [hbn] at q4
    have hbnlt : bn < w'.heap.size := (Array.getElem?_eq_some_iff.1 q4).1
    have hbncell : w'.cell? ⟨bn, 0, none⟩ = some (.int .i64 (ps.length : Int)) := by
      rw [cell_of_heap q4]
      have : (cur4.toList.take 1)[0]? = ([D.int .i64 (ps.length : Int)].map D.val)[0]? := by rw [← q7]; rfl
      simpa [D.val] using this
    have hMr : MRel w (Wof σ [.arr none .site l]) τ Mr w' := hM'.congr fun b => by
      rw [hMrd]
      match b with
      | 0 | 1 | 2 | 3 | 5 => exact .inl rfl
      | 4 => exact .inr rfl
      | _ + 6 => exact .inl rfl
    have notbn : ¬ Wof τ Mr bn := by
      rintro ⟨b, L, hw, hL, e⟩
      rw [hMrd] at hw
      refine hM'.sep b 4 L L4 ?_ ?_ rfl hL q1 (by rw [e, hbn])
      · rintro rfl; cases hw
      · match b with
        | 0 | 1 | 2 | 3 | 5 => exact hw
        | 4 => cases hw
        | _ + 6 => exact hw
    have dom : ∀ b, mget Mr b = .dead ∨ ((∃ L, τ b = some L) ∧ ∀ r ∈ refsB (mget Mr b), ∃ L, τ r = some L) := by
      intro b
      rw [hMrd]
      match b with
      | 0 => exact .inr ⟨d0, fun r hr => by cases hr⟩
      | 1 => exact .inr ⟨d1, fun r hr => by cases hr⟩
      | 2 => exact .inr ⟨d2, fun r hr => by cases hr⟩
      | 3 => exact .inr ⟨d3, fun r hr => by simp [mget, gets, refsB, refsC] at hr; subst hr; exact d5⟩
      | 4 => exact .inl rfl
      | 5 => exact .inr ⟨d5, fun r hr => by cases hr⟩
      | _ + 6 => exact .inl rfl
    have domx : ∀ b, mget ([.arr none .site l, .cell 83 .nilS, .rw 33 [.int .i64 (14 : Int)]] : List Blk) b = .dead ∨ ((∃ L, τ b = some L) ∧ ∀ r ∈ refsB (mget ([.arr none .site l, .cell 83 .nilS, .rw 33 [.int .i64 (14 : Int)]] : List Blk) b), ∃ L, τ r = some L) := by
      intro b
      match b with
      | 0 => exact .inr ⟨d0, fun r hr => by cases hr⟩
      | 1 => exact .inr ⟨d1, fun r hr => by cases hr⟩
      | 2 => exact .inr ⟨d2, fun r hr => by cases hr⟩
      | _ + 3 => exact .inl rfl
    -- the function that is ranged over
    obtain ⟨vs, hvs, hvp⟩ := hT'.val 55
    have hvl : vs = #[.pointer (some ⟨bn, 0, none⟩)] := by
      cases hv : vs.toList with
      | nil => rw [hv] at hvp; exact hvp.elim
      | cons v1 r =>
        rw [hv] at hvp
        obtain ⟨⟨L, k1, k2⟩, k3⟩ := hvp
        rw [q1] at k1
        cases k1
        cases r with
        | nil => apply Array.ext'; rw [hv, k2, q2, hbn]
        | cons _ _ => exact k3.elim
    have hg : a'.eval (.tmp 55) = .func (.func 70) #[] #[.pointer (some ⟨bn, 0, none⟩)] := by
      rw [← hvl]
      exact hvs
    have hseq : SeqStopsK Fence.wide (10 - 1) Tryd.prog 70 #[.pointer (some ⟨bn, 0, none⟩)] (encP (n := ps.length)) (fun X Y => Y.heap[bn]? = X.heap[bn]?) (fun ys => ∀ p, p ∈ ys) (fun _ => True) (ps.length * ps.length) w' :=
      fun lp J Jx W hW _ _ hY h0 => pairs1_in 9 lp bn ps.length hn J Jx hY W ((hW.cell (p := ⟨bn, 0, none⟩) hbnlt).trans hbncell) h0
    have hG' : ∀ {τ' : Sg} {M'' : List Blk} {X : World}, MRel w (Wof σ [.arr none .site l]) τ' M'' X → Glob GT gbT (Wof τ' M'') X := fun h => hG.rebase h
    have hwB : w.heap.size ≤ w'.heap.size := hM'.kept.size
    have stay : ∀ {τ' : Sg} {M'' : List Blk} {X Y : World}, X.heap[bn]? = w'.heap[bn]? → ¬ Wof τ' M'' bn → Kept (Wof τ' M'') X Y → Y.heap[bn]? = X.heap[bn]? := fun h1 h2 h3 =>
      h3.block bn (Array.getElem?_eq_some_iff.1 (h1.trans q4)).1 h2
    refine wp_block (wpIn_wide.1 (wpIn_rangeFunc_ownH (n := 10) (α := PairN ps.length) rfl (by decide) hg trivial (fun args w => Tryd.call70 args w) hseq (fun h k => k.trans h)
      (fun W lp o o' hl _ _ _ => World.putObj_heap_other (by omega)) (Below.refl _ _) (fun _ => rfl)
      (fun pre W => (∀ p ∈ pre, dupAt ps p.1.1 p.1.2 = false) ∧ MRel w (Wof σ [.arr none .site l]) τ Mr W ∧ W.heap[bn]? = w'.heap[bn]?)
      (fun c pre W => c = .ret ∧ (∃ p ∈ pre, dupAt ps p.1.1 p.1.2 = true) ∧ MRel w (Wof σ [.arr none .site l]) τ [.arr none .site l, .cell 83 .nilS, .rw 33 [.int .i64 (14 : Int)]] W)
      ?hI ?hIx ⟨fun p hp => (by cases hp), hMr, rfl⟩
      (fun x a2 W => ∃ υ, τ.le υ ∧ TRel υ (tset (.v (.c (.ptr 6 0))) (tset (.v (.agg [.int .i64 (x.1.1 : Int), .int .i64 (x.1.2 : Int)])) (headT [4, 5, 8, 55] 88 [.v (.c (.ptr 1 0)), .v (.c (.ptr 2 0)), .v (.c (.ptr 3 0)), .v (.c (.fn 70 [4]))]) 56) 13) a2 ∧ MRel w (Wof σ [.arr none .site l]) υ (Mr ++ [.rw 117 [.int .i64 (x.1.1 : Int), .int .i64 (x.1.2 : Int)]]) W ∧ (∀ b, 7 ≤ b → υ b = none) ∧ ¬ Wof υ (Mr ++ [.rw 117 [.int .i64 (x.1.1 : Int), .int .i64 (x.1.2 : Int)]]) bn)
      ?hAx ?asg ?bod ?done ?stop))
    case hI =>
      rintro pre X Y row ⟨h1, h2, h3⟩ hg' hr
      refine ⟨h1, h2.grown hg' fun r e => ⟨Nat.le_trans hwB (hr r e).1, (hr r e).2⟩, (hg'.block bn ?_ fun e => ?_).trans h3⟩
      · rw [q4] at h3; exact (Array.getElem?_eq_some_iff.1 h3).1
      · have := (hr bn e.symm).1; omega
    case hIx =>
      rintro c pre X Y row ⟨h1, h2, h3⟩ hg' hr
      exact ⟨h1, h2, h3.grown hg' fun r e => ⟨Nat.le_trans hwB (hr r e).1, (hr r e).2⟩⟩
    case hAx =>
      rintro x a2 _ X Y row ⟨υ, h1, h2, h3, h4⟩ hg' hr
      exact ⟨υ, h1, h2, h3.grown hg' fun r e => ⟨Nat.le_trans hwB (hr r e).1, (hr r e).2⟩, h4⟩
    case asg =>
      rintro lp pre x W K ⟨h1, h2, h3⟩ hK
      have hwa := wa_array_place l ps (x.1.1 : Int) (x.1.2 : Int)
      rw [← hMrd] at hwa
      have hcr := CodeR.ofEv (b := asgC (sndC (fstC (splitC 5 (bodyC Tryd.prog 32)).2))) gP hEQT hmT (by kernel_rfl) hwa
      have hT1 := hT'.put (some 56) (x := .v (.agg [.int .i64 (x.1.1 : Int), .int .i64 (x.1.2 : Int)])) (v := .agg #[.int .i64 (x.1.1 : Int), .int .i64 (x.1.2 : Int)]) ⟨rfl, by
        have hx1 := x.2.1
        have hx2 := x.2.2
        intro d hd
        simp only [List.mem_cons, List.not_mem_nil, or_false] at hd
        rcases hd with rfl | rfl <;> simp only [D.ok, inR, Bool.and_eq_true, decide_eq_true_eq] <;> omega⟩
      have hact : (a'.put (some 56) (.agg #[.int .i64 (x.1.1 : Int), .int .i64 (x.1.2 : Int)])) = { tmps := ((#[56] : Array Tmp).zip (encP x)).foldl (fun t (p, v) => t.setIfInBounds p v) a'.tmps, defers := [] } := by
        simp [Act.put, encP, hT'.df]
      rw [hact] at hT1
      refine hcr lp _ W (Wof τ Mr) τ _ W _ (fun ⟨_, _, h⟩ => h) (hG' h2) hT1 h2.rebase ?_ fun υ a2 W2 hle2 hT2 hM2 hN2 => ?_
      · intro b hb
        exact hN' b hb
      · have hkept := hM2.kept
        have hsince := h2.since hM2
        have hbn2 := stay h3 notbn hkept
        have hap : Mr ++ [.rw 117 [.int .i64 (x.1.1 : Int), .int .i64 (x.1.2 : Int)]] = [.arr none .site l, .cell 83 .nilS, .rw 33 [.int .i64 (0 : Int)], .cell 83 (.aslice 5 none), .dead, .arr (some 87) .placed ps, .rw 117 [.int .i64 (x.1.1 : Int), .int .i64 (x.1.2 : Int)]] := by rw [hMrd]; rfl
        have hnot : ¬ Wof υ (Mr ++ [.rw 117 [.int .i64 (x.1.1 : Int), .int .i64 (x.1.2 : Int)]]) bn := by
          rintro ⟨b, L, hw, hL, e⟩
          rcases hM2.own b L (by rw [hap] at hw; exact hw) hL with h5 | h5
          · exact notbn (e ▸ h5)
          · have hlt : bn < W.heap.size := (Array.getElem?_eq_some_iff.1 (h3.trans q4)).1
            omega
        refine hK a2 W2 (Kept.keepsFrom h2.rebase hkept _) hbn2 ⟨h1, ?_, hbn2.trans h3⟩ ⟨υ, hle2, hT2, ?_, hN2, hnot⟩
        · refine MRel.under hle2 (hsince.congr fun b => ?_) dom
          rw [hMrd]
          match b with
          | 0 | 1 | 2 | 3 | 5 => exact .inl rfl
          | 4 => exact .inl rfl
          | 6 => exact .inr rfl
          | _ + 7 => exact .inl rfl
        · rw [hap]
          exact hsince
    case bod =>
      rintro lp pre x a2 W hlp _ ⟨h1, h2, h3⟩ ⟨υ, k1, k2, k3, k4, k5⟩ _
      have hev := round_eval l ps x.1.1 x.1.2 x.2.1 x.2.2
      have hap : Mr ++ [.rw 117 [.int .i64 (x.1.1 : Int), .int .i64 (x.1.2 : Int)]] = [.arr none .site l, .cell 83 .nilS, .rw 33 [.int .i64 (0 : Int)], .cell 83 (.aslice 5 none), .dead, .arr (some 87) .placed ps, .rw 117 [.int .i64 (x.1.1 : Int), .int .i64 (x.1.2 : Int)]] := by rw [hMrd]; rfl
      rw [hap] at k3 k5
      cases hdup : dupAt ps x.1.1 x.1.2 with
      | false =>
        rw [hdup] at hev
        obtain ⟨T2, M2, hc, hcr⟩ := CodeR.ofCut (b := bodC (sndC (fstC (splitC 5 (bodyC Tryd.prog 32)).2))) gP hEQT hmT (by kernel_rfl) hev
        refine hcr lp _ W _ υ a2 W _ (fun ⟨_, _, h⟩ => h) (hG' k3) k2 k3.rebase k4 fun ω a3 W3 hle3 _ hM3 _ => ?_
        have hbn3 := stay h3 k5 hM3.kept
        refine ⟨Kept.keepsFrom k3.rebase hM3.kept _, hbn3, fun p hp => ?_, ?_, hbn3.trans h3⟩
        · rcases List.mem_append.1 hp with hp | hp
          · exact h1 p hp
          · rw [List.mem_singleton.1 hp]; exact hdup
        · refine MRel.under (Sg.le_trans k1 hle3) ((k3.since hM3).congr fun b => ?_) dom
          rw [hMrd]
          exact hc b
      | true =>
        rw [hdup] at hev
        obtain ⟨T2, M2, hc, hcr⟩ := CodeR.ofCut (b := bodC (sndC (fstC (splitC 5 (bodyC Tryd.prog 32)).2))) gP hEQT hmT (by kernel_rfl) hev
        refine hcr lp _ W _ υ a2 W _ (fun ⟨_, _, h⟩ => h) (hG' k3) k2 k3.rebase k4 fun ω a3 W3 hle3 _ hM3 _ => ?_
        refine ⟨Kept.keepsFrom k3.rebase hM3.kept _, rfl, ⟨x, by simp, hdup⟩, ?_⟩
        refine MRel.under (Sg.le_trans k1 hle3) ((k3.since hM3).congr fun b => ?_) domx
        match b with
        | 0 => exact hc 0
        | 1 => exact hc 1
        | 2 => exact hc 2
        | _ + 3 => exact .inr rfl
    case done =>
      rintro D xs W hD hS ⟨h1, h2, h3⟩ hKd
      rw [dupP_false fun i j hi hj => h1 ⟨(i, j), hi, hj⟩ (hS _)]
      show (Code.seq _ .ret).wp _ _ _ _
      have hreg : ∃ id ops, fstC (sndC (splitC 5 (bodyC Tryd.prog 32)).2) = .region id ops false ∧ (ops.toList.all fun o => plainOp o.op) = true := by
        refine ⟨20, _, (by kernel_rfl : fstC (sndC (splitC 5 (bodyC Tryd.prog 32)).2) = .region 20 (opsC (fstC (sndC (splitC 5 (bodyC Tryd.prog 32)).2))) false), by kernel_rfl⟩
      obtain ⟨id, ops, hr1, hr2⟩ := hreg
      have hte := tail_eval l ps
      rw [← hMrd] at hte
      rw [hr1] at hte ⊢
      rw [hT'.df]
      have hnl : ¬ LetsOut (bodyPostM Fence.wide 10 Tryd.prog Tryd.f32 fun e w'_1 => ∃ v' τ, e = .returned v' ∧ σ.le τ ∧ AVRel τ (.tup [.c (.aslice 1 none), .c (.d (.int .i64 (0 : Int)))]) v' ∧ MRel w (Wof σ [.arr none .site l]) τ [.arr none .site l, .arr (some 87) .placed ps] w'_1) := by
        rintro ⟨_, _, _, _, h, _⟩
        cases h
      have hdf : ({ a' with defers := [{ target := .collected D, args := #[] }] } : Act) = { a' with defers := [{ target := .collected D, args := #[] }] } := rfl
      refine wp_seq (region_defers hEQT gP hr2 hte W (Wof τ Mr) τ a' W _ _ (then_out hnl) (hG' h2) hT' h2.rebase hN' fun υ a2 W2 hle2 hT2 hM2 => ?_)
      refine wp_ret ?_
      show LeavesInM _ _ _ _ _ _ [_] _ _
      have hD2 : W2.heap[D]? = some (.deferred (some [])) := by
        have hlt : D < W.heap.size := (Array.getElem?_eq_some_iff.1 hKd).1
        refine (hM2.kept.block D hlt ?_).trans hKd
        rintro ⟨b, L, hw, hL, e⟩
        obtain ⟨cur, t, fr, h5⟩ := (h2.blk b).cellsAt (wr_live hw) hL
        rw [e, hKd] at h5
        cases h5
      refine ⟨by simp, .inl ⟨D, _, rfl, run_takeDeferred hD2, ?_⟩⟩
      have h4 := (h2.since hM2).grown (grownBy_putObj' W2 D (.deferred none)) fun r e => by cases e; exact ⟨Nat.le_trans hwB hD, _, hD2, rfl⟩
      obtain ⟨v, hv1, υ', hv2, hv3, hv4⟩ := some_result (P := Tryd.prog) (fn := Tryd.f32) 87 rfl (by decide) hfr (fun b L hb hL => hle2 b L (hle b L hb hL)) hT2 h4 rfl rfl (b5 := 5) (by kernel_rfl)
      exact ⟨v, hv1, v, υ', rfl, hv2, hv3, hv4⟩
    case stop =>
      rintro D c pre W hD _ ⟨rfl, ⟨p, _, hp⟩, h3⟩ hKd
      refine wpIn_ret ?_
      show LeavesInM _ _ _ _ _ _ (_ :: a'.defers) _ _
      rw [hT'.df, dupP_true p.2.1 p.2.2 hp]
      refine ⟨by simp, .inl ⟨D, _, rfl, run_takeDeferred hKd, ?_⟩⟩
      have h4 := h3.grown (grownBy_putObj' W D (.deferred none)) fun r e => by cases e; exact ⟨Nat.le_trans hwB hD, _, hKd, rfl⟩
      obtain ⟨v, hv1, υ, hv2, hv3, hv4⟩ := none_result (P := Tryd.prog) (fn := Tryd.f32) 87 rfl hfr hle hT' h4 rfl (by kernel_rfl)
      exact ⟨v, hv1, v, υ, rfl, hv2, hv3, hv4⟩
def s_array_place : List AV → List Blk → (AV → List Blk → Ans) → Ans := fun xs bs K => match xs, bs with
  | [.v (.agg [.int .i64 a0_0, .int .i64 a0_1]), .v (.c (.aslice 0 none))], [.arr none .site a1] => bif (m_array_place (⟨a0_0, a0_1⟩ : Globe) a1).ok then K (.tup [.c (.aslice 1 none), .c (.d (.int .i64 (m_array_place (⟨a0_0, a0_1⟩ : Globe) a1).r1))]) [.arr none .site a1, .arr (some 87) .placed (m_array_place (⟨a0_0, a0_1⟩ : Globe) a1).r0] else none
  | _, _ => none
def T_array_place : Nat → List AV → List Blk → (AV → List Blk → Ans) → Ans := upd TP 32 s_array_place
theorem g_array_place : GOK Tryd.prog GT gbT T_array_place XT := by
  refine GOK.upd gP (fun args w => Tryd.call32 args w) fun xs bs K r h => ?_
  unfold s_array_place at h
  split at h
  · simp only [cond_eq_ite] at h
    split at h
    · rename_i hd
      exact ⟨_, _, place_calls _ _ hd, h⟩
    · cases h
  · cases h
end Go.Ev

namespace Go.Ev
open Go Go.Proofs
structure R_array_Places_0 where
  k : Nat
  p25 : Int
  m1 : List Vec
def run_array_Places_0 (p24 : Int) (m0 : List Site) (m2 : List Placed) : Nat → Int → List Vec → R_array_Places_0
  | 0, p25, m1 => ⟨1, p25, m1⟩
  | n + 1, p25, m1 => bif decide (p25 < p24) then (bif (decide ((0 : Int) ≤ p25) && decide (p25 < (m2.length : Int))) then (bif (decide ((0 : Int) ≤ p25) && decide (p25 < (m1.length : Int))) then run_array_Places_0 p24 m0 m2 n (w64 (p25 + (1 : Int))) (m1.set p25.toNat ((m2.getD p25.toNat (ET.z .placed)).at_)) else ⟨1, p25, m1⟩) else ⟨1, p25, m1⟩) else ⟨0, p25, m1⟩
def lp_array_Places_0 (p24 : Int) (m0 : List Site) (m2 : List Placed) (p25 : Int) (m1 : List Vec) : R_array_Places_0 := run_array_Places_0 p24 m0 m2 (2000 + (m0.length + m1.length + m2.length)) p25 m1
abbrev H_array_Places_0 (p24 : Int) (_m0 : List Site) (_m2 : List Placed) (p25 : Int) (_m1 : List Vec) : TS := headT [8, 23, 24, 25] 37 [.v (.c (.aslice 1 none)), .v (.c (.aslice 2 none)), .v (.c (.d (.int .i64 p24))), .v (.c (.d (.int .i64 p25)))]
theorem b_array_Places_0 (p24 : Int) (m0 : List Site) (m2 : List Placed) (p25 : Int) (m1 : List Vec) : evCode Tryd.prog GT EQT T_array_place XT noL 80 (loopB Tryd.prog 21 0) (H_array_Places_0 p24 m0 m2 p25 m1) [.arr none .site m0, .arr (some 58) .vec m1, .arr (some 87) .placed m2] 3 (normK 1 [8, 23, 24, 25]) =
    bif decide (p25 < p24) then (bif (decide ((0 : Int) ≤ p25) && decide (p25 < (m2.length : Int))) then (bif (decide ((0 : Int) ≤ p25) && decide (p25 < (m1.length : Int))) then some (.st .normal (headT [8, 23, 24, 25] 37 [.v (.c (.aslice 1 none)), .v (.c (.aslice 2 none)), .v (.c (.d (.int .i64 p24))), .v (.c (.d (.int .i64 (w64 (p25 + (1 : Int))))))]) [.arr none .site m0, .arr (some 58) .vec (m1.set p25.toNat ((m2.getD p25.toNat (ET.z .placed)).at_)), .arr (some 87) .placed m2] 3) else none) else none) else some (.st (.exit 0) (headT [8, 23, 24, 25] 37 [.v (.c (.aslice 1 none)), .v (.c (.aslice 2 none)), .v (.c (.d (.int .i64 p24))), .v (.c (.d (.int .i64 p25)))]) [.arr none .site m0, .arr (some 58) .vec m1, .arr (some 87) .placed m2] 3) := by
  kernel_rfl
def o_array_Places_0 (p24 : Int) (m0 : List Site) (m2 : List Placed) (r : R_array_Places_0) : LT := .br (Nat.beq r.k 0) (.st (.exit 0) (headT [8, 23, 24, 25] 37 [.v (.c (.aslice 1 none)), .v (.c (.aslice 2 none)), .v (.c (.d (.int .i64 p24))), .v (.c (.d (.int .i64 r.p25)))]) [.arr none .site m0, .arr (some 58) .vec r.m1, .arr (some 87) .placed m2] 3) (.no)
theorem r_array_Places_0 (p24 : Int) (m0 : List Site) (m2 : List Placed) : ∀ (n : Nat) (p25 : Int) (m1 : List Vec) (x : Ex) (T' : TS) (M' : List Blk) (N' : Nat), LReach (o_array_Places_0 p24 m0 m2 (run_array_Places_0 p24 m0 m2 n p25 m1)) x T' M' N' → x ≠ .normal ∧ ∃ j, RoundsN Tryd.prog GT gbT 1 (loopB Tryd.prog 21 0) j (H_array_Places_0 p24 m0 m2 p25 m1) [.arr none .site m0, .arr (some 58) .vec m1, .arr (some 87) .placed m2] 3 x T' M' N' := by
  have hL : LOKn Tryd.prog GT gbT 1 noL (loopsIn (loopB Tryd.prog 21 0)) := fun _ _ _ _ _ _ _ _ _ h => h.elim
  intro n
  induction n with
  | zero =>
    intro p25 m1 x T' M' N' hr
    exact False.elim (redF hr)
  | succ n ih =>
    intro p25 m1 x T' M' N'
    rw [run_array_Places_0]
    exact viaE (b_array_Places_0 p24 m0 m2 p25 m1) (condG (o := o_array_Places_0 p24 m0 m2) (condG (o := o_array_Places_0 p24 m0 m2) (condG (o := o_array_Places_0 p24 m0 m2) (fun he hr => goN g_array_place hEQT hmT hL he (ih (w64 (p25 + (1 : Int))) (m1.set p25.toNat ((m2.getD p25.toNat (ET.z .placed)).at_)) x T' M' N' hr)) (fun _ hr => False.elim (redF hr))) (fun _ hr => False.elim (redF hr))) (fun he hr => stopN g_array_place hEQT hmT hL he (by simp) (redT hr)))
def f_array_Places_0 : List AV → List Blk → LT := fun vs Ms => match vs, Ms with
  | [.v (.c (.aslice 1 none)), .v (.c (.aslice 2 none)), .v (.c (.d (.int .i64 p24))), .v (.c (.d (.int .i64 p25)))], [.arr none .site m0, .arr (some 58) .vec m1, .arr (some 87) .placed m2] => o_array_Places_0 p24 m0 m2 (lp_array_Places_0 p24 m0 m2 p25 m1)
  | _, _ => .no
def L_array_Places_0 := LamN 6 37 1 [8, 23, 24, 25] f_array_Places_0
theorem k_array_Places_0 : LOKbn Tryd.prog GT gbT 1 L_array_Places_0 (loopB Tryd.prog 21 0) := by
  refine LOKbn.lamN (by kernel_rfl) fun vs Ms x T' M' N' hr => ?_
  unfold f_array_Places_0 at hr
  split at hr
  · obtain ⟨q1, j, q2⟩ := r_array_Places_0 _ _ _ _ _ _ x T' M' N' hr
    exact ⟨q1, j, q2⟩
  · exact hr.elim
structure O_array_Places where
  ok : Bool
  r0 : List Vec
  r1 : Int
def m_array_Places (a0 : Globe) (a1 : List Site) : O_array_Places := bif (m_array_place a0 a1).ok then (bif ((m_array_place a0 a1).r1 != (0 : Int)) then ⟨true, ([] : List Vec), (m_array_place a0 a1).r1⟩ else (bif (decide ((((m_array_place a0 a1).r0).length : Int) = (((m_array_place a0 a1).r0).length : Int)) && (decide (0 ≤ (((m_array_place a0 a1).r0).length : Int)) && (decide ((((m_array_place a0 a1).r0).length : Int) ≤ 1048576) && ((6 == 6) && (Nat.blt 0 6 && Nat.ble 48 4096))))) then (bif Nat.beq (lp_array_Places_0 (((m_array_place a0 a1).r0).length : Int) a1 ((m_array_place a0 a1).r0) (0 : Int) (List.replicate ((((m_array_place a0 a1).r0).length : Int).toNat) (⟨⟨(0 : Int), (0 : Int)⟩, ⟨(0 : Int), (0 : Int)⟩, ⟨(0 : Int), (0 : Int)⟩⟩ : Vec))).k 0 then ⟨true, ((lp_array_Places_0 (((m_array_place a0 a1).r0).length : Int) a1 ((m_array_place a0 a1).r0) (0 : Int) (List.replicate ((((m_array_place a0 a1).r0).length : Int).toNat) (⟨⟨(0 : Int), (0 : Int)⟩, ⟨(0 : Int), (0 : Int)⟩, ⟨(0 : Int), (0 : Int)⟩⟩ : Vec))).m1), (0 : Int)⟩ else ⟨false, [], 0⟩) else ⟨false, [], 0⟩)) else ⟨false, [], 0⟩
def F_array_Places (_a0 : Globe) (a1 : List Site) (K : AV → List Blk → Ans) (r : O_array_Places) : Ans := bif r.ok then K (.tup [.c (.aslice 1 none), .c (.d (.int .i64 r.r1))]) [.arr none .site a1, .arr (some 58) .vec r.r0] else none
theorem e_array_Places (a0 : Globe) (a1 : List Site) (K : AV → List Blk → Ans) : evFn Tryd.prog GT EQT T_array_place XT (orL L_array_Places_0 noL) 80 21 [.v (.agg [.int .i64 a0.a, .int .i64 a0.b]), .v (.c (.aslice 0 none))] [.arr none .site a1] (fun v M => K (finR 1 v M).1 (finR 1 v M).2) = F_array_Places a0 a1 K (m_array_Places a0 a1) := by
  unfold m_array_Places
  refine Eq.trans ?_ (Eq.symm (pushT (pushT rfl (pushT (pushT rfl rfl) rfl)) rfl))
  kernel_rfl
theorem lok_array_Places : ∀ fn c, Tryd.prog.funcs[21]? = some fn → fn.body = some c → LOKn Tryd.prog GT gbT 1 (orL L_array_Places_0 noL) (loopsIn c) := by
  refine LOKn.ofF fun b hb => ?_
  have e : loopsF Tryd.prog 21 = [loopB Tryd.prog 21 0] := by kernel_rfl
  rw [e] at hb
  simp only [List.mem_cons, List.not_mem_nil, or_false] at hb
  subst hb
  exact (LOKbn.or k_array_Places_0 (fun _ _ _ _ _ _ _ h => h.elim))
theorem c_array_Places (a0 : Globe) (a1 : List Site) (hd : (m_array_Places a0 a1).ok = true) : CallsA Tryd.prog GT gbT 21 [.v (.agg [.int .i64 a0.a, .int .i64 a0.b]), .v (.c (.aslice 0 none))] [.arr none .site a1] (.tup [.c (.aslice 1 none), .c (.d (.int .i64 ((m_array_Places a0 a1).r1)))]) [.arr none .site a1, .arr (some 58) .vec ((m_array_Places a0 a1).r0)] := by
  refine CallsA.ofEvR g_array_place hEQT hmT (n0 := 1) rfl lok_array_Places ((e_array_Places a0 a1 (fun v M => some (Res.fin v M))).trans ?_)
  unfold F_array_Places
  rw [hd]
  rfl
def s_array_Places : List AV → List Blk → (AV → List Blk → Ans) → Ans := fun xs bs K => match xs, bs with
  | [.v (.agg [.int .i64 a0_0, .int .i64 a0_1]), .v (.c (.aslice 0 none))], [.arr none .site a1] => F_array_Places (⟨a0_0, a0_1⟩ : Globe) a1 K (m_array_Places (⟨a0_0, a0_1⟩ : Globe) a1)
  | _, _ => none
def T_array_Places : Nat → List AV → List Blk → (AV → List Blk → Ans) → Ans := upd T_array_place 21 s_array_Places
theorem g_array_Places : GOK Tryd.prog GT gbT T_array_Places XT := by
  refine GOK.upd g_array_place (fun args w => Tryd.call21 args w) fun xs bs K r h => ?_
  unfold s_array_Places at h
  split at h
  · unfold F_array_Places at h
    simp only [cond_eq_ite] at h
    split at h
    · rename_i hd
      exact ⟨_, _, c_array_Places _ _ hd, h⟩
    · cases h
  · cases h
structure O_rise_look where
  ok : Bool
  r0 : List Vec
  r1 : Int
def m_rise_look (a0 : Globe) (a1 : List Site) (a2 : Source) (a3 : Frac) : O_rise_look := bif (m_array_Places a0 a1).ok then (bif ((m_array_Places a0 a1).r1 != (0 : Int)) then ⟨true, ([] : List Vec), (m_array_Places a0 a1).r1⟩ else (bif ((checkSrc ⟨a2.name, a2.ra, a2.dec⟩) != (0 : Int)) then ⟨true, ([] : List Vec), (checkSrc ⟨a2.name, a2.ra, a2.dec⟩)⟩ else (bif ((checkF ⟨a3.num, a3.den⟩) != (0 : Int)) then ⟨true, ([] : List Vec), (8 : Int)⟩ else (bif decide (a3.num < (0 : Int)) then ⟨true, ([] : List Vec), (8 : Int)⟩ else (bif decide (a3.den < a3.num) then ⟨true, ([] : List Vec), (8 : Int)⟩ else (bif decide ((1000 : Int) < a3.den) then ⟨true, ([] : List Vec), (8 : Int)⟩ else ⟨true, (m_array_Places a0 a1).r0, (0 : Int)⟩)))))) else ⟨false, [], 0⟩
def F_rise_look (_a0 : Globe) (a1 : List Site) (_a2 : Source) (_a3 : Frac) (K : AV → List Blk → Ans) (r : O_rise_look) : Ans := bif r.ok then K (.tup [.c (.aslice 1 none), .c (.d (.int .i64 r.r1))]) [.arr none .site a1, .arr (some 58) .vec r.r0] else none
theorem e_rise_look (a0 : Globe) (a1 : List Site) (a2 : Source) (a3 : Frac) (K : AV → List Blk → Ans) : evFn Tryd.prog GT EQT T_array_Places XT noL 80 14 [.v (.agg [.int .i64 a0.a, .int .i64 a0.b]), .v (.c (.aslice 0 none)), .v (.agg [.str a2.name, .int .i64 a2.ra, .int .i64 a2.dec]), .v (.agg [.int .i64 a3.num, .int .i64 a3.den])] [.arr none .site a1] (fun v M => K (finR 1 v M).1 (finR 1 v M).2) = F_rise_look a0 a1 a2 a3 K (m_rise_look a0 a1 a2 a3) := by
  unfold m_rise_look
  refine Eq.trans ?_ (Eq.symm (pushT (pushT rfl (pushT rfl (pushT rfl (pushT rfl (pushT rfl (pushT rfl rfl)))))) rfl))
  kernel_rfl
theorem c_rise_look (a0 : Globe) (a1 : List Site) (a2 : Source) (a3 : Frac) (hd : (m_rise_look a0 a1 a2 a3).ok = true) : CallsA Tryd.prog GT gbT 14 [.v (.agg [.int .i64 a0.a, .int .i64 a0.b]), .v (.c (.aslice 0 none)), .v (.agg [.str a2.name, .int .i64 a2.ra, .int .i64 a2.dec]), .v (.agg [.int .i64 a3.num, .int .i64 a3.den])] [.arr none .site a1] (.tup [.c (.aslice 1 none), .c (.d (.int .i64 ((m_rise_look a0 a1 a2 a3).r1)))]) [.arr none .site a1, .arr (some 58) .vec ((m_rise_look a0 a1 a2 a3).r0)] := by
  refine CallsA.ofEvR g_array_Places hEQT hmT (n0 := 1) rfl (fun _ _ _ _ => LOKn.nil) ((e_rise_look a0 a1 a2 a3 (fun v M => some (Res.fin v M))).trans ?_)
  unfold F_rise_look
  rw [hd]
  rfl
def s_rise_look : List AV → List Blk → (AV → List Blk → Ans) → Ans := fun xs bs K => match xs, bs with
  | [.v (.agg [.int .i64 a0_0, .int .i64 a0_1]), .v (.c (.aslice 0 none)), .v (.agg [.str a2_0, .int .i64 a2_1, .int .i64 a2_2]), .v (.agg [.int .i64 a3_0, .int .i64 a3_1])], [.arr none .site a1] => F_rise_look (⟨a0_0, a0_1⟩ : Globe) a1 (⟨a2_0, a2_1, a2_2⟩ : Source) (⟨a3_0, a3_1⟩ : Frac) K (m_rise_look (⟨a0_0, a0_1⟩ : Globe) a1 (⟨a2_0, a2_1, a2_2⟩ : Source) (⟨a3_0, a3_1⟩ : Frac))
  | _, _ => none
def T_rise_look : Nat → List AV → List Blk → (AV → List Blk → Ans) → Ans := upd T_array_Places 14 s_rise_look
theorem g_rise_look : GOK Tryd.prog GT gbT T_rise_look XT := by
  refine GOK.upd g_array_Places (fun args w => Tryd.call14 args w) fun xs bs K r h => ?_
  unfold s_rise_look at h
  split at h
  · unfold F_rise_look at h
    simp only [cond_eq_ite] at h
    split at h
    · rename_i hd
      exact ⟨_, _, c_rise_look _ _ _ _ hd, h⟩
    · cases h
  · cases h
structure O_rise_uprightOf where
  ok : Bool
  r0 : Vec
  r1 : Int
def m_rise_uprightOf (a0 : Globe) (a1 : Vec) : O_rise_uprightOf := bif ((makeF a0.b (w64 (a0.a * (if a0.b > a0.a then a0.b else a0.a)))).2 != (0 : Int)) then ⟨true, ⟨⟨(0 : Int), (0 : Int)⟩, ⟨(0 : Int), (0 : Int)⟩, ⟨(0 : Int), (0 : Int)⟩⟩, (makeF a0.b (w64 (a0.a * (if a0.b > a0.a then a0.b else a0.a)))).2⟩ else (bif ((makeF a0.a (w64 (a0.b * (if a0.b > a0.a then a0.b else a0.a)))).2 != (0 : Int)) then ⟨true, ⟨⟨(0 : Int), (0 : Int)⟩, ⟨(0 : Int), (0 : Int)⟩, ⟨(0 : Int), (0 : Int)⟩⟩, (makeF a0.a (w64 (a0.b * (if a0.b > a0.a then a0.b else a0.a)))).2⟩ else (bif ((scaleV ⟨⟨a1.x.num, a1.x.den⟩, ⟨a1.y.num, a1.y.den⟩, ⟨a1.z.num, a1.z.den⟩⟩ ⟨(((makeF a0.b (w64 (a0.a * (if a0.b > a0.a then a0.b else a0.a)))).1).num), (((makeF a0.b (w64 (a0.a * (if a0.b > a0.a then a0.b else a0.a)))).1).den)⟩).2 != (0 : Int)) then ⟨true, ⟨⟨(0 : Int), (0 : Int)⟩, ⟨(0 : Int), (0 : Int)⟩, ⟨(0 : Int), (0 : Int)⟩⟩, (scaleV ⟨⟨a1.x.num, a1.x.den⟩, ⟨a1.y.num, a1.y.den⟩, ⟨a1.z.num, a1.z.den⟩⟩ ⟨(((makeF a0.b (w64 (a0.a * (if a0.b > a0.a then a0.b else a0.a)))).1).num), (((makeF a0.b (w64 (a0.a * (if a0.b > a0.a then a0.b else a0.a)))).1).den)⟩).2⟩ else (bif ((mulF ⟨a1.z.num, a1.z.den⟩ ⟨(((makeF a0.a (w64 (a0.b * (if a0.b > a0.a then a0.b else a0.a)))).1).num), (((makeF a0.a (w64 (a0.b * (if a0.b > a0.a then a0.b else a0.a)))).1).den)⟩).2 != (0 : Int)) then ⟨true, ⟨⟨(0 : Int), (0 : Int)⟩, ⟨(0 : Int), (0 : Int)⟩, ⟨(0 : Int), (0 : Int)⟩⟩, (mulF ⟨a1.z.num, a1.z.den⟩ ⟨(((makeF a0.a (w64 (a0.b * (if a0.b > a0.a then a0.b else a0.a)))).1).num), (((makeF a0.a (w64 (a0.b * (if a0.b > a0.a then a0.b else a0.a)))).1).den)⟩).2⟩ else ⟨true, ⟨((scaleV ⟨⟨a1.x.num, a1.x.den⟩, ⟨a1.y.num, a1.y.den⟩, ⟨a1.z.num, a1.z.den⟩⟩ ⟨(((makeF a0.b (w64 (a0.a * (if a0.b > a0.a then a0.b else a0.a)))).1).num), (((makeF a0.b (w64 (a0.a * (if a0.b > a0.a then a0.b else a0.a)))).1).den)⟩).1).x, ((scaleV ⟨⟨a1.x.num, a1.x.den⟩, ⟨a1.y.num, a1.y.den⟩, ⟨a1.z.num, a1.z.den⟩⟩ ⟨(((makeF a0.b (w64 (a0.a * (if a0.b > a0.a then a0.b else a0.a)))).1).num), (((makeF a0.b (w64 (a0.a * (if a0.b > a0.a then a0.b else a0.a)))).1).den)⟩).1).y, (mulF ⟨a1.z.num, a1.z.den⟩ ⟨(((makeF a0.a (w64 (a0.b * (if a0.b > a0.a then a0.b else a0.a)))).1).num), (((makeF a0.a (w64 (a0.b * (if a0.b > a0.a then a0.b else a0.a)))).1).den)⟩).1⟩, (0 : Int)⟩)))
def F_rise_uprightOf (_a0 : Globe) (_a1 : Vec) (K : AV → List Blk → Ans) (r : O_rise_uprightOf) : Ans := bif r.ok then K (.tup [.agg [.int .i64 r.r0.x.num, .int .i64 r.r0.x.den, .int .i64 r.r0.y.num, .int .i64 r.r0.y.den, .int .i64 r.r0.z.num, .int .i64 r.r0.z.den], .c (.d (.int .i64 r.r1))]) [] else none
theorem e_rise_uprightOf (a0 : Globe) (a1 : Vec) (K : AV → List Blk → Ans) : evFn Tryd.prog GT EQT T_rise_look XT noL 80 26 [.v (.agg [.int .i64 a0.a, .int .i64 a0.b]), .v (.agg [.int .i64 a1.x.num, .int .i64 a1.x.den, .int .i64 a1.y.num, .int .i64 a1.y.den, .int .i64 a1.z.num, .int .i64 a1.z.den])] [] (fun v M => K (finR 0 v M).1 (finR 0 v M).2) = F_rise_uprightOf a0 a1 K (m_rise_uprightOf a0 a1) := by
  unfold m_rise_uprightOf
  refine Eq.trans ?_ (Eq.symm (pushT rfl (pushT rfl (pushT rfl (pushT rfl rfl)))))
  kernel_rfl
theorem c_rise_uprightOf (a0 : Globe) (a1 : Vec) (hd : (m_rise_uprightOf a0 a1).ok = true) : CallsA Tryd.prog GT gbT 26 [.v (.agg [.int .i64 a0.a, .int .i64 a0.b]), .v (.agg [.int .i64 a1.x.num, .int .i64 a1.x.den, .int .i64 a1.y.num, .int .i64 a1.y.den, .int .i64 a1.z.num, .int .i64 a1.z.den])] [] (.tup [.agg [.int .i64 ((((m_rise_uprightOf a0 a1).r0).x).num), .int .i64 ((((m_rise_uprightOf a0 a1).r0).x).den), .int .i64 ((((m_rise_uprightOf a0 a1).r0).y).num), .int .i64 ((((m_rise_uprightOf a0 a1).r0).y).den), .int .i64 ((((m_rise_uprightOf a0 a1).r0).z).num), .int .i64 ((((m_rise_uprightOf a0 a1).r0).z).den)], .c (.d (.int .i64 ((m_rise_uprightOf a0 a1).r1)))]) [] := by
  refine CallsA.ofEvR g_rise_look hEQT hmT (n0 := 0) rfl (fun _ _ _ _ => LOKn.nil) ((e_rise_uprightOf a0 a1 (fun v M => some (Res.fin v M))).trans ?_)
  unfold F_rise_uprightOf
  rw [hd]
  rfl
def s_rise_uprightOf : List AV → List Blk → (AV → List Blk → Ans) → Ans := fun xs bs K => match xs, bs with
  | [.v (.agg [.int .i64 a0_0, .int .i64 a0_1]), .v (.agg [.int .i64 a1_0, .int .i64 a1_1, .int .i64 a1_2, .int .i64 a1_3, .int .i64 a1_4, .int .i64 a1_5])], [] => F_rise_uprightOf (⟨a0_0, a0_1⟩ : Globe) (⟨⟨a1_0, a1_1⟩, ⟨a1_2, a1_3⟩, ⟨a1_4, a1_5⟩⟩ : Vec) K (m_rise_uprightOf (⟨a0_0, a0_1⟩ : Globe) (⟨⟨a1_0, a1_1⟩, ⟨a1_2, a1_3⟩, ⟨a1_4, a1_5⟩⟩ : Vec))
  | _, _ => none
def T_rise_uprightOf : Nat → List AV → List Blk → (AV → List Blk → Ans) → Ans := upd T_rise_look 26 s_rise_uprightOf
theorem g_rise_uprightOf : GOK Tryd.prog GT gbT T_rise_uprightOf XT := by
  refine GOK.upd g_rise_look (fun args w => Tryd.call26 args w) fun xs bs K r h => ?_
  unfold s_rise_uprightOf at h
  split at h
  · unfold F_rise_uprightOf at h
    simp only [cond_eq_ite] at h
    split at h
    · rename_i hd
      exact ⟨_, _, c_rise_uprightOf _ _ hd, h⟩
    · cases h
  · cases h
structure O_rise_viewOf where
  ok : Bool
  r0 : View
  r1 : Int
def m_rise_viewOf (a0 : Globe) (a1 : Vec) (a2 : Frac) : O_rise_viewOf := bif (m_rise_uprightOf a0 a1).ok then (bif ((m_rise_uprightOf a0 a1).r1 != (0 : Int)) then ⟨true, ⟨⟨⟨(0 : Int), (0 : Int)⟩, ⟨(0 : Int), (0 : Int)⟩, ⟨(0 : Int), (0 : Int)⟩⟩, ⟨(0 : Int), (0 : Int)⟩⟩, (m_rise_uprightOf a0 a1).r1⟩ else (bif ((mulF ⟨a2.num, a2.den⟩ ⟨a2.num, a2.den⟩).2 != (0 : Int)) then ⟨true, ⟨⟨⟨(0 : Int), (0 : Int)⟩, ⟨(0 : Int), (0 : Int)⟩, ⟨(0 : Int), (0 : Int)⟩⟩, ⟨(0 : Int), (0 : Int)⟩⟩, (mulF ⟨a2.num, a2.den⟩ ⟨a2.num, a2.den⟩).2⟩ else (bif ((dotV ⟨⟨((((m_rise_uprightOf a0 a1).r0).x).num), ((((m_rise_uprightOf a0 a1).r0).x).den)⟩, ⟨((((m_rise_uprightOf a0 a1).r0).y).num), ((((m_rise_uprightOf a0 a1).r0).y).den)⟩, ⟨((((m_rise_uprightOf a0 a1).r0).z).num), ((((m_rise_uprightOf a0 a1).r0).z).den)⟩⟩ ⟨⟨((((m_rise_uprightOf a0 a1).r0).x).num), ((((m_rise_uprightOf a0 a1).r0).x).den)⟩, ⟨((((m_rise_uprightOf a0 a1).r0).y).num), ((((m_rise_uprightOf a0 a1).r0).y).den)⟩, ⟨((((m_rise_uprightOf a0 a1).r0).z).num), ((((m_rise_uprightOf a0 a1).r0).z).den)⟩⟩).2 != (0 : Int)) then ⟨true, ⟨⟨⟨(0 : Int), (0 : Int)⟩, ⟨(0 : Int), (0 : Int)⟩, ⟨(0 : Int), (0 : Int)⟩⟩, ⟨(0 : Int), (0 : Int)⟩⟩, (dotV ⟨⟨((((m_rise_uprightOf a0 a1).r0).x).num), ((((m_rise_uprightOf a0 a1).r0).x).den)⟩, ⟨((((m_rise_uprightOf a0 a1).r0).y).num), ((((m_rise_uprightOf a0 a1).r0).y).den)⟩, ⟨((((m_rise_uprightOf a0 a1).r0).z).num), ((((m_rise_uprightOf a0 a1).r0).z).den)⟩⟩ ⟨⟨((((m_rise_uprightOf a0 a1).r0).x).num), ((((m_rise_uprightOf a0 a1).r0).x).den)⟩, ⟨((((m_rise_uprightOf a0 a1).r0).y).num), ((((m_rise_uprightOf a0 a1).r0).y).den)⟩, ⟨((((m_rise_uprightOf a0 a1).r0).z).num), ((((m_rise_uprightOf a0 a1).r0).z).den)⟩⟩).2⟩ else (bif ((ofS ⟨(((mulF ⟨a2.num, a2.den⟩ ⟨a2.num, a2.den⟩).1).num), (((mulF ⟨a2.num, a2.den⟩ ⟨a2.num, a2.den⟩).1).den)⟩).2 != (0 : Int)) then ⟨true, ⟨⟨⟨(0 : Int), (0 : Int)⟩, ⟨(0 : Int), (0 : Int)⟩, ⟨(0 : Int), (0 : Int)⟩⟩, ⟨(0 : Int), (0 : Int)⟩⟩, (ofS ⟨(((mulF ⟨a2.num, a2.den⟩ ⟨a2.num, a2.den⟩).1).num), (((mulF ⟨a2.num, a2.den⟩ ⟨a2.num, a2.den⟩).1).den)⟩).2⟩ else (bif ((ofS ⟨(((dotV ⟨⟨((((m_rise_uprightOf a0 a1).r0).x).num), ((((m_rise_uprightOf a0 a1).r0).x).den)⟩, ⟨((((m_rise_uprightOf a0 a1).r0).y).num), ((((m_rise_uprightOf a0 a1).r0).y).den)⟩, ⟨((((m_rise_uprightOf a0 a1).r0).z).num), ((((m_rise_uprightOf a0 a1).r0).z).den)⟩⟩ ⟨⟨((((m_rise_uprightOf a0 a1).r0).x).num), ((((m_rise_uprightOf a0 a1).r0).x).den)⟩, ⟨((((m_rise_uprightOf a0 a1).r0).y).num), ((((m_rise_uprightOf a0 a1).r0).y).den)⟩, ⟨((((m_rise_uprightOf a0 a1).r0).z).num), ((((m_rise_uprightOf a0 a1).r0).z).den)⟩⟩).1).num), (((dotV ⟨⟨((((m_rise_uprightOf a0 a1).r0).x).num), ((((m_rise_uprightOf a0 a1).r0).x).den)⟩, ⟨((((m_rise_uprightOf a0 a1).r0).y).num), ((((m_rise_uprightOf a0 a1).r0).y).den)⟩, ⟨((((m_rise_uprightOf a0 a1).r0).z).num), ((((m_rise_uprightOf a0 a1).r0).z).den)⟩⟩ ⟨⟨((((m_rise_uprightOf a0 a1).r0).x).num), ((((m_rise_uprightOf a0 a1).r0).x).den)⟩, ⟨((((m_rise_uprightOf a0 a1).r0).y).num), ((((m_rise_uprightOf a0 a1).r0).y).den)⟩, ⟨((((m_rise_uprightOf a0 a1).r0).z).num), ((((m_rise_uprightOf a0 a1).r0).z).den)⟩⟩).1).den)⟩).2 != (0 : Int)) then ⟨true, ⟨⟨⟨(0 : Int), (0 : Int)⟩, ⟨(0 : Int), (0 : Int)⟩, ⟨(0 : Int), (0 : Int)⟩⟩, ⟨(0 : Int), (0 : Int)⟩⟩, (ofS ⟨(((dotV ⟨⟨((((m_rise_uprightOf a0 a1).r0).x).num), ((((m_rise_uprightOf a0 a1).r0).x).den)⟩, ⟨((((m_rise_uprightOf a0 a1).r0).y).num), ((((m_rise_uprightOf a0 a1).r0).y).den)⟩, ⟨((((m_rise_uprightOf a0 a1).r0).z).num), ((((m_rise_uprightOf a0 a1).r0).z).den)⟩⟩ ⟨⟨((((m_rise_uprightOf a0 a1).r0).x).num), ((((m_rise_uprightOf a0 a1).r0).x).den)⟩, ⟨((((m_rise_uprightOf a0 a1).r0).y).num), ((((m_rise_uprightOf a0 a1).r0).y).den)⟩, ⟨((((m_rise_uprightOf a0 a1).r0).z).num), ((((m_rise_uprightOf a0 a1).r0).z).den)⟩⟩).1).num), (((dotV ⟨⟨((((m_rise_uprightOf a0 a1).r0).x).num), ((((m_rise_uprightOf a0 a1).r0).x).den)⟩, ⟨((((m_rise_uprightOf a0 a1).r0).y).num), ((((m_rise_uprightOf a0 a1).r0).y).den)⟩, ⟨((((m_rise_uprightOf a0 a1).r0).z).num), ((((m_rise_uprightOf a0 a1).r0).z).den)⟩⟩ ⟨⟨((((m_rise_uprightOf a0 a1).r0).x).num), ((((m_rise_uprightOf a0 a1).r0).x).den)⟩, ⟨((((m_rise_uprightOf a0 a1).r0).y).num), ((((m_rise_uprightOf a0 a1).r0).y).den)⟩, ⟨((((m_rise_uprightOf a0 a1).r0).z).num), ((((m_rise_uprightOf a0 a1).r0).z).den)⟩⟩).1).den)⟩).2⟩ else (bif ((mulS ⟨(((ofS ⟨(((mulF ⟨a2.num, a2.den⟩ ⟨a2.num, a2.den⟩).1).num), (((mulF ⟨a2.num, a2.den⟩ ⟨a2.num, a2.den⟩).1).den)⟩).1).lo), (((ofS ⟨(((mulF ⟨a2.num, a2.den⟩ ⟨a2.num, a2.den⟩).1).num), (((mulF ⟨a2.num, a2.den⟩ ⟨a2.num, a2.den⟩).1).den)⟩).1).hi)⟩ ⟨(((ofS ⟨(((dotV ⟨⟨((((m_rise_uprightOf a0 a1).r0).x).num), ((((m_rise_uprightOf a0 a1).r0).x).den)⟩, ⟨((((m_rise_uprightOf a0 a1).r0).y).num), ((((m_rise_uprightOf a0 a1).r0).y).den)⟩, ⟨((((m_rise_uprightOf a0 a1).r0).z).num), ((((m_rise_uprightOf a0 a1).r0).z).den)⟩⟩ ⟨⟨((((m_rise_uprightOf a0 a1).r0).x).num), ((((m_rise_uprightOf a0 a1).r0).x).den)⟩, ⟨((((m_rise_uprightOf a0 a1).r0).y).num), ((((m_rise_uprightOf a0 a1).r0).y).den)⟩, ⟨((((m_rise_uprightOf a0 a1).r0).z).num), ((((m_rise_uprightOf a0 a1).r0).z).den)⟩⟩).1).num), (((dotV ⟨⟨((((m_rise_uprightOf a0 a1).r0).x).num), ((((m_rise_uprightOf a0 a1).r0).x).den)⟩, ⟨((((m_rise_uprightOf a0 a1).r0).y).num), ((((m_rise_uprightOf a0 a1).r0).y).den)⟩, ⟨((((m_rise_uprightOf a0 a1).r0).z).num), ((((m_rise_uprightOf a0 a1).r0).z).den)⟩⟩ ⟨⟨((((m_rise_uprightOf a0 a1).r0).x).num), ((((m_rise_uprightOf a0 a1).r0).x).den)⟩, ⟨((((m_rise_uprightOf a0 a1).r0).y).num), ((((m_rise_uprightOf a0 a1).r0).y).den)⟩, ⟨((((m_rise_uprightOf a0 a1).r0).z).num), ((((m_rise_uprightOf a0 a1).r0).z).den)⟩⟩).1).den)⟩).1).lo), (((ofS ⟨(((dotV ⟨⟨((((m_rise_uprightOf a0 a1).r0).x).num), ((((m_rise_uprightOf a0 a1).r0).x).den)⟩, ⟨((((m_rise_uprightOf a0 a1).r0).y).num), ((((m_rise_uprightOf a0 a1).r0).y).den)⟩, ⟨((((m_rise_uprightOf a0 a1).r0).z).num), ((((m_rise_uprightOf a0 a1).r0).z).den)⟩⟩ ⟨⟨((((m_rise_uprightOf a0 a1).r0).x).num), ((((m_rise_uprightOf a0 a1).r0).x).den)⟩, ⟨((((m_rise_uprightOf a0 a1).r0).y).num), ((((m_rise_uprightOf a0 a1).r0).y).den)⟩, ⟨((((m_rise_uprightOf a0 a1).r0).z).num), ((((m_rise_uprightOf a0 a1).r0).z).den)⟩⟩).1).num), (((dotV ⟨⟨((((m_rise_uprightOf a0 a1).r0).x).num), ((((m_rise_uprightOf a0 a1).r0).x).den)⟩, ⟨((((m_rise_uprightOf a0 a1).r0).y).num), ((((m_rise_uprightOf a0 a1).r0).y).den)⟩, ⟨((((m_rise_uprightOf a0 a1).r0).z).num), ((((m_rise_uprightOf a0 a1).r0).z).den)⟩⟩ ⟨⟨((((m_rise_uprightOf a0 a1).r0).x).num), ((((m_rise_uprightOf a0 a1).r0).x).den)⟩, ⟨((((m_rise_uprightOf a0 a1).r0).y).num), ((((m_rise_uprightOf a0 a1).r0).y).den)⟩, ⟨((((m_rise_uprightOf a0 a1).r0).z).num), ((((m_rise_uprightOf a0 a1).r0).z).den)⟩⟩).1).den)⟩).1).hi)⟩).2 != (0 : Int)) then ⟨true, ⟨⟨⟨(0 : Int), (0 : Int)⟩, ⟨(0 : Int), (0 : Int)⟩, ⟨(0 : Int), (0 : Int)⟩⟩, ⟨(0 : Int), (0 : Int)⟩⟩, (mulS ⟨(((ofS ⟨(((mulF ⟨a2.num, a2.den⟩ ⟨a2.num, a2.den⟩).1).num), (((mulF ⟨a2.num, a2.den⟩ ⟨a2.num, a2.den⟩).1).den)⟩).1).lo), (((ofS ⟨(((mulF ⟨a2.num, a2.den⟩ ⟨a2.num, a2.den⟩).1).num), (((mulF ⟨a2.num, a2.den⟩ ⟨a2.num, a2.den⟩).1).den)⟩).1).hi)⟩ ⟨(((ofS ⟨(((dotV ⟨⟨((((m_rise_uprightOf a0 a1).r0).x).num), ((((m_rise_uprightOf a0 a1).r0).x).den)⟩, ⟨((((m_rise_uprightOf a0 a1).r0).y).num), ((((m_rise_uprightOf a0 a1).r0).y).den)⟩, ⟨((((m_rise_uprightOf a0 a1).r0).z).num), ((((m_rise_uprightOf a0 a1).r0).z).den)⟩⟩ ⟨⟨((((m_rise_uprightOf a0 a1).r0).x).num), ((((m_rise_uprightOf a0 a1).r0).x).den)⟩, ⟨((((m_rise_uprightOf a0 a1).r0).y).num), ((((m_rise_uprightOf a0 a1).r0).y).den)⟩, ⟨((((m_rise_uprightOf a0 a1).r0).z).num), ((((m_rise_uprightOf a0 a1).r0).z).den)⟩⟩).1).num), (((dotV ⟨⟨((((m_rise_uprightOf a0 a1).r0).x).num), ((((m_rise_uprightOf a0 a1).r0).x).den)⟩, ⟨((((m_rise_uprightOf a0 a1).r0).y).num), ((((m_rise_uprightOf a0 a1).r0).y).den)⟩, ⟨((((m_rise_uprightOf a0 a1).r0).z).num), ((((m_rise_uprightOf a0 a1).r0).z).den)⟩⟩ ⟨⟨((((m_rise_uprightOf a0 a1).r0).x).num), ((((m_rise_uprightOf a0 a1).r0).x).den)⟩, ⟨((((m_rise_uprightOf a0 a1).r0).y).num), ((((m_rise_uprightOf a0 a1).r0).y).den)⟩, ⟨((((m_rise_uprightOf a0 a1).r0).z).num), ((((m_rise_uprightOf a0 a1).r0).z).den)⟩⟩).1).den)⟩).1).lo), (((ofS ⟨(((dotV ⟨⟨((((m_rise_uprightOf a0 a1).r0).x).num), ((((m_rise_uprightOf a0 a1).r0).x).den)⟩, ⟨((((m_rise_uprightOf a0 a1).r0).y).num), ((((m_rise_uprightOf a0 a1).r0).y).den)⟩, ⟨((((m_rise_uprightOf a0 a1).r0).z).num), ((((m_rise_uprightOf a0 a1).r0).z).den)⟩⟩ ⟨⟨((((m_rise_uprightOf a0 a1).r0).x).num), ((((m_rise_uprightOf a0 a1).r0).x).den)⟩, ⟨((((m_rise_uprightOf a0 a1).r0).y).num), ((((m_rise_uprightOf a0 a1).r0).y).den)⟩, ⟨((((m_rise_uprightOf a0 a1).r0).z).num), ((((m_rise_uprightOf a0 a1).r0).z).den)⟩⟩).1).num), (((dotV ⟨⟨((((m_rise_uprightOf a0 a1).r0).x).num), ((((m_rise_uprightOf a0 a1).r0).x).den)⟩, ⟨((((m_rise_uprightOf a0 a1).r0).y).num), ((((m_rise_uprightOf a0 a1).r0).y).den)⟩, ⟨((((m_rise_uprightOf a0 a1).r0).z).num), ((((m_rise_uprightOf a0 a1).r0).z).den)⟩⟩ ⟨⟨((((m_rise_uprightOf a0 a1).r0).x).num), ((((m_rise_uprightOf a0 a1).r0).x).den)⟩, ⟨((((m_rise_uprightOf a0 a1).r0).y).num), ((((m_rise_uprightOf a0 a1).r0).y).den)⟩, ⟨((((m_rise_uprightOf a0 a1).r0).z).num), ((((m_rise_uprightOf a0 a1).r0).z).den)⟩⟩).1).den)⟩).1).hi)⟩).2⟩ else ⟨true, ⟨(m_rise_uprightOf a0 a1).r0, (mulS ⟨(((ofS ⟨(((mulF ⟨a2.num, a2.den⟩ ⟨a2.num, a2.den⟩).1).num), (((mulF ⟨a2.num, a2.den⟩ ⟨a2.num, a2.den⟩).1).den)⟩).1).lo), (((ofS ⟨(((mulF ⟨a2.num, a2.den⟩ ⟨a2.num, a2.den⟩).1).num), (((mulF ⟨a2.num, a2.den⟩ ⟨a2.num, a2.den⟩).1).den)⟩).1).hi)⟩ ⟨(((ofS ⟨(((dotV ⟨⟨((((m_rise_uprightOf a0 a1).r0).x).num), ((((m_rise_uprightOf a0 a1).r0).x).den)⟩, ⟨((((m_rise_uprightOf a0 a1).r0).y).num), ((((m_rise_uprightOf a0 a1).r0).y).den)⟩, ⟨((((m_rise_uprightOf a0 a1).r0).z).num), ((((m_rise_uprightOf a0 a1).r0).z).den)⟩⟩ ⟨⟨((((m_rise_uprightOf a0 a1).r0).x).num), ((((m_rise_uprightOf a0 a1).r0).x).den)⟩, ⟨((((m_rise_uprightOf a0 a1).r0).y).num), ((((m_rise_uprightOf a0 a1).r0).y).den)⟩, ⟨((((m_rise_uprightOf a0 a1).r0).z).num), ((((m_rise_uprightOf a0 a1).r0).z).den)⟩⟩).1).num), (((dotV ⟨⟨((((m_rise_uprightOf a0 a1).r0).x).num), ((((m_rise_uprightOf a0 a1).r0).x).den)⟩, ⟨((((m_rise_uprightOf a0 a1).r0).y).num), ((((m_rise_uprightOf a0 a1).r0).y).den)⟩, ⟨((((m_rise_uprightOf a0 a1).r0).z).num), ((((m_rise_uprightOf a0 a1).r0).z).den)⟩⟩ ⟨⟨((((m_rise_uprightOf a0 a1).r0).x).num), ((((m_rise_uprightOf a0 a1).r0).x).den)⟩, ⟨((((m_rise_uprightOf a0 a1).r0).y).num), ((((m_rise_uprightOf a0 a1).r0).y).den)⟩, ⟨((((m_rise_uprightOf a0 a1).r0).z).num), ((((m_rise_uprightOf a0 a1).r0).z).den)⟩⟩).1).den)⟩).1).lo), (((ofS ⟨(((dotV ⟨⟨((((m_rise_uprightOf a0 a1).r0).x).num), ((((m_rise_uprightOf a0 a1).r0).x).den)⟩, ⟨((((m_rise_uprightOf a0 a1).r0).y).num), ((((m_rise_uprightOf a0 a1).r0).y).den)⟩, ⟨((((m_rise_uprightOf a0 a1).r0).z).num), ((((m_rise_uprightOf a0 a1).r0).z).den)⟩⟩ ⟨⟨((((m_rise_uprightOf a0 a1).r0).x).num), ((((m_rise_uprightOf a0 a1).r0).x).den)⟩, ⟨((((m_rise_uprightOf a0 a1).r0).y).num), ((((m_rise_uprightOf a0 a1).r0).y).den)⟩, ⟨((((m_rise_uprightOf a0 a1).r0).z).num), ((((m_rise_uprightOf a0 a1).r0).z).den)⟩⟩).1).num), (((dotV ⟨⟨((((m_rise_uprightOf a0 a1).r0).x).num), ((((m_rise_uprightOf a0 a1).r0).x).den)⟩, ⟨((((m_rise_uprightOf a0 a1).r0).y).num), ((((m_rise_uprightOf a0 a1).r0).y).den)⟩, ⟨((((m_rise_uprightOf a0 a1).r0).z).num), ((((m_rise_uprightOf a0 a1).r0).z).den)⟩⟩ ⟨⟨((((m_rise_uprightOf a0 a1).r0).x).num), ((((m_rise_uprightOf a0 a1).r0).x).den)⟩, ⟨((((m_rise_uprightOf a0 a1).r0).y).num), ((((m_rise_uprightOf a0 a1).r0).y).den)⟩, ⟨((((m_rise_uprightOf a0 a1).r0).z).num), ((((m_rise_uprightOf a0 a1).r0).z).den)⟩⟩).1).den)⟩).1).hi)⟩).1⟩, (0 : Int)⟩)))))) else ⟨false, ⟨⟨⟨0, 0⟩, ⟨0, 0⟩, ⟨0, 0⟩⟩, ⟨0, 0⟩⟩, 0⟩
def F_rise_viewOf (_a0 : Globe) (_a1 : Vec) (_a2 : Frac) (K : AV → List Blk → Ans) (r : O_rise_viewOf) : Ans := bif r.ok then K (.tup [.agg [.int .i64 r.r0.up.x.num, .int .i64 r.r0.up.x.den, .int .i64 r.r0.up.y.num, .int .i64 r.r0.up.y.den, .int .i64 r.r0.up.z.num, .int .i64 r.r0.up.z.den, .int .i64 r.r0.bound.lo, .int .i64 r.r0.bound.hi], .c (.d (.int .i64 r.r1))]) [] else none
theorem e_rise_viewOf (a0 : Globe) (a1 : Vec) (a2 : Frac) (K : AV → List Blk → Ans) : evFn Tryd.prog GT EQT T_rise_uprightOf XT noL 80 16 [.v (.agg [.int .i64 a0.a, .int .i64 a0.b]), .v (.agg [.int .i64 a1.x.num, .int .i64 a1.x.den, .int .i64 a1.y.num, .int .i64 a1.y.den, .int .i64 a1.z.num, .int .i64 a1.z.den]), .v (.agg [.int .i64 a2.num, .int .i64 a2.den])] [] (fun v M => K (finR 0 v M).1 (finR 0 v M).2) = F_rise_viewOf a0 a1 a2 K (m_rise_viewOf a0 a1 a2) := by
  unfold m_rise_viewOf
  refine Eq.trans ?_ (Eq.symm (pushT (pushT rfl (pushT rfl (pushT rfl (pushT rfl (pushT rfl (pushT rfl rfl)))))) rfl))
  kernel_rfl
theorem c_rise_viewOf (a0 : Globe) (a1 : Vec) (a2 : Frac) (hd : (m_rise_viewOf a0 a1 a2).ok = true) : CallsA Tryd.prog GT gbT 16 [.v (.agg [.int .i64 a0.a, .int .i64 a0.b]), .v (.agg [.int .i64 a1.x.num, .int .i64 a1.x.den, .int .i64 a1.y.num, .int .i64 a1.y.den, .int .i64 a1.z.num, .int .i64 a1.z.den]), .v (.agg [.int .i64 a2.num, .int .i64 a2.den])] [] (.tup [.agg [.int .i64 (((((m_rise_viewOf a0 a1 a2).r0).up).x).num), .int .i64 (((((m_rise_viewOf a0 a1 a2).r0).up).x).den), .int .i64 (((((m_rise_viewOf a0 a1 a2).r0).up).y).num), .int .i64 (((((m_rise_viewOf a0 a1 a2).r0).up).y).den), .int .i64 (((((m_rise_viewOf a0 a1 a2).r0).up).z).num), .int .i64 (((((m_rise_viewOf a0 a1 a2).r0).up).z).den), .int .i64 ((((m_rise_viewOf a0 a1 a2).r0).bound).lo), .int .i64 ((((m_rise_viewOf a0 a1 a2).r0).bound).hi)], .c (.d (.int .i64 ((m_rise_viewOf a0 a1 a2).r1)))]) [] := by
  refine CallsA.ofEvR g_rise_uprightOf hEQT hmT (n0 := 0) rfl (fun _ _ _ _ => LOKn.nil) ((e_rise_viewOf a0 a1 a2 (fun v M => some (Res.fin v M))).trans ?_)
  unfold F_rise_viewOf
  rw [hd]
  rfl
def s_rise_viewOf : List AV → List Blk → (AV → List Blk → Ans) → Ans := fun xs bs K => match xs, bs with
  | [.v (.agg [.int .i64 a0_0, .int .i64 a0_1]), .v (.agg [.int .i64 a1_0, .int .i64 a1_1, .int .i64 a1_2, .int .i64 a1_3, .int .i64 a1_4, .int .i64 a1_5]), .v (.agg [.int .i64 a2_0, .int .i64 a2_1])], [] => F_rise_viewOf (⟨a0_0, a0_1⟩ : Globe) (⟨⟨a1_0, a1_1⟩, ⟨a1_2, a1_3⟩, ⟨a1_4, a1_5⟩⟩ : Vec) (⟨a2_0, a2_1⟩ : Frac) K (m_rise_viewOf (⟨a0_0, a0_1⟩ : Globe) (⟨⟨a1_0, a1_1⟩, ⟨a1_2, a1_3⟩, ⟨a1_4, a1_5⟩⟩ : Vec) (⟨a2_0, a2_1⟩ : Frac))
  | _, _ => none
def T_rise_viewOf : Nat → List AV → List Blk → (AV → List Blk → Ans) → Ans := upd T_rise_uprightOf 16 s_rise_viewOf
theorem g_rise_viewOf : GOK Tryd.prog GT gbT T_rise_viewOf XT := by
  refine GOK.upd g_rise_uprightOf (fun args w => Tryd.call16 args w) fun xs bs K r h => ?_
  unfold s_rise_viewOf at h
  split at h
  · unfold F_rise_viewOf at h
    simp only [cond_eq_ite] at h
    split at h
    · rename_i hd
      exact ⟨_, _, c_rise_viewOf _ _ _ hd, h⟩
    · cases h
  · cases h
structure O__rise_view__state where
  ok : Bool
  r0 : Int
  r1 : Int
def m__rise_view__state (a0 : View) (a1 : Dir) : O__rise_view__state := bif ((alongS ⟨⟨a1.x.lo, a1.x.hi⟩, ⟨a1.y.lo, a1.y.hi⟩, ⟨a1.z.lo, a1.z.hi⟩⟩ ⟨⟨a0.up.x.num, a0.up.x.den⟩, ⟨a0.up.y.num, a0.up.y.den⟩, ⟨a0.up.z.num, a0.up.z.den⟩⟩).2 != (0 : Int)) then ⟨true, (0 : Int), (alongS ⟨⟨a1.x.lo, a1.x.hi⟩, ⟨a1.y.lo, a1.y.hi⟩, ⟨a1.z.lo, a1.z.hi⟩⟩ ⟨⟨a0.up.x.num, a0.up.x.den⟩, ⟨a0.up.y.num, a0.up.y.den⟩, ⟨a0.up.z.num, a0.up.z.den⟩⟩).2⟩ else (bif ((mulS ⟨(((alongS ⟨⟨a1.x.lo, a1.x.hi⟩, ⟨a1.y.lo, a1.y.hi⟩, ⟨a1.z.lo, a1.z.hi⟩⟩ ⟨⟨a0.up.x.num, a0.up.x.den⟩, ⟨a0.up.y.num, a0.up.y.den⟩, ⟨a0.up.z.num, a0.up.z.den⟩⟩).1).lo), (((alongS ⟨⟨a1.x.lo, a1.x.hi⟩, ⟨a1.y.lo, a1.y.hi⟩, ⟨a1.z.lo, a1.z.hi⟩⟩ ⟨⟨a0.up.x.num, a0.up.x.den⟩, ⟨a0.up.y.num, a0.up.y.den⟩, ⟨a0.up.z.num, a0.up.z.den⟩⟩).1).hi)⟩ ⟨(((alongS ⟨⟨a1.x.lo, a1.x.hi⟩, ⟨a1.y.lo, a1.y.hi⟩, ⟨a1.z.lo, a1.z.hi⟩⟩ ⟨⟨a0.up.x.num, a0.up.x.den⟩, ⟨a0.up.y.num, a0.up.y.den⟩, ⟨a0.up.z.num, a0.up.z.den⟩⟩).1).lo), (((alongS ⟨⟨a1.x.lo, a1.x.hi⟩, ⟨a1.y.lo, a1.y.hi⟩, ⟨a1.z.lo, a1.z.hi⟩⟩ ⟨⟨a0.up.x.num, a0.up.x.den⟩, ⟨a0.up.y.num, a0.up.y.den⟩, ⟨a0.up.z.num, a0.up.z.den⟩⟩).1).hi)⟩).2 != (0 : Int)) then ⟨true, (0 : Int), (mulS ⟨(((alongS ⟨⟨a1.x.lo, a1.x.hi⟩, ⟨a1.y.lo, a1.y.hi⟩, ⟨a1.z.lo, a1.z.hi⟩⟩ ⟨⟨a0.up.x.num, a0.up.x.den⟩, ⟨a0.up.y.num, a0.up.y.den⟩, ⟨a0.up.z.num, a0.up.z.den⟩⟩).1).lo), (((alongS ⟨⟨a1.x.lo, a1.x.hi⟩, ⟨a1.y.lo, a1.y.hi⟩, ⟨a1.z.lo, a1.z.hi⟩⟩ ⟨⟨a0.up.x.num, a0.up.x.den⟩, ⟨a0.up.y.num, a0.up.y.den⟩, ⟨a0.up.z.num, a0.up.z.den⟩⟩).1).hi)⟩ ⟨(((alongS ⟨⟨a1.x.lo, a1.x.hi⟩, ⟨a1.y.lo, a1.y.hi⟩, ⟨a1.z.lo, a1.z.hi⟩⟩ ⟨⟨a0.up.x.num, a0.up.x.den⟩, ⟨a0.up.y.num, a0.up.y.den⟩, ⟨a0.up.z.num, a0.up.z.den⟩⟩).1).lo), (((alongS ⟨⟨a1.x.lo, a1.x.hi⟩, ⟨a1.y.lo, a1.y.hi⟩, ⟨a1.z.lo, a1.z.hi⟩⟩ ⟨⟨a0.up.x.num, a0.up.x.den⟩, ⟨a0.up.y.num, a0.up.y.den⟩, ⟨a0.up.z.num, a0.up.z.den⟩⟩).1).hi)⟩).2⟩ else (bif decide ((0 : Int) < ((alongS ⟨⟨a1.x.lo, a1.x.hi⟩, ⟨a1.y.lo, a1.y.hi⟩, ⟨a1.z.lo, a1.z.hi⟩⟩ ⟨⟨a0.up.x.num, a0.up.x.den⟩, ⟨a0.up.y.num, a0.up.y.den⟩, ⟨a0.up.z.num, a0.up.z.den⟩⟩).1).lo) then (bif decide (a0.bound.hi < ((mulS ⟨(((alongS ⟨⟨a1.x.lo, a1.x.hi⟩, ⟨a1.y.lo, a1.y.hi⟩, ⟨a1.z.lo, a1.z.hi⟩⟩ ⟨⟨a0.up.x.num, a0.up.x.den⟩, ⟨a0.up.y.num, a0.up.y.den⟩, ⟨a0.up.z.num, a0.up.z.den⟩⟩).1).lo), (((alongS ⟨⟨a1.x.lo, a1.x.hi⟩, ⟨a1.y.lo, a1.y.hi⟩, ⟨a1.z.lo, a1.z.hi⟩⟩ ⟨⟨a0.up.x.num, a0.up.x.den⟩, ⟨a0.up.y.num, a0.up.y.den⟩, ⟨a0.up.z.num, a0.up.z.den⟩⟩).1).hi)⟩ ⟨(((alongS ⟨⟨a1.x.lo, a1.x.hi⟩, ⟨a1.y.lo, a1.y.hi⟩, ⟨a1.z.lo, a1.z.hi⟩⟩ ⟨⟨a0.up.x.num, a0.up.x.den⟩, ⟨a0.up.y.num, a0.up.y.den⟩, ⟨a0.up.z.num, a0.up.z.den⟩⟩).1).lo), (((alongS ⟨⟨a1.x.lo, a1.x.hi⟩, ⟨a1.y.lo, a1.y.hi⟩, ⟨a1.z.lo, a1.z.hi⟩⟩ ⟨⟨a0.up.x.num, a0.up.x.den⟩, ⟨a0.up.y.num, a0.up.y.den⟩, ⟨a0.up.z.num, a0.up.z.den⟩⟩).1).hi)⟩).1).lo) then ⟨true, (1 : Int), (0 : Int)⟩ else (bif decide (((alongS ⟨⟨a1.x.lo, a1.x.hi⟩, ⟨a1.y.lo, a1.y.hi⟩, ⟨a1.z.lo, a1.z.hi⟩⟩ ⟨⟨a0.up.x.num, a0.up.x.den⟩, ⟨a0.up.y.num, a0.up.y.den⟩, ⟨a0.up.z.num, a0.up.z.den⟩⟩).1).hi < (0 : Int)) then ⟨true, (-1 : Int), (0 : Int)⟩ else (bif decide (((mulS ⟨(((alongS ⟨⟨a1.x.lo, a1.x.hi⟩, ⟨a1.y.lo, a1.y.hi⟩, ⟨a1.z.lo, a1.z.hi⟩⟩ ⟨⟨a0.up.x.num, a0.up.x.den⟩, ⟨a0.up.y.num, a0.up.y.den⟩, ⟨a0.up.z.num, a0.up.z.den⟩⟩).1).lo), (((alongS ⟨⟨a1.x.lo, a1.x.hi⟩, ⟨a1.y.lo, a1.y.hi⟩, ⟨a1.z.lo, a1.z.hi⟩⟩ ⟨⟨a0.up.x.num, a0.up.x.den⟩, ⟨a0.up.y.num, a0.up.y.den⟩, ⟨a0.up.z.num, a0.up.z.den⟩⟩).1).hi)⟩ ⟨(((alongS ⟨⟨a1.x.lo, a1.x.hi⟩, ⟨a1.y.lo, a1.y.hi⟩, ⟨a1.z.lo, a1.z.hi⟩⟩ ⟨⟨a0.up.x.num, a0.up.x.den⟩, ⟨a0.up.y.num, a0.up.y.den⟩, ⟨a0.up.z.num, a0.up.z.den⟩⟩).1).lo), (((alongS ⟨⟨a1.x.lo, a1.x.hi⟩, ⟨a1.y.lo, a1.y.hi⟩, ⟨a1.z.lo, a1.z.hi⟩⟩ ⟨⟨a0.up.x.num, a0.up.x.den⟩, ⟨a0.up.y.num, a0.up.y.den⟩, ⟨a0.up.z.num, a0.up.z.den⟩⟩).1).hi)⟩).1).hi < a0.bound.lo) then ⟨true, (-1 : Int), (0 : Int)⟩ else ⟨true, (0 : Int), (0 : Int)⟩))) else (bif decide (((alongS ⟨⟨a1.x.lo, a1.x.hi⟩, ⟨a1.y.lo, a1.y.hi⟩, ⟨a1.z.lo, a1.z.hi⟩⟩ ⟨⟨a0.up.x.num, a0.up.x.den⟩, ⟨a0.up.y.num, a0.up.y.den⟩, ⟨a0.up.z.num, a0.up.z.den⟩⟩).1).hi < (0 : Int)) then ⟨true, (-1 : Int), (0 : Int)⟩ else (bif decide (((mulS ⟨(((alongS ⟨⟨a1.x.lo, a1.x.hi⟩, ⟨a1.y.lo, a1.y.hi⟩, ⟨a1.z.lo, a1.z.hi⟩⟩ ⟨⟨a0.up.x.num, a0.up.x.den⟩, ⟨a0.up.y.num, a0.up.y.den⟩, ⟨a0.up.z.num, a0.up.z.den⟩⟩).1).lo), (((alongS ⟨⟨a1.x.lo, a1.x.hi⟩, ⟨a1.y.lo, a1.y.hi⟩, ⟨a1.z.lo, a1.z.hi⟩⟩ ⟨⟨a0.up.x.num, a0.up.x.den⟩, ⟨a0.up.y.num, a0.up.y.den⟩, ⟨a0.up.z.num, a0.up.z.den⟩⟩).1).hi)⟩ ⟨(((alongS ⟨⟨a1.x.lo, a1.x.hi⟩, ⟨a1.y.lo, a1.y.hi⟩, ⟨a1.z.lo, a1.z.hi⟩⟩ ⟨⟨a0.up.x.num, a0.up.x.den⟩, ⟨a0.up.y.num, a0.up.y.den⟩, ⟨a0.up.z.num, a0.up.z.den⟩⟩).1).lo), (((alongS ⟨⟨a1.x.lo, a1.x.hi⟩, ⟨a1.y.lo, a1.y.hi⟩, ⟨a1.z.lo, a1.z.hi⟩⟩ ⟨⟨a0.up.x.num, a0.up.x.den⟩, ⟨a0.up.y.num, a0.up.y.den⟩, ⟨a0.up.z.num, a0.up.z.den⟩⟩).1).hi)⟩).1).hi < a0.bound.lo) then ⟨true, (-1 : Int), (0 : Int)⟩ else ⟨true, (0 : Int), (0 : Int)⟩))))
def F__rise_view__state (_a0 : View) (_a1 : Dir) (K : AV → List Blk → Ans) (r : O__rise_view__state) : Ans := bif r.ok then K (.tup [.c (.d (.int .i64 r.r0)), .c (.d (.int .i64 r.r1))]) [] else none
theorem e__rise_view__state (a0 : View) (a1 : Dir) (K : AV → List Blk → Ans) : evFn Tryd.prog GT EQT T_rise_viewOf XT noL 80 17 [.v (.agg [.int .i64 a0.up.x.num, .int .i64 a0.up.x.den, .int .i64 a0.up.y.num, .int .i64 a0.up.y.den, .int .i64 a0.up.z.num, .int .i64 a0.up.z.den, .int .i64 a0.bound.lo, .int .i64 a0.bound.hi]), .v (.agg [.int .i64 a1.x.lo, .int .i64 a1.x.hi, .int .i64 a1.y.lo, .int .i64 a1.y.hi, .int .i64 a1.z.lo, .int .i64 a1.z.hi])] [] (fun v M => K (finR 0 v M).1 (finR 0 v M).2) = F__rise_view__state a0 a1 K (m__rise_view__state a0 a1) := by
  unfold m__rise_view__state
  refine Eq.trans ?_ (Eq.symm (pushT rfl (pushT rfl (pushT (pushT rfl (pushT rfl (pushT rfl rfl))) (pushT rfl (pushT rfl rfl))))))
  kernel_rfl
theorem c__rise_view__state (a0 : View) (a1 : Dir) (hd : (m__rise_view__state a0 a1).ok = true) : CallsA Tryd.prog GT gbT 17 [.v (.agg [.int .i64 a0.up.x.num, .int .i64 a0.up.x.den, .int .i64 a0.up.y.num, .int .i64 a0.up.y.den, .int .i64 a0.up.z.num, .int .i64 a0.up.z.den, .int .i64 a0.bound.lo, .int .i64 a0.bound.hi]), .v (.agg [.int .i64 a1.x.lo, .int .i64 a1.x.hi, .int .i64 a1.y.lo, .int .i64 a1.y.hi, .int .i64 a1.z.lo, .int .i64 a1.z.hi])] [] (.tup [.c (.d (.int .i64 ((m__rise_view__state a0 a1).r0))), .c (.d (.int .i64 ((m__rise_view__state a0 a1).r1)))]) [] := by
  refine CallsA.ofEvR g_rise_viewOf hEQT hmT (n0 := 0) rfl (fun _ _ _ _ => LOKn.nil) ((e__rise_view__state a0 a1 (fun v M => some (Res.fin v M))).trans ?_)
  unfold F__rise_view__state
  rw [hd]
  rfl
def s__rise_view__state : List AV → List Blk → (AV → List Blk → Ans) → Ans := fun xs bs K => match xs, bs with
  | [.v (.agg [.int .i64 a0_0, .int .i64 a0_1, .int .i64 a0_2, .int .i64 a0_3, .int .i64 a0_4, .int .i64 a0_5, .int .i64 a0_6, .int .i64 a0_7]), .v (.agg [.int .i64 a1_0, .int .i64 a1_1, .int .i64 a1_2, .int .i64 a1_3, .int .i64 a1_4, .int .i64 a1_5])], [] => F__rise_view__state (⟨⟨⟨a0_0, a0_1⟩, ⟨a0_2, a0_3⟩, ⟨a0_4, a0_5⟩⟩, ⟨a0_6, a0_7⟩⟩ : View) (⟨⟨a1_0, a1_1⟩, ⟨a1_2, a1_3⟩, ⟨a1_4, a1_5⟩⟩ : Dir) K (m__rise_view__state (⟨⟨⟨a0_0, a0_1⟩, ⟨a0_2, a0_3⟩, ⟨a0_4, a0_5⟩⟩, ⟨a0_6, a0_7⟩⟩ : View) (⟨⟨a1_0, a1_1⟩, ⟨a1_2, a1_3⟩, ⟨a1_4, a1_5⟩⟩ : Dir))
  | _, _ => none
def T__rise_view__state : Nat → List AV → List Blk → (AV → List Blk → Ans) → Ans := upd T_rise_viewOf 17 s__rise_view__state
theorem g__rise_view__state : GOK Tryd.prog GT gbT T__rise_view__state XT := by
  refine GOK.upd g_rise_viewOf (fun args w => Tryd.call17 args w) fun xs bs K r h => ?_
  unfold s__rise_view__state at h
  split at h
  · unfold F__rise_view__state at h
    simp only [cond_eq_ite] at h
    split at h
    · rename_i hd
      exact ⟨_, _, c__rise_view__state _ _ hd, h⟩
    · cases h
  · cases h
end Go.Ev

