/-
  Contracts of functions: what each returns. No condition beyond those of the statements.
  Plain functions that mirror functions of the program, and that it computes them. No condition beyond those of the statements.
  The iterator over the pairs of n stations: it hands each pair to the loop's body, or stops where the body says so. No condition.
  array.place: the stations with their places, or an error; by a loop over the pairs of stations. No condition.
-/
import Derived.Test.YtglifoijcdfjaaaGreatPkProjCloses4
import Derived.RangeFuncNested
import Derived.RangeFuncBound
import Derived.RangeFuncCalls
import Derived.RangeFuncLeaves
import Derived.Shelf.Abstract
import Derived.WalkKit
import Derived.OwnWalkIn
import Derived.TacticsInMore
import Derived.LoopNIn
import Derived.LoopIn
import Derived.Test.YtglifoijcdfjaaaGreatRows
namespace Go.Ev
open Go Go.Proofs

set_option maxRecDepth 100000 in
theorem w_Q1_below (a b c d e f g h : Int) (K : AV → List Blk → Ans) : evFn Tryz.prog GT EQT T_Q1_Product XT noL 80 92 [.v (.agg [.int .u64 a, .int .u64 b, .int .u64 c, .int .u64 d]), .v (.agg [.int .u64 e, .int .u64 f, .int .u64 g, .int .u64 h])] [] (fun v M => K v (M.take ([] : List Blk).length)) = K (rB (belowRaw ⟨a, b, c, d⟩ ⟨e, f, g, h⟩)) [] := by
  simp only [belowRaw, pullK K]
  kernel_rfl
set_option maxRecDepth 100000 in
theorem c_Q1_below (a b c d e f g h : Int) : CallsA Tryz.prog GT gbT 92 [.v (.agg [.int .u64 a, .int .u64 b, .int .u64 c, .int .u64 d]), .v (.agg [.int .u64 e, .int .u64 f, .int .u64 g, .int .u64 h])] [] (rB (belowRaw ⟨a, b, c, d⟩ ⟨e, f, g, h⟩)) [] := by
  refine CallsA.ofOk fun hok => ?_
  have hw := w_Q1_below a b c d e f g h (fun v M => some (Res.fin v M))
  refine CallsA.ofEv (Γ := T_Q1_Product) (X := XT) (Λ := noL) (EQ := EQT) (n := 80) g_Q1_Product hEQT hmT (fun _ _ _ _ => noL_ok _) (hw.trans ?_)
  rfl
def s_Q1_below : List AV → List Blk → (AV → List Blk → Ans) → Ans := fun xs bs K => match xs, bs with
  | [.v (.agg [.int .u64 a, .int .u64 b, .int .u64 c, .int .u64 d]), .v (.agg [.int .u64 e, .int .u64 f, .int .u64 g, .int .u64 h])], [] => K (rB (belowRaw ⟨a, b, c, d⟩ ⟨e, f, g, h⟩)) []
  | _, _ => none
def T_Q1_below : Nat → List AV → List Blk → (AV → List Blk → Ans) → Ans := upd T_Q1_Product 92 s_Q1_below
theorem g_Q1_below : GOK Tryz.prog GT gbT T_Q1_below XT := by
  refine GOK.upd g_Q1_Product (fun args w => Tryz.call92 args w) fun xs bs K r h => ?_
  unfold s_Q1_below at h
  split at h
  · exact ⟨_, _, c_Q1_below _ _ _ _ _ _ _ _, h⟩
  · cases h


set_option maxRecDepth 100000 in
theorem w_Q1_Small (a b c d : Int) (K : AV → List Blk → Ans) : evFn Tryz.prog GT EQT T_Q1_below XT noL 60 122 [.v (.agg [.int .u64 a, .int .u64 b, .int .u64 c, .int .u64 d])] [] (fun v M => K v (M.take ([] : List Blk).length)) = bif c == 0 then (bif d == 0 then K (rIB ((smallRaw ⟨a, b, c, d⟩).1, decide (borU (shlU b 32) a ≤ 1000000000000000000))) [] else K (rIB ((smallRaw ⟨a, b, c, d⟩).1, false)) []) else K (rIB ((smallRaw ⟨a, b, c, d⟩).1, false)) [] := by
  kernel_rfl
set_option maxRecDepth 100000 in
theorem c_Q1_Small (a b c d : Int) : CallsA Tryz.prog GT gbT 122 [.v (.agg [.int .u64 a, .int .u64 b, .int .u64 c, .int .u64 d])] [] (rIB (smallRaw ⟨a, b, c, d⟩)) [] := by
  refine CallsA.ofOk fun hok => ?_
  have hw := w_Q1_Small a b c d (fun v M => some (Res.fin v M))
  refine CallsA.ofEv (Γ := T_Q1_below) (X := XT) (Λ := noL) (EQ := EQT) (n := 60) g_Q1_below hEQT hmT (fun _ _ _ _ => noL_ok _) (hw.trans ?_)
  have h_a := inR_u64 (hok (.int .u64 a) (by simp [datasL, datas]))
  have h_b := inR_u64 (hok (.int .u64 b) (by simp [datasL, datas]))
  have h_c := inR_u64 (hok (.int .u64 c) (by simp [datasL, datas]))
  have h_d := inR_u64 (hok (.int .u64 d) (by simp [datasL, datas]))
  clear hok hw
  unfold smallRaw
  simp only
  cases c == 0 <;> cases d == 0 <;> rfl
def s_Q1_Small : List AV → List Blk → (AV → List Blk → Ans) → Ans := fun xs bs K => match xs, bs with
  | [.v (.agg [.int .u64 a, .int .u64 b, .int .u64 c, .int .u64 d])], [] => K (rIB (smallRaw ⟨a, b, c, d⟩)) []
  | _, _ => none
def T_Q1_Small : Nat → List AV → List Blk → (AV → List Blk → Ans) → Ans := upd T_Q1_below 122 s_Q1_Small
theorem g_Q1_Small : GOK Tryz.prog GT gbT T_Q1_Small XT := by
  refine GOK.upd g_Q1_below (fun args w => Tryz.call122 args w) fun xs bs K r h => ?_
  unfold s_Q1_Small at h
  split at h
  · exact ⟨_, _, c_Q1_Small _ _ _ _, h⟩
  · cases h


abbrev sh_Over : List (Nat × Sh) := [(1, .int .u64), (2, .ptr 0 0), (4, .ptr 1 0), (6, .ptr 2 0), (7, .int .u64), (8, .int .i64), (9, .int .i64)]
abbrev ms_Over : List (Nat × List IntKind) := [(153, [.u64, .u64, .u64, .u64]), (153, [.u64, .u64, .u64, .u64]), (153, [.u64, .u64, .u64, .u64])]
abbrev T_OverIn (n i r b : Int) : TS := maskT (mkS sh_Over [n, r, i, b]) 46
abbrev T_OverOut (n i r : Int) : TS := maskT (mkS (sh_Over.take 6) [n, r, i]) 46
abbrev M_Over (l : List Int) : List Blk := mkM ms_Over l
def f_Over (xs ys : List Int) : LT := match xs, ys with
  | [n, r, i, b], [a0, a1, a2, a3, z0, z1, z2, z3, o0, o1, o2, o3] =>
    bif b == 31 then bif i == 3 && o3 == 0 then .br (digOn n r a3) (.st (.exit 2) (T_OverOut n 3 (dR n r a3)) (M_Over [a0, a1, a2, a3, z0, z1, z2, z3, o0, o1, o2, dQ n r a3]) 3) .no else bif i == 2 && o2 == 0 then .br (digOn n r a2) (.st (.exit 2) (T_OverOut n 2 (dR n r a2)) (M_Over [a0, a1, a2, a3, z0, z1, z2, z3, o0, o1, dQ n r a2, o3]) 3) .no else bif i == 1 && o1 == 0 then .br (digOn n r a1) (.st (.exit 2) (T_OverOut n 1 (dR n r a1)) (M_Over [a0, a1, a2, a3, z0, z1, z2, z3, o0, dQ n r a1, o2, o3]) 3) .no else bif i == 0 && o0 == 0 then .br (digOn n r a0) (.st (.exit 2) (T_OverOut n 0 (dR n r a0)) (M_Over [a0, a1, a2, a3, z0, z1, z2, z3, dQ n r a0, o1, o2, o3]) 3) .no else .no else .no
  | _, _ => .no
def L_Over := LamS 6 46 3 sh_Over ms_Over f_Over
set_option maxRecDepth 100000 in
theorem b_Over0 (n r b a0 a1 a2 a3 z0 z1 z2 z3 o0 o1 o2 o3 : Int) : evCode Tryz.prog GT EQT T_Q1_Small XT noL 40 (loopB Tryz.prog 121 1) (T_OverIn n 0 r b) (M_Over [a0, a1, a2, a3, z0, z1, z2, z3, o0, o1, o2, o3]) 3 (fun x T M N => some (.st x (forget [1, 2, 4, 6, 7, 8, 9] T) M N)) =
    bif decide (0 ≤ b) then (bif decide (b < 0) then none else bif decide (n ≤ bitIn r a0 b) then (bif decide (b < 0) then none else some (.st .normal (T_OverIn n 0 (wu64 (bitIn r a0 b - n)) (w64 (b - 1))) (M_Over [a0, a1, a2, a3, z0, z1, z2, z3, borU o0 (shlU 1 b), o1, o2, o3]) 3)) else some (.st .normal (T_OverIn n 0 (bitIn r a0 b) (w64 (b - 1))) (M_Over [a0, a1, a2, a3, z0, z1, z2, z3, o0, o1, o2, o3]) 3))
    else some (.st (.exit 2) (T_OverIn n 0 r b) (M_Over [a0, a1, a2, a3, z0, z1, z2, z3, o0, o1, o2, o3]) 3) := by kernel_rfl
set_option maxRecDepth 100000 in
theorem b_Over1 (n r b a0 a1 a2 a3 z0 z1 z2 z3 o0 o1 o2 o3 : Int) : evCode Tryz.prog GT EQT T_Q1_Small XT noL 40 (loopB Tryz.prog 121 1) (T_OverIn n 1 r b) (M_Over [a0, a1, a2, a3, z0, z1, z2, z3, o0, o1, o2, o3]) 3 (fun x T M N => some (.st x (forget [1, 2, 4, 6, 7, 8, 9] T) M N)) =
    bif decide (0 ≤ b) then (bif decide (b < 0) then none else bif decide (n ≤ bitIn r a1 b) then (bif decide (b < 0) then none else some (.st .normal (T_OverIn n 1 (wu64 (bitIn r a1 b - n)) (w64 (b - 1))) (M_Over [a0, a1, a2, a3, z0, z1, z2, z3, o0, borU o1 (shlU 1 b), o2, o3]) 3)) else some (.st .normal (T_OverIn n 1 (bitIn r a1 b) (w64 (b - 1))) (M_Over [a0, a1, a2, a3, z0, z1, z2, z3, o0, o1, o2, o3]) 3))
    else some (.st (.exit 2) (T_OverIn n 1 r b) (M_Over [a0, a1, a2, a3, z0, z1, z2, z3, o0, o1, o2, o3]) 3) := by kernel_rfl
set_option maxRecDepth 100000 in
theorem b_Over2 (n r b a0 a1 a2 a3 z0 z1 z2 z3 o0 o1 o2 o3 : Int) : evCode Tryz.prog GT EQT T_Q1_Small XT noL 40 (loopB Tryz.prog 121 1) (T_OverIn n 2 r b) (M_Over [a0, a1, a2, a3, z0, z1, z2, z3, o0, o1, o2, o3]) 3 (fun x T M N => some (.st x (forget [1, 2, 4, 6, 7, 8, 9] T) M N)) =
    bif decide (0 ≤ b) then (bif decide (b < 0) then none else bif decide (n ≤ bitIn r a2 b) then (bif decide (b < 0) then none else some (.st .normal (T_OverIn n 2 (wu64 (bitIn r a2 b - n)) (w64 (b - 1))) (M_Over [a0, a1, a2, a3, z0, z1, z2, z3, o0, o1, borU o2 (shlU 1 b), o3]) 3)) else some (.st .normal (T_OverIn n 2 (bitIn r a2 b) (w64 (b - 1))) (M_Over [a0, a1, a2, a3, z0, z1, z2, z3, o0, o1, o2, o3]) 3))
    else some (.st (.exit 2) (T_OverIn n 2 r b) (M_Over [a0, a1, a2, a3, z0, z1, z2, z3, o0, o1, o2, o3]) 3) := by kernel_rfl
set_option maxRecDepth 100000 in
theorem b_Over3 (n r b a0 a1 a2 a3 z0 z1 z2 z3 o0 o1 o2 o3 : Int) : evCode Tryz.prog GT EQT T_Q1_Small XT noL 40 (loopB Tryz.prog 121 1) (T_OverIn n 3 r b) (M_Over [a0, a1, a2, a3, z0, z1, z2, z3, o0, o1, o2, o3]) 3 (fun x T M N => some (.st x (forget [1, 2, 4, 6, 7, 8, 9] T) M N)) =
    bif decide (0 ≤ b) then (bif decide (b < 0) then none else bif decide (n ≤ bitIn r a3 b) then (bif decide (b < 0) then none else some (.st .normal (T_OverIn n 3 (wu64 (bitIn r a3 b - n)) (w64 (b - 1))) (M_Over [a0, a1, a2, a3, z0, z1, z2, z3, o0, o1, o2, borU o3 (shlU 1 b)]) 3)) else some (.st .normal (T_OverIn n 3 (bitIn r a3 b) (w64 (b - 1))) (M_Over [a0, a1, a2, a3, z0, z1, z2, z3, o0, o1, o2, o3]) 3))
    else some (.st (.exit 2) (T_OverIn n 3 r b) (M_Over [a0, a1, a2, a3, z0, z1, z2, z3, o0, o1, o2, o3]) 3) := by kernel_rfl
theorem l_Over (n i r b : Int) : Less (T_OverOut n i r) (T_OverIn n i r b) := less_of (by kernel_rfl) (readS_gets (by kernel_rfl))
theorem r_Over0 (n r a0 a1 a2 a3 z0 z1 z2 z3 o1 o2 o3 : Int) (h : digOn n r a0 = true) : ∃ k, RoundsOK Tryz.prog GT gbT (loopB Tryz.prog 121 1) k (T_OverIn n 0 r 31) (M_Over [a0, a1, a2, a3, z0, z1, z2, z3, 0, o1, o2, o3]) 3 (.exit 2) (T_OverOut n 0 (dR n r a0)) (M_Over [a0, a1, a2, a3, z0, z1, z2, z3, dQ n r a0, o1, o2, o3]) 3 := by
  simp only [digOn, Bool.and_eq_true, decide_eq_true_eq] at h
  obtain ⟨h1, h2, h3, h4, h5, h6⟩ := h
  obtain ⟨n', rfl⟩ := Int.eq_ofNat_of_zero_le (Int.le_of_lt h1)
  obtain ⟨r', rfl⟩ := Int.eq_ofNat_of_zero_le h3
  obtain ⟨a', rfl⟩ := Int.eq_ofNat_of_zero_le h5
  have hh := over_rounds (c := loopB Tryz.prog 121 1) (e := 2) g_Q1_Small hEQT hmT (fun r b => T_OverIn n' 0 r b) (fun r => T_OverOut n' 0 r) (fun o => M_Over [(a' : Int), a1, a2, a3, z0, z1, z2, z3, o, o1, o2, o3]) a' n' (by omega) (by omega) (by omega) (fun r b => l_Over n' 0 r b) (fun r b o => b_Over0 n' r b (a' : Int) a1 a2 a3 z0 z1 z2 z3 o o1 o2 o3) 32 r' 0 (by omega) (by omega) (by omega)
  rw [Nat.zero_mul, Nat.zero_add, dR_nat _ _ _ (by omega), dQ_nat _ _ _ (by omega)] at hh
  exact hh
theorem r_Over1 (n r a0 a1 a2 a3 z0 z1 z2 z3 o0 o2 o3 : Int) (h : digOn n r a1 = true) : ∃ k, RoundsOK Tryz.prog GT gbT (loopB Tryz.prog 121 1) k (T_OverIn n 1 r 31) (M_Over [a0, a1, a2, a3, z0, z1, z2, z3, o0, 0, o2, o3]) 3 (.exit 2) (T_OverOut n 1 (dR n r a1)) (M_Over [a0, a1, a2, a3, z0, z1, z2, z3, o0, dQ n r a1, o2, o3]) 3 := by
  simp only [digOn, Bool.and_eq_true, decide_eq_true_eq] at h
  obtain ⟨h1, h2, h3, h4, h5, h6⟩ := h
  obtain ⟨n', rfl⟩ := Int.eq_ofNat_of_zero_le (Int.le_of_lt h1)
  obtain ⟨r', rfl⟩ := Int.eq_ofNat_of_zero_le h3
  obtain ⟨a', rfl⟩ := Int.eq_ofNat_of_zero_le h5
  have hh := over_rounds (c := loopB Tryz.prog 121 1) (e := 2) g_Q1_Small hEQT hmT (fun r b => T_OverIn n' 1 r b) (fun r => T_OverOut n' 1 r) (fun o => M_Over [a0, (a' : Int), a2, a3, z0, z1, z2, z3, o0, o, o2, o3]) a' n' (by omega) (by omega) (by omega) (fun r b => l_Over n' 1 r b) (fun r b o => b_Over1 n' r b a0 (a' : Int) a2 a3 z0 z1 z2 z3 o0 o o2 o3) 32 r' 0 (by omega) (by omega) (by omega)
  rw [Nat.zero_mul, Nat.zero_add, dR_nat _ _ _ (by omega), dQ_nat _ _ _ (by omega)] at hh
  exact hh
theorem r_Over2 (n r a0 a1 a2 a3 z0 z1 z2 z3 o0 o1 o3 : Int) (h : digOn n r a2 = true) : ∃ k, RoundsOK Tryz.prog GT gbT (loopB Tryz.prog 121 1) k (T_OverIn n 2 r 31) (M_Over [a0, a1, a2, a3, z0, z1, z2, z3, o0, o1, 0, o3]) 3 (.exit 2) (T_OverOut n 2 (dR n r a2)) (M_Over [a0, a1, a2, a3, z0, z1, z2, z3, o0, o1, dQ n r a2, o3]) 3 := by
  simp only [digOn, Bool.and_eq_true, decide_eq_true_eq] at h
  obtain ⟨h1, h2, h3, h4, h5, h6⟩ := h
  obtain ⟨n', rfl⟩ := Int.eq_ofNat_of_zero_le (Int.le_of_lt h1)
  obtain ⟨r', rfl⟩ := Int.eq_ofNat_of_zero_le h3
  obtain ⟨a', rfl⟩ := Int.eq_ofNat_of_zero_le h5
  have hh := over_rounds (c := loopB Tryz.prog 121 1) (e := 2) g_Q1_Small hEQT hmT (fun r b => T_OverIn n' 2 r b) (fun r => T_OverOut n' 2 r) (fun o => M_Over [a0, a1, (a' : Int), a3, z0, z1, z2, z3, o0, o1, o, o3]) a' n' (by omega) (by omega) (by omega) (fun r b => l_Over n' 2 r b) (fun r b o => b_Over2 n' r b a0 a1 (a' : Int) a3 z0 z1 z2 z3 o0 o1 o o3) 32 r' 0 (by omega) (by omega) (by omega)
  rw [Nat.zero_mul, Nat.zero_add, dR_nat _ _ _ (by omega), dQ_nat _ _ _ (by omega)] at hh
  exact hh
theorem r_Over3 (n r a0 a1 a2 a3 z0 z1 z2 z3 o0 o1 o2 : Int) (h : digOn n r a3 = true) : ∃ k, RoundsOK Tryz.prog GT gbT (loopB Tryz.prog 121 1) k (T_OverIn n 3 r 31) (M_Over [a0, a1, a2, a3, z0, z1, z2, z3, o0, o1, o2, 0]) 3 (.exit 2) (T_OverOut n 3 (dR n r a3)) (M_Over [a0, a1, a2, a3, z0, z1, z2, z3, o0, o1, o2, dQ n r a3]) 3 := by
  simp only [digOn, Bool.and_eq_true, decide_eq_true_eq] at h
  obtain ⟨h1, h2, h3, h4, h5, h6⟩ := h
  obtain ⟨n', rfl⟩ := Int.eq_ofNat_of_zero_le (Int.le_of_lt h1)
  obtain ⟨r', rfl⟩ := Int.eq_ofNat_of_zero_le h3
  obtain ⟨a', rfl⟩ := Int.eq_ofNat_of_zero_le h5
  have hh := over_rounds (c := loopB Tryz.prog 121 1) (e := 2) g_Q1_Small hEQT hmT (fun r b => T_OverIn n' 3 r b) (fun r => T_OverOut n' 3 r) (fun o => M_Over [a0, a1, a2, (a' : Int), z0, z1, z2, z3, o0, o1, o2, o]) a' n' (by omega) (by omega) (by omega) (fun r b => l_Over n' 3 r b) (fun r b o => b_Over3 n' r b a0 a1 a2 (a' : Int) z0 z1 z2 z3 o0 o1 o2 o) 32 r' 0 (by omega) (by omega) (by omega)
  rw [Nat.zero_mul, Nat.zero_add, dR_nat _ _ _ (by omega), dQ_nat _ _ _ (by omega)] at hh
  exact hh
set_option maxRecDepth 100000 in
theorem LL_Over : ∀ fn c, Tryz.prog.funcs[121]? = some fn → fn.body = some c → LOK Tryz.prog GT gbT L_Over (loopsIn c) := by
  refine LOK.ofF fun b hb => ?_
  have e : loopsF Tryz.prog 121 = [loopB Tryz.prog 121 0, loopB Tryz.prog 121 1] := by kernel_rfl
  have k0 : loopKey (loopB Tryz.prog 121 0) = 3 := by kernel_rfl
  have k1 : loopKey (loopB Tryz.prog 121 1) = 6 := by kernel_rfl
  rw [e, List.mem_cons, List.mem_singleton] at hb
  rcases hb with rfl | rfl
  · exact LOKb.lamS_other (by rw [k0]; decide)
  · unfold L_Over
    rw [← k1]
    refine LOKb.lamS fun xs ys x T' M' N' hr => ?_
    unfold f_Over at hr
    split at hr
    · rename_i n r i b a0 a1 a2 a3 z0 z1 z2 z3 o0 o1 o2 o3
      simp only [cond_eq_ite, beq_iff_eq, Bool.and_eq_true] at hr
      split at hr
      · rename_i hb
        subst hb
        split at hr
        · rename_i hi
          obtain ⟨rfl, rfl⟩ := hi
          rcases hr with ⟨hd, rfl, rfl, rfl, rfl⟩ | ⟨_, hf⟩
          · exact ⟨by simp, r_Over3 n r a0 a1 a2 a3 z0 z1 z2 z3 o0 o1 o2 hd⟩
          · exact hf.elim
        split at hr
        · rename_i hi
          obtain ⟨rfl, rfl⟩ := hi
          rcases hr with ⟨hd, rfl, rfl, rfl, rfl⟩ | ⟨_, hf⟩
          · exact ⟨by simp, r_Over2 n r a0 a1 a2 a3 z0 z1 z2 z3 o0 o1 o3 hd⟩
          · exact hf.elim
        split at hr
        · rename_i hi
          obtain ⟨rfl, rfl⟩ := hi
          rcases hr with ⟨hd, rfl, rfl, rfl, rfl⟩ | ⟨_, hf⟩
          · exact ⟨by simp, r_Over1 n r a0 a1 a2 a3 z0 z1 z2 z3 o0 o2 o3 hd⟩
          · exact hf.elim
        split at hr
        · rename_i hi
          obtain ⟨rfl, rfl⟩ := hi
          rcases hr with ⟨hd, rfl, rfl, rfl, rfl⟩ | ⟨_, hf⟩
          · exact ⟨by simp, r_Over0 n r a0 a1 a2 a3 z0 z1 z2 z3 o1 o2 o3 hd⟩
          · exact hf.elim
        exact hr.elim
      · exact hr.elim
    · exact hr.elim

set_option maxRecDepth 100000 in
theorem w_Q1_Over (a b c d n : Int) (K : AV → List Blk → Ans) : evFn Tryz.prog GT EQT T_Q1_Small XT L_Over 90 121 [.v (.agg [.int .u64 a, .int .u64 b, .int .u64 c, .int .u64 d]), .v (.c (.d (.int .u64 n)))] [] (fun v M => K v (M.take ([] : List Blk).length)) = overAns K a b c d n := by
  kernel_rfl
set_option maxRecDepth 100000 in
theorem c_Q1_Over (a b c d n : Int) (hd : (overOn ⟨a, b, c, d⟩ n) = true) : CallsA Tryz.prog GT gbT 121 [.v (.agg [.int .u64 a, .int .u64 b, .int .u64 c, .int .u64 d]), .v (.c (.d (.int .u64 n)))] [] (rBigU (overI (valOf ⟨a, b, c, d⟩) n)) [] := by
  refine CallsA.ofOk fun hok => ?_
  have hw := w_Q1_Over a b c d n (fun v M => some (Res.fin v M))
  refine CallsA.ofEv (Γ := T_Q1_Small) (X := XT) (Λ := L_Over) (EQ := EQT) (n := 90) g_Q1_Small hEQT hmT (LL_Over) (hw.trans ?_)
  have h_a := inR_u64 (hok (.int .u64 a) (by simp [datasL, datas]))
  have h_b := inR_u64 (hok (.int .u64 b) (by simp [datasL, datas]))
  have h_c := inR_u64 (hok (.int .u64 c) (by simp [datasL, datas]))
  have h_d := inR_u64 (hok (.int .u64 d) (by simp [datasL, datas]))
  have h_n := inR_u64 (hok (.int .u64 n) (by simp [datasL, datas]))
  clear hok hw
  exact overAns_ok (K := fun v M => some (Res.fin v M)) hd
def s_Q1_Over : List AV → List Blk → (AV → List Blk → Ans) → Ans := fun xs bs K => match xs, bs with
  | [.v (.agg [.int .u64 a, .int .u64 b, .int .u64 c, .int .u64 d]), .v (.c (.d (.int .u64 n)))], [] => bif overOn ⟨a, b, c, d⟩ n then K (rBigU (overI (valOf ⟨a, b, c, d⟩) n)) [] else none
  | _, _ => none
def T_Q1_Over : Nat → List AV → List Blk → (AV → List Blk → Ans) → Ans := upd T_Q1_Small 121 s_Q1_Over
theorem g_Q1_Over : GOK Tryz.prog GT gbT T_Q1_Over XT := by
  refine GOK.upd g_Q1_Small (fun args w => Tryz.call121 args w) fun xs bs K r h => ?_
  unfold s_Q1_Over at h
  split at h
  · simp only [cond_eq_ite] at h
    split at h
    · exact ⟨_, _, c_Q1_Over _ _ _ _ _ ‹_›, h⟩
    · cases h
  · cases h


set_option maxRecDepth 100000 in
theorem w_Q1_lowest (m : Bool) (a b c d e f g h : Int) (K : AV → List Blk → Ans) : evFn Tryz.prog GT EQT T_Q1_Over XT noL 60 99 [.v (.c (.d (.bool m))), .v (.agg [.int .u64 a, .int .u64 b, .int .u64 c, .int .u64 d]), .v (.agg [.int .u64 e, .int .u64 f, .int .u64 g, .int .u64 h])] [] (fun v M => K v (M.take ([] : List Blk).length)) = K (rFracE (lowestRaw m ⟨a, b, c, d⟩ ⟨e, f, g, h⟩)) [] := by
  simp only [lowestRaw, pullK K]
  kernel_rfl
set_option maxRecDepth 100000 in
theorem c_Q1_lowest (m : Bool) (a b c d e f g h : Int) : CallsA Tryz.prog GT gbT 99 [.v (.c (.d (.bool m))), .v (.agg [.int .u64 a, .int .u64 b, .int .u64 c, .int .u64 d]), .v (.agg [.int .u64 e, .int .u64 f, .int .u64 g, .int .u64 h])] [] (rFracE (lowestRaw m ⟨a, b, c, d⟩ ⟨e, f, g, h⟩)) [] := by
  refine CallsA.ofOk fun hok => ?_
  have hw := w_Q1_lowest m a b c d e f g h (fun v M => some (Res.fin v M))
  refine CallsA.ofEv (Γ := T_Q1_Over) (X := XT) (Λ := noL) (EQ := EQT) (n := 60) g_Q1_Over hEQT hmT (fun _ _ _ _ => noL_ok _) (hw.trans ?_)
  rfl
def s_Q1_lowest : List AV → List Blk → (AV → List Blk → Ans) → Ans := fun xs bs K => match xs, bs with
  | [.v (.c (.d (.bool m))), .v (.agg [.int .u64 a, .int .u64 b, .int .u64 c, .int .u64 d]), .v (.agg [.int .u64 e, .int .u64 f, .int .u64 g, .int .u64 h])], [] => K (rFracE (lowestRaw m ⟨a, b, c, d⟩ ⟨e, f, g, h⟩)) []
  | _, _ => none
def T_Q1_lowest : Nat → List AV → List Blk → (AV → List Blk → Ans) → Ans := upd T_Q1_Over 99 s_Q1_lowest
theorem g_Q1_lowest : GOK Tryz.prog GT gbT T_Q1_lowest XT := by
  refine GOK.upd g_Q1_Over (fun args w => Tryz.call99 args w) fun xs bs K r h => ?_
  unfold s_Q1_lowest at h
  split at h
  · exact ⟨_, _, c_Q1_lowest _ _ _ _ _ _ _ _ _, h⟩
  · cases h


set_option maxRecDepth 100000 in
theorem w_Q1_Less (a b c d : Int) (K : AV → List Blk → Ans) : evFn Tryz.prog GT EQT T_Q1_lowest XT noL 60 55 [.v (.agg [.int .i64 a, .int .i64 b]), .v (.agg [.int .i64 c, .int .i64 d])] [] (fun v M => K v (M.take ([] : List Blk).length)) = K (rB (lessRaw ⟨a, b⟩ ⟨c, d⟩)) [] := by
  simp only [lessRaw, diffSign, pullK K]
  kernel_rfl
set_option maxRecDepth 100000 in
theorem c_Q1_Less (a b c d : Int) : CallsA Tryz.prog GT gbT 55 [.v (.agg [.int .i64 a, .int .i64 b]), .v (.agg [.int .i64 c, .int .i64 d])] [] (rB (lessN ⟨a, b⟩ ⟨c, d⟩)) [] := by
  refine CallsA.ofOk fun hok => ?_
  have hw := w_Q1_Less a b c d (fun v M => some (Res.fin v M))
  refine CallsA.ofEv (Γ := T_Q1_lowest) (X := XT) (Λ := noL) (EQ := EQT) (n := 60) g_Q1_lowest hEQT hmT (fun _ _ _ _ => noL_ok _) (hw.trans ?_)
  have h_a := inR_i64 (hok (.int .i64 a) (by simp [datasL, datas]))
  have h_b := inR_i64 (hok (.int .i64 b) (by simp [datasL, datas]))
  have h_c := inR_i64 (hok (.int .i64 c) (by simp [datasL, datas]))
  have h_d := inR_i64 (hok (.int .i64 d) (by simp [datasL, datas]))
  clear hok hw
  refine congrArg (fun v => some (Res.fin v [])) ?_
  rw [lessRaw_ok]
def s_Q1_Less : List AV → List Blk → (AV → List Blk → Ans) → Ans := fun xs bs K => match xs, bs with
  | [.v (.agg [.int .i64 a, .int .i64 b]), .v (.agg [.int .i64 c, .int .i64 d])], [] => K (rB (lessN ⟨a, b⟩ ⟨c, d⟩)) []
  | _, _ => none
def T_Q1_Less : Nat → List AV → List Blk → (AV → List Blk → Ans) → Ans := upd T_Q1_lowest 55 s_Q1_Less
theorem g_Q1_Less : GOK Tryz.prog GT gbT T_Q1_Less XT := by
  refine GOK.upd g_Q1_lowest (fun args w => Tryz.call55 args w) fun xs bs K r h => ?_
  unfold s_Q1_Less at h
  split at h
  · exact ⟨_, _, c_Q1_Less _ _ _ _, h⟩
  · cases h


set_option maxRecDepth 100000 in
theorem w_sine_valid (lo hi : Int) (K : AV → List Blk → Ans) : evFn Tryz.prog GT EQT T_Q1_Less XT noL 60 62 [.v (.agg [.int .i64 lo, .int .i64 hi])] [] (fun v M => K v (M.take ([] : List Blk).length)) = K (rB (spanValid ⟨lo, hi⟩)) [] := by
  simp only [spanValid, pullK K]
  kernel_rfl
set_option maxRecDepth 100000 in
theorem c_sine_valid (lo hi : Int) : CallsA Tryz.prog GT gbT 62 [.v (.agg [.int .i64 lo, .int .i64 hi])] [] (rB (spanValid ⟨lo, hi⟩)) [] := by
  refine CallsA.ofOk fun hok => ?_
  have hw := w_sine_valid lo hi (fun v M => some (Res.fin v M))
  refine CallsA.ofEv (Γ := T_Q1_Less) (X := XT) (Λ := noL) (EQ := EQT) (n := 60) g_Q1_Less hEQT hmT (fun _ _ _ _ => noL_ok _) (hw.trans ?_)
  rfl
def s_sine_valid : List AV → List Blk → (AV → List Blk → Ans) → Ans := fun xs bs K => match xs, bs with
  | [.v (.agg [.int .i64 lo, .int .i64 hi])], [] => K (rB (spanValid ⟨lo, hi⟩)) []
  | _, _ => none
def T_sine_valid : Nat → List AV → List Blk → (AV → List Blk → Ans) → Ans := upd T_Q1_Less 62 s_sine_valid
theorem g_sine_valid : GOK Tryz.prog GT gbT T_sine_valid XT := by
  refine GOK.upd g_Q1_Less (fun args w => Tryz.call62 args w) fun xs bs K r h => ?_
  unfold s_sine_valid at h
  split at h
  · exact ⟨_, _, c_sine_valid _ _, h⟩
  · cases h


set_option maxRecDepth 100000 in
theorem w_Q5_Valid (lo hi : Int) (K : AV → List Blk → Ans) : evFn Tryz.prog GT EQT T_sine_valid XT noL 60 28 [.v (.agg [.int .i64 lo, .int .i64 hi])] [] (fun v M => K v (M.take ([] : List Blk).length)) = K (rB (spanValid ⟨lo, hi⟩)) [] := by
  simp only [spanValid, pullK K]
  kernel_rfl
set_option maxRecDepth 100000 in
theorem c_Q5_Valid (lo hi : Int) : CallsA Tryz.prog GT gbT 28 [.v (.agg [.int .i64 lo, .int .i64 hi])] [] (rB (spanValid ⟨lo, hi⟩)) [] := by
  refine CallsA.ofOk fun hok => ?_
  have hw := w_Q5_Valid lo hi (fun v M => some (Res.fin v M))
  refine CallsA.ofEv (Γ := T_sine_valid) (X := XT) (Λ := noL) (EQ := EQT) (n := 60) g_sine_valid hEQT hmT (fun _ _ _ _ => noL_ok _) (hw.trans ?_)
  rfl
def s_Q5_Valid : List AV → List Blk → (AV → List Blk → Ans) → Ans := fun xs bs K => match xs, bs with
  | [.v (.agg [.int .i64 lo, .int .i64 hi])], [] => K (rB (spanValid ⟨lo, hi⟩)) []
  | _, _ => none
def T_Q5_Valid : Nat → List AV → List Blk → (AV → List Blk → Ans) → Ans := upd T_sine_valid 28 s_Q5_Valid
theorem g_Q5_Valid : GOK Tryz.prog GT gbT T_Q5_Valid XT := by
  refine GOK.upd g_sine_valid (fun args w => Tryz.call28 args w) fun xs bs K r h => ?_
  unfold s_Q5_Valid at h
  split at h
  · exact ⟨_, _, c_Q5_Valid _ _, h⟩
  · cases h


set_option maxRecDepth 100000 in
theorem w_sine_ranged (lo hi : Int) (K : AV → List Blk → Ans) : evFn Tryz.prog GT EQT T_Q5_Valid XT noL 60 63 [.v (.agg [.int .i64 lo, .int .i64 hi])] [] (fun v M => K v (M.take ([] : List Blk).length)) = K (rSpanE (rangedS ⟨lo, hi⟩)) [] := by
  simp only [rangedS, pullK K]
  kernel_rfl
set_option maxRecDepth 100000 in
theorem c_sine_ranged (lo hi : Int) : CallsA Tryz.prog GT gbT 63 [.v (.agg [.int .i64 lo, .int .i64 hi])] [] (rSpanE (rangedS ⟨lo, hi⟩)) [] := by
  refine CallsA.ofOk fun hok => ?_
  have hw := w_sine_ranged lo hi (fun v M => some (Res.fin v M))
  refine CallsA.ofEv (Γ := T_Q5_Valid) (X := XT) (Λ := noL) (EQ := EQT) (n := 60) g_Q5_Valid hEQT hmT (fun _ _ _ _ => noL_ok _) (hw.trans ?_)
  rfl
def s_sine_ranged : List AV → List Blk → (AV → List Blk → Ans) → Ans := fun xs bs K => match xs, bs with
  | [.v (.agg [.int .i64 lo, .int .i64 hi])], [] => K (rSpanE (rangedS ⟨lo, hi⟩)) []
  | _, _ => none
def T_sine_ranged : Nat → List AV → List Blk → (AV → List Blk → Ans) → Ans := upd T_Q5_Valid 63 s_sine_ranged
theorem g_sine_ranged : GOK Tryz.prog GT gbT T_sine_ranged XT := by
  refine GOK.upd g_Q5_Valid (fun args w => Tryz.call63 args w) fun xs bs K r h => ?_
  unfold s_sine_ranged at h
  split at h
  · exact ⟨_, _, c_sine_ranged _ _, h⟩
  · cases h


set_option maxRecDepth 100000 in
theorem w_Q5_made (lo hi : Int) (K : AV → List Blk → Ans) : evFn Tryz.prog GT EQT T_sine_ranged XT noL 60 29 [.v (.c (.d (.int .i64 lo))), .v (.c (.d (.int .i64 hi)))] [] (fun v M => K v (M.take ([] : List Blk).length)) = K (rSpanE (rangedS ⟨lo, hi⟩)) [] := by
  simp only [rangedS, pullK K]
  kernel_rfl
set_option maxRecDepth 100000 in
theorem c_Q5_made (lo hi : Int) : CallsA Tryz.prog GT gbT 29 [.v (.c (.d (.int .i64 lo))), .v (.c (.d (.int .i64 hi)))] [] (rSpanE (rangedS ⟨lo, hi⟩)) [] := by
  refine CallsA.ofOk fun hok => ?_
  have hw := w_Q5_made lo hi (fun v M => some (Res.fin v M))
  refine CallsA.ofEv (Γ := T_sine_ranged) (X := XT) (Λ := noL) (EQ := EQT) (n := 60) g_sine_ranged hEQT hmT (fun _ _ _ _ => noL_ok _) (hw.trans ?_)
  rfl
def s_Q5_made : List AV → List Blk → (AV → List Blk → Ans) → Ans := fun xs bs K => match xs, bs with
  | [.v (.c (.d (.int .i64 lo))), .v (.c (.d (.int .i64 hi)))], [] => K (rSpanE (rangedS ⟨lo, hi⟩)) []
  | _, _ => none
def T_Q5_made : Nat → List AV → List Blk → (AV → List Blk → Ans) → Ans := upd T_sine_ranged 29 s_Q5_made
theorem g_Q5_made : GOK Tryz.prog GT gbT T_Q5_made XT := by
  refine GOK.upd g_sine_ranged (fun args w => Tryz.call29 args w) fun xs bs K r h => ?_
  unfold s_Q5_made at h
  split at h
  · exact ⟨_, _, c_Q5_made _ _, h⟩
  · cases h


set_option maxRecDepth 100000 in
theorem w_sine_down (n : Int) (K : AV → List Blk → Ans) : evFn Tryz.prog GT EQT T_Q5_made XT noL 60 64 [.v (.c (.d (.int .i64 n)))] [] (fun v M => K v (M.take ([] : List Blk).length)) = K (rI (floorRaw n 1000000)) [] := by
  simp only [floorRaw, pullK K]
  kernel_rfl
set_option maxRecDepth 100000 in
theorem c_sine_down (n : Int) : CallsA Tryz.prog GT gbT 64 [.v (.c (.d (.int .i64 n)))] [] (rI (n / 1000000)) [] := by
  refine CallsA.ofOk fun hok => ?_
  have hw := w_sine_down n (fun v M => some (Res.fin v M))
  refine CallsA.ofEv (Γ := T_Q5_made) (X := XT) (Λ := noL) (EQ := EQT) (n := 60) g_Q5_made hEQT hmT (fun _ _ _ _ => noL_ok _) (hw.trans ?_)
  have h_n := inR_i64 (hok (.int .i64 n) (by simp [datasL, datas]))
  clear hok hw
  refine congrArg (fun v => some (Res.fin v [])) ?_
  rw [floorRaw_ok (by omega) h_n]
def s_sine_down : List AV → List Blk → (AV → List Blk → Ans) → Ans := fun xs bs K => match xs, bs with
  | [.v (.c (.d (.int .i64 n)))], [] => K (rI (n / 1000000)) []
  | _, _ => none
def T_sine_down : Nat → List AV → List Blk → (AV → List Blk → Ans) → Ans := upd T_Q5_made 64 s_sine_down
theorem g_sine_down : GOK Tryz.prog GT gbT T_sine_down XT := by
  refine GOK.upd g_Q5_made (fun args w => Tryz.call64 args w) fun xs bs K r h => ?_
  unfold s_sine_down at h
  split at h
  · exact ⟨_, _, c_sine_down _, h⟩
  · cases h


set_option maxRecDepth 100000 in
theorem w_Q5_down (n d : Int) (K : AV → List Blk → Ans) : evFn Tryz.prog GT EQT T_sine_down XT noL 60 116 [.v (.c (.d (.int .i64 n))), .v (.c (.d (.int .i64 d)))] [] (fun v M => K v (M.take ([] : List Blk).length)) = bif d == 0 then none else bif d == 0 then none else (bif decide (n.tmod d < 0) then K (rI (w64 (w64 (n.tdiv d) - 1))) [] else K (rI (w64 (n.tdiv d))) []) := by
  kernel_rfl
set_option maxRecDepth 100000 in
theorem c_Q5_down (n d : Int) (hd : (decide (0 < d)) = true) : CallsA Tryz.prog GT gbT 116 [.v (.c (.d (.int .i64 n))), .v (.c (.d (.int .i64 d)))] [] (rI (n / d)) [] := by
  refine CallsA.ofOk fun hok => ?_
  have hw := w_Q5_down n d (fun v M => some (Res.fin v M))
  refine CallsA.ofEv (Γ := T_sine_down) (X := XT) (Λ := noL) (EQ := EQT) (n := 60) g_sine_down hEQT hmT (fun _ _ _ _ => noL_ok _) (hw.trans ?_)
  have h_n := inR_i64 (hok (.int .i64 n) (by simp [datasL, datas]))
  have h_d := inR_i64 (hok (.int .i64 d) (by simp [datasL, datas]))
  clear hok hw
  have hd0 := of_decide_eq_true hd
  have h := floorRaw_ok hd0 h_n
  rw [show (d == 0) = false by simp; omega]
  simp only [cond_false]
  rw [← h]
  unfold floorRaw
  cases decide (n.tmod d < 0) <;> rfl
def s_Q5_down : List AV → List Blk → (AV → List Blk → Ans) → Ans := fun xs bs K => match xs, bs with
  | [.v (.c (.d (.int .i64 n))), .v (.c (.d (.int .i64 d)))], [] => bif decide (0 < d) then K (rI (n / d)) [] else none
  | _, _ => none
def T_Q5_down : Nat → List AV → List Blk → (AV → List Blk → Ans) → Ans := upd T_sine_down 116 s_Q5_down
theorem g_Q5_down : GOK Tryz.prog GT gbT T_Q5_down XT := by
  refine GOK.upd g_sine_down (fun args w => Tryz.call116 args w) fun xs bs K r h => ?_
  unfold s_Q5_down at h
  split at h
  · simp only [cond_eq_ite] at h
    split at h
    · exact ⟨_, _, c_Q5_down _ _ ‹_›, h⟩
    · cases h
  · cases h


set_option maxRecDepth 100000 in
theorem w_Q5_Neg (lo hi : Int) (K : AV → List Blk → Ans) : evFn Tryz.prog GT EQT T_Q5_down XT noL 60 30 [.v (.agg [.int .i64 lo, .int .i64 hi])] [] (fun v M => K v (M.take ([] : List Blk).length)) = K (rSpan (negRaw ⟨lo, hi⟩)) [] := by
  kernel_rfl
set_option maxRecDepth 100000 in
theorem c_Q5_Neg (lo hi : Int) : CallsA Tryz.prog GT gbT 30 [.v (.agg [.int .i64 lo, .int .i64 hi])] [] (rSpan (negRaw ⟨lo, hi⟩)) [] := by
  refine CallsA.ofOk fun hok => ?_
  have hw := w_Q5_Neg lo hi (fun v M => some (Res.fin v M))
  refine CallsA.ofEv (Γ := T_Q5_down) (X := XT) (Λ := noL) (EQ := EQT) (n := 60) g_Q5_down hEQT hmT (fun _ _ _ _ => noL_ok _) (hw.trans ?_)
  rfl
def s_Q5_Neg : List AV → List Blk → (AV → List Blk → Ans) → Ans := fun xs bs K => match xs, bs with
  | [.v (.agg [.int .i64 lo, .int .i64 hi])], [] => K (rSpan (negRaw ⟨lo, hi⟩)) []
  | _, _ => none
def T_Q5_Neg : Nat → List AV → List Blk → (AV → List Blk → Ans) → Ans := upd T_Q5_down 30 s_Q5_Neg
theorem g_Q5_Neg : GOK Tryz.prog GT gbT T_Q5_Neg XT := by
  refine GOK.upd g_Q5_down (fun args w => Tryz.call30 args w) fun xs bs K r h => ?_
  unfold s_Q5_Neg at h
  split at h
  · exact ⟨_, _, c_Q5_Neg _ _, h⟩
  · cases h


set_option maxRecDepth 100000 in
theorem w_sine_Add (a b c d : Int) (K : AV → List Blk → Ans) : evFn Tryz.prog GT EQT T_Q5_Neg XT noL 60 128 [.v (.agg [.int .i64 a, .int .i64 b]), .v (.agg [.int .i64 c, .int .i64 d])] [] (fun v M => K v (M.take ([] : List Blk).length)) = K (rSpanE (addRaw ⟨a, b⟩ ⟨c, d⟩)) [] := by
  simp only [addRaw, pullK K]
  kernel_rfl
set_option maxRecDepth 100000 in
theorem c_sine_Add (a b c d : Int) : CallsA Tryz.prog GT gbT 128 [.v (.agg [.int .i64 a, .int .i64 b]), .v (.agg [.int .i64 c, .int .i64 d])] [] (rSpanE (addS ⟨a, b⟩ ⟨c, d⟩)) [] := by
  refine CallsA.ofOk fun hok => ?_
  have hw := w_sine_Add a b c d (fun v M => some (Res.fin v M))
  refine CallsA.ofEv (Γ := T_Q5_Neg) (X := XT) (Λ := noL) (EQ := EQT) (n := 60) g_Q5_Neg hEQT hmT (fun _ _ _ _ => noL_ok _) (hw.trans ?_)
  have h_a := inR_i64 (hok (.int .i64 a) (by simp [datasL, datas]))
  have h_b := inR_i64 (hok (.int .i64 b) (by simp [datasL, datas]))
  have h_c := inR_i64 (hok (.int .i64 c) (by simp [datasL, datas]))
  have h_d := inR_i64 (hok (.int .i64 d) (by simp [datasL, datas]))
  clear hok hw
  refine congrArg (fun v => some (Res.fin v [])) ?_
  rw [addRaw_ok]
def s_sine_Add : List AV → List Blk → (AV → List Blk → Ans) → Ans := fun xs bs K => match xs, bs with
  | [.v (.agg [.int .i64 a, .int .i64 b]), .v (.agg [.int .i64 c, .int .i64 d])], [] => K (rSpanE (addS ⟨a, b⟩ ⟨c, d⟩)) []
  | _, _ => none
def T_sine_Add : Nat → List AV → List Blk → (AV → List Blk → Ans) → Ans := upd T_Q5_Neg 128 s_sine_Add
theorem g_sine_Add : GOK Tryz.prog GT gbT T_sine_Add XT := by
  refine GOK.upd g_Q5_Neg (fun args w => Tryz.call128 args w) fun xs bs K r h => ?_
  unfold s_sine_Add at h
  split at h
  · exact ⟨_, _, c_sine_Add _ _ _ _, h⟩
  · cases h


set_option maxRecDepth 100000 in
theorem w_Q5_Add (a b c d : Int) (K : AV → List Blk → Ans) : evFn Tryz.prog GT EQT T_sine_Add XT noL 60 10 [.v (.agg [.int .i64 a, .int .i64 b]), .v (.agg [.int .i64 c, .int .i64 d])] [] (fun v M => K v (M.take ([] : List Blk).length)) = K (rSpanE (addRaw ⟨a, b⟩ ⟨c, d⟩)) [] := by
  simp only [addRaw, pullK K]
  kernel_rfl
set_option maxRecDepth 100000 in
theorem c_Q5_Add (a b c d : Int) : CallsA Tryz.prog GT gbT 10 [.v (.agg [.int .i64 a, .int .i64 b]), .v (.agg [.int .i64 c, .int .i64 d])] [] (rSpanE (addS ⟨a, b⟩ ⟨c, d⟩)) [] := by
  refine CallsA.ofOk fun hok => ?_
  have hw := w_Q5_Add a b c d (fun v M => some (Res.fin v M))
  refine CallsA.ofEv (Γ := T_sine_Add) (X := XT) (Λ := noL) (EQ := EQT) (n := 60) g_sine_Add hEQT hmT (fun _ _ _ _ => noL_ok _) (hw.trans ?_)
  have h_a := inR_i64 (hok (.int .i64 a) (by simp [datasL, datas]))
  have h_b := inR_i64 (hok (.int .i64 b) (by simp [datasL, datas]))
  have h_c := inR_i64 (hok (.int .i64 c) (by simp [datasL, datas]))
  have h_d := inR_i64 (hok (.int .i64 d) (by simp [datasL, datas]))
  clear hok hw
  refine congrArg (fun v => some (Res.fin v [])) ?_
  rw [addRaw_ok]
def s_Q5_Add : List AV → List Blk → (AV → List Blk → Ans) → Ans := fun xs bs K => match xs, bs with
  | [.v (.agg [.int .i64 a, .int .i64 b]), .v (.agg [.int .i64 c, .int .i64 d])], [] => K (rSpanE (addS ⟨a, b⟩ ⟨c, d⟩)) []
  | _, _ => none
def T_Q5_Add : Nat → List AV → List Blk → (AV → List Blk → Ans) → Ans := upd T_sine_Add 10 s_Q5_Add
theorem g_Q5_Add : GOK Tryz.prog GT gbT T_Q5_Add XT := by
  refine GOK.upd g_sine_Add (fun args w => Tryz.call10 args w) fun xs bs K r h => ?_
  unfold s_Q5_Add at h
  split at h
  · exact ⟨_, _, c_Q5_Add _ _ _ _, h⟩
  · cases h


set_option maxRecDepth 100000 in
theorem w_sine_Mul (a b c d : Int) (K : AV → List Blk → Ans) : evFn Tryz.prog GT EQT T_Q5_Add XT noL 60 40 [.v (.agg [.int .i64 a, .int .i64 b]), .v (.agg [.int .i64 c, .int .i64 d])] [] (fun v M => K v (M.take ([] : List Blk).length)) = K (rSpanE (mulRaw' ⟨a, b⟩ ⟨c, d⟩)) [] := by
  simp only [mulRaw', pullK K]
  kernel_rfl
set_option maxRecDepth 100000 in
theorem c_sine_Mul (a b c d : Int) : CallsA Tryz.prog GT gbT 40 [.v (.agg [.int .i64 a, .int .i64 b]), .v (.agg [.int .i64 c, .int .i64 d])] [] (rSpanE (mulS ⟨a, b⟩ ⟨c, d⟩)) [] := by
  refine CallsA.ofOk fun hok => ?_
  have hw := w_sine_Mul a b c d (fun v M => some (Res.fin v M))
  refine CallsA.ofEv (Γ := T_Q5_Add) (X := XT) (Λ := noL) (EQ := EQT) (n := 60) g_Q5_Add hEQT hmT (fun _ _ _ _ => noL_ok _) (hw.trans ?_)
  have h_a := inR_i64 (hok (.int .i64 a) (by simp [datasL, datas]))
  have h_b := inR_i64 (hok (.int .i64 b) (by simp [datasL, datas]))
  have h_c := inR_i64 (hok (.int .i64 c) (by simp [datasL, datas]))
  have h_d := inR_i64 (hok (.int .i64 d) (by simp [datasL, datas]))
  clear hok hw
  refine congrArg (fun v => some (Res.fin v [])) ?_
  rw [mulRaw'_ok]
def s_sine_Mul : List AV → List Blk → (AV → List Blk → Ans) → Ans := fun xs bs K => match xs, bs with
  | [.v (.agg [.int .i64 a, .int .i64 b]), .v (.agg [.int .i64 c, .int .i64 d])], [] => K (rSpanE (mulS ⟨a, b⟩ ⟨c, d⟩)) []
  | _, _ => none
def T_sine_Mul : Nat → List AV → List Blk → (AV → List Blk → Ans) → Ans := upd T_Q5_Add 40 s_sine_Mul
theorem g_sine_Mul : GOK Tryz.prog GT gbT T_sine_Mul XT := by
  refine GOK.upd g_Q5_Add (fun args w => Tryz.call40 args w) fun xs bs K r h => ?_
  unfold s_sine_Mul at h
  split at h
  · exact ⟨_, _, c_sine_Mul _ _ _ _, h⟩
  · cases h


set_option maxRecDepth 100000 in
theorem w_Q5_Mul (a b c d : Int) (K : AV → List Blk → Ans) : evFn Tryz.prog GT EQT T_sine_Mul XT noL 60 81 [.v (.agg [.int .i64 a, .int .i64 b]), .v (.agg [.int .i64 c, .int .i64 d])] [] (fun v M => K v (M.take ([] : List Blk).length)) = K (rSpanE (mulRaw' ⟨a, b⟩ ⟨c, d⟩)) [] := by
  simp only [mulRaw', pullK K]
  kernel_rfl
set_option maxRecDepth 100000 in
theorem c_Q5_Mul (a b c d : Int) : CallsA Tryz.prog GT gbT 81 [.v (.agg [.int .i64 a, .int .i64 b]), .v (.agg [.int .i64 c, .int .i64 d])] [] (rSpanE (mulS ⟨a, b⟩ ⟨c, d⟩)) [] := by
  refine CallsA.ofOk fun hok => ?_
  have hw := w_Q5_Mul a b c d (fun v M => some (Res.fin v M))
  refine CallsA.ofEv (Γ := T_sine_Mul) (X := XT) (Λ := noL) (EQ := EQT) (n := 60) g_sine_Mul hEQT hmT (fun _ _ _ _ => noL_ok _) (hw.trans ?_)
  have h_a := inR_i64 (hok (.int .i64 a) (by simp [datasL, datas]))
  have h_b := inR_i64 (hok (.int .i64 b) (by simp [datasL, datas]))
  have h_c := inR_i64 (hok (.int .i64 c) (by simp [datasL, datas]))
  have h_d := inR_i64 (hok (.int .i64 d) (by simp [datasL, datas]))
  clear hok hw
  refine congrArg (fun v => some (Res.fin v [])) ?_
  rw [mulRaw'_ok]
def s_Q5_Mul : List AV → List Blk → (AV → List Blk → Ans) → Ans := fun xs bs K => match xs, bs with
  | [.v (.agg [.int .i64 a, .int .i64 b]), .v (.agg [.int .i64 c, .int .i64 d])], [] => K (rSpanE (mulS ⟨a, b⟩ ⟨c, d⟩)) []
  | _, _ => none
def T_Q5_Mul : Nat → List AV → List Blk → (AV → List Blk → Ans) → Ans := upd T_sine_Mul 81 s_Q5_Mul
theorem g_Q5_Mul : GOK Tryz.prog GT gbT T_Q5_Mul XT := by
  refine GOK.upd g_sine_Mul (fun args w => Tryz.call81 args w) fun xs bs K r h => ?_
  unfold s_Q5_Mul at h
  split at h
  · exact ⟨_, _, c_Q5_Mul _ _ _ _, h⟩
  · cases h


set_option maxRecDepth 100000 in
theorem w_sine_around (num den : Int) (K : AV → List Blk → Ans) : evFn Tryz.prog GT EQT T_Q5_Mul XT noL 60 126 [.v (.agg [.int .i64 num, .int .i64 den])] [] (fun v M => K v (M.take ([] : List Blk).length)) = bif decide (num < 0) then aroundAns K num den (w64 (0 - num)) else aroundAns K num den num := by
  simp only [aroundAns, aroundTail, pullK K]
  kernel_rfl
set_option maxRecDepth 100000 in
theorem c_sine_around (num den : Int) (hd : (fracOkB ⟨num, den⟩) = true) : CallsA Tryz.prog GT gbT 126 [.v (.agg [.int .i64 num, .int .i64 den])] [] (rSpanB (aroundB ⟨num, den⟩)) [] := by
  refine CallsA.ofOk fun hok => ?_
  have hw := w_sine_around num den (fun v M => some (Res.fin v M))
  refine CallsA.ofEv (Γ := T_Q5_Mul) (X := XT) (Λ := noL) (EQ := EQT) (n := 60) g_Q5_Mul hEQT hmT (fun _ _ _ _ => noL_ok _) (hw.trans ?_)
  have h_num := inR_i64 (hok (.int .i64 num) (by simp [datasL, datas]))
  have h_den := inR_i64 (hok (.int .i64 den) (by simp [datasL, datas]))
  clear hok hw
  have hk := fracOkB_iff.1 hd
  have h1 := hk.numlo
  have h2 := hk.numhi
  simp only at h1 h2
  by_cases hn : num < 0
  · rw [decide_eq_true hn, cond_true, w64_id (by omega)]
    exact aroundAns_ok (K := fun v M => some (Res.fin v M)) hk (by rw [absI_of_neg hn]; omega)
  · rw [decide_eq_false hn, cond_false]
    exact aroundAns_ok (K := fun v M => some (Res.fin v M)) hk (absI_of_nonneg (by omega)).symm
def s_sine_around : List AV → List Blk → (AV → List Blk → Ans) → Ans := fun xs bs K => match xs, bs with
  | [.v (.agg [.int .i64 num, .int .i64 den])], [] => bif fracOkB ⟨num, den⟩ then K (rSpanB (aroundB ⟨num, den⟩)) [] else none
  | _, _ => none
def T_sine_around : Nat → List AV → List Blk → (AV → List Blk → Ans) → Ans := upd T_Q5_Mul 126 s_sine_around
theorem g_sine_around : GOK Tryz.prog GT gbT T_sine_around XT := by
  refine GOK.upd g_Q5_Mul (fun args w => Tryz.call126 args w) fun xs bs K r h => ?_
  unfold s_sine_around at h
  split at h
  · simp only [cond_eq_ite] at h
    split at h
    · exact ⟨_, _, c_sine_around _ _ ‹_›, h⟩
    · cases h
  · cases h


set_option maxRecDepth 100000 in
theorem w_sine_Of (num den : Int) (K : AV → List Blk → Ans) : evFn Tryz.prog GT EQT T_sine_around XT noL 60 103 [.v (.agg [.int .i64 num, .int .i64 den])] [] (fun v M => K v (M.take ([] : List Blk).length)) = bif checkF ⟨num, den⟩ != 0 then K (rSpanE (spanZ, 8)) [] else bif fracOkB ⟨num, den⟩ then (bif !(aroundB ⟨num, den⟩).2 then K (rSpanE (spanZ, 16)) [] else K (rSpanE (rangedS (aroundB ⟨num, den⟩).1)) []) else none := by
  kernel_rfl
set_option maxRecDepth 100000 in
theorem c_sine_Of (num den : Int) : CallsA Tryz.prog GT gbT 103 [.v (.agg [.int .i64 num, .int .i64 den])] [] (rSpanE (ofS ⟨num, den⟩)) [] := by
  refine CallsA.ofOk fun hok => ?_
  have hw := w_sine_Of num den (fun v M => some (Res.fin v M))
  refine CallsA.ofEv (Γ := T_sine_around) (X := XT) (Λ := noL) (EQ := EQT) (n := 60) g_sine_around hEQT hmT (fun _ _ _ _ => noL_ok _) (hw.trans ?_)
  have h_num := inR_i64 (hok (.int .i64 num) (by simp [datasL, datas]))
  have h_den := inR_i64 (hok (.int .i64 den) (by simp [datasL, datas]))
  clear hok hw
  exact sineOf_ok (K := fun v M => some (Res.fin v M))
def s_sine_Of : List AV → List Blk → (AV → List Blk → Ans) → Ans := fun xs bs K => match xs, bs with
  | [.v (.agg [.int .i64 num, .int .i64 den])], [] => K (rSpanE (ofS ⟨num, den⟩)) []
  | _, _ => none
def T_sine_Of : Nat → List AV → List Blk → (AV → List Blk → Ans) → Ans := upd T_sine_around 103 s_sine_Of
theorem g_sine_Of : GOK Tryz.prog GT gbT T_sine_Of XT := by
  refine GOK.upd g_sine_around (fun args w => Tryz.call103 args w) fun xs bs K r h => ?_
  unfold s_sine_Of at h
  split at h
  · exact ⟨_, _, c_sine_Of _ _, h⟩
  · cases h


set_option maxRecDepth 100000 in
theorem w_Q5_Of (num den : Int) (K : AV → List Blk → Ans) : evFn Tryz.prog GT EQT T_sine_Of XT noL 90 117 [.v (.agg [.int .i64 num, .int .i64 den])] [] (fun v M => K v (M.take ([] : List Blk).length)) = bif checkF ⟨num, den⟩ != 0 then K (rSpanE (spanZ, 8)) [] else bif decide (0 < den) then ofAns K num den else none := by
  kernel_rfl
set_option maxRecDepth 100000 in
theorem c_Q5_Of (num den : Int) : CallsA Tryz.prog GT gbT 117 [.v (.agg [.int .i64 num, .int .i64 den])] [] (rSpanE (ofS ⟨num, den⟩)) [] := by
  refine CallsA.ofOk fun hok => ?_
  have hw := w_Q5_Of num den (fun v M => some (Res.fin v M))
  refine CallsA.ofEv (Γ := T_sine_Of) (X := XT) (Λ := noL) (EQ := EQT) (n := 90) g_sine_Of hEQT hmT (fun _ _ _ _ => noL_ok _) (hw.trans ?_)
  have h_num := inR_i64 (hok (.int .i64 num) (by simp [datasL, datas]))
  have h_den := inR_i64 (hok (.int .i64 den) (by simp [datasL, datas]))
  clear hok hw
  exact refOf_ok (K := fun v M => some (Res.fin v M))
def s_Q5_Of : List AV → List Blk → (AV → List Blk → Ans) → Ans := fun xs bs K => match xs, bs with
  | [.v (.agg [.int .i64 num, .int .i64 den])], [] => K (rSpanE (ofS ⟨num, den⟩)) []
  | _, _ => none
def T_Q5_Of : Nat → List AV → List Blk → (AV → List Blk → Ans) → Ans := upd T_sine_Of 117 s_Q5_Of
theorem g_Q5_Of : GOK Tryz.prog GT gbT T_Q5_Of XT := by
  refine GOK.upd g_sine_Of (fun args w => Tryz.call117 args w) fun xs bs K r h => ?_
  unfold s_Q5_Of at h
  split at h
  · exact ⟨_, _, c_Q5_Of _ _, h⟩
  · cases h


set_option maxRecDepth 100000 in
theorem w_bits_Rem64 (hi lo y : Int) (K : AV → List Blk → Ans) : evFn Tryz.prog GT EQT T_Q5_Of XT noL 60 137 [.v (.c (.d (.int .u64 hi))), .v (.c (.d (.int .u64 lo))), .v (.c (.d (.int .u64 y)))] [] (fun v M => K v (M.take ([] : List Blk).length)) = remAns K hi lo y := by
  kernel_rfl
set_option maxRecDepth 100000 in
theorem c_bits_Rem64 (hi lo y : Int) (hd : (decide (0 < y)) = true) : CallsA Tryz.prog GT gbT 137 [.v (.c (.d (.int .u64 hi))), .v (.c (.d (.int .u64 lo))), .v (.c (.d (.int .u64 y)))] [] (rU ((hi * 18446744073709551616 + lo) % y)) [] := by
  refine CallsA.ofOk fun hok => ?_
  have hw := w_bits_Rem64 hi lo y (fun v M => some (Res.fin v M))
  refine CallsA.ofEv (Γ := T_Q5_Of) (X := XT) (Λ := noL) (EQ := EQT) (n := 60) g_Q5_Of hEQT hmT (fun _ _ _ _ => noL_ok _) (hw.trans ?_)
  have h_hi := inR_u64 (hok (.int .u64 hi) (by simp [datasL, datas]))
  have h_lo := inR_u64 (hok (.int .u64 lo) (by simp [datasL, datas]))
  have h_y := inR_u64 (hok (.int .u64 y) (by simp [datasL, datas]))
  clear hok hw
  exact remAns_ok (K := fun v M => some (Res.fin v M)) h_hi.1 (of_decide_eq_true hd)
def s_bits_Rem64 : List AV → List Blk → (AV → List Blk → Ans) → Ans := fun xs bs K => match xs, bs with
  | [.v (.c (.d (.int .u64 hi))), .v (.c (.d (.int .u64 lo))), .v (.c (.d (.int .u64 y)))], [] => bif decide (0 < y) then K (rU ((hi * 18446744073709551616 + lo) % y)) [] else none
  | _, _ => none
def T_bits_Rem64 : Nat → List AV → List Blk → (AV → List Blk → Ans) → Ans := upd T_Q5_Of 137 s_bits_Rem64
theorem g_bits_Rem64 : GOK Tryz.prog GT gbT T_bits_Rem64 XT := by
  refine GOK.upd g_Q5_Of (fun args w => Tryz.call137 args w) fun xs bs K r h => ?_
  unfold s_bits_Rem64 at h
  split at h
  · simp only [cond_eq_ite] at h
    split at h
    · exact ⟨_, _, c_bits_Rem64 _ _ _ ‹_›, h⟩
    · cases h
  · cases h


end Go.Ev

namespace Go.Ev
open Go Go.Proofs

set_option maxRecDepth 100000 in
theorem w_frac_wider (a b c d : Int) (K : AV → List Blk → Ans) : evFn Tryz.prog GT EQT T_bits_Rem64 XT noL 60 135 [.v (.c (.d (.int .u64 a))), .v (.c (.d (.int .u64 b))), .v (.c (.d (.int .u64 c))), .v (.c (.d (.int .u64 d)))] [] (fun v M => K v (M.take ([] : List Blk).length)) = K (rI (widerRaw a b c d)) [] := by
  simp only [widerRaw, widerTail, pullK K]
  kernel_rfl
set_option maxRecDepth 100000 in
theorem c_frac_wider (a b c d : Int) : CallsA Tryz.prog GT gbT 135 [.v (.c (.d (.int .u64 a))), .v (.c (.d (.int .u64 b))), .v (.c (.d (.int .u64 c))), .v (.c (.d (.int .u64 d)))] [] (rI (cmpI (a * 18446744073709551616 + b) (c * 18446744073709551616 + d))) [] := by
  refine CallsA.ofOk fun hok => ?_
  have hw := w_frac_wider a b c d (fun v M => some (Res.fin v M))
  refine CallsA.ofEv (Γ := T_bits_Rem64) (X := XT) (Λ := noL) (EQ := EQT) (n := 60) g_bits_Rem64 hEQT hmT (fun _ _ _ _ => noL_ok _) (hw.trans ?_)
  have h_a := inR_u64 (hok (.int .u64 a) (by simp [datasL, datas]))
  have h_b := inR_u64 (hok (.int .u64 b) (by simp [datasL, datas]))
  have h_c := inR_u64 (hok (.int .u64 c) (by simp [datasL, datas]))
  have h_d := inR_u64 (hok (.int .u64 d) (by simp [datasL, datas]))
  clear hok hw
  refine congrArg (fun v => some (Res.fin v [])) ?_
  rw [widerRaw_ok h_b h_d]
def s_frac_wider : List AV → List Blk → (AV → List Blk → Ans) → Ans := fun xs bs K => match xs, bs with
  | [.v (.c (.d (.int .u64 a))), .v (.c (.d (.int .u64 b))), .v (.c (.d (.int .u64 c))), .v (.c (.d (.int .u64 d)))], [] => K (rI (cmpI (a * 18446744073709551616 + b) (c * 18446744073709551616 + d))) []
  | _, _ => none
def T_frac_wider : Nat → List AV → List Blk → (AV → List Blk → Ans) → Ans := upd T_bits_Rem64 135 s_frac_wider
theorem g_frac_wider : GOK Tryz.prog GT gbT T_frac_wider XT := by
  refine GOK.upd g_bits_Rem64 (fun args w => Tryz.call135 args w) fun xs bs K r h => ?_
  unfold s_frac_wider at h
  split at h
  · exact ⟨_, _, c_frac_wider _ _ _ _, h⟩
  · cases h


set_option maxRecDepth 100000 in
theorem w_frac_build (m : Bool) (n d : Int) (K : AV → List Blk → Ans) : evFn Tryz.prog GT EQT T_frac_wider XT noL 60 139 [.v (.c (.d (.bool m))), .v (.c (.d (.int .u64 n))), .v (.c (.d (.int .u64 d)))] [] (fun v M => K v (M.take ([] : List Blk).length)) = K (rFracE (buildRaw m n d)) [] := by
  simp only [buildRaw, pullK K]
  kernel_rfl
set_option maxRecDepth 100000 in
theorem c_frac_build (m : Bool) (n d : Int) : CallsA Tryz.prog GT gbT 139 [.v (.c (.d (.bool m))), .v (.c (.d (.int .u64 n))), .v (.c (.d (.int .u64 d)))] [] (rFracE (lowF m n d)) [] := by
  refine CallsA.ofOk fun hok => ?_
  have hw := w_frac_build m n d (fun v M => some (Res.fin v M))
  refine CallsA.ofEv (Γ := T_frac_wider) (X := XT) (Λ := noL) (EQ := EQT) (n := 60) g_frac_wider hEQT hmT (fun _ _ _ _ => noL_ok _) (hw.trans ?_)
  have h_n := inR_u64 (hok (.int .u64 n) (by simp [datasL, datas]))
  have h_d := inR_u64 (hok (.int .u64 d) (by simp [datasL, datas]))
  clear hok hw
  refine congrArg (fun v => some (Res.fin v [])) ?_
  rw [buildRaw_ok h_n.1 h_d.1]
def s_frac_build : List AV → List Blk → (AV → List Blk → Ans) → Ans := fun xs bs K => match xs, bs with
  | [.v (.c (.d (.bool m))), .v (.c (.d (.int .u64 n))), .v (.c (.d (.int .u64 d)))], [] => K (rFracE (lowF m n d)) []
  | _, _ => none
def T_frac_build : Nat → List AV → List Blk → (AV → List Blk → Ans) → Ans := upd T_frac_wider 139 s_frac_build
theorem g_frac_build : GOK Tryz.prog GT gbT T_frac_build XT := by
  refine GOK.upd g_frac_wider (fun args w => Tryz.call139 args w) fun xs bs K r h => ?_
  unfold s_frac_build at h
  split at h
  · exact ⟨_, _, c_frac_build _ _ _, h⟩
  · cases h


set_option maxRecDepth 100000 in
theorem w_frac_both (a b c d : Int) (K : AV → List Blk → Ans) : evFn Tryz.prog GT EQT T_frac_build XT noL 60 111 [.v (.agg [.int .i64 a, .int .i64 b]), .v (.agg [.int .i64 c, .int .i64 d])] [] (fun v M => K v (M.take ([] : List Blk).length)) = K (rI (bothE ⟨a, b⟩ ⟨c, d⟩)) [] := by
  simp only [bothE, pullK K]
  kernel_rfl
set_option maxRecDepth 100000 in
theorem c_frac_both (a b c d : Int) : CallsA Tryz.prog GT gbT 111 [.v (.agg [.int .i64 a, .int .i64 b]), .v (.agg [.int .i64 c, .int .i64 d])] [] (rI (bothE ⟨a, b⟩ ⟨c, d⟩)) [] := by
  refine CallsA.ofOk fun hok => ?_
  have hw := w_frac_both a b c d (fun v M => some (Res.fin v M))
  refine CallsA.ofEv (Γ := T_frac_build) (X := XT) (Λ := noL) (EQ := EQT) (n := 60) g_frac_build hEQT hmT (fun _ _ _ _ => noL_ok _) (hw.trans ?_)
  rfl
def s_frac_both : List AV → List Blk → (AV → List Blk → Ans) → Ans := fun xs bs K => match xs, bs with
  | [.v (.agg [.int .i64 a, .int .i64 b]), .v (.agg [.int .i64 c, .int .i64 d])], [] => K (rI (bothE ⟨a, b⟩ ⟨c, d⟩)) []
  | _, _ => none
def T_frac_both : Nat → List AV → List Blk → (AV → List Blk → Ans) → Ans := upd T_frac_build 111 s_frac_both
theorem g_frac_both : GOK Tryz.prog GT gbT T_frac_both XT := by
  refine GOK.upd g_frac_build (fun args w => Tryz.call111 args w) fun xs bs K r h => ?_
  unfold s_frac_both at h
  split at h
  · exact ⟨_, _, c_frac_both _ _ _ _, h⟩
  · cases h


set_option maxRecDepth 100000 in
theorem w_frac_sum (a b c d : Int) (K : AV → List Blk → Ans) : evFn Tryz.prog GT EQT T_frac_both XT noL 120 112 [.v (.agg [.int .i64 a, .int .i64 b]), .v (.agg [.int .i64 c, .int .i64 d])] [] (fun v M => K v (M.take ([] : List Blk).length)) = sumAns K ⟨a, b⟩ ⟨c, d⟩ := by
  kernel_rfl
set_option maxRecDepth 100000 in
theorem c_frac_sum (a b c d : Int) (hd : (fracOkB ⟨a, b⟩ && fracOkB ⟨c, d⟩) = true) : CallsA Tryz.prog GT gbT 112 [.v (.agg [.int .i64 a, .int .i64 b]), .v (.agg [.int .i64 c, .int .i64 d])] [] (rFracE (fracOf (a * d + c * b) (b * d))) [] := by
  refine CallsA.ofOk fun hok => ?_
  have hw := w_frac_sum a b c d (fun v M => some (Res.fin v M))
  refine CallsA.ofEv (Γ := T_frac_both) (X := XT) (Λ := noL) (EQ := EQT) (n := 120) g_frac_both hEQT hmT (fun _ _ _ _ => noL_ok _) (hw.trans ?_)
  have h_a := inR_i64 (hok (.int .i64 a) (by simp [datasL, datas]))
  have h_b := inR_i64 (hok (.int .i64 b) (by simp [datasL, datas]))
  have h_c := inR_i64 (hok (.int .i64 c) (by simp [datasL, datas]))
  have h_d := inR_i64 (hok (.int .i64 d) (by simp [datasL, datas]))
  clear hok hw
  simp only [Bool.and_eq_true] at hd
  exact sumAns_ok (K := fun v M => some (Res.fin v M)) (fracOkB_iff.1 hd.1) (fracOkB_iff.1 hd.2)
def s_frac_sum : List AV → List Blk → (AV → List Blk → Ans) → Ans := fun xs bs K => match xs, bs with
  | [.v (.agg [.int .i64 a, .int .i64 b]), .v (.agg [.int .i64 c, .int .i64 d])], [] => bif fracOkB ⟨a, b⟩ && fracOkB ⟨c, d⟩ then K (rFracE (fracOf (a * d + c * b) (b * d))) [] else none
  | _, _ => none
def T_frac_sum : Nat → List AV → List Blk → (AV → List Blk → Ans) → Ans := upd T_frac_both 112 s_frac_sum
theorem g_frac_sum : GOK Tryz.prog GT gbT T_frac_sum XT := by
  refine GOK.upd g_frac_both (fun args w => Tryz.call112 args w) fun xs bs K r h => ?_
  unfold s_frac_sum at h
  split at h
  · simp only [cond_eq_ite] at h
    split at h
    · exact ⟨_, _, c_frac_sum _ _ _ _ ‹_›, h⟩
    · cases h
  · cases h


set_option maxRecDepth 100000 in
theorem w_frac_product (a b c d : Int) (K : AV → List Blk → Ans) : evFn Tryz.prog GT EQT T_frac_sum XT noL 120 130 [.v (.agg [.int .i64 a, .int .i64 b]), .v (.agg [.int .i64 c, .int .i64 d])] [] (fun v M => K v (M.take ([] : List Blk).length)) = prodAns K ⟨a, b⟩ ⟨c, d⟩ := by
  kernel_rfl
set_option maxRecDepth 100000 in
theorem c_frac_product (a b c d : Int) (hd : (fracOkB ⟨a, b⟩ && fracOkB ⟨c, d⟩) = true) : CallsA Tryz.prog GT gbT 130 [.v (.agg [.int .i64 a, .int .i64 b]), .v (.agg [.int .i64 c, .int .i64 d])] [] (rFracE (fracOf (a * c) (b * d))) [] := by
  refine CallsA.ofOk fun hok => ?_
  have hw := w_frac_product a b c d (fun v M => some (Res.fin v M))
  refine CallsA.ofEv (Γ := T_frac_sum) (X := XT) (Λ := noL) (EQ := EQT) (n := 120) g_frac_sum hEQT hmT (fun _ _ _ _ => noL_ok _) (hw.trans ?_)
  have h_a := inR_i64 (hok (.int .i64 a) (by simp [datasL, datas]))
  have h_b := inR_i64 (hok (.int .i64 b) (by simp [datasL, datas]))
  have h_c := inR_i64 (hok (.int .i64 c) (by simp [datasL, datas]))
  have h_d := inR_i64 (hok (.int .i64 d) (by simp [datasL, datas]))
  clear hok hw
  simp only [Bool.and_eq_true] at hd
  exact prodAns_ok (K := fun v M => some (Res.fin v M)) (fracOkB_iff.1 hd.1) (fracOkB_iff.1 hd.2)
def s_frac_product : List AV → List Blk → (AV → List Blk → Ans) → Ans := fun xs bs K => match xs, bs with
  | [.v (.agg [.int .i64 a, .int .i64 b]), .v (.agg [.int .i64 c, .int .i64 d])], [] => bif fracOkB ⟨a, b⟩ && fracOkB ⟨c, d⟩ then K (rFracE (fracOf (a * c) (b * d))) [] else none
  | _, _ => none
def T_frac_product : Nat → List AV → List Blk → (AV → List Blk → Ans) → Ans := upd T_frac_sum 130 s_frac_product
theorem g_frac_product : GOK Tryz.prog GT gbT T_frac_product XT := by
  refine GOK.upd g_frac_sum (fun args w => Tryz.call130 args w) fun xs bs K r h => ?_
  unfold s_frac_product at h
  split at h
  · simp only [cond_eq_ite] at h
    split at h
    · exact ⟨_, _, c_frac_product _ _ _ _ ‹_›, h⟩
    · cases h
  · cases h


set_option maxRecDepth 100000 in
theorem w_frac_Sub (a b c d : Int) (K : AV → List Blk → Ans) : evFn Tryz.prog GT EQT T_frac_product XT noL 60 74 [.v (.agg [.int .i64 a, .int .i64 b]), .v (.agg [.int .i64 c, .int .i64 d])] [] (fun v M => K v (M.take ([] : List Blk).length)) = subAns K ⟨a, b⟩ ⟨c, d⟩ := by
  kernel_rfl
set_option maxRecDepth 100000 in
theorem c_frac_Sub (a b c d : Int) : CallsA Tryz.prog GT gbT 74 [.v (.agg [.int .i64 a, .int .i64 b]), .v (.agg [.int .i64 c, .int .i64 d])] [] (rFracE (subF ⟨a, b⟩ ⟨c, d⟩)) [] := by
  refine CallsA.ofOk fun hok => ?_
  have hw := w_frac_Sub a b c d (fun v M => some (Res.fin v M))
  refine CallsA.ofEv (Γ := T_frac_product) (X := XT) (Λ := noL) (EQ := EQT) (n := 60) g_frac_product hEQT hmT (fun _ _ _ _ => noL_ok _) (hw.trans ?_)
  have h_a := inR_i64 (hok (.int .i64 a) (by simp [datasL, datas]))
  have h_b := inR_i64 (hok (.int .i64 b) (by simp [datasL, datas]))
  have h_c := inR_i64 (hok (.int .i64 c) (by simp [datasL, datas]))
  have h_d := inR_i64 (hok (.int .i64 d) (by simp [datasL, datas]))
  clear hok hw
  exact subAns_ok (K := fun v M => some (Res.fin v M))
def s_frac_Sub : List AV → List Blk → (AV → List Blk → Ans) → Ans := fun xs bs K => match xs, bs with
  | [.v (.agg [.int .i64 a, .int .i64 b]), .v (.agg [.int .i64 c, .int .i64 d])], [] => K (rFracE (subF ⟨a, b⟩ ⟨c, d⟩)) []
  | _, _ => none
def T_frac_Sub : Nat → List AV → List Blk → (AV → List Blk → Ans) → Ans := upd T_frac_product 74 s_frac_Sub
theorem g_frac_Sub : GOK Tryz.prog GT gbT T_frac_Sub XT := by
  refine GOK.upd g_frac_product (fun args w => Tryz.call74 args w) fun xs bs K r h => ?_
  unfold s_frac_Sub at h
  split at h
  · exact ⟨_, _, c_frac_Sub _ _ _ _, h⟩
  · cases h


set_option maxRecDepth 100000 in
theorem w_frac_Mul (a b c d : Int) (K : AV → List Blk → Ans) : evFn Tryz.prog GT EQT T_frac_Sub XT noL 60 108 [.v (.agg [.int .i64 a, .int .i64 b]), .v (.agg [.int .i64 c, .int .i64 d])] [] (fun v M => K v (M.take ([] : List Blk).length)) = mulAns K ⟨a, b⟩ ⟨c, d⟩ := by
  kernel_rfl
set_option maxRecDepth 100000 in
theorem c_frac_Mul (a b c d : Int) : CallsA Tryz.prog GT gbT 108 [.v (.agg [.int .i64 a, .int .i64 b]), .v (.agg [.int .i64 c, .int .i64 d])] [] (rFracE (mulF ⟨a, b⟩ ⟨c, d⟩)) [] := by
  refine CallsA.ofOk fun hok => ?_
  have hw := w_frac_Mul a b c d (fun v M => some (Res.fin v M))
  refine CallsA.ofEv (Γ := T_frac_Sub) (X := XT) (Λ := noL) (EQ := EQT) (n := 60) g_frac_Sub hEQT hmT (fun _ _ _ _ => noL_ok _) (hw.trans ?_)
  have h_a := inR_i64 (hok (.int .i64 a) (by simp [datasL, datas]))
  have h_b := inR_i64 (hok (.int .i64 b) (by simp [datasL, datas]))
  have h_c := inR_i64 (hok (.int .i64 c) (by simp [datasL, datas]))
  have h_d := inR_i64 (hok (.int .i64 d) (by simp [datasL, datas]))
  clear hok hw
  exact mulAns_ok (K := fun v M => some (Res.fin v M))
def s_frac_Mul : List AV → List Blk → (AV → List Blk → Ans) → Ans := fun xs bs K => match xs, bs with
  | [.v (.agg [.int .i64 a, .int .i64 b]), .v (.agg [.int .i64 c, .int .i64 d])], [] => K (rFracE (mulF ⟨a, b⟩ ⟨c, d⟩)) []
  | _, _ => none
def T_frac_Mul : Nat → List AV → List Blk → (AV → List Blk → Ans) → Ans := upd T_frac_Sub 108 s_frac_Mul
theorem g_frac_Mul : GOK Tryz.prog GT gbT T_frac_Mul XT := by
  refine GOK.upd g_frac_Sub (fun args w => Tryz.call108 args w) fun xs bs K r h => ?_
  unfold s_frac_Mul at h
  split at h
  · exact ⟨_, _, c_frac_Mul _ _ _ _, h⟩
  · cases h


set_option maxRecDepth 100000 in
theorem w_Q1_Both (a b c d : Int) (K : AV → List Blk → Ans) : evFn Tryz.prog GT EQT T_frac_Mul XT noL 60 97 [.v (.agg [.int .i64 a, .int .i64 b]), .v (.agg [.int .i64 c, .int .i64 d])] [] (fun v M => K v (M.take ([] : List Blk).length)) = K (rI (bothE ⟨a, b⟩ ⟨c, d⟩)) [] := by
  simp only [bothE, pullK K]
  kernel_rfl
set_option maxRecDepth 100000 in
theorem c_Q1_Both (a b c d : Int) : CallsA Tryz.prog GT gbT 97 [.v (.agg [.int .i64 a, .int .i64 b]), .v (.agg [.int .i64 c, .int .i64 d])] [] (rI (bothE ⟨a, b⟩ ⟨c, d⟩)) [] := by
  refine CallsA.ofOk fun hok => ?_
  have hw := w_Q1_Both a b c d (fun v M => some (Res.fin v M))
  refine CallsA.ofEv (Γ := T_frac_Mul) (X := XT) (Λ := noL) (EQ := EQT) (n := 60) g_frac_Mul hEQT hmT (fun _ _ _ _ => noL_ok _) (hw.trans ?_)
  rfl
def s_Q1_Both : List AV → List Blk → (AV → List Blk → Ans) → Ans := fun xs bs K => match xs, bs with
  | [.v (.agg [.int .i64 a, .int .i64 b]), .v (.agg [.int .i64 c, .int .i64 d])], [] => K (rI (bothE ⟨a, b⟩ ⟨c, d⟩)) []
  | _, _ => none
def T_Q1_Both : Nat → List AV → List Blk → (AV → List Blk → Ans) → Ans := upd T_frac_Mul 97 s_Q1_Both
theorem g_Q1_Both : GOK Tryz.prog GT gbT T_Q1_Both XT := by
  refine GOK.upd g_frac_Mul (fun args w => Tryz.call97 args w) fun xs bs K r h => ?_
  unfold s_Q1_Both at h
  split at h
  · exact ⟨_, _, c_Q1_Both _ _ _ _, h⟩
  · cases h


set_option maxRecDepth 100000 in
theorem w_Q1_sum (a b c d e f g h : Int) (K : AV → List Blk → Ans) : evFn Tryz.prog GT EQT T_Q1_Both XT noL 60 119 [.v (.agg [.int .u64 a, .int .u64 b, .int .u64 c, .int .u64 d]), .v (.agg [.int .u64 e, .int .u64 f, .int .u64 g, .int .u64 h])] [] (fun v M => K v (M.take ([] : List Blk).length)) = K (rBig (sumBig ⟨a, b, c, d⟩ ⟨e, f, g, h⟩)) [] := by
  kernel_rfl
set_option maxRecDepth 100000 in
theorem c_Q1_sum (a b c d e f g h : Int) (hd : (sumOn ⟨a, b, c, d⟩ ⟨e, f, g, h⟩) = true) : CallsA Tryz.prog GT gbT 119 [.v (.agg [.int .u64 a, .int .u64 b, .int .u64 c, .int .u64 d]), .v (.agg [.int .u64 e, .int .u64 f, .int .u64 g, .int .u64 h])] [] (rBig (bigOf (valOf ⟨a, b, c, d⟩ + valOf ⟨e, f, g, h⟩))) [] := by
  refine CallsA.ofOk fun hok => ?_
  have hw := w_Q1_sum a b c d e f g h (fun v M => some (Res.fin v M))
  refine CallsA.ofEv (Γ := T_Q1_Both) (X := XT) (Λ := noL) (EQ := EQT) (n := 60) g_Q1_Both hEQT hmT (fun _ _ _ _ => noL_ok _) (hw.trans ?_)
  have h_a := inR_u64 (hok (.int .u64 a) (by simp [datasL, datas]))
  have h_b := inR_u64 (hok (.int .u64 b) (by simp [datasL, datas]))
  have h_c := inR_u64 (hok (.int .u64 c) (by simp [datasL, datas]))
  have h_d := inR_u64 (hok (.int .u64 d) (by simp [datasL, datas]))
  have h_e := inR_u64 (hok (.int .u64 e) (by simp [datasL, datas]))
  have h_f := inR_u64 (hok (.int .u64 f) (by simp [datasL, datas]))
  have h_g := inR_u64 (hok (.int .u64 g) (by simp [datasL, datas]))
  have h_h := inR_u64 (hok (.int .u64 h) (by simp [datasL, datas]))
  clear hok hw
  refine congrArg (fun v => some (Res.fin v [])) ?_
  rw [sumBig_ok hd]
def s_Q1_sum : List AV → List Blk → (AV → List Blk → Ans) → Ans := fun xs bs K => match xs, bs with
  | [.v (.agg [.int .u64 a, .int .u64 b, .int .u64 c, .int .u64 d]), .v (.agg [.int .u64 e, .int .u64 f, .int .u64 g, .int .u64 h])], [] => bif sumOn ⟨a, b, c, d⟩ ⟨e, f, g, h⟩ then K (rBig (bigOf (valOf ⟨a, b, c, d⟩ + valOf ⟨e, f, g, h⟩))) [] else none
  | _, _ => none
def T_Q1_sum : Nat → List AV → List Blk → (AV → List Blk → Ans) → Ans := upd T_Q1_Both 119 s_Q1_sum
theorem g_Q1_sum : GOK Tryz.prog GT gbT T_Q1_sum XT := by
  refine GOK.upd g_Q1_Both (fun args w => Tryz.call119 args w) fun xs bs K r h => ?_
  unfold s_Q1_sum at h
  split at h
  · simp only [cond_eq_ite] at h
    split at h
    · exact ⟨_, _, c_Q1_sum _ _ _ _ _ _ _ _ ‹_›, h⟩
    · cases h
  · cases h


set_option maxRecDepth 100000 in
theorem w_Q1_rest (a b c d e f g h : Int) (K : AV → List Blk → Ans) : evFn Tryz.prog GT EQT T_Q1_sum XT noL 60 120 [.v (.agg [.int .u64 a, .int .u64 b, .int .u64 c, .int .u64 d]), .v (.agg [.int .u64 e, .int .u64 f, .int .u64 g, .int .u64 h])] [] (fun v M => K v (M.take ([] : List Blk).length)) = K (rBig (restBig ⟨a, b, c, d⟩ ⟨e, f, g, h⟩)) [] := by
  kernel_rfl
set_option maxRecDepth 100000 in
theorem c_Q1_rest (a b c d e f g h : Int) (hd : (restOn ⟨a, b, c, d⟩ ⟨e, f, g, h⟩) = true) : CallsA Tryz.prog GT gbT 120 [.v (.agg [.int .u64 a, .int .u64 b, .int .u64 c, .int .u64 d]), .v (.agg [.int .u64 e, .int .u64 f, .int .u64 g, .int .u64 h])] [] (rBig (bigOf (valOf ⟨a, b, c, d⟩ - valOf ⟨e, f, g, h⟩))) [] := by
  refine CallsA.ofOk fun hok => ?_
  have hw := w_Q1_rest a b c d e f g h (fun v M => some (Res.fin v M))
  refine CallsA.ofEv (Γ := T_Q1_sum) (X := XT) (Λ := noL) (EQ := EQT) (n := 60) g_Q1_sum hEQT hmT (fun _ _ _ _ => noL_ok _) (hw.trans ?_)
  have h_a := inR_u64 (hok (.int .u64 a) (by simp [datasL, datas]))
  have h_b := inR_u64 (hok (.int .u64 b) (by simp [datasL, datas]))
  have h_c := inR_u64 (hok (.int .u64 c) (by simp [datasL, datas]))
  have h_d := inR_u64 (hok (.int .u64 d) (by simp [datasL, datas]))
  have h_e := inR_u64 (hok (.int .u64 e) (by simp [datasL, datas]))
  have h_f := inR_u64 (hok (.int .u64 f) (by simp [datasL, datas]))
  have h_g := inR_u64 (hok (.int .u64 g) (by simp [datasL, datas]))
  have h_h := inR_u64 (hok (.int .u64 h) (by simp [datasL, datas]))
  clear hok hw
  refine congrArg (fun v => some (Res.fin v [])) ?_
  rw [restBig_ok hd]
def s_Q1_rest : List AV → List Blk → (AV → List Blk → Ans) → Ans := fun xs bs K => match xs, bs with
  | [.v (.agg [.int .u64 a, .int .u64 b, .int .u64 c, .int .u64 d]), .v (.agg [.int .u64 e, .int .u64 f, .int .u64 g, .int .u64 h])], [] => bif restOn ⟨a, b, c, d⟩ ⟨e, f, g, h⟩ then K (rBig (bigOf (valOf ⟨a, b, c, d⟩ - valOf ⟨e, f, g, h⟩))) [] else none
  | _, _ => none
def T_Q1_rest : Nat → List AV → List Blk → (AV → List Blk → Ans) → Ans := upd T_Q1_sum 120 s_Q1_rest
theorem g_Q1_rest : GOK Tryz.prog GT gbT T_Q1_rest XT := by
  refine GOK.upd g_Q1_sum (fun args w => Tryz.call120 args w) fun xs bs K r h => ?_
  unfold s_Q1_rest at h
  split at h
  · simp only [cond_eq_ite] at h
    split at h
    · exact ⟨_, _, c_Q1_rest _ _ _ _ _ _ _ _ ‹_›, h⟩
    · cases h
  · cases h


set_option maxRecDepth 100000 in
theorem w_Q1_Neg (a b : Int) (K : AV → List Blk → Ans) : evFn Tryz.prog GT EQT T_Q1_rest XT noL 60 114 [.v (.agg [.int .i64 a, .int .i64 b])] [] (fun v M => K v (M.take ([] : List Blk).length)) = K (rFrac ⟨w64 (0 - a), b⟩) [] := by
  kernel_rfl
set_option maxRecDepth 100000 in
theorem c_Q1_Neg (a b : Int) : CallsA Tryz.prog GT gbT 114 [.v (.agg [.int .i64 a, .int .i64 b])] [] (rFrac ⟨w64 (0 - a), b⟩) [] := by
  refine CallsA.ofOk fun hok => ?_
  have hw := w_Q1_Neg a b (fun v M => some (Res.fin v M))
  refine CallsA.ofEv (Γ := T_Q1_rest) (X := XT) (Λ := noL) (EQ := EQT) (n := 60) g_Q1_rest hEQT hmT (fun _ _ _ _ => noL_ok _) (hw.trans ?_)
  rfl
def s_Q1_Neg : List AV → List Blk → (AV → List Blk → Ans) → Ans := fun xs bs K => match xs, bs with
  | [.v (.agg [.int .i64 a, .int .i64 b])], [] => K (rFrac ⟨w64 (0 - a), b⟩) []
  | _, _ => none
def T_Q1_Neg : Nat → List AV → List Blk → (AV → List Blk → Ans) → Ans := upd T_Q1_rest 114 s_Q1_Neg
theorem g_Q1_Neg : GOK Tryz.prog GT gbT T_Q1_Neg XT := by
  refine GOK.upd g_Q1_rest (fun args w => Tryz.call114 args w) fun xs bs K r h => ?_
  unfold s_Q1_Neg at h
  split at h
  · exact ⟨_, _, c_Q1_Neg _ _, h⟩
  · cases h


set_option maxRecDepth 100000 in
theorem w_Q1_Add (a b c d : Int) (K : AV → List Blk → Ans) : evFn Tryz.prog GT EQT T_Q1_Neg XT noL 120 94 [.v (.agg [.int .i64 a, .int .i64 b]), .v (.agg [.int .i64 c, .int .i64 d])] [] (fun v M => K v (M.take ([] : List Blk).length)) = addRefAns K ⟨a, b⟩ ⟨c, d⟩ := by
  kernel_rfl
set_option maxRecDepth 100000 in
theorem c_Q1_Add (a b c d : Int) : CallsA Tryz.prog GT gbT 94 [.v (.agg [.int .i64 a, .int .i64 b]), .v (.agg [.int .i64 c, .int .i64 d])] [] (rFracE (addF ⟨a, b⟩ ⟨c, d⟩)) [] := by
  refine CallsA.ofOk fun hok => ?_
  have hw := w_Q1_Add a b c d (fun v M => some (Res.fin v M))
  refine CallsA.ofEv (Γ := T_Q1_Neg) (X := XT) (Λ := noL) (EQ := EQT) (n := 120) g_Q1_Neg hEQT hmT (fun _ _ _ _ => noL_ok _) (hw.trans ?_)
  have h_a := inR_i64 (hok (.int .i64 a) (by simp [datasL, datas]))
  have h_b := inR_i64 (hok (.int .i64 b) (by simp [datasL, datas]))
  have h_c := inR_i64 (hok (.int .i64 c) (by simp [datasL, datas]))
  have h_d := inR_i64 (hok (.int .i64 d) (by simp [datasL, datas]))
  clear hok hw
  exact addRefAns_ok (K := fun v M => some (Res.fin v M))
def s_Q1_Add : List AV → List Blk → (AV → List Blk → Ans) → Ans := fun xs bs K => match xs, bs with
  | [.v (.agg [.int .i64 a, .int .i64 b]), .v (.agg [.int .i64 c, .int .i64 d])], [] => K (rFracE (addF ⟨a, b⟩ ⟨c, d⟩)) []
  | _, _ => none
def T_Q1_Add : Nat → List AV → List Blk → (AV → List Blk → Ans) → Ans := upd T_Q1_Neg 94 s_Q1_Add
theorem g_Q1_Add : GOK Tryz.prog GT gbT T_Q1_Add XT := by
  refine GOK.upd g_Q1_Neg (fun args w => Tryz.call94 args w) fun xs bs K r h => ?_
  unfold s_Q1_Add at h
  split at h
  · exact ⟨_, _, c_Q1_Add _ _ _ _, h⟩
  · cases h


set_option maxRecDepth 100000 in
theorem w_Q1_Sub (a b c d : Int) (K : AV → List Blk → Ans) : evFn Tryz.prog GT EQT T_Q1_Add XT noL 60 93 [.v (.agg [.int .i64 a, .int .i64 b]), .v (.agg [.int .i64 c, .int .i64 d])] [] (fun v M => K v (M.take ([] : List Blk).length)) = subRefAns K ⟨a, b⟩ ⟨c, d⟩ := by
  kernel_rfl
set_option maxRecDepth 100000 in
theorem c_Q1_Sub (a b c d : Int) : CallsA Tryz.prog GT gbT 93 [.v (.agg [.int .i64 a, .int .i64 b]), .v (.agg [.int .i64 c, .int .i64 d])] [] (rFracE (subF ⟨a, b⟩ ⟨c, d⟩)) [] := by
  refine CallsA.ofOk fun hok => ?_
  have hw := w_Q1_Sub a b c d (fun v M => some (Res.fin v M))
  refine CallsA.ofEv (Γ := T_Q1_Add) (X := XT) (Λ := noL) (EQ := EQT) (n := 60) g_Q1_Add hEQT hmT (fun _ _ _ _ => noL_ok _) (hw.trans ?_)
  have h_a := inR_i64 (hok (.int .i64 a) (by simp [datasL, datas]))
  have h_b := inR_i64 (hok (.int .i64 b) (by simp [datasL, datas]))
  have h_c := inR_i64 (hok (.int .i64 c) (by simp [datasL, datas]))
  have h_d := inR_i64 (hok (.int .i64 d) (by simp [datasL, datas]))
  clear hok hw
  exact subRefAns_ok (K := fun v M => some (Res.fin v M))
def s_Q1_Sub : List AV → List Blk → (AV → List Blk → Ans) → Ans := fun xs bs K => match xs, bs with
  | [.v (.agg [.int .i64 a, .int .i64 b]), .v (.agg [.int .i64 c, .int .i64 d])], [] => K (rFracE (subF ⟨a, b⟩ ⟨c, d⟩)) []
  | _, _ => none
def T_Q1_Sub : Nat → List AV → List Blk → (AV → List Blk → Ans) → Ans := upd T_Q1_Add 93 s_Q1_Sub
theorem g_Q1_Sub : GOK Tryz.prog GT gbT T_Q1_Sub XT := by
  refine GOK.upd g_Q1_Add (fun args w => Tryz.call93 args w) fun xs bs K r h => ?_
  unfold s_Q1_Sub at h
  split at h
  · exact ⟨_, _, c_Q1_Sub _ _ _ _, h⟩
  · cases h


set_option maxRecDepth 100000 in
theorem w_Q1_Mul (a b c d : Int) (K : AV → List Blk → Ans) : evFn Tryz.prog GT EQT T_Q1_Sub XT noL 60 59 [.v (.agg [.int .i64 a, .int .i64 b]), .v (.agg [.int .i64 c, .int .i64 d])] [] (fun v M => K v (M.take ([] : List Blk).length)) = mulRefAns K ⟨a, b⟩ ⟨c, d⟩ := by
  kernel_rfl
set_option maxRecDepth 100000 in
theorem c_Q1_Mul (a b c d : Int) : CallsA Tryz.prog GT gbT 59 [.v (.agg [.int .i64 a, .int .i64 b]), .v (.agg [.int .i64 c, .int .i64 d])] [] (rFracE (mulF ⟨a, b⟩ ⟨c, d⟩)) [] := by
  refine CallsA.ofOk fun hok => ?_
  have hw := w_Q1_Mul a b c d (fun v M => some (Res.fin v M))
  refine CallsA.ofEv (Γ := T_Q1_Sub) (X := XT) (Λ := noL) (EQ := EQT) (n := 60) g_Q1_Sub hEQT hmT (fun _ _ _ _ => noL_ok _) (hw.trans ?_)
  have h_a := inR_i64 (hok (.int .i64 a) (by simp [datasL, datas]))
  have h_b := inR_i64 (hok (.int .i64 b) (by simp [datasL, datas]))
  have h_c := inR_i64 (hok (.int .i64 c) (by simp [datasL, datas]))
  have h_d := inR_i64 (hok (.int .i64 d) (by simp [datasL, datas]))
  clear hok hw
  exact mulRefAns_ok (K := fun v M => some (Res.fin v M))
def s_Q1_Mul : List AV → List Blk → (AV → List Blk → Ans) → Ans := fun xs bs K => match xs, bs with
  | [.v (.agg [.int .i64 a, .int .i64 b]), .v (.agg [.int .i64 c, .int .i64 d])], [] => K (rFracE (mulF ⟨a, b⟩ ⟨c, d⟩)) []
  | _, _ => none
def T_Q1_Mul : Nat → List AV → List Blk → (AV → List Blk → Ans) → Ans := upd T_Q1_Sub 59 s_Q1_Mul
theorem g_Q1_Mul : GOK Tryz.prog GT gbT T_Q1_Mul XT := by
  refine GOK.upd g_Q1_Sub (fun args w => Tryz.call59 args w) fun xs bs K r h => ?_
  unfold s_Q1_Mul at h
  split at h
  · exact ⟨_, _, c_Q1_Mul _ _ _ _, h⟩
  · cases h


set_option maxRecDepth 100000 in
theorem w_Q1_Div (a b c d : Int) (K : AV → List Blk → Ans) : evFn Tryz.prog GT EQT T_Q1_Mul XT noL 60 96 [.v (.agg [.int .i64 a, .int .i64 b]), .v (.agg [.int .i64 c, .int .i64 d])] [] (fun v M => K v (M.take ([] : List Blk).length)) = divRefAns K ⟨a, b⟩ ⟨c, d⟩ := by
  kernel_rfl
set_option maxRecDepth 100000 in
theorem c_Q1_Div (a b c d : Int) : CallsA Tryz.prog GT gbT 96 [.v (.agg [.int .i64 a, .int .i64 b]), .v (.agg [.int .i64 c, .int .i64 d])] [] (rFracE (divF ⟨a, b⟩ ⟨c, d⟩)) [] := by
  refine CallsA.ofOk fun hok => ?_
  have hw := w_Q1_Div a b c d (fun v M => some (Res.fin v M))
  refine CallsA.ofEv (Γ := T_Q1_Mul) (X := XT) (Λ := noL) (EQ := EQT) (n := 60) g_Q1_Mul hEQT hmT (fun _ _ _ _ => noL_ok _) (hw.trans ?_)
  have h_a := inR_i64 (hok (.int .i64 a) (by simp [datasL, datas]))
  have h_b := inR_i64 (hok (.int .i64 b) (by simp [datasL, datas]))
  have h_c := inR_i64 (hok (.int .i64 c) (by simp [datasL, datas]))
  have h_d := inR_i64 (hok (.int .i64 d) (by simp [datasL, datas]))
  clear hok hw
  exact divRefAns_ok (K := fun v M => some (Res.fin v M))
def s_Q1_Div : List AV → List Blk → (AV → List Blk → Ans) → Ans := fun xs bs K => match xs, bs with
  | [.v (.agg [.int .i64 a, .int .i64 b]), .v (.agg [.int .i64 c, .int .i64 d])], [] => K (rFracE (divF ⟨a, b⟩ ⟨c, d⟩)) []
  | _, _ => none
def T_Q1_Div : Nat → List AV → List Blk → (AV → List Blk → Ans) → Ans := upd T_Q1_Mul 96 s_Q1_Div
theorem g_Q1_Div : GOK Tryz.prog GT gbT T_Q1_Div XT := by
  refine GOK.upd g_Q1_Mul (fun args w => Tryz.call96 args w) fun xs bs K r h => ?_
  unfold s_Q1_Div at h
  split at h
  · exact ⟨_, _, c_Q1_Div _ _ _ _, h⟩
  · cases h


set_option maxRecDepth 100000 in
theorem w_vec_Check (a b c d e f : Int) (K : AV → List Blk → Ans) : evFn Tryz.prog GT EQT (inl Tryz.prog GT EQT XT [124] T_Q1_Div 60 1) XT noL 60 102 [.v (.agg [.int .i64 a, .int .i64 b, .int .i64 c, .int .i64 d, .int .i64 e, .int .i64 f])] [] (fun v M => K v (M.take ([] : List Blk).length)) = K (rI (checkVRaw ⟨⟨a, b⟩, ⟨c, d⟩, ⟨e, f⟩⟩)) [] := by
  simp only [checkVRaw, pullK K]
  kernel_rfl
set_option maxRecDepth 100000 in
theorem c_vec_Check (a b c d e f : Int) : CallsA Tryz.prog GT gbT 102 [.v (.agg [.int .i64 a, .int .i64 b, .int .i64 c, .int .i64 d, .int .i64 e, .int .i64 f])] [] (rI (checkV ⟨⟨a, b⟩, ⟨c, d⟩, ⟨e, f⟩⟩)) [] := by
  refine CallsA.ofOk fun hok => ?_
  have hw := w_vec_Check a b c d e f (fun v M => some (Res.fin v M))
  refine CallsA.ofEv (Γ := (inl Tryz.prog GT EQT XT [124] T_Q1_Div 60 1)) (X := XT) (Λ := noL) (EQ := EQT) (n := 60) (g_Q1_Div.inl hEQT hmT (fun f hf => by simp only [List.mem_cons, List.not_mem_nil, or_false] at hf; subst hf; exact (fun args w => Tryz.call124 args w)) 60 1) hEQT hmT (fun _ _ _ _ => noL_ok _) (hw.trans ?_)
  have h_a := inR_i64 (hok (.int .i64 a) (by simp [datasL, datas]))
  have h_b := inR_i64 (hok (.int .i64 b) (by simp [datasL, datas]))
  have h_c := inR_i64 (hok (.int .i64 c) (by simp [datasL, datas]))
  have h_d := inR_i64 (hok (.int .i64 d) (by simp [datasL, datas]))
  have h_e := inR_i64 (hok (.int .i64 e) (by simp [datasL, datas]))
  have h_f := inR_i64 (hok (.int .i64 f) (by simp [datasL, datas]))
  clear hok hw
  refine congrArg (fun v => some (Res.fin v [])) ?_
  rw [checkVRaw_ok]
def s_vec_Check : List AV → List Blk → (AV → List Blk → Ans) → Ans := fun xs bs K => match xs, bs with
  | [.v (.agg [.int .i64 a, .int .i64 b, .int .i64 c, .int .i64 d, .int .i64 e, .int .i64 f])], [] => K (rI (checkV ⟨⟨a, b⟩, ⟨c, d⟩, ⟨e, f⟩⟩)) []
  | _, _ => none
def T_vec_Check : Nat → List AV → List Blk → (AV → List Blk → Ans) → Ans := upd T_Q1_Div 102 s_vec_Check
theorem g_vec_Check : GOK Tryz.prog GT gbT T_vec_Check XT := by
  refine GOK.upd g_Q1_Div (fun args w => Tryz.call102 args w) fun xs bs K r h => ?_
  unfold s_vec_Check at h
  split at h
  · exact ⟨_, _, c_vec_Check _ _ _ _ _ _, h⟩
  · cases h


set_option maxRecDepth 100000 in
theorem w_Q2_Check (a b c d e f : Int) (K : AV → List Blk → Ans) : evFn Tryz.prog GT EQT T_vec_Check XT noL 60 83 [.v (.agg [.int .i64 a, .int .i64 b, .int .i64 c, .int .i64 d, .int .i64 e, .int .i64 f])] [] (fun v M => K v (M.take ([] : List Blk).length)) = K (rI (checkVRef ⟨⟨a, b⟩, ⟨c, d⟩, ⟨e, f⟩⟩)) [] := by
  simp only [checkVRef, pullK K]
  kernel_rfl
set_option maxRecDepth 100000 in
theorem c_Q2_Check (a b c d e f : Int) : CallsA Tryz.prog GT gbT 83 [.v (.agg [.int .i64 a, .int .i64 b, .int .i64 c, .int .i64 d, .int .i64 e, .int .i64 f])] [] (rI (checkV ⟨⟨a, b⟩, ⟨c, d⟩, ⟨e, f⟩⟩)) [] := by
  refine CallsA.ofOk fun hok => ?_
  have hw := w_Q2_Check a b c d e f (fun v M => some (Res.fin v M))
  refine CallsA.ofEv (Γ := T_vec_Check) (X := XT) (Λ := noL) (EQ := EQT) (n := 60) g_vec_Check hEQT hmT (fun _ _ _ _ => noL_ok _) (hw.trans ?_)
  have h_a := inR_i64 (hok (.int .i64 a) (by simp [datasL, datas]))
  have h_b := inR_i64 (hok (.int .i64 b) (by simp [datasL, datas]))
  have h_c := inR_i64 (hok (.int .i64 c) (by simp [datasL, datas]))
  have h_d := inR_i64 (hok (.int .i64 d) (by simp [datasL, datas]))
  have h_e := inR_i64 (hok (.int .i64 e) (by simp [datasL, datas]))
  have h_f := inR_i64 (hok (.int .i64 f) (by simp [datasL, datas]))
  clear hok hw
  refine congrArg (fun v => some (Res.fin v [])) ?_
  rw [checkVRef_ok]
def s_Q2_Check : List AV → List Blk → (AV → List Blk → Ans) → Ans := fun xs bs K => match xs, bs with
  | [.v (.agg [.int .i64 a, .int .i64 b, .int .i64 c, .int .i64 d, .int .i64 e, .int .i64 f])], [] => K (rI (checkV ⟨⟨a, b⟩, ⟨c, d⟩, ⟨e, f⟩⟩)) []
  | _, _ => none
def T_Q2_Check : Nat → List AV → List Blk → (AV → List Blk → Ans) → Ans := upd T_vec_Check 83 s_Q2_Check
theorem g_Q2_Check : GOK Tryz.prog GT gbT T_Q2_Check XT := by
  refine GOK.upd g_vec_Check (fun args w => Tryz.call83 args w) fun xs bs K r h => ?_
  unfold s_Q2_Check at h
  split at h
  · exact ⟨_, _, c_Q2_Check _ _ _ _ _ _, h⟩
  · cases h


set_option maxRecDepth 100000 in
theorem w_Q2_Both (a b c d e f g h i j k l : Int) (K : AV → List Blk → Ans) : evFn Tryz.prog GT EQT T_Q2_Check XT noL 60 75 [.v (.agg [.int .i64 a, .int .i64 b, .int .i64 c, .int .i64 d, .int .i64 e, .int .i64 f]), .v (.agg [.int .i64 g, .int .i64 h, .int .i64 i, .int .i64 j, .int .i64 k, .int .i64 l])] [] (fun v M => K v (M.take ([] : List Blk).length)) = K (rI (bothV ⟨⟨a, b⟩, ⟨c, d⟩, ⟨e, f⟩⟩ ⟨⟨g, h⟩, ⟨i, j⟩, ⟨k, l⟩⟩)) [] := by
  simp only [bothV, pullK K]
  kernel_rfl
set_option maxRecDepth 100000 in
theorem c_Q2_Both (a b c d e f g h i j k l : Int) : CallsA Tryz.prog GT gbT 75 [.v (.agg [.int .i64 a, .int .i64 b, .int .i64 c, .int .i64 d, .int .i64 e, .int .i64 f]), .v (.agg [.int .i64 g, .int .i64 h, .int .i64 i, .int .i64 j, .int .i64 k, .int .i64 l])] [] (rI (bothV ⟨⟨a, b⟩, ⟨c, d⟩, ⟨e, f⟩⟩ ⟨⟨g, h⟩, ⟨i, j⟩, ⟨k, l⟩⟩)) [] := by
  refine CallsA.ofOk fun hok => ?_
  have hw := w_Q2_Both a b c d e f g h i j k l (fun v M => some (Res.fin v M))
  refine CallsA.ofEv (Γ := T_Q2_Check) (X := XT) (Λ := noL) (EQ := EQT) (n := 60) g_Q2_Check hEQT hmT (fun _ _ _ _ => noL_ok _) (hw.trans ?_)
  rfl
def s_Q2_Both : List AV → List Blk → (AV → List Blk → Ans) → Ans := fun xs bs K => match xs, bs with
  | [.v (.agg [.int .i64 a, .int .i64 b, .int .i64 c, .int .i64 d, .int .i64 e, .int .i64 f]), .v (.agg [.int .i64 g, .int .i64 h, .int .i64 i, .int .i64 j, .int .i64 k, .int .i64 l])], [] => K (rI (bothV ⟨⟨a, b⟩, ⟨c, d⟩, ⟨e, f⟩⟩ ⟨⟨g, h⟩, ⟨i, j⟩, ⟨k, l⟩⟩)) []
  | _, _ => none
def T_Q2_Both : Nat → List AV → List Blk → (AV → List Blk → Ans) → Ans := upd T_Q2_Check 75 s_Q2_Both
theorem g_Q2_Both : GOK Tryz.prog GT gbT T_Q2_Both XT := by
  refine GOK.upd g_Q2_Check (fun args w => Tryz.call75 args w) fun xs bs K r h => ?_
  unfold s_Q2_Both at h
  split at h
  · exact ⟨_, _, c_Q2_Both _ _ _ _ _ _ _ _ _ _ _ _, h⟩
  · cases h


set_option maxRecDepth 100000 in
theorem w_vec_Sub (a b c d e f g h i j k l : Int) (K : AV → List Blk → Ans) : evFn Tryz.prog GT EQT (inl Tryz.prog GT EQT XT [70, 71, 72, 73] T_Q2_Both 120 3) XT noL 120 45 [.v (.agg [.int .i64 a, .int .i64 b, .int .i64 c, .int .i64 d, .int .i64 e, .int .i64 f]), .v (.agg [.int .i64 g, .int .i64 h, .int .i64 i, .int .i64 j, .int .i64 k, .int .i64 l])] [] (fun v M => K v (M.take ([] : List Blk).length)) = subVAns K ⟨⟨a, b⟩, ⟨c, d⟩, ⟨e, f⟩⟩ ⟨⟨g, h⟩, ⟨i, j⟩, ⟨k, l⟩⟩ := by
  kernel_rfl
set_option maxRecDepth 100000 in
theorem c_vec_Sub (a b c d e f g h i j k l : Int) : CallsA Tryz.prog GT gbT 45 [.v (.agg [.int .i64 a, .int .i64 b, .int .i64 c, .int .i64 d, .int .i64 e, .int .i64 f]), .v (.agg [.int .i64 g, .int .i64 h, .int .i64 i, .int .i64 j, .int .i64 k, .int .i64 l])] [] (rVecE (subV ⟨⟨a, b⟩, ⟨c, d⟩, ⟨e, f⟩⟩ ⟨⟨g, h⟩, ⟨i, j⟩, ⟨k, l⟩⟩)) [] := by
  refine CallsA.ofOk fun hok => ?_
  have hw := w_vec_Sub a b c d e f g h i j k l (fun v M => some (Res.fin v M))
  refine CallsA.ofEv (Γ := (inl Tryz.prog GT EQT XT [70, 71, 72, 73] T_Q2_Both 120 3)) (X := XT) (Λ := noL) (EQ := EQT) (n := 120) (g_Q2_Both.inl hEQT hmT (fun f hf => by simp only [List.mem_cons, List.not_mem_nil, or_false] at hf; rcases hf with rfl | rfl | rfl | rfl <;> first | exact (fun args w => Tryz.call70 args w) | exact (fun args w => Tryz.call71 args w) | exact (fun args w => Tryz.call72 args w) | exact (fun args w => Tryz.call73 args w)) 120 3) hEQT hmT (fun _ _ _ _ => noL_ok _) (hw.trans ?_)
  have h_a := inR_i64 (hok (.int .i64 a) (by simp [datasL, datas]))
  have h_b := inR_i64 (hok (.int .i64 b) (by simp [datasL, datas]))
  have h_c := inR_i64 (hok (.int .i64 c) (by simp [datasL, datas]))
  have h_d := inR_i64 (hok (.int .i64 d) (by simp [datasL, datas]))
  have h_e := inR_i64 (hok (.int .i64 e) (by simp [datasL, datas]))
  have h_f := inR_i64 (hok (.int .i64 f) (by simp [datasL, datas]))
  have h_g := inR_i64 (hok (.int .i64 g) (by simp [datasL, datas]))
  have h_h := inR_i64 (hok (.int .i64 h) (by simp [datasL, datas]))
  have h_i := inR_i64 (hok (.int .i64 i) (by simp [datasL, datas]))
  have h_j := inR_i64 (hok (.int .i64 j) (by simp [datasL, datas]))
  have h_k := inR_i64 (hok (.int .i64 k) (by simp [datasL, datas]))
  have h_l := inR_i64 (hok (.int .i64 l) (by simp [datasL, datas]))
  clear hok hw
  exact subVAns_ok (K := fun v M => some (Res.fin v M))
def s_vec_Sub : List AV → List Blk → (AV → List Blk → Ans) → Ans := fun xs bs K => match xs, bs with
  | [.v (.agg [.int .i64 a, .int .i64 b, .int .i64 c, .int .i64 d, .int .i64 e, .int .i64 f]), .v (.agg [.int .i64 g, .int .i64 h, .int .i64 i, .int .i64 j, .int .i64 k, .int .i64 l])], [] => K (rVecE (subV ⟨⟨a, b⟩, ⟨c, d⟩, ⟨e, f⟩⟩ ⟨⟨g, h⟩, ⟨i, j⟩, ⟨k, l⟩⟩)) []
  | _, _ => none
def T_vec_Sub : Nat → List AV → List Blk → (AV → List Blk → Ans) → Ans := upd T_Q2_Both 45 s_vec_Sub
theorem g_vec_Sub : GOK Tryz.prog GT gbT T_vec_Sub XT := by
  refine GOK.upd g_Q2_Both (fun args w => Tryz.call45 args w) fun xs bs K r h => ?_
  unfold s_vec_Sub at h
  split at h
  · exact ⟨_, _, c_vec_Sub _ _ _ _ _ _ _ _ _ _ _ _, h⟩
  · cases h


set_option maxRecDepth 100000 in
theorem w_Q2_first (a b c : Int) (K : AV → List Blk → Ans) : evFn Tryz.prog GT EQT T_vec_Sub XT noL 60 95 [.v (.c (.d (.int .i64 a))), .v (.c (.d (.int .i64 b))), .v (.c (.d (.int .i64 c)))] [] (fun v M => K v (M.take ([] : List Blk).length)) = K (rI (firstI a b c)) [] := by
  simp only [firstI, pullK K]
  kernel_rfl
set_option maxRecDepth 100000 in
theorem c_Q2_first (a b c : Int) : CallsA Tryz.prog GT gbT 95 [.v (.c (.d (.int .i64 a))), .v (.c (.d (.int .i64 b))), .v (.c (.d (.int .i64 c)))] [] (rI (firstI a b c)) [] := by
  refine CallsA.ofOk fun hok => ?_
  have hw := w_Q2_first a b c (fun v M => some (Res.fin v M))
  refine CallsA.ofEv (Γ := T_vec_Sub) (X := XT) (Λ := noL) (EQ := EQT) (n := 60) g_vec_Sub hEQT hmT (fun _ _ _ _ => noL_ok _) (hw.trans ?_)
  rfl
def s_Q2_first : List AV → List Blk → (AV → List Blk → Ans) → Ans := fun xs bs K => match xs, bs with
  | [.v (.c (.d (.int .i64 a))), .v (.c (.d (.int .i64 b))), .v (.c (.d (.int .i64 c)))], [] => K (rI (firstI a b c)) []
  | _, _ => none
def T_Q2_first : Nat → List AV → List Blk → (AV → List Blk → Ans) → Ans := upd T_vec_Sub 95 s_Q2_first
theorem g_Q2_first : GOK Tryz.prog GT gbT T_Q2_first XT := by
  refine GOK.upd g_vec_Sub (fun args w => Tryz.call95 args w) fun xs bs K r h => ?_
  unfold s_Q2_first at h
  split at h
  · exact ⟨_, _, c_Q2_first _ _ _, h⟩
  · cases h


end Go.Ev

namespace Go.Ev
open Go Go.Proofs

set_option maxRecDepth 100000 in
theorem w_Q2_vec (a b c d e f g : Int) (K : AV → List Blk → Ans) : evFn Tryz.prog GT EQT T_Q2_first XT noL 60 113 [.v (.agg [.int .i64 a, .int .i64 b]), .v (.agg [.int .i64 c, .int .i64 d]), .v (.agg [.int .i64 e, .int .i64 f]), .v (.c (.d (.int .i64 g)))] [] (fun v M => K v (M.take ([] : List Blk).length)) = K (rVecE (vecR ⟨a, b⟩ ⟨c, d⟩ ⟨e, f⟩ g)) [] := by
  simp only [vecR, pullK K]
  kernel_rfl
set_option maxRecDepth 100000 in
theorem c_Q2_vec (a b c d e f g : Int) : CallsA Tryz.prog GT gbT 113 [.v (.agg [.int .i64 a, .int .i64 b]), .v (.agg [.int .i64 c, .int .i64 d]), .v (.agg [.int .i64 e, .int .i64 f]), .v (.c (.d (.int .i64 g)))] [] (rVecE (vecR ⟨a, b⟩ ⟨c, d⟩ ⟨e, f⟩ g)) [] := by
  refine CallsA.ofOk fun hok => ?_
  have hw := w_Q2_vec a b c d e f g (fun v M => some (Res.fin v M))
  refine CallsA.ofEv (Γ := T_Q2_first) (X := XT) (Λ := noL) (EQ := EQT) (n := 60) g_Q2_first hEQT hmT (fun _ _ _ _ => noL_ok _) (hw.trans ?_)
  rfl
def s_Q2_vec : List AV → List Blk → (AV → List Blk → Ans) → Ans := fun xs bs K => match xs, bs with
  | [.v (.agg [.int .i64 a, .int .i64 b]), .v (.agg [.int .i64 c, .int .i64 d]), .v (.agg [.int .i64 e, .int .i64 f]), .v (.c (.d (.int .i64 g)))], [] => K (rVecE (vecR ⟨a, b⟩ ⟨c, d⟩ ⟨e, f⟩ g)) []
  | _, _ => none
def T_Q2_vec : Nat → List AV → List Blk → (AV → List Blk → Ans) → Ans := upd T_Q2_first 113 s_Q2_vec
theorem g_Q2_vec : GOK Tryz.prog GT gbT T_Q2_vec XT := by
  refine GOK.upd g_Q2_first (fun args w => Tryz.call113 args w) fun xs bs K r h => ?_
  unfold s_Q2_vec at h
  split at h
  · exact ⟨_, _, c_Q2_vec _ _ _ _ _ _ _, h⟩
  · cases h


set_option maxRecDepth 100000 in
theorem w_Q2_Neg (a b c d e f : Int) (K : AV → List Blk → Ans) : evFn Tryz.prog GT EQT T_Q2_vec XT noL 60 77 [.v (.agg [.int .i64 a, .int .i64 b, .int .i64 c, .int .i64 d, .int .i64 e, .int .i64 f])] [] (fun v M => K v (M.take ([] : List Blk).length)) = K (rVec (negV ⟨⟨a, b⟩, ⟨c, d⟩, ⟨e, f⟩⟩)) [] := by
  kernel_rfl
set_option maxRecDepth 100000 in
theorem c_Q2_Neg (a b c d e f : Int) : CallsA Tryz.prog GT gbT 77 [.v (.agg [.int .i64 a, .int .i64 b, .int .i64 c, .int .i64 d, .int .i64 e, .int .i64 f])] [] (rVec (negV ⟨⟨a, b⟩, ⟨c, d⟩, ⟨e, f⟩⟩)) [] := by
  refine CallsA.ofOk fun hok => ?_
  have hw := w_Q2_Neg a b c d e f (fun v M => some (Res.fin v M))
  refine CallsA.ofEv (Γ := T_Q2_vec) (X := XT) (Λ := noL) (EQ := EQT) (n := 60) g_Q2_vec hEQT hmT (fun _ _ _ _ => noL_ok _) (hw.trans ?_)
  rfl
def s_Q2_Neg : List AV → List Blk → (AV → List Blk → Ans) → Ans := fun xs bs K => match xs, bs with
  | [.v (.agg [.int .i64 a, .int .i64 b, .int .i64 c, .int .i64 d, .int .i64 e, .int .i64 f])], [] => K (rVec (negV ⟨⟨a, b⟩, ⟨c, d⟩, ⟨e, f⟩⟩)) []
  | _, _ => none
def T_Q2_Neg : Nat → List AV → List Blk → (AV → List Blk → Ans) → Ans := upd T_Q2_vec 77 s_Q2_Neg
theorem g_Q2_Neg : GOK Tryz.prog GT gbT T_Q2_Neg XT := by
  refine GOK.upd g_Q2_vec (fun args w => Tryz.call77 args w) fun xs bs K r h => ?_
  unfold s_Q2_Neg at h
  split at h
  · exact ⟨_, _, c_Q2_Neg _ _ _ _ _ _, h⟩
  · cases h


set_option maxRecDepth 100000 in
theorem w_Q2_Add (a b c d e f g h i j k l : Int) (K : AV → List Blk → Ans) : evFn Tryz.prog GT EQT T_Q2_Neg XT noL 120 76 [.v (.agg [.int .i64 a, .int .i64 b, .int .i64 c, .int .i64 d, .int .i64 e, .int .i64 f]), .v (.agg [.int .i64 g, .int .i64 h, .int .i64 i, .int .i64 j, .int .i64 k, .int .i64 l])] [] (fun v M => K v (M.take ([] : List Blk).length)) = addVRef K ⟨⟨a, b⟩, ⟨c, d⟩, ⟨e, f⟩⟩ ⟨⟨g, h⟩, ⟨i, j⟩, ⟨k, l⟩⟩ := by
  kernel_rfl
set_option maxRecDepth 100000 in
theorem c_Q2_Add (a b c d e f g h i j k l : Int) : CallsA Tryz.prog GT gbT 76 [.v (.agg [.int .i64 a, .int .i64 b, .int .i64 c, .int .i64 d, .int .i64 e, .int .i64 f]), .v (.agg [.int .i64 g, .int .i64 h, .int .i64 i, .int .i64 j, .int .i64 k, .int .i64 l])] [] (rVecE (addV ⟨⟨a, b⟩, ⟨c, d⟩, ⟨e, f⟩⟩ ⟨⟨g, h⟩, ⟨i, j⟩, ⟨k, l⟩⟩)) [] := by
  refine CallsA.ofOk fun hok => ?_
  have hw := w_Q2_Add a b c d e f g h i j k l (fun v M => some (Res.fin v M))
  refine CallsA.ofEv (Γ := T_Q2_Neg) (X := XT) (Λ := noL) (EQ := EQT) (n := 120) g_Q2_Neg hEQT hmT (fun _ _ _ _ => noL_ok _) (hw.trans ?_)
  have h_a := inR_i64 (hok (.int .i64 a) (by simp [datasL, datas]))
  have h_b := inR_i64 (hok (.int .i64 b) (by simp [datasL, datas]))
  have h_c := inR_i64 (hok (.int .i64 c) (by simp [datasL, datas]))
  have h_d := inR_i64 (hok (.int .i64 d) (by simp [datasL, datas]))
  have h_e := inR_i64 (hok (.int .i64 e) (by simp [datasL, datas]))
  have h_f := inR_i64 (hok (.int .i64 f) (by simp [datasL, datas]))
  have h_g := inR_i64 (hok (.int .i64 g) (by simp [datasL, datas]))
  have h_h := inR_i64 (hok (.int .i64 h) (by simp [datasL, datas]))
  have h_i := inR_i64 (hok (.int .i64 i) (by simp [datasL, datas]))
  have h_j := inR_i64 (hok (.int .i64 j) (by simp [datasL, datas]))
  have h_k := inR_i64 (hok (.int .i64 k) (by simp [datasL, datas]))
  have h_l := inR_i64 (hok (.int .i64 l) (by simp [datasL, datas]))
  clear hok hw
  exact addVRef_ok (K := fun v M => some (Res.fin v M))
def s_Q2_Add : List AV → List Blk → (AV → List Blk → Ans) → Ans := fun xs bs K => match xs, bs with
  | [.v (.agg [.int .i64 a, .int .i64 b, .int .i64 c, .int .i64 d, .int .i64 e, .int .i64 f]), .v (.agg [.int .i64 g, .int .i64 h, .int .i64 i, .int .i64 j, .int .i64 k, .int .i64 l])], [] => K (rVecE (addV ⟨⟨a, b⟩, ⟨c, d⟩, ⟨e, f⟩⟩ ⟨⟨g, h⟩, ⟨i, j⟩, ⟨k, l⟩⟩)) []
  | _, _ => none
def T_Q2_Add : Nat → List AV → List Blk → (AV → List Blk → Ans) → Ans := upd T_Q2_Neg 76 s_Q2_Add
theorem g_Q2_Add : GOK Tryz.prog GT gbT T_Q2_Add XT := by
  refine GOK.upd g_Q2_Neg (fun args w => Tryz.call76 args w) fun xs bs K r h => ?_
  unfold s_Q2_Add at h
  split at h
  · exact ⟨_, _, c_Q2_Add _ _ _ _ _ _ _ _ _ _ _ _, h⟩
  · cases h


set_option maxRecDepth 100000 in
theorem w_Q2_Sub (a b c d e f g h i j k l : Int) (K : AV → List Blk → Ans) : evFn Tryz.prog GT EQT T_Q2_Add XT noL 120 47 [.v (.agg [.int .i64 a, .int .i64 b, .int .i64 c, .int .i64 d, .int .i64 e, .int .i64 f]), .v (.agg [.int .i64 g, .int .i64 h, .int .i64 i, .int .i64 j, .int .i64 k, .int .i64 l])] [] (fun v M => K v (M.take ([] : List Blk).length)) = subVRef K ⟨⟨a, b⟩, ⟨c, d⟩, ⟨e, f⟩⟩ ⟨⟨g, h⟩, ⟨i, j⟩, ⟨k, l⟩⟩ := by
  kernel_rfl
set_option maxRecDepth 100000 in
theorem c_Q2_Sub (a b c d e f g h i j k l : Int) : CallsA Tryz.prog GT gbT 47 [.v (.agg [.int .i64 a, .int .i64 b, .int .i64 c, .int .i64 d, .int .i64 e, .int .i64 f]), .v (.agg [.int .i64 g, .int .i64 h, .int .i64 i, .int .i64 j, .int .i64 k, .int .i64 l])] [] (rVecE (subV ⟨⟨a, b⟩, ⟨c, d⟩, ⟨e, f⟩⟩ ⟨⟨g, h⟩, ⟨i, j⟩, ⟨k, l⟩⟩)) [] := by
  refine CallsA.ofOk fun hok => ?_
  have hw := w_Q2_Sub a b c d e f g h i j k l (fun v M => some (Res.fin v M))
  refine CallsA.ofEv (Γ := T_Q2_Add) (X := XT) (Λ := noL) (EQ := EQT) (n := 120) g_Q2_Add hEQT hmT (fun _ _ _ _ => noL_ok _) (hw.trans ?_)
  have h_a := inR_i64 (hok (.int .i64 a) (by simp [datasL, datas]))
  have h_b := inR_i64 (hok (.int .i64 b) (by simp [datasL, datas]))
  have h_c := inR_i64 (hok (.int .i64 c) (by simp [datasL, datas]))
  have h_d := inR_i64 (hok (.int .i64 d) (by simp [datasL, datas]))
  have h_e := inR_i64 (hok (.int .i64 e) (by simp [datasL, datas]))
  have h_f := inR_i64 (hok (.int .i64 f) (by simp [datasL, datas]))
  have h_g := inR_i64 (hok (.int .i64 g) (by simp [datasL, datas]))
  have h_h := inR_i64 (hok (.int .i64 h) (by simp [datasL, datas]))
  have h_i := inR_i64 (hok (.int .i64 i) (by simp [datasL, datas]))
  have h_j := inR_i64 (hok (.int .i64 j) (by simp [datasL, datas]))
  have h_k := inR_i64 (hok (.int .i64 k) (by simp [datasL, datas]))
  have h_l := inR_i64 (hok (.int .i64 l) (by simp [datasL, datas]))
  clear hok hw
  exact subVRef_ok (K := fun v M => some (Res.fin v M))
def s_Q2_Sub : List AV → List Blk → (AV → List Blk → Ans) → Ans := fun xs bs K => match xs, bs with
  | [.v (.agg [.int .i64 a, .int .i64 b, .int .i64 c, .int .i64 d, .int .i64 e, .int .i64 f]), .v (.agg [.int .i64 g, .int .i64 h, .int .i64 i, .int .i64 j, .int .i64 k, .int .i64 l])], [] => K (rVecE (subV ⟨⟨a, b⟩, ⟨c, d⟩, ⟨e, f⟩⟩ ⟨⟨g, h⟩, ⟨i, j⟩, ⟨k, l⟩⟩)) []
  | _, _ => none
def T_Q2_Sub : Nat → List AV → List Blk → (AV → List Blk → Ans) → Ans := upd T_Q2_Add 47 s_Q2_Sub
theorem g_Q2_Sub : GOK Tryz.prog GT gbT T_Q2_Sub XT := by
  refine GOK.upd g_Q2_Add (fun args w => Tryz.call47 args w) fun xs bs K r h => ?_
  unfold s_Q2_Sub at h
  split at h
  · exact ⟨_, _, c_Q2_Sub _ _ _ _ _ _ _ _ _ _ _ _, h⟩
  · cases h


set_option maxRecDepth 100000 in
theorem w_track_Along (a b c d e f g h i j k l : Int) (K : AV → List Blk → Ans) : evFn Tryz.prog GT EQT (inl Tryz.prog GT EQT XT [101, 104, 127] T_Q2_Sub 120 2) XT noL 120 65 [.v (.agg [.int .i64 a, .int .i64 b, .int .i64 c, .int .i64 d, .int .i64 e, .int .i64 f]), .v (.agg [.int .i64 g, .int .i64 h, .int .i64 i, .int .i64 j, .int .i64 k, .int .i64 l])] [] (fun v M => K v (M.take ([] : List Blk).length)) = alongAns K ⟨⟨a, b⟩, ⟨c, d⟩, ⟨e, f⟩⟩ ⟨⟨g, h⟩, ⟨i, j⟩, ⟨k, l⟩⟩ := by
  kernel_rfl
set_option maxRecDepth 100000 in
theorem c_track_Along (a b c d e f g h i j k l : Int) : CallsA Tryz.prog GT gbT 65 [.v (.agg [.int .i64 a, .int .i64 b, .int .i64 c, .int .i64 d, .int .i64 e, .int .i64 f]), .v (.agg [.int .i64 g, .int .i64 h, .int .i64 i, .int .i64 j, .int .i64 k, .int .i64 l])] [] (rSpanE (alongS ⟨⟨a, b⟩, ⟨c, d⟩, ⟨e, f⟩⟩ ⟨⟨g, h⟩, ⟨i, j⟩, ⟨k, l⟩⟩)) [] := by
  refine CallsA.ofOk fun hok => ?_
  have hw := w_track_Along a b c d e f g h i j k l (fun v M => some (Res.fin v M))
  refine CallsA.ofEv (Γ := (inl Tryz.prog GT EQT XT [101, 104, 127] T_Q2_Sub 120 2)) (X := XT) (Λ := noL) (EQ := EQT) (n := 120) (g_Q2_Sub.inl hEQT hmT (fun f hf => by simp only [List.mem_cons, List.not_mem_nil, or_false] at hf; rcases hf with rfl | rfl | rfl <;> first | exact (fun args w => Tryz.call101 args w) | exact (fun args w => Tryz.call104 args w) | exact (fun args w => Tryz.call127 args w)) 120 2) hEQT hmT (fun _ _ _ _ => noL_ok _) (hw.trans ?_)
  have h_a := inR_i64 (hok (.int .i64 a) (by simp [datasL, datas]))
  have h_b := inR_i64 (hok (.int .i64 b) (by simp [datasL, datas]))
  have h_c := inR_i64 (hok (.int .i64 c) (by simp [datasL, datas]))
  have h_d := inR_i64 (hok (.int .i64 d) (by simp [datasL, datas]))
  have h_e := inR_i64 (hok (.int .i64 e) (by simp [datasL, datas]))
  have h_f := inR_i64 (hok (.int .i64 f) (by simp [datasL, datas]))
  have h_g := inR_i64 (hok (.int .i64 g) (by simp [datasL, datas]))
  have h_h := inR_i64 (hok (.int .i64 h) (by simp [datasL, datas]))
  have h_i := inR_i64 (hok (.int .i64 i) (by simp [datasL, datas]))
  have h_j := inR_i64 (hok (.int .i64 j) (by simp [datasL, datas]))
  have h_k := inR_i64 (hok (.int .i64 k) (by simp [datasL, datas]))
  have h_l := inR_i64 (hok (.int .i64 l) (by simp [datasL, datas]))
  clear hok hw
  exact alongAns_ok (K := fun v M => some (Res.fin v M))
def s_track_Along : List AV → List Blk → (AV → List Blk → Ans) → Ans := fun xs bs K => match xs, bs with
  | [.v (.agg [.int .i64 a, .int .i64 b, .int .i64 c, .int .i64 d, .int .i64 e, .int .i64 f]), .v (.agg [.int .i64 g, .int .i64 h, .int .i64 i, .int .i64 j, .int .i64 k, .int .i64 l])], [] => K (rSpanE (alongS ⟨⟨a, b⟩, ⟨c, d⟩, ⟨e, f⟩⟩ ⟨⟨g, h⟩, ⟨i, j⟩, ⟨k, l⟩⟩)) []
  | _, _ => none
def T_track_Along : Nat → List AV → List Blk → (AV → List Blk → Ans) → Ans := upd T_Q2_Sub 65 s_track_Along
theorem g_track_Along : GOK Tryz.prog GT gbT T_track_Along XT := by
  refine GOK.upd g_Q2_Sub (fun args w => Tryz.call65 args w) fun xs bs K r h => ?_
  unfold s_track_Along at h
  split at h
  · exact ⟨_, _, c_track_Along _ _ _ _ _ _ _ _ _ _ _ _, h⟩
  · cases h


abbrev T_named (s : ByteArray) (i : Int) : TS := maskT [(0, .v (.c (.d (.str s)))), (24, aint .i64 (s.size : Int)), (25, aint .i64 i), (2, .any)] 50
abbrev B_named (s : ByteArray) (i : Int) : TS := maskT [(0, .v (.c (.d (.str s)))), (24, aint .i64 (s.size : Int)), (25, aint .i64 i), (2, abool false)] 50
def f_named (T : TS) (M : List Blk) (N : Nat) : LT := match tget T 0, tget T 24, tget T 25 with
  | .v (.c (.d (.str s))), .v (.c (.d (.int .i64 n))), .v (.c (.d (.int .i64 i))) =>
    bif i == 0 then .br (n == (s.size : Int) && decide ((s.size : Int) ≤ 1000)) (.br (restOk s 0 s.size) (.st (.exit 0) (maskT [] 50) M N) (.st .ret (maskT [(2, abool false)] 50) M N)) .no else .no
  | _, _, _ => .no
def L_named := LamG 4 50 f_named
set_option maxRecDepth 100000 in
theorem b_named (s : ByteArray) (i : Int) (M : List Blk) (N : Nat) : evCode Tryz.prog GT EQT T_track_Along XT noL 40 (loopB Tryz.prog 86 0) (T_named s i) M N (fun x T M N => some (.st x (forget [0, 24, 25, 2] T) M N)) =
    bif decide (i < (s.size : Int)) then (bif decide (0 ≤ i) && decide (i < (s.size : Int)) then nameStep (byteAt s i) (some (.st .ret (B_named s i) M N)) (some (.st .normal (T_named s (w64 (i + 1))) M N)) else none)
    else some (.st (.exit 0) (T_named s i) M N) := by kernel_rfl
set_option maxRecDepth 100000 in
theorem LL_named : ∀ fn c, Tryz.prog.funcs[86]? = some fn → fn.body = some c → LOK Tryz.prog GT gbT L_named (loopsIn c) := by
  refine LOK.ofF fun b hb => ?_
  have e : loopsF Tryz.prog 86 = [loopB Tryz.prog 86 0] := by kernel_rfl
  have k0 : loopKey (loopB Tryz.prog 86 0) = 4 := by kernel_rfl
  rw [e, List.mem_singleton] at hb
  subst hb
  unfold L_named
  rw [← k0]
  refine LOKb.lamG fun T M N x T' M' N' hl hr => ?_
  unfold f_named at hr
  split at hr
  · rename_i s n i h0 h1 h2
    simp only [cond_eq_ite, beq_iff_eq] at hr
    split at hr
    · rename_i hi
      subst hi
      obtain ⟨hc, hr2⟩ := Or.resolve_right hr (fun h => h.2.elim)
      simp only [Bool.and_eq_true, beq_iff_eq, decide_eq_true_eq] at hc
      obtain ⟨rfl, hs⟩ := hc
      have hless : Less (T_named s 0) T := less_of' hl (by simp only [List.mem_cons, List.not_mem_nil, or_false]; intro p hp; rcases hp with rfl | rfl | rfl | rfl; exact .inl h0; exact .inl h1; exact .inl h2; exact .inr rfl)
      have hh := name_rounds (c := loopB Tryz.prog 86 0) (M := M) (NN := N) g_track_Along hEQT hmT s hs (fun i => T_named s i) (maskT [] 50) (maskT [(2, abool false)] 50) (fun i => less_of (by kernel_rfl) (by simp)) (fun i => B_named s i) (fun i => less_of (by kernel_rfl) (by simp; kernel_rfl)) (fun i => (b_named s i M N)) s.size 0 (by omega) (by omega)
      rcases hr2 with ⟨hd, rfl, rfl, rfl, rfl⟩ | ⟨hd, rfl, rfl, rfl, rfl⟩
      · obtain ⟨k, hk⟩ := hh.1 hd
        exact ⟨by simp, k, hk.less hless⟩
      · obtain ⟨k, hk⟩ := hh.2 hd
        exact ⟨by simp, k, hk.less hless⟩
    · exact hr.elim
  · exact hr.elim

set_option maxRecDepth 100000 in
theorem w_track_named (s : ByteArray) (K : AV → List Blk → Ans) : evFn Tryz.prog GT EQT T_track_Along XT L_named 60 86 [.v (.c (.d (.str s)))] [] (fun v M => K v (M.take ([] : List Blk).length)) = nameAns K s := by
  kernel_rfl
set_option maxRecDepth 100000 in
theorem c_track_named (s : ByteArray) : CallsA Tryz.prog GT gbT 86 [.v (.c (.d (.str s)))] [] (rB (namedB s)) [] := by
  refine CallsA.ofOk fun hok => ?_
  have hw := w_track_named s (fun v M => some (Res.fin v M))
  refine CallsA.ofEv (Γ := T_track_Along) (X := XT) (Λ := L_named) (EQ := EQT) (n := 60) g_track_Along hEQT hmT (LL_named) (hw.trans ?_)
  clear hok hw
  exact nameAns_ok (K := fun v M => some (Res.fin v M))
def s_track_named : List AV → List Blk → (AV → List Blk → Ans) → Ans := fun xs bs K => match xs, bs with
  | [.v (.c (.d (.str s)))], [] => K (rB (namedB s)) []
  | _, _ => none
def T_track_named : Nat → List AV → List Blk → (AV → List Blk → Ans) → Ans := upd T_track_Along 86 s_track_named
theorem g_track_named : GOK Tryz.prog GT gbT T_track_named XT := by
  refine GOK.upd g_track_Along (fun args w => Tryz.call86 args w) fun xs bs K r h => ?_
  unfold s_track_named at h
  split at h
  · exact ⟨_, _, c_track_named _, h⟩
  · cases h


abbrev T_Named (s : ByteArray) (i : Int) : TS := maskT [(0, .v (.c (.d (.str s)))), (3, aint .i64 i), (2, .any)] 56
abbrev B_Named (s : ByteArray) (i : Int) : TS := maskT [(0, .v (.c (.d (.str s)))), (3, aint .i64 i), (2, abool false)] 56
def f_Named (T : TS) (M : List Blk) (N : Nat) : LT := match tget T 0, tget T 3 with
  | .v (.c (.d (.str s))), .v (.c (.d (.int .i64 i))) =>
    bif i == 0 then .br (decide ((s.size : Int) ≤ 1000)) (.br (restOk s 0 s.size) (.st (.exit 0) (maskT [] 56) M N) (.st .ret (maskT [(2, abool false)] 56) M N)) .no else .no
  | _, _ => .no
def L_Named := LamG 4 56 f_Named
set_option maxRecDepth 100000 in
theorem b_Named (s : ByteArray) (i : Int) (M : List Blk) (N : Nat) : evCode Tryz.prog GT EQT T_track_named XT noL 40 (loopB Tryz.prog 35 0) (T_Named s i) M N (fun x T M N => some (.st x (forget [0, 3, 2] T) M N)) =
    bif decide (i < (s.size : Int)) then (bif decide (0 ≤ i) && decide (i < (s.size : Int)) then nameStepR (decide (0 ≤ i) && decide (i < (s.size : Int))) (byteAt s i) (some (.st .ret (B_Named s i) M N)) (some (.st .normal (T_Named s (w64 (i + 1))) M N)) else none)
    else some (.st (.exit 0) (T_Named s i) M N) := by kernel_rfl
set_option maxRecDepth 100000 in
theorem LL_Named : ∀ fn c, Tryz.prog.funcs[35]? = some fn → fn.body = some c → LOK Tryz.prog GT gbT L_Named (loopsIn c) := by
  refine LOK.ofF fun b hb => ?_
  have e : loopsF Tryz.prog 35 = [loopB Tryz.prog 35 0] := by kernel_rfl
  have k0 : loopKey (loopB Tryz.prog 35 0) = 4 := by kernel_rfl
  rw [e, List.mem_singleton] at hb
  subst hb
  unfold L_Named
  rw [← k0]
  refine LOKb.lamG fun T M N x T' M' N' hl hr => ?_
  unfold f_Named at hr
  split at hr
  · rename_i s i h0 h2
    simp only [cond_eq_ite, beq_iff_eq] at hr
    split at hr
    · rename_i hi
      subst hi
      obtain ⟨hs, hr2⟩ := Or.resolve_right hr (fun h => h.2.elim)
      simp only [decide_eq_true_eq] at hs
      have hless : Less (T_Named s 0) T := less_of' hl (by simp only [List.mem_cons, List.not_mem_nil, or_false]; intro p hp; rcases hp with rfl | rfl | rfl; exact .inl h0; exact .inl h2; exact .inr rfl)
      have hh := name_rounds (c := loopB Tryz.prog 35 0) (M := M) (NN := N) g_track_named hEQT hmT s hs (fun i => T_Named s i) (maskT [] 56) (maskT [(2, abool false)] 56) (fun i => less_of (by kernel_rfl) (by simp)) (fun i => B_Named s i) (fun i => less_of (by kernel_rfl) (by simp; kernel_rfl)) (fun i => (b_Named s i M N).trans (by rw [nameStepR_eq])) s.size 0 (by omega) (by omega)
      rcases hr2 with ⟨hd, rfl, rfl, rfl, rfl⟩ | ⟨hd, rfl, rfl, rfl, rfl⟩
      · obtain ⟨k, hk⟩ := hh.1 hd
        exact ⟨by simp, k, hk.less hless⟩
      · obtain ⟨k, hk⟩ := hh.2 hd
        exact ⟨by simp, k, hk.less hless⟩
    · exact hr.elim
  · exact hr.elim

set_option maxRecDepth 100000 in
theorem w_Q4_Named (s : ByteArray) (K : AV → List Blk → Ans) : evFn Tryz.prog GT EQT T_track_named XT L_Named 60 35 [.v (.c (.d (.str s)))] [] (fun v M => K v (M.take ([] : List Blk).length)) = nameAns' K s := by
  kernel_rfl
set_option maxRecDepth 100000 in
theorem c_Q4_Named (s : ByteArray) : CallsA Tryz.prog GT gbT 35 [.v (.c (.d (.str s)))] [] (rB (namedB s)) [] := by
  refine CallsA.ofOk fun hok => ?_
  have hw := w_Q4_Named s (fun v M => some (Res.fin v M))
  refine CallsA.ofEv (Γ := T_track_named) (X := XT) (Λ := L_Named) (EQ := EQT) (n := 60) g_track_named hEQT hmT (LL_Named) (hw.trans ?_)
  clear hok hw
  exact nameAns'_ok (K := fun v M => some (Res.fin v M))
def s_Q4_Named : List AV → List Blk → (AV → List Blk → Ans) → Ans := fun xs bs K => match xs, bs with
  | [.v (.c (.d (.str s)))], [] => K (rB (namedB s)) []
  | _, _ => none
def T_Q4_Named : Nat → List AV → List Blk → (AV → List Blk → Ans) → Ans := upd T_track_named 35 s_Q4_Named
theorem g_Q4_Named : GOK Tryz.prog GT gbT T_Q4_Named XT := by
  refine GOK.upd g_track_named (fun args w => Tryz.call35 args w) fun xs bs K r h => ?_
  unfold s_Q4_Named at h
  split at h
  · exact ⟨_, _, c_Q4_Named _, h⟩
  · cases h


set_option maxRecDepth 100000 in
theorem w_track_Check (nm : ByteArray) (ra dec : Int) (K : AV → List Blk → Ans) : evFn Tryz.prog GT EQT T_Q4_Named XT noL 60 50 [.v (.agg [.str nm, .int .i64 ra, .int .i64 dec])] [] (fun v M => K v (M.take ([] : List Blk).length)) = K (rI (checkSrc ⟨nm, ra, dec⟩)) [] := by
  simp only [checkSrc, pullK K]
  kernel_rfl
set_option maxRecDepth 100000 in
theorem c_track_Check (nm : ByteArray) (ra dec : Int) : CallsA Tryz.prog GT gbT 50 [.v (.agg [.str nm, .int .i64 ra, .int .i64 dec])] [] (rI (checkSrc ⟨nm, ra, dec⟩)) [] := by
  refine CallsA.ofOk fun hok => ?_
  have hw := w_track_Check nm ra dec (fun v M => some (Res.fin v M))
  refine CallsA.ofEv (Γ := T_Q4_Named) (X := XT) (Λ := noL) (EQ := EQT) (n := 60) g_Q4_Named hEQT hmT (fun _ _ _ _ => noL_ok _) (hw.trans ?_)
  rfl
def s_track_Check : List AV → List Blk → (AV → List Blk → Ans) → Ans := fun xs bs K => match xs, bs with
  | [.v (.agg [.str nm, .int .i64 ra, .int .i64 dec])], [] => K (rI (checkSrc ⟨nm, ra, dec⟩)) []
  | _, _ => none
def T_track_Check : Nat → List AV → List Blk → (AV → List Blk → Ans) → Ans := upd T_Q4_Named 50 s_track_Check
theorem g_track_Check : GOK Tryz.prog GT gbT T_track_Check XT := by
  refine GOK.upd g_Q4_Named (fun args w => Tryz.call50 args w) fun xs bs K r h => ?_
  unfold s_track_Check at h
  split at h
  · exact ⟨_, _, c_track_Check _ _ _, h⟩
  · cases h


set_option maxRecDepth 100000 in
theorem w_Q6_Check (nm : ByteArray) (ra dec : Int) (K : AV → List Blk → Ans) : evFn Tryz.prog GT EQT T_track_Check XT noL 60 21 [.v (.agg [.str nm, .int .i64 ra, .int .i64 dec])] [] (fun v M => K v (M.take ([] : List Blk).length)) = K (rI (checkSrc ⟨nm, ra, dec⟩)) [] := by
  simp only [checkSrc, pullK K]
  kernel_rfl
set_option maxRecDepth 100000 in
theorem c_Q6_Check (nm : ByteArray) (ra dec : Int) : CallsA Tryz.prog GT gbT 21 [.v (.agg [.str nm, .int .i64 ra, .int .i64 dec])] [] (rI (checkSrc ⟨nm, ra, dec⟩)) [] := by
  refine CallsA.ofOk fun hok => ?_
  have hw := w_Q6_Check nm ra dec (fun v M => some (Res.fin v M))
  refine CallsA.ofEv (Γ := T_track_Check) (X := XT) (Λ := noL) (EQ := EQT) (n := 60) g_track_Check hEQT hmT (fun _ _ _ _ => noL_ok _) (hw.trans ?_)
  rfl
def s_Q6_Check : List AV → List Blk → (AV → List Blk → Ans) → Ans := fun xs bs K => match xs, bs with
  | [.v (.agg [.str nm, .int .i64 ra, .int .i64 dec])], [] => K (rI (checkSrc ⟨nm, ra, dec⟩)) []
  | _, _ => none
def T_Q6_Check : Nat → List AV → List Blk → (AV → List Blk → Ans) → Ans := upd T_track_Check 21 s_Q6_Check
theorem g_Q6_Check : GOK Tryz.prog GT gbT T_Q6_Check XT := by
  refine GOK.upd g_track_Check (fun args w => Tryz.call21 args w) fun xs bs K r h => ?_
  unfold s_Q6_Check at h
  split at h
  · exact ⟨_, _, c_Q6_Check _ _ _, h⟩
  · cases h


set_option maxRecDepth 100000 in
theorem w_track_circle (h : Int) (K : AV → List Blk → Ans) : evFn Tryz.prog GT EQT T_Q6_Check XT noL 60 87 [.v (.c (.d (.int .i64 h)))] [] (fun v M => K v (M.take ([] : List Blk).length)) = K (rSpan2 (sinT h, cosT h)) [] := by
  kernel_rfl
set_option maxRecDepth 100000 in
theorem c_track_circle (h : Int) : CallsA Tryz.prog GT gbT 87 [.v (.c (.d (.int .i64 h)))] [] (rSpan2 (sinT h, cosT h)) [] := by
  refine CallsA.ofOk fun hok => ?_
  have hw := w_track_circle h (fun v M => some (Res.fin v M))
  refine CallsA.ofEv (Γ := T_Q6_Check) (X := XT) (Λ := noL) (EQ := EQT) (n := 60) g_Q6_Check hEQT hmT (fun _ _ _ _ => noL_ok _) (hw.trans ?_)
  rfl
def s_track_circle : List AV → List Blk → (AV → List Blk → Ans) → Ans := fun xs bs K => match xs, bs with
  | [.v (.c (.d (.int .i64 h)))], [] => K (rSpan2 (sinT h, cosT h)) []
  | _, _ => none
def T_track_circle : Nat → List AV → List Blk → (AV → List Blk → Ans) → Ans := upd T_Q6_Check 87 s_track_circle
theorem g_track_circle : GOK Tryz.prog GT gbT T_track_circle XT := by
  refine GOK.upd g_Q6_Check (fun args w => Tryz.call87 args w) fun xs bs K r h => ?_
  unfold s_track_circle at h
  split at h
  · exact ⟨_, _, c_track_circle _, h⟩
  · cases h


set_option maxRecDepth 100000 in
theorem w_track_direction (nm : ByteArray) (ra dec t : Int) (K : AV → List Blk → Ans) : evFn Tryz.prog GT EQT T_track_circle XT noL 60 52 [.v (.agg [.str nm, .int .i64 ra, .int .i64 dec]), .v (.c (.d (.int .i64 t)))] [] (fun v M => K v (M.take ([] : List Blk).length)) = dirAns K ra dec t := by
  kernel_rfl
set_option maxRecDepth 100000 in
theorem c_track_direction (nm : ByteArray) (ra dec t : Int) (hd : (dirOn ra dec t) = true) : CallsA Tryz.prog GT gbT 52 [.v (.agg [.str nm, .int .i64 ra, .int .i64 dec]), .v (.c (.d (.int .i64 t)))] [] (rDirE (dirS ra dec t, 0)) [] := by
  refine CallsA.ofOk fun hok => ?_
  have hw := w_track_direction nm ra dec t (fun v M => some (Res.fin v M))
  refine CallsA.ofEv (Γ := T_track_circle) (X := XT) (Λ := noL) (EQ := EQT) (n := 60) g_track_circle hEQT hmT (fun _ _ _ _ => noL_ok _) (hw.trans ?_)
  have h_ra := inR_i64 (hok (.int .i64 ra) (by simp [datasL, datas]))
  have h_dec := inR_i64 (hok (.int .i64 dec) (by simp [datasL, datas]))
  have h_t := inR_i64 (hok (.int .i64 t) (by simp [datasL, datas]))
  clear hok hw
  exact dirAns_ok (K := fun v M => some (Res.fin v M)) hd
def s_track_direction : List AV → List Blk → (AV → List Blk → Ans) → Ans := fun xs bs K => match xs, bs with
  | [.v (.agg [.str _, .int .i64 ra, .int .i64 dec]), .v (.c (.d (.int .i64 t)))], [] => bif dirOn ra dec t then K (rDirE (dirS ra dec t, 0)) [] else none
  | _, _ => none
def T_track_direction : Nat → List AV → List Blk → (AV → List Blk → Ans) → Ans := upd T_track_circle 52 s_track_direction
theorem g_track_direction : GOK Tryz.prog GT gbT T_track_direction XT := by
  refine GOK.upd g_track_circle (fun args w => Tryz.call52 args w) fun xs bs K r h => ?_
  unfold s_track_direction at h
  split at h
  · simp only [cond_eq_ite] at h
    split at h
    · exact ⟨_, _, c_track_direction _ _ _ _ ‹_›, h⟩
    · cases h
  · cases h


set_option maxRecDepth 100000 in
theorem w_track_At (nm : ByteArray) (ra dec t : Int) (K : AV → List Blk → Ans) : evFn Tryz.prog GT EQT (inl Tryz.prog GT EQT XT [51] T_track_direction 60 1) XT noL 60 38 [.v (.agg [.str nm, .int .i64 ra, .int .i64 dec]), .v (.c (.d (.int .i64 t)))] [] (fun v M => K v (M.take ([] : List Blk).length)) = atAns K ⟨nm, ra, dec⟩ t := by
  kernel_rfl
set_option maxRecDepth 100000 in
theorem c_track_At (nm : ByteArray) (ra dec t : Int) : CallsA Tryz.prog GT gbT 38 [.v (.agg [.str nm, .int .i64 ra, .int .i64 dec]), .v (.c (.d (.int .i64 t)))] [] (rDirE (atS ⟨nm, ra, dec⟩ t)) [] := by
  refine CallsA.ofOk fun hok => ?_
  have hw := w_track_At nm ra dec t (fun v M => some (Res.fin v M))
  refine CallsA.ofEv (Γ := (inl Tryz.prog GT EQT XT [51] T_track_direction 60 1)) (X := XT) (Λ := noL) (EQ := EQT) (n := 60) (g_track_direction.inl hEQT hmT (fun f hf => by simp only [List.mem_cons, List.not_mem_nil, or_false] at hf; subst hf; exact (fun args w => Tryz.call51 args w)) 60 1) hEQT hmT (fun _ _ _ _ => noL_ok _) (hw.trans ?_)
  have h_ra := inR_i64 (hok (.int .i64 ra) (by simp [datasL, datas]))
  have h_dec := inR_i64 (hok (.int .i64 dec) (by simp [datasL, datas]))
  have h_t := inR_i64 (hok (.int .i64 t) (by simp [datasL, datas]))
  clear hok hw
  exact atAns_ok (K := fun v M => some (Res.fin v M))
def s_track_At : List AV → List Blk → (AV → List Blk → Ans) → Ans := fun xs bs K => match xs, bs with
  | [.v (.agg [.str nm, .int .i64 ra, .int .i64 dec]), .v (.c (.d (.int .i64 t)))], [] => K (rDirE (atS ⟨nm, ra, dec⟩ t)) []
  | _, _ => none
def T_track_At : Nat → List AV → List Blk → (AV → List Blk → Ans) → Ans := upd T_track_direction 38 s_track_At
theorem g_track_At : GOK Tryz.prog GT gbT T_track_At XT := by
  refine GOK.upd g_track_direction (fun args w => Tryz.call38 args w) fun xs bs K r h => ?_
  unfold s_track_At at h
  split at h
  · exact ⟨_, _, c_track_At _ _ _ _, h⟩
  · cases h


set_option maxRecDepth 100000 in
theorem w_Q5_times (x y : Int) (K : AV → List Blk → Ans) : evFn Tryz.prog GT EQT T_track_At XT noL 60 151 [.v (.c (.d (.int .u64 x))), .v (.c (.d (.int .u64 y)))] [] (fun v M => K v (M.take ([] : List Blk).length)) = bif overOn (bigOf (x * y)) 100000000000000000 then K (rU (overSmall (x * y) 100000000000000000)) [] else none := by
  kernel_rfl
set_option maxRecDepth 100000 in
theorem c_Q5_times (x y : Int) : CallsA Tryz.prog GT gbT 151 [.v (.c (.d (.int .u64 x))), .v (.c (.d (.int .u64 y)))] [] (rU (timesI x y)) [] := by
  refine CallsA.ofOk fun hok => ?_
  have hw := w_Q5_times x y (fun v M => some (Res.fin v M))
  refine CallsA.ofEv (Γ := T_track_At) (X := XT) (Λ := noL) (EQ := EQT) (n := 60) g_track_At hEQT hmT (fun _ _ _ _ => noL_ok _) (hw.trans ?_)
  have h_x := inR_u64 (hok (.int .u64 x) (by simp [datasL, datas]))
  have h_y := inR_u64 (hok (.int .u64 y) (by simp [datasL, datas]))
  clear hok hw
  exact times_ok (K := fun v M => some (Res.fin v M)) h_x h_y
def s_Q5_times : List AV → List Blk → (AV → List Blk → Ans) → Ans := fun xs bs K => match xs, bs with
  | [.v (.c (.d (.int .u64 x))), .v (.c (.d (.int .u64 y)))], [] => K (rU (timesI x y)) []
  | _, _ => none
def T_Q5_times : Nat → List AV → List Blk → (AV → List Blk → Ans) → Ans := upd T_track_At 151 s_Q5_times
theorem g_Q5_times : GOK Tryz.prog GT gbT T_Q5_times XT := by
  refine GOK.upd g_track_At (fun args w => Tryz.call151 args w) fun xs bs K r h => ?_
  unfold s_Q5_times at h
  split at h
  · exact ⟨_, _, c_Q5_times _ _, h⟩
  · cases h


abbrev lv_series : List (Nat × IntKind) := [(7, .u64), (8, .u64), (9, .u64), (2, .u64), (10, .u64)]
def L_series := Lam1 3 40 0 lv_series seriesDom seriesFin
set_option maxRecDepth 100000 in
theorem b_series (sq s t k i : Int) (M : List Blk) (N : Nat) : evCode Tryz.prog GT EQT T_Q5_times XT noL 40 (loopB Tryz.prog 150 0) (mkT lv_series 40 [s, t, sq, k, i]) M N (fun x T M N => some (.st x (forget [7, 8, 9, 2, 10] T) M N)) =
    bif decide (i < 12) then (bif wu64 (k * wu64 (k + 1)) == 0 then none else bif i.tmod 2 == 0 then some (.st .normal (mkT lv_series 40 [wu64 (s - termI t sq k), termI t sq k, sq, wu64 (k + 2), wu64 (i + 1)]) M N) else some (.st .normal (mkT lv_series 40 [wu64 (s + termI t sq k), termI t sq k, sq, wu64 (k + 2), wu64 (i + 1)]) M N))
    else some (.st (.exit 0) (mkT lv_series 40 [s, t, sq, k, i]) M N) := by kernel_rfl
theorem l_series (s t sq k i : Int) : Less (mkT lv_series 40 [s]) (mkT lv_series 40 [s, t, sq, k, i]) := by
  have h : mkT lv_series 40 [s] = mkT (lv_series.take 1) 40 [s] := by kernel_rfl
  rw [h]
  exact less_mkT (by kernel_rfl) (by kernel_rfl)
set_option maxRecDepth 100000 in
theorem LL_series : ∀ fn c, Tryz.prog.funcs[150]? = some fn → fn.body = some c → LOK Tryz.prog GT gbT L_series (loopsIn c) := by
  refine LOK.ofF fun b hb => ?_
  have e : loopsF Tryz.prog 150 = [loopB Tryz.prog 150 0] := by kernel_rfl
  have k0 : loopKey (loopB Tryz.prog 150 0) = 3 := by kernel_rfl
  rw [e, List.mem_singleton] at hb
  subst hb
  unfold L_series
  rw [← k0]
  refine LOKb.lam1 (n := 40) (e := 0) (live := lv_series) fun xs M N hl hd => ?_
  match xs, hl with
  | [s, t, sq, k, i], _ =>
    simp only [seriesDom, serOn, Bool.and_eq_true, decide_eq_true_eq, beq_iff_eq] at hd
    obtain ⟨⟨h1, h2⟩, rfl⟩ := hd
    exact ref_rounds (c := loopB Tryz.prog 150 0) g_Q5_times hEQT hmT (fun s t k i => mkT lv_series 40 [s, t, sq, k, i]) (fun s => mkT lv_series 40 [s]) sq (fun s t k i => l_series s t sq k i) (fun s t k i => b_series sq s t k i M N) 12 s t k 0 (by omega) (by omega) h1 (by omega)

set_option maxRecDepth 100000 in
theorem w_Q5_series (x y k : Int) (K : AV → List Blk → Ans) : evFn Tryz.prog GT EQT T_Q5_times XT L_series 60 150 [.v (.c (.d (.int .u64 x))), .v (.c (.d (.int .u64 y))), .v (.c (.d (.int .u64 k)))] [] (fun v M => K v (M.take ([] : List Blk).length)) = bif seriesDom [y, y, timesI x x, k, 0] then K (rU (serI 12 y y (timesI x x) k true)) [] else none := by
  kernel_rfl
set_option maxRecDepth 100000 in
theorem c_Q5_series (x y k : Int) (hd : (serOn k) = true) : CallsA Tryz.prog GT gbT 150 [.v (.c (.d (.int .u64 x))), .v (.c (.d (.int .u64 y))), .v (.c (.d (.int .u64 k)))] [] (rU (serI 12 y y (timesI x x) k true)) [] := by
  refine CallsA.ofOk fun hok => ?_
  have hw := w_Q5_series x y k (fun v M => some (Res.fin v M))
  refine CallsA.ofEv (Γ := T_Q5_times) (X := XT) (Λ := L_series) (EQ := EQT) (n := 60) g_Q5_times hEQT hmT (LL_series) (hw.trans ?_)
  have h_x := inR_u64 (hok (.int .u64 x) (by simp [datasL, datas]))
  have h_y := inR_u64 (hok (.int .u64 y) (by simp [datasL, datas]))
  have h_k := inR_u64 (hok (.int .u64 k) (by simp [datasL, datas]))
  clear hok hw
  have : seriesDom [y, y, timesI x x, k, 0] = true := by simp only [seriesDom, hd]; rfl
  rw [this]
  rfl
def s_Q5_series : List AV → List Blk → (AV → List Blk → Ans) → Ans := fun xs bs K => match xs, bs with
  | [.v (.c (.d (.int .u64 x))), .v (.c (.d (.int .u64 y))), .v (.c (.d (.int .u64 k)))], [] => bif serOn k then K (rU (serI 12 y y (timesI x x) k true)) [] else none
  | _, _ => none
def T_Q5_series : Nat → List AV → List Blk → (AV → List Blk → Ans) → Ans := upd T_Q5_times 150 s_Q5_series
theorem g_Q5_series : GOK Tryz.prog GT gbT T_Q5_series XT := by
  refine GOK.upd g_Q5_times (fun args w => Tryz.call150 args w) fun xs bs K r h => ?_
  unfold s_Q5_series at h
  split at h
  · simp only [cond_eq_ite] at h
    split at h
    · exact ⟨_, _, c_Q5_series _ _ _ ‹_›, h⟩
    · cases h
  · cases h


set_option maxRecDepth 100000 in
theorem w_Q5_eighth (k n : Int) (K : AV → List Blk → Ans) : evFn Tryz.prog GT EQT T_Q5_series XT noL 60 145 [.v (.c (.d (.int .u64 k))), .v (.c (.d (.int .u64 n)))] [] (fun v M => K v (M.take ([] : List Blk).length)) = eighthAns K k n := by
  kernel_rfl
set_option maxRecDepth 100000 in
theorem c_Q5_eighth (k n : Int) (hd : (eighthOn k n) = true) : CallsA Tryz.prog GT gbT 145 [.v (.c (.d (.int .u64 k))), .v (.c (.d (.int .u64 n)))] [] (rUU (cosSer (partI k n), sinSer (partI k n))) [] := by
  refine CallsA.ofOk fun hok => ?_
  have hw := w_Q5_eighth k n (fun v M => some (Res.fin v M))
  refine CallsA.ofEv (Γ := T_Q5_series) (X := XT) (Λ := noL) (EQ := EQT) (n := 60) g_Q5_series hEQT hmT (fun _ _ _ _ => noL_ok _) (hw.trans ?_)
  have h_k := inR_u64 (hok (.int .u64 k) (by simp [datasL, datas]))
  have h_n := inR_u64 (hok (.int .u64 n) (by simp [datasL, datas]))
  clear hok hw
  exact eighthAns_ok (K := fun v M => some (Res.fin v M)) hd
def s_Q5_eighth : List AV → List Blk → (AV → List Blk → Ans) → Ans := fun xs bs K => match xs, bs with
  | [.v (.c (.d (.int .u64 k))), .v (.c (.d (.int .u64 n)))], [] => bif eighthOn k n then K (rUU (cosSer (partI k n), sinSer (partI k n))) [] else none
  | _, _ => none
def T_Q5_eighth : Nat → List AV → List Blk → (AV → List Blk → Ans) → Ans := upd T_Q5_series 145 s_Q5_eighth
theorem g_Q5_eighth : GOK Tryz.prog GT gbT T_Q5_eighth XT := by
  refine GOK.upd g_Q5_series (fun args w => Tryz.call145 args w) fun xs bs K r h => ?_
  unfold s_Q5_eighth at h
  split at h
  · simp only [cond_eq_ite] at h
    split at h
    · exact ⟨_, _, c_Q5_eighth _ _ ‹_›, h⟩
    · cases h
  · cases h


set_option maxRecDepth 100000 in
theorem w_Q5_exact (k n : Int) (s : Bool) (K : AV → List Blk → Ans) : evFn Tryz.prog GT EQT T_Q5_eighth XT noL 60 146 [.v (.c (.d (.int .i64 k))), .v (.c (.d (.int .i64 n))), .v (.c (.d (.bool s)))] [] (fun v M => K v (M.take ([] : List Blk).length)) = K (rB (exactI k n s)) [] := by
  simp only [exactI, pullK K]
  kernel_rfl
set_option maxRecDepth 100000 in
theorem c_Q5_exact (k n : Int) (s : Bool) : CallsA Tryz.prog GT gbT 146 [.v (.c (.d (.int .i64 k))), .v (.c (.d (.int .i64 n))), .v (.c (.d (.bool s)))] [] (rB (exactI k n s)) [] := by
  refine CallsA.ofOk fun hok => ?_
  have hw := w_Q5_exact k n s (fun v M => some (Res.fin v M))
  refine CallsA.ofEv (Γ := T_Q5_eighth) (X := XT) (Λ := noL) (EQ := EQT) (n := 60) g_Q5_eighth hEQT hmT (fun _ _ _ _ => noL_ok _) (hw.trans ?_)
  rfl
def s_Q5_exact : List AV → List Blk → (AV → List Blk → Ans) → Ans := fun xs bs K => match xs, bs with
  | [.v (.c (.d (.int .i64 k))), .v (.c (.d (.int .i64 n))), .v (.c (.d (.bool s)))], [] => K (rB (exactI k n s)) []
  | _, _ => none
def T_Q5_exact : Nat → List AV → List Blk → (AV → List Blk → Ans) → Ans := upd T_Q5_eighth 146 s_Q5_exact
theorem g_Q5_exact : GOK Tryz.prog GT gbT T_Q5_exact XT := by
  refine GOK.upd g_Q5_eighth (fun args w => Tryz.call146 args w) fun xs bs K r h => ?_
  unfold s_Q5_exact at h
  split at h
  · exact ⟨_, _, c_Q5_exact _ _ _, h⟩
  · cases h


set_option maxRecDepth 100000 in
theorem w_Q5_round (n : Int) (K : AV → List Blk → Ans) : evFn Tryz.prog GT EQT T_Q5_exact XT noL 60 147 [.v (.c (.d (.int .i64 n)))] [] (fun v M => K v (M.take ([] : List Blk).length)) = K (rSpan ⟨n, n⟩) [] := by
  kernel_rfl
set_option maxRecDepth 100000 in
theorem c_Q5_round (n : Int) : CallsA Tryz.prog GT gbT 147 [.v (.c (.d (.int .i64 n)))] [] (rSpan ⟨n, n⟩) [] := by
  refine CallsA.ofOk fun hok => ?_
  have hw := w_Q5_round n (fun v M => some (Res.fin v M))
  refine CallsA.ofEv (Γ := T_Q5_exact) (X := XT) (Λ := noL) (EQ := EQT) (n := 60) g_Q5_exact hEQT hmT (fun _ _ _ _ => noL_ok _) (hw.trans ?_)
  rfl
def s_Q5_round : List AV → List Blk → (AV → List Blk → Ans) → Ans := fun xs bs K => match xs, bs with
  | [.v (.c (.d (.int .i64 n)))], [] => K (rSpan ⟨n, n⟩) []
  | _, _ => none
def T_Q5_round : Nat → List AV → List Blk → (AV → List Blk → Ans) → Ans := upd T_Q5_exact 147 s_Q5_round
theorem g_Q5_round : GOK Tryz.prog GT gbT T_Q5_round XT := by
  refine GOK.upd g_Q5_exact (fun args w => Tryz.call147 args w) fun xs bs K r h => ?_
  unfold s_Q5_round at h
  split at h
  · exact ⟨_, _, c_Q5_round _, h⟩
  · cases h


set_option maxRecDepth 100000 in
theorem w_Q5_quarter (k n : Int) (K : AV → List Blk → Ans) : evFn Tryz.prog GT EQT T_Q5_round XT noL 60 140 [.v (.c (.d (.int .i64 k))), .v (.c (.d (.int .i64 n)))] [] (fun v M => K v (M.take ([] : List Blk).length)) = quarterAns K k n := by
  kernel_rfl
set_option maxRecDepth 100000 in
theorem c_Q5_quarter (k n : Int) (hd : (quarterOn k n) = true) : CallsA Tryz.prog GT gbT 140 [.v (.c (.d (.int .i64 k))), .v (.c (.d (.int .i64 n)))] [] (rSpan (refI (n - 4 * k) n)) [] := by
  refine CallsA.ofOk fun hok => ?_
  have hw := w_Q5_quarter k n (fun v M => some (Res.fin v M))
  refine CallsA.ofEv (Γ := T_Q5_round) (X := XT) (Λ := noL) (EQ := EQT) (n := 60) g_Q5_round hEQT hmT (fun _ _ _ _ => noL_ok _) (hw.trans ?_)
  have h_k := inR_i64 (hok (.int .i64 k) (by simp [datasL, datas]))
  have h_n := inR_i64 (hok (.int .i64 n) (by simp [datasL, datas]))
  clear hok hw
  exact quarterAns_ok (K := fun v M => some (Res.fin v M)) hd
def s_Q5_quarter : List AV → List Blk → (AV → List Blk → Ans) → Ans := fun xs bs K => match xs, bs with
  | [.v (.c (.d (.int .i64 k))), .v (.c (.d (.int .i64 n)))], [] => bif quarterOn k n then K (rSpan (refI (n - 4 * k) n)) [] else none
  | _, _ => none
def T_Q5_quarter : Nat → List AV → List Blk → (AV → List Blk → Ans) → Ans := upd T_Q5_round 140 s_Q5_quarter
theorem g_Q5_quarter : GOK Tryz.prog GT gbT T_Q5_quarter XT := by
  refine GOK.upd g_Q5_round (fun args w => Tryz.call140 args w) fun xs bs K r h => ?_
  unfold s_Q5_quarter at h
  split at h
  · simp only [cond_eq_ite] at h
    split at h
    · exact ⟨_, _, c_Q5_quarter _ _ ‹_›, h⟩
    · cases h
  · cases h


set_option maxRecDepth 100000 in
theorem w_Q5_Cosine (k n : Int) (K : AV → List Blk → Ans) : evFn Tryz.prog GT EQT T_Q5_quarter XT noL 60 115 [.v (.c (.d (.int .i64 k))), .v (.c (.d (.int .i64 n)))] [] (fun v M => K v (M.take ([] : List Blk).length)) = cosineAns K k n := by
  kernel_rfl
set_option maxRecDepth 100000 in
theorem c_Q5_Cosine (k n : Int) (hd : (cosineOn n) = true) : CallsA Tryz.prog GT gbT 115 [.v (.c (.d (.int .i64 k))), .v (.c (.d (.int .i64 n)))] [] (rSpan (turnR (4 * k + n) n)) [] := by
  refine CallsA.ofOk fun hok => ?_
  have hw := w_Q5_Cosine k n (fun v M => some (Res.fin v M))
  refine CallsA.ofEv (Γ := T_Q5_quarter) (X := XT) (Λ := noL) (EQ := EQT) (n := 60) g_Q5_quarter hEQT hmT (fun _ _ _ _ => noL_ok _) (hw.trans ?_)
  have h_k := inR_i64 (hok (.int .i64 k) (by simp [datasL, datas]))
  have h_n := inR_i64 (hok (.int .i64 n) (by simp [datasL, datas]))
  clear hok hw
  exact cosineAns_ok (K := fun v M => some (Res.fin v M)) hd
def s_Q5_Cosine : List AV → List Blk → (AV → List Blk → Ans) → Ans := fun xs bs K => match xs, bs with
  | [.v (.c (.d (.int .i64 k))), .v (.c (.d (.int .i64 n)))], [] => bif cosineOn n then K (rSpan (turnR (4 * k + n) n)) [] else none
  | _, _ => none
def T_Q5_Cosine : Nat → List AV → List Blk → (AV → List Blk → Ans) → Ans := upd T_Q5_quarter 115 s_Q5_Cosine
theorem g_Q5_Cosine : GOK Tryz.prog GT gbT T_Q5_Cosine XT := by
  refine GOK.upd g_Q5_quarter (fun args w => Tryz.call115 args w) fun xs bs K r h => ?_
  unfold s_Q5_Cosine at h
  split at h
  · simp only [cond_eq_ite] at h
    split at h
    · exact ⟨_, _, c_Q5_Cosine _ _ ‹_›, h⟩
    · cases h
  · cases h


set_option maxRecDepth 100000 in
theorem w_Q5_Cos (k n : Int) (K : AV → List Blk → Ans) : evFn Tryz.prog GT EQT T_Q5_Cosine XT noL 60 79 [.v (.c (.d (.int .i64 k))), .v (.c (.d (.int .i64 n)))] [] (fun v M => K v (M.take ([] : List Blk).length)) = cosRAns K k n := by
  kernel_rfl
set_option maxRecDepth 100000 in
theorem c_Q5_Cos (k n : Int) : CallsA Tryz.prog GT gbT 79 [.v (.c (.d (.int .i64 k))), .v (.c (.d (.int .i64 n)))] [] (rSpanE (cosR k n)) [] := by
  refine CallsA.ofOk fun hok => ?_
  have hw := w_Q5_Cos k n (fun v M => some (Res.fin v M))
  refine CallsA.ofEv (Γ := T_Q5_Cosine) (X := XT) (Λ := noL) (EQ := EQT) (n := 60) g_Q5_Cosine hEQT hmT (fun _ _ _ _ => noL_ok _) (hw.trans ?_)
  have h_k := inR_i64 (hok (.int .i64 k) (by simp [datasL, datas]))
  have h_n := inR_i64 (hok (.int .i64 n) (by simp [datasL, datas]))
  clear hok hw
  exact cosRAns_ok (K := fun v M => some (Res.fin v M))
def s_Q5_Cos : List AV → List Blk → (AV → List Blk → Ans) → Ans := fun xs bs K => match xs, bs with
  | [.v (.c (.d (.int .i64 k))), .v (.c (.d (.int .i64 n)))], [] => K (rSpanE (cosR k n)) []
  | _, _ => none
def T_Q5_Cos : Nat → List AV → List Blk → (AV → List Blk → Ans) → Ans := upd T_Q5_Cosine 79 s_Q5_Cos
theorem g_Q5_Cos : GOK Tryz.prog GT gbT T_Q5_Cos XT := by
  refine GOK.upd g_Q5_Cosine (fun args w => Tryz.call79 args w) fun xs bs K r h => ?_
  unfold s_Q5_Cos at h
  split at h
  · exact ⟨_, _, c_Q5_Cos _ _, h⟩
  · cases h


end Go.Ev

namespace Go.Ev
open Go Go.Proofs

set_option maxRecDepth 100000 in
theorem w_Q5_Sin (k n : Int) (K : AV → List Blk → Ans) : evFn Tryz.prog GT EQT T_Q5_Cos XT noL 60 80 [.v (.c (.d (.int .i64 k))), .v (.c (.d (.int .i64 n)))] [] (fun v M => K v (M.take ([] : List Blk).length)) = sinRAns K k n := by
  kernel_rfl
set_option maxRecDepth 100000 in
theorem c_Q5_Sin (k n : Int) : CallsA Tryz.prog GT gbT 80 [.v (.c (.d (.int .i64 k))), .v (.c (.d (.int .i64 n)))] [] (rSpanE (sinR k n)) [] := by
  refine CallsA.ofOk fun hok => ?_
  have hw := w_Q5_Sin k n (fun v M => some (Res.fin v M))
  refine CallsA.ofEv (Γ := T_Q5_Cos) (X := XT) (Λ := noL) (EQ := EQT) (n := 60) g_Q5_Cos hEQT hmT (fun _ _ _ _ => noL_ok _) (hw.trans ?_)
  have h_k := inR_i64 (hok (.int .i64 k) (by simp [datasL, datas]))
  have h_n := inR_i64 (hok (.int .i64 n) (by simp [datasL, datas]))
  clear hok hw
  exact sinRAns_ok (K := fun v M => some (Res.fin v M))
def s_Q5_Sin : List AV → List Blk → (AV → List Blk → Ans) → Ans := fun xs bs K => match xs, bs with
  | [.v (.c (.d (.int .i64 k))), .v (.c (.d (.int .i64 n)))], [] => K (rSpanE (sinR k n)) []
  | _, _ => none
def T_Q5_Sin : Nat → List AV → List Blk → (AV → List Blk → Ans) → Ans := upd T_Q5_Cos 80 s_Q5_Sin
theorem g_Q5_Sin : GOK Tryz.prog GT gbT T_Q5_Sin XT := by
  refine GOK.upd g_Q5_Cos (fun args w => Tryz.call80 args w) fun xs bs K r h => ?_
  unfold s_Q5_Sin at h
  split at h
  · exact ⟨_, _, c_Q5_Sin _ _, h⟩
  · cases h


set_option maxRecDepth 100000 in
theorem w_proj_circle (h : Int) (K : AV → List Blk → Ans) : evFn Tryz.prog GT EQT T_Q5_Sin XT noL 60 39 [.v (.c (.d (.int .i64 h)))] [] (fun v M => K v (M.take ([] : List Blk).length)) = K (rSpan2 (sinT h, cosT h)) [] := by
  kernel_rfl
set_option maxRecDepth 100000 in
theorem c_proj_circle (h : Int) : CallsA Tryz.prog GT gbT 39 [.v (.c (.d (.int .i64 h)))] [] (rSpan2 (sinT h, cosT h)) [] := by
  refine CallsA.ofOk fun hok => ?_
  have hw := w_proj_circle h (fun v M => some (Res.fin v M))
  refine CallsA.ofEv (Γ := T_Q5_Sin) (X := XT) (Λ := noL) (EQ := EQT) (n := 60) g_Q5_Sin hEQT hmT (fun _ _ _ _ => noL_ok _) (hw.trans ?_)
  rfl
def s_proj_circle : List AV → List Blk → (AV → List Blk → Ans) → Ans := fun xs bs K => match xs, bs with
  | [.v (.c (.d (.int .i64 h)))], [] => K (rSpan2 (sinT h, cosT h)) []
  | _, _ => none
def T_proj_circle : Nat → List AV → List Blk → (AV → List Blk → Ans) → Ans := upd T_Q5_Sin 39 s_proj_circle
theorem g_proj_circle : GOK Tryz.prog GT gbT T_proj_circle XT := by
  refine GOK.upd g_Q5_Sin (fun args w => Tryz.call39 args w) fun xs bs K r h => ?_
  unfold s_proj_circle at h
  split at h
  · exact ⟨_, _, c_proj_circle _, h⟩
  · cases h


set_option maxRecDepth 100000 in
theorem w_proj_opposite (a1 a2 : Int) (K : AV → List Blk → Ans) : evFn Tryz.prog GT EQT T_proj_circle XT noL 60 41 [.v (.agg [.int .i64 a1, .int .i64 a2])] [] (fun v M => K v (M.take ([] : List Blk).length)) = K (rSpan (negRaw ⟨a1, a2⟩)) [] := by
  kernel_rfl
set_option maxRecDepth 100000 in
theorem c_proj_opposite (a1 a2 : Int) : CallsA Tryz.prog GT gbT 41 [.v (.agg [.int .i64 a1, .int .i64 a2])] [] (rSpan (negRaw ⟨a1, a2⟩)) [] := by
  refine CallsA.ofOk fun hok => ?_
  have hw := w_proj_opposite a1 a2 (fun v M => some (Res.fin v M))
  refine CallsA.ofEv (Γ := T_proj_circle) (X := XT) (Λ := noL) (EQ := EQT) (n := 60) g_proj_circle hEQT hmT (fun _ _ _ _ => noL_ok _) (hw.trans ?_)
  rfl
def s_proj_opposite : List AV → List Blk → (AV → List Blk → Ans) → Ans := fun xs bs K => match xs, bs with
  | [.v (.agg [.int .i64 a1, .int .i64 a2])], [] => K (rSpan (negRaw ⟨a1, a2⟩)) []
  | _, _ => none
def T_proj_opposite : Nat → List AV → List Blk → (AV → List Blk → Ans) → Ans := upd T_proj_circle 41 s_proj_opposite
theorem g_proj_opposite : GOK Tryz.prog GT gbT T_proj_opposite XT := by
  refine GOK.upd g_proj_circle (fun args w => Tryz.call41 args w) fun xs bs K r h => ?_
  unfold s_proj_opposite at h
  split at h
  · exact ⟨_, _, c_proj_opposite _ _, h⟩
  · cases h


set_option maxRecDepth 100000 in
theorem w_proj_Axes (s1 : ByteArray) (s2 : Int) (s3 : Int) (t : Int) (K : AV → List Blk → Ans) : evFn Tryz.prog GT EQT T_proj_opposite XT noL 120 23 [.v (.agg [.str s1, .int .i64 s2, .int .i64 s3]), .v (.c (.d (.int .i64 t)))] [] (fun v M => K v (M.take ([] : List Blk).length)) = axesAns K ⟨s1, s2, s3⟩ t := by
  kernel_rfl
set_option maxRecDepth 100000 in
theorem c_proj_Axes (s1 : ByteArray) (s2 : Int) (s3 : Int) (t : Int) : CallsA Tryz.prog GT gbT 23 [.v (.agg [.str s1, .int .i64 s2, .int .i64 s3]), .v (.c (.d (.int .i64 t)))] [] (rFrameE (axesV ⟨s1, s2, s3⟩ t)) [] := by
  refine CallsA.ofOk fun hok => ?_
  have hw := w_proj_Axes s1 s2 s3 t (fun v M => some (Res.fin v M))
  refine CallsA.ofEv (Γ := T_proj_opposite) (X := XT) (Λ := noL) (EQ := EQT) (n := 120) g_proj_opposite hEQT hmT (fun _ _ _ _ => noL_ok _) (hw.trans ?_)
  have h_s2 := inR_i64 (hok (.int .i64 s2) (by simp [datasL, datas]))
  have h_s3 := inR_i64 (hok (.int .i64 s3) (by simp [datasL, datas]))
  have h_t := inR_i64 (hok (.int .i64 t) (by simp [datasL, datas]))
  clear hok hw
  exact axesAns_ok (K := fun v M => some (Res.fin v M))
def s_proj_Axes : List AV → List Blk → (AV → List Blk → Ans) → Ans := fun xs bs K => match xs, bs with
  | [.v (.agg [.str s1, .int .i64 s2, .int .i64 s3]), .v (.c (.d (.int .i64 t)))], [] => K (rFrameE (axesV ⟨s1, s2, s3⟩ t)) []
  | _, _ => none
def T_proj_Axes : Nat → List AV → List Blk → (AV → List Blk → Ans) → Ans := upd T_proj_opposite 23 s_proj_Axes
theorem g_proj_Axes : GOK Tryz.prog GT gbT T_proj_Axes XT := by
  refine GOK.upd g_proj_opposite (fun args w => Tryz.call23 args w) fun xs bs K r h => ?_
  unfold s_proj_Axes at h
  split at h
  · exact ⟨_, _, c_proj_Axes _ _ _ _, h⟩
  · cases h


set_option maxRecDepth 100000 in
theorem w_proj_Project (v1 : Int) (v2 : Int) (v3 : Int) (v4 : Int) (v5 : Int) (v6 : Int) (s1 : ByteArray) (s2 : Int) (s3 : Int) (t : Int) (K : AV → List Blk → Ans) : evFn Tryz.prog GT EQT (inl Tryz.prog GT EQT XT [42] T_proj_Axes 150 2) XT noL 150 24 [.v (.agg [.int .i64 v1, .int .i64 v2, .int .i64 v3, .int .i64 v4, .int .i64 v5, .int .i64 v6]), .v (.agg [.str s1, .int .i64 s2, .int .i64 s3]), .v (.c (.d (.int .i64 t)))] [] (fun v M => K v (M.take ([] : List Blk).length)) = projAns K ⟨⟨v1, v2⟩, ⟨v3, v4⟩, ⟨v5, v6⟩⟩ ⟨s1, s2, s3⟩ t := by
  kernel_rfl
set_option maxRecDepth 100000 in
theorem c_proj_Project (v1 : Int) (v2 : Int) (v3 : Int) (v4 : Int) (v5 : Int) (v6 : Int) (s1 : ByteArray) (s2 : Int) (s3 : Int) (t : Int) : CallsA Tryz.prog GT gbT 24 [.v (.agg [.int .i64 v1, .int .i64 v2, .int .i64 v3, .int .i64 v4, .int .i64 v5, .int .i64 v6]), .v (.agg [.str s1, .int .i64 s2, .int .i64 s3]), .v (.c (.d (.int .i64 t)))] [] (rDirE (projV ⟨⟨v1, v2⟩, ⟨v3, v4⟩, ⟨v5, v6⟩⟩ ⟨s1, s2, s3⟩ t)) [] := by
  refine CallsA.ofOk fun hok => ?_
  have hw := w_proj_Project v1 v2 v3 v4 v5 v6 s1 s2 s3 t (fun v M => some (Res.fin v M))
  refine CallsA.ofEv (Γ := (inl Tryz.prog GT EQT XT [42] T_proj_Axes 150 2)) (X := XT) (Λ := noL) (EQ := EQT) (n := 150) (g_proj_Axes.inl hEQT hmT (fun f hf => by simp only [List.mem_cons, List.not_mem_nil, or_false] at hf; subst hf; exact (fun args w => Tryz.call42 args w)) 150 2) hEQT hmT (fun _ _ _ _ => noL_ok _) (hw.trans ?_)
  have h_v1 := inR_i64 (hok (.int .i64 v1) (by simp [datasL, datas]))
  have h_v2 := inR_i64 (hok (.int .i64 v2) (by simp [datasL, datas]))
  have h_v3 := inR_i64 (hok (.int .i64 v3) (by simp [datasL, datas]))
  have h_v4 := inR_i64 (hok (.int .i64 v4) (by simp [datasL, datas]))
  have h_v5 := inR_i64 (hok (.int .i64 v5) (by simp [datasL, datas]))
  have h_v6 := inR_i64 (hok (.int .i64 v6) (by simp [datasL, datas]))
  have h_s2 := inR_i64 (hok (.int .i64 s2) (by simp [datasL, datas]))
  have h_s3 := inR_i64 (hok (.int .i64 s3) (by simp [datasL, datas]))
  have h_t := inR_i64 (hok (.int .i64 t) (by simp [datasL, datas]))
  clear hok hw
  exact projAns_ok (K := fun v M => some (Res.fin v M))
def s_proj_Project : List AV → List Blk → (AV → List Blk → Ans) → Ans := fun xs bs K => match xs, bs with
  | [.v (.agg [.int .i64 v1, .int .i64 v2, .int .i64 v3, .int .i64 v4, .int .i64 v5, .int .i64 v6]), .v (.agg [.str s1, .int .i64 s2, .int .i64 s3]), .v (.c (.d (.int .i64 t)))], [] => K (rDirE (projV ⟨⟨v1, v2⟩, ⟨v3, v4⟩, ⟨v5, v6⟩⟩ ⟨s1, s2, s3⟩ t)) []
  | _, _ => none
def T_proj_Project : Nat → List AV → List Blk → (AV → List Blk → Ans) → Ans := upd T_proj_Axes 24 s_proj_Project
theorem g_proj_Project : GOK Tryz.prog GT gbT T_proj_Project XT := by
  refine GOK.upd g_proj_Axes (fun args w => Tryz.call24 args w) fun xs bs K r h => ?_
  unfold s_proj_Project at h
  split at h
  · exact ⟨_, _, c_proj_Project _ _ _ _ _ _ _ _ _ _, h⟩
  · cases h


set_option maxRecDepth 100000 in
theorem w_Q6_Tick (t : Int) (K : AV → List Blk → Ans) : evFn Tryz.prog GT EQT T_proj_Project XT noL 60 22 [.v (.c (.d (.int .i64 t)))] [] (fun v M => K v (M.take ([] : List Blk).length)) = K (rB (tickB t)) [] := by
  simp only [tickB, pullK K]
  kernel_rfl
set_option maxRecDepth 100000 in
theorem c_Q6_Tick (t : Int) : CallsA Tryz.prog GT gbT 22 [.v (.c (.d (.int .i64 t)))] [] (rB (tickB t)) [] := by
  refine CallsA.ofOk fun hok => ?_
  have hw := w_Q6_Tick t (fun v M => some (Res.fin v M))
  refine CallsA.ofEv (Γ := T_proj_Project) (X := XT) (Λ := noL) (EQ := EQT) (n := 60) g_proj_Project hEQT hmT (fun _ _ _ _ => noL_ok _) (hw.trans ?_)
  rfl
def s_Q6_Tick : List AV → List Blk → (AV → List Blk → Ans) → Ans := fun xs bs K => match xs, bs with
  | [.v (.c (.d (.int .i64 t)))], [] => K (rB (tickB t)) []
  | _, _ => none
def T_Q6_Tick : Nat → List AV → List Blk → (AV → List Blk → Ans) → Ans := upd T_proj_Project 22 s_Q6_Tick
theorem g_Q6_Tick : GOK Tryz.prog GT gbT T_Q6_Tick XT := by
  refine GOK.upd g_proj_Project (fun args w => Tryz.call22 args w) fun xs bs K r h => ?_
  unfold s_Q6_Tick at h
  split at h
  · exact ⟨_, _, c_Q6_Tick _, h⟩
  · cases h


set_option maxRecDepth 100000 in
theorem w_Q6_Common (a1 a2 b1 b2 : Int) (K : AV → List Blk → Ans) : evFn Tryz.prog GT EQT T_Q6_Tick XT noL 60 12 [.v (.agg [.int .i64 a1, .int .i64 a2]), .v (.agg [.int .i64 b1, .int .i64 b2])] [] (fun v M => K v (M.take ([] : List Blk).length)) = K (rB (commonB ⟨a1, a2⟩ ⟨b1, b2⟩)) [] := by
  simp only [commonB, pullK K]
  kernel_rfl
set_option maxRecDepth 100000 in
theorem c_Q6_Common (a1 a2 b1 b2 : Int) : CallsA Tryz.prog GT gbT 12 [.v (.agg [.int .i64 a1, .int .i64 a2]), .v (.agg [.int .i64 b1, .int .i64 b2])] [] (rB (commonB ⟨a1, a2⟩ ⟨b1, b2⟩)) [] := by
  refine CallsA.ofOk fun hok => ?_
  have hw := w_Q6_Common a1 a2 b1 b2 (fun v M => some (Res.fin v M))
  refine CallsA.ofEv (Γ := T_Q6_Tick) (X := XT) (Λ := noL) (EQ := EQT) (n := 60) g_Q6_Tick hEQT hmT (fun _ _ _ _ => noL_ok _) (hw.trans ?_)
  rfl
def s_Q6_Common : List AV → List Blk → (AV → List Blk → Ans) → Ans := fun xs bs K => match xs, bs with
  | [.v (.agg [.int .i64 a1, .int .i64 a2]), .v (.agg [.int .i64 b1, .int .i64 b2])], [] => K (rB (commonB ⟨a1, a2⟩ ⟨b1, b2⟩)) []
  | _, _ => none
def T_Q6_Common : Nat → List AV → List Blk → (AV → List Blk → Ans) → Ans := upd T_Q6_Tick 12 s_Q6_Common
theorem g_Q6_Common : GOK Tryz.prog GT gbT T_Q6_Common XT := by
  refine GOK.upd g_Q6_Tick (fun args w => Tryz.call12 args w) fun xs bs K r h => ?_
  unfold s_Q6_Common at h
  split at h
  · exact ⟨_, _, c_Q6_Common _ _ _ _, h⟩
  · cases h


set_option maxRecDepth 100000 in
theorem w_W8_of (n : Int) (K : AV → List Blk → Ans) : evFn Tryz.prog GT EQT T_Q6_Common XT noL 60 43 [.v (.c (.d (.int .i64 n)))] [] (fun v M => K v (M.take ([] : List Blk).length)) = K (rSpan ⟨w64 (1000000 * n), w64 (1000000 * n)⟩) [] := by
  kernel_rfl
set_option maxRecDepth 100000 in
theorem c_W8_of (n : Int) : CallsA Tryz.prog GT gbT 43 [.v (.c (.d (.int .i64 n)))] [] (rSpan ⟨w64 (1000000 * n), w64 (1000000 * n)⟩) [] := by
  refine CallsA.ofOk fun hok => ?_
  have hw := w_W8_of n (fun v M => some (Res.fin v M))
  refine CallsA.ofEv (Γ := T_Q6_Common) (X := XT) (Λ := noL) (EQ := EQT) (n := 60) g_Q6_Common hEQT hmT (fun _ _ _ _ => noL_ok _) (hw.trans ?_)
  rfl
def s_W8_of : List AV → List Blk → (AV → List Blk → Ans) → Ans := fun xs bs K => match xs, bs with
  | [.v (.c (.d (.int .i64 n)))], [] => K (rSpan ⟨w64 (1000000 * n), w64 (1000000 * n)⟩) []
  | _, _ => none
def T_W8_of : Nat → List AV → List Blk → (AV → List Blk → Ans) → Ans := upd T_Q6_Common 43 s_W8_of
theorem g_W8_of : GOK Tryz.prog GT gbT T_W8_of XT := by
  refine GOK.upd g_Q6_Common (fun args w => Tryz.call43 args w) fun xs bs K r h => ?_
  unfold s_W8_of at h
  split at h
  · exact ⟨_, _, c_W8_of _, h⟩
  · cases h


set_option maxRecDepth 100000 in
theorem w_W8_fit (s1 : ByteArray) (s2 : Int) (s3 : Int) (t : Int) (K : AV → List Blk → Ans) : evFn Tryz.prog GT EQT T_W8_of XT noL 60 7 [.v (.agg [.str s1, .int .i64 s2, .int .i64 s3]), .v (.c (.d (.int .i64 t)))] [] (fun v M => K v (M.take ([] : List Blk).length)) = K (rB (fit8B ⟨s1, s2, s3⟩ t)) [] := by
  simp only [fit8B, pullK K]
  kernel_rfl
set_option maxRecDepth 100000 in
theorem c_W8_fit (s1 : ByteArray) (s2 : Int) (s3 : Int) (t : Int) : CallsA Tryz.prog GT gbT 7 [.v (.agg [.str s1, .int .i64 s2, .int .i64 s3]), .v (.c (.d (.int .i64 t)))] [] (rB (fit8B ⟨s1, s2, s3⟩ t)) [] := by
  refine CallsA.ofOk fun hok => ?_
  have hw := w_W8_fit s1 s2 s3 t (fun v M => some (Res.fin v M))
  refine CallsA.ofEv (Γ := T_W8_of) (X := XT) (Λ := noL) (EQ := EQT) (n := 60) g_W8_of hEQT hmT (fun _ _ _ _ => noL_ok _) (hw.trans ?_)
  rfl
def s_W8_fit : List AV → List Blk → (AV → List Blk → Ans) → Ans := fun xs bs K => match xs, bs with
  | [.v (.agg [.str s1, .int .i64 s2, .int .i64 s3]), .v (.c (.d (.int .i64 t)))], [] => K (rB (fit8B ⟨s1, s2, s3⟩ t)) []
  | _, _ => none
def T_W8_fit : Nat → List AV → List Blk → (AV → List Blk → Ans) → Ans := upd T_W8_of 7 s_W8_fit
theorem g_W8_fit : GOK Tryz.prog GT gbT T_W8_fit XT := by
  refine GOK.upd g_W8_of (fun args w => Tryz.call7 args w) fun xs bs K r h => ?_
  unfold s_W8_fit at h
  split at h
  · exact ⟨_, _, c_W8_fit _ _ _ _, h⟩
  · cases h


set_option maxRecDepth 100000 in
theorem w_W8_alive (K : AV → List Blk → Ans) : evFn Tryz.prog GT EQT (inl Tryz.prog GT EQT XT [26, 25] T_W8_fit 150 2) XT noL 150 8 [] [] (fun v M => K v (M.take ([] : List Blk).length)) = K (rB true) [] := by
  kernel_rfl
set_option maxRecDepth 100000 in
theorem c_W8_alive : CallsA Tryz.prog GT gbT 8 [] [] (rB true) [] := by
  refine CallsA.ofOk fun hok => ?_
  have hw := w_W8_alive (fun v M => some (Res.fin v M))
  refine CallsA.ofEv (Γ := (inl Tryz.prog GT EQT XT [26, 25] T_W8_fit 150 2)) (X := XT) (Λ := noL) (EQ := EQT) (n := 150) (g_W8_fit.inl hEQT hmT (fun f hf => by simp only [List.mem_cons, List.not_mem_nil, or_false] at hf; rcases hf with rfl | rfl <;> first | exact (fun args w => Tryz.call26 args w) | exact (fun args w => Tryz.call25 args w)) 150 2) hEQT hmT (fun _ _ _ _ => noL_ok _) (hw.trans ?_)
  rfl
def s_W8_alive : List AV → List Blk → (AV → List Blk → Ans) → Ans := fun xs bs K => match xs, bs with
  | [], [] => K (rB true) []
  | _, _ => none
def T_W8_alive : Nat → List AV → List Blk → (AV → List Blk → Ans) → Ans := upd T_W8_fit 8 s_W8_alive
theorem g_W8_alive : GOK Tryz.prog GT gbT T_W8_alive XT := by
  refine GOK.upd g_W8_fit (fun args w => Tryz.call8 args w) fun xs bs K r h => ?_
  unfold s_W8_alive at h
  split at h
  · exact ⟨_, _, c_W8_alive, h⟩
  · cases h


set_option maxRecDepth 100000 in
theorem w_Q6_sines (k : Int) (K : AV → List Blk → Ans) : evFn Tryz.prog GT EQT T_W8_alive XT noL 60 88 [.v (.c (.d (.int .i64 k)))] [] (fun v M => K v (M.take ([] : List Blk).length)) = K (rSpan2 ((cosR k 720).1, (sinR k 720).1)) [] := by
  kernel_rfl
set_option maxRecDepth 100000 in
theorem c_Q6_sines (k : Int) : CallsA Tryz.prog GT gbT 88 [.v (.c (.d (.int .i64 k)))] [] (rSpan2 (cosT k, sinT k)) [] := by
  refine CallsA.ofOk fun hok => ?_
  have hw := w_Q6_sines k (fun v M => some (Res.fin v M))
  refine CallsA.ofEv (Γ := T_W8_alive) (X := XT) (Λ := noL) (EQ := EQT) (n := 60) g_W8_alive hEQT hmT (fun _ _ _ _ => noL_ok _) (hw.trans ?_)
  have h_k := inR_i64 (hok (.int .i64 k) (by simp [datasL, datas]))
  clear hok hw
  refine congrArg (fun v => some (Res.fin v [])) ?_
  rw [cosR720, sinR720]
def s_Q6_sines : List AV → List Blk → (AV → List Blk → Ans) → Ans := fun xs bs K => match xs, bs with
  | [.v (.c (.d (.int .i64 k)))], [] => K (rSpan2 (cosT k, sinT k)) []
  | _, _ => none
def T_Q6_sines : Nat → List AV → List Blk → (AV → List Blk → Ans) → Ans := upd T_W8_alive 88 s_Q6_sines
theorem g_Q6_sines : GOK Tryz.prog GT gbT T_Q6_sines XT := by
  refine GOK.upd g_W8_alive (fun args w => Tryz.call88 args w) fun xs bs K r h => ?_
  unfold s_Q6_sines at h
  split at h
  · exact ⟨_, _, c_Q6_sines _, h⟩
  · cases h


set_option maxRecDepth 100000 in
theorem w_Q6_Direction (s1 : ByteArray) (s2 : Int) (s3 : Int) (t : Int) (K : AV → List Blk → Ans) : evFn Tryz.prog GT EQT T_Q6_sines XT noL 60 53 [.v (.agg [.str s1, .int .i64 s2, .int .i64 s3]), .v (.c (.d (.int .i64 t)))] [] (fun v M => K v (M.take ([] : List Blk).length)) = K (rDir (dirR s2 s3 t)) [] := by
  kernel_rfl
set_option maxRecDepth 100000 in
theorem c_Q6_Direction (s1 : ByteArray) (s2 : Int) (s3 : Int) (t : Int) : CallsA Tryz.prog GT gbT 53 [.v (.agg [.str s1, .int .i64 s2, .int .i64 s3]), .v (.c (.d (.int .i64 t)))] [] (rDir (dirR s2 s3 t)) [] := by
  refine CallsA.ofOk fun hok => ?_
  have hw := w_Q6_Direction s1 s2 s3 t (fun v M => some (Res.fin v M))
  refine CallsA.ofEv (Γ := T_Q6_sines) (X := XT) (Λ := noL) (EQ := EQT) (n := 60) g_Q6_sines hEQT hmT (fun _ _ _ _ => noL_ok _) (hw.trans ?_)
  rfl
def s_Q6_Direction : List AV → List Blk → (AV → List Blk → Ans) → Ans := fun xs bs K => match xs, bs with
  | [.v (.agg [.str _, .int .i64 s2, .int .i64 s3]), .v (.c (.d (.int .i64 t)))], [] => K (rDir (dirR s2 s3 t)) []
  | _, _ => none
def T_Q6_Direction : Nat → List AV → List Blk → (AV → List Blk → Ans) → Ans := upd T_Q6_sines 53 s_Q6_Direction
theorem g_Q6_Direction : GOK Tryz.prog GT gbT T_Q6_Direction XT := by
  refine GOK.upd g_Q6_sines (fun args w => Tryz.call53 args w) fun xs bs K r h => ?_
  unfold s_Q6_Direction at h
  split at h
  · exact ⟨_, _, c_Q6_Direction _ _ _ _, h⟩
  · cases h


set_option maxRecDepth 100000 in
theorem w_Q6_At (s1 : ByteArray) (s2 : Int) (s3 : Int) (t : Int) (K : AV → List Blk → Ans) : evFn Tryz.prog GT EQT T_Q6_Direction XT noL 60 78 [.v (.agg [.str s1, .int .i64 s2, .int .i64 s3]), .v (.c (.d (.int .i64 t)))] [] (fun v M => K v (M.take ([] : List Blk).length)) = at6Ref K ⟨s1, s2, s3⟩ t := by
  kernel_rfl
set_option maxRecDepth 100000 in
theorem c_Q6_At (s1 : ByteArray) (s2 : Int) (s3 : Int) (t : Int) : CallsA Tryz.prog GT gbT 78 [.v (.agg [.str s1, .int .i64 s2, .int .i64 s3]), .v (.c (.d (.int .i64 t)))] [] (rDirE (atS ⟨s1, s2, s3⟩ t)) [] := by
  refine CallsA.ofOk fun hok => ?_
  have hw := w_Q6_At s1 s2 s3 t (fun v M => some (Res.fin v M))
  refine CallsA.ofEv (Γ := T_Q6_Direction) (X := XT) (Λ := noL) (EQ := EQT) (n := 60) g_Q6_Direction hEQT hmT (fun _ _ _ _ => noL_ok _) (hw.trans ?_)
  have h_s2 := inR_i64 (hok (.int .i64 s2) (by simp [datasL, datas]))
  have h_s3 := inR_i64 (hok (.int .i64 s3) (by simp [datasL, datas]))
  have h_t := inR_i64 (hok (.int .i64 t) (by simp [datasL, datas]))
  clear hok hw
  exact at6Ref_ok (K := fun v M => some (Res.fin v M))
def s_Q6_At : List AV → List Blk → (AV → List Blk → Ans) → Ans := fun xs bs K => match xs, bs with
  | [.v (.agg [.str s1, .int .i64 s2, .int .i64 s3]), .v (.c (.d (.int .i64 t)))], [] => K (rDirE (atS ⟨s1, s2, s3⟩ t)) []
  | _, _ => none
def T_Q6_At : Nat → List AV → List Blk → (AV → List Blk → Ans) → Ans := upd T_Q6_Direction 78 s_Q6_At
theorem g_Q6_At : GOK Tryz.prog GT gbT T_Q6_At XT := by
  refine GOK.upd g_Q6_Direction (fun args w => Tryz.call78 args w) fun xs bs K r h => ?_
  unfold s_Q6_At at h
  split at h
  · exact ⟨_, _, c_Q6_At _ _ _ _, h⟩
  · cases h


set_option maxRecDepth 100000 in
theorem w_Q6_Valid (d1 d2 d3 d4 d5 d6 : Int) (K : AV → List Blk → Ans) : evFn Tryz.prog GT EQT T_Q6_At XT noL 60 82 [.v (.agg [.int .i64 d1, .int .i64 d2, .int .i64 d3, .int .i64 d4, .int .i64 d5, .int .i64 d6])] [] (fun v M => K v (M.take ([] : List Blk).length)) = dirOkRef K ⟨⟨d1, d2⟩, ⟨d3, d4⟩, ⟨d5, d6⟩⟩ := by
  kernel_rfl
set_option maxRecDepth 100000 in
theorem c_Q6_Valid (d1 d2 d3 d4 d5 d6 : Int) : CallsA Tryz.prog GT gbT 82 [.v (.agg [.int .i64 d1, .int .i64 d2, .int .i64 d3, .int .i64 d4, .int .i64 d5, .int .i64 d6])] [] (rB (dirOkB ⟨⟨d1, d2⟩, ⟨d3, d4⟩, ⟨d5, d6⟩⟩)) [] := by
  refine CallsA.ofOk fun hok => ?_
  have hw := w_Q6_Valid d1 d2 d3 d4 d5 d6 (fun v M => some (Res.fin v M))
  refine CallsA.ofEv (Γ := T_Q6_At) (X := XT) (Λ := noL) (EQ := EQT) (n := 60) g_Q6_At hEQT hmT (fun _ _ _ _ => noL_ok _) (hw.trans ?_)
  have h_d1 := inR_i64 (hok (.int .i64 d1) (by simp [datasL, datas]))
  have h_d2 := inR_i64 (hok (.int .i64 d2) (by simp [datasL, datas]))
  have h_d3 := inR_i64 (hok (.int .i64 d3) (by simp [datasL, datas]))
  have h_d4 := inR_i64 (hok (.int .i64 d4) (by simp [datasL, datas]))
  have h_d5 := inR_i64 (hok (.int .i64 d5) (by simp [datasL, datas]))
  have h_d6 := inR_i64 (hok (.int .i64 d6) (by simp [datasL, datas]))
  clear hok hw
  exact dirOkRef_ok (K := fun v M => some (Res.fin v M))
def s_Q6_Valid : List AV → List Blk → (AV → List Blk → Ans) → Ans := fun xs bs K => match xs, bs with
  | [.v (.agg [.int .i64 d1, .int .i64 d2, .int .i64 d3, .int .i64 d4, .int .i64 d5, .int .i64 d6])], [] => K (rB (dirOkB ⟨⟨d1, d2⟩, ⟨d3, d4⟩, ⟨d5, d6⟩⟩)) []
  | _, _ => none
def T_Q6_Valid : Nat → List AV → List Blk → (AV → List Blk → Ans) → Ans := upd T_Q6_At 82 s_Q6_Valid
theorem g_Q6_Valid : GOK Tryz.prog GT gbT T_Q6_Valid XT := by
  refine GOK.upd g_Q6_At (fun args w => Tryz.call82 args w) fun xs bs K r h => ?_
  unfold s_Q6_Valid at h
  split at h
  · exact ⟨_, _, c_Q6_Valid _ _ _ _ _ _, h⟩
  · cases h


set_option maxRecDepth 100000 in
theorem w_Q6_Dot (a1 a2 a3 a4 a5 a6 b1 b2 b3 b4 b5 b6 : Int) (K : AV → List Blk → Ans) : evFn Tryz.prog GT EQT T_Q6_Valid XT noL 100 85 [.v (.agg [.int .i64 a1, .int .i64 a2, .int .i64 a3, .int .i64 a4, .int .i64 a5, .int .i64 a6]), .v (.agg [.int .i64 b1, .int .i64 b2, .int .i64 b3, .int .i64 b4, .int .i64 b5, .int .i64 b6])] [] (fun v M => K v (M.take ([] : List Blk).length)) = dotRef6 K ⟨⟨a1, a2⟩, ⟨a3, a4⟩, ⟨a5, a6⟩⟩ ⟨⟨b1, b2⟩, ⟨b3, b4⟩, ⟨b5, b6⟩⟩ := by
  kernel_rfl
set_option maxRecDepth 100000 in
theorem c_Q6_Dot (a1 a2 a3 a4 a5 a6 b1 b2 b3 b4 b5 b6 : Int) : CallsA Tryz.prog GT gbT 85 [.v (.agg [.int .i64 a1, .int .i64 a2, .int .i64 a3, .int .i64 a4, .int .i64 a5, .int .i64 a6]), .v (.agg [.int .i64 b1, .int .i64 b2, .int .i64 b3, .int .i64 b4, .int .i64 b5, .int .i64 b6])] [] (rSpanE (dotS ⟨⟨a1, a2⟩, ⟨a3, a4⟩, ⟨a5, a6⟩⟩ ⟨⟨b1, b2⟩, ⟨b3, b4⟩, ⟨b5, b6⟩⟩)) [] := by
  refine CallsA.ofOk fun hok => ?_
  have hw := w_Q6_Dot a1 a2 a3 a4 a5 a6 b1 b2 b3 b4 b5 b6 (fun v M => some (Res.fin v M))
  refine CallsA.ofEv (Γ := T_Q6_Valid) (X := XT) (Λ := noL) (EQ := EQT) (n := 100) g_Q6_Valid hEQT hmT (fun _ _ _ _ => noL_ok _) (hw.trans ?_)
  have h_a1 := inR_i64 (hok (.int .i64 a1) (by simp [datasL, datas]))
  have h_a2 := inR_i64 (hok (.int .i64 a2) (by simp [datasL, datas]))
  have h_a3 := inR_i64 (hok (.int .i64 a3) (by simp [datasL, datas]))
  have h_a4 := inR_i64 (hok (.int .i64 a4) (by simp [datasL, datas]))
  have h_a5 := inR_i64 (hok (.int .i64 a5) (by simp [datasL, datas]))
  have h_a6 := inR_i64 (hok (.int .i64 a6) (by simp [datasL, datas]))
  have h_b1 := inR_i64 (hok (.int .i64 b1) (by simp [datasL, datas]))
  have h_b2 := inR_i64 (hok (.int .i64 b2) (by simp [datasL, datas]))
  have h_b3 := inR_i64 (hok (.int .i64 b3) (by simp [datasL, datas]))
  have h_b4 := inR_i64 (hok (.int .i64 b4) (by simp [datasL, datas]))
  have h_b5 := inR_i64 (hok (.int .i64 b5) (by simp [datasL, datas]))
  have h_b6 := inR_i64 (hok (.int .i64 b6) (by simp [datasL, datas]))
  clear hok hw
  exact dotRef6_ok (K := fun v M => some (Res.fin v M))
def s_Q6_Dot : List AV → List Blk → (AV → List Blk → Ans) → Ans := fun xs bs K => match xs, bs with
  | [.v (.agg [.int .i64 a1, .int .i64 a2, .int .i64 a3, .int .i64 a4, .int .i64 a5, .int .i64 a6]), .v (.agg [.int .i64 b1, .int .i64 b2, .int .i64 b3, .int .i64 b4, .int .i64 b5, .int .i64 b6])], [] => K (rSpanE (dotS ⟨⟨a1, a2⟩, ⟨a3, a4⟩, ⟨a5, a6⟩⟩ ⟨⟨b1, b2⟩, ⟨b3, b4⟩, ⟨b5, b6⟩⟩)) []
  | _, _ => none
def T_Q6_Dot : Nat → List AV → List Blk → (AV → List Blk → Ans) → Ans := upd T_Q6_Valid 85 s_Q6_Dot
theorem g_Q6_Dot : GOK Tryz.prog GT gbT T_Q6_Dot XT := by
  refine GOK.upd g_Q6_Valid (fun args w => Tryz.call85 args w) fun xs bs K r h => ?_
  unfold s_Q6_Dot at h
  split at h
  · exact ⟨_, _, c_Q6_Dot _ _ _ _ _ _ _ _ _ _ _ _, h⟩
  · cases h


set_option maxRecDepth 100000 in
theorem w_Q6_Enclosed (v1 v2 v3 v4 v5 v6 : Int) (K : AV → List Blk → Ans) : evFn Tryz.prog GT EQT T_Q6_Dot XT noL 60 84 [.v (.agg [.int .i64 v1, .int .i64 v2, .int .i64 v3, .int .i64 v4, .int .i64 v5, .int .i64 v6])] [] (fun v M => K v (M.take ([] : List Blk).length)) = encAns K (ofS ⟨v1, v2⟩) (ofS ⟨v3, v4⟩) (ofS ⟨v5, v6⟩) := by
  kernel_rfl
set_option maxRecDepth 100000 in
theorem c_Q6_Enclosed (v1 v2 v3 v4 v5 v6 : Int) : CallsA Tryz.prog GT gbT 84 [.v (.agg [.int .i64 v1, .int .i64 v2, .int .i64 v3, .int .i64 v4, .int .i64 v5, .int .i64 v6])] [] (rDirE (enclosedR ⟨⟨v1, v2⟩, ⟨v3, v4⟩, ⟨v5, v6⟩⟩)) [] := by
  refine CallsA.ofOk fun hok => ?_
  have hw := w_Q6_Enclosed v1 v2 v3 v4 v5 v6 (fun v M => some (Res.fin v M))
  refine CallsA.ofEv (Γ := T_Q6_Dot) (X := XT) (Λ := noL) (EQ := EQT) (n := 60) g_Q6_Dot hEQT hmT (fun _ _ _ _ => noL_ok _) (hw.trans ?_)
  have h_v1 := inR_i64 (hok (.int .i64 v1) (by simp [datasL, datas]))
  have h_v2 := inR_i64 (hok (.int .i64 v2) (by simp [datasL, datas]))
  have h_v3 := inR_i64 (hok (.int .i64 v3) (by simp [datasL, datas]))
  have h_v4 := inR_i64 (hok (.int .i64 v4) (by simp [datasL, datas]))
  have h_v5 := inR_i64 (hok (.int .i64 v5) (by simp [datasL, datas]))
  have h_v6 := inR_i64 (hok (.int .i64 v6) (by simp [datasL, datas]))
  clear hok hw
  exact encAns_ok (K := fun v M => some (Res.fin v M))
def s_Q6_Enclosed : List AV → List Blk → (AV → List Blk → Ans) → Ans := fun xs bs K => match xs, bs with
  | [.v (.agg [.int .i64 v1, .int .i64 v2, .int .i64 v3, .int .i64 v4, .int .i64 v5, .int .i64 v6])], [] => K (rDirE (enclosedR ⟨⟨v1, v2⟩, ⟨v3, v4⟩, ⟨v5, v6⟩⟩)) []
  | _, _ => none
def T_Q6_Enclosed : Nat → List AV → List Blk → (AV → List Blk → Ans) → Ans := upd T_Q6_Dot 84 s_Q6_Enclosed
theorem g_Q6_Enclosed : GOK Tryz.prog GT gbT T_Q6_Enclosed XT := by
  refine GOK.upd g_Q6_Dot (fun args w => Tryz.call84 args w) fun xs bs K r h => ?_
  unfold s_Q6_Enclosed at h
  split at h
  · exact ⟨_, _, c_Q6_Enclosed _ _ _ _ _ _, h⟩
  · cases h


set_option maxRecDepth 100000 in
theorem w_Q6_Along (d1 d2 d3 d4 d5 d6 v1 v2 v3 v4 v5 v6 : Int) (K : AV → List Blk → Ans) : evFn Tryz.prog GT EQT T_Q6_Enclosed XT noL 60 49 [.v (.agg [.int .i64 d1, .int .i64 d2, .int .i64 d3, .int .i64 d4, .int .i64 d5, .int .i64 d6]), .v (.agg [.int .i64 v1, .int .i64 v2, .int .i64 v3, .int .i64 v4, .int .i64 v5, .int .i64 v6])] [] (fun v M => K v (M.take ([] : List Blk).length)) = alongRef K ⟨⟨d1, d2⟩, ⟨d3, d4⟩, ⟨d5, d6⟩⟩ ⟨⟨v1, v2⟩, ⟨v3, v4⟩, ⟨v5, v6⟩⟩ := by
  kernel_rfl
set_option maxRecDepth 100000 in
theorem c_Q6_Along (d1 d2 d3 d4 d5 d6 v1 v2 v3 v4 v5 v6 : Int) : CallsA Tryz.prog GT gbT 49 [.v (.agg [.int .i64 d1, .int .i64 d2, .int .i64 d3, .int .i64 d4, .int .i64 d5, .int .i64 d6]), .v (.agg [.int .i64 v1, .int .i64 v2, .int .i64 v3, .int .i64 v4, .int .i64 v5, .int .i64 v6])] [] (rSpanE (alongS ⟨⟨d1, d2⟩, ⟨d3, d4⟩, ⟨d5, d6⟩⟩ ⟨⟨v1, v2⟩, ⟨v3, v4⟩, ⟨v5, v6⟩⟩)) [] := by
  refine CallsA.ofOk fun hok => ?_
  have hw := w_Q6_Along d1 d2 d3 d4 d5 d6 v1 v2 v3 v4 v5 v6 (fun v M => some (Res.fin v M))
  refine CallsA.ofEv (Γ := T_Q6_Enclosed) (X := XT) (Λ := noL) (EQ := EQT) (n := 60) g_Q6_Enclosed hEQT hmT (fun _ _ _ _ => noL_ok _) (hw.trans ?_)
  have h_d1 := inR_i64 (hok (.int .i64 d1) (by simp [datasL, datas]))
  have h_d2 := inR_i64 (hok (.int .i64 d2) (by simp [datasL, datas]))
  have h_d3 := inR_i64 (hok (.int .i64 d3) (by simp [datasL, datas]))
  have h_d4 := inR_i64 (hok (.int .i64 d4) (by simp [datasL, datas]))
  have h_d5 := inR_i64 (hok (.int .i64 d5) (by simp [datasL, datas]))
  have h_d6 := inR_i64 (hok (.int .i64 d6) (by simp [datasL, datas]))
  have h_v1 := inR_i64 (hok (.int .i64 v1) (by simp [datasL, datas]))
  have h_v2 := inR_i64 (hok (.int .i64 v2) (by simp [datasL, datas]))
  have h_v3 := inR_i64 (hok (.int .i64 v3) (by simp [datasL, datas]))
  have h_v4 := inR_i64 (hok (.int .i64 v4) (by simp [datasL, datas]))
  have h_v5 := inR_i64 (hok (.int .i64 v5) (by simp [datasL, datas]))
  have h_v6 := inR_i64 (hok (.int .i64 v6) (by simp [datasL, datas]))
  clear hok hw
  exact alongRef_ok (K := fun v M => some (Res.fin v M))
def s_Q6_Along : List AV → List Blk → (AV → List Blk → Ans) → Ans := fun xs bs K => match xs, bs with
  | [.v (.agg [.int .i64 d1, .int .i64 d2, .int .i64 d3, .int .i64 d4, .int .i64 d5, .int .i64 d6]), .v (.agg [.int .i64 v1, .int .i64 v2, .int .i64 v3, .int .i64 v4, .int .i64 v5, .int .i64 v6])], [] => K (rSpanE (alongS ⟨⟨d1, d2⟩, ⟨d3, d4⟩, ⟨d5, d6⟩⟩ ⟨⟨v1, v2⟩, ⟨v3, v4⟩, ⟨v5, v6⟩⟩)) []
  | _, _ => none
def T_Q6_Along : Nat → List AV → List Blk → (AV → List Blk → Ans) → Ans := upd T_Q6_Enclosed 49 s_Q6_Along
theorem g_Q6_Along : GOK Tryz.prog GT gbT T_Q6_Along XT := by
  refine GOK.upd g_Q6_Enclosed (fun args w => Tryz.call49 args w) fun xs bs K r h => ?_
  unfold s_Q6_Along at h
  split at h
  · exact ⟨_, _, c_Q6_Along _ _ _ _ _ _ _ _ _ _ _ _, h⟩
  · cases h


set_option maxRecDepth 100000 in
theorem w_Q8_Axes (s1 : ByteArray) (s2 : Int) (s3 : Int) (t : Int) (K : AV → List Blk → Ans) : evFn Tryz.prog GT EQT T_Q6_Along XT noL 100 48 [.v (.agg [.str s1, .int .i64 s2, .int .i64 s3]), .v (.c (.d (.int .i64 t)))] [] (fun v M => K v (M.take ([] : List Blk).length)) = axesRef K ⟨s1, s2, s3⟩ t := by
  kernel_rfl
set_option maxRecDepth 100000 in
theorem c_Q8_Axes (s1 : ByteArray) (s2 : Int) (s3 : Int) (t : Int) : CallsA Tryz.prog GT gbT 48 [.v (.agg [.str s1, .int .i64 s2, .int .i64 s3]), .v (.c (.d (.int .i64 t)))] [] (rFrameE (axesV ⟨s1, s2, s3⟩ t)) [] := by
  refine CallsA.ofOk fun hok => ?_
  have hw := w_Q8_Axes s1 s2 s3 t (fun v M => some (Res.fin v M))
  refine CallsA.ofEv (Γ := T_Q6_Along) (X := XT) (Λ := noL) (EQ := EQT) (n := 100) g_Q6_Along hEQT hmT (fun _ _ _ _ => noL_ok _) (hw.trans ?_)
  have h_s2 := inR_i64 (hok (.int .i64 s2) (by simp [datasL, datas]))
  have h_s3 := inR_i64 (hok (.int .i64 s3) (by simp [datasL, datas]))
  have h_t := inR_i64 (hok (.int .i64 t) (by simp [datasL, datas]))
  clear hok hw
  exact axesRef_ok (K := fun v M => some (Res.fin v M))
def s_Q8_Axes : List AV → List Blk → (AV → List Blk → Ans) → Ans := fun xs bs K => match xs, bs with
  | [.v (.agg [.str s1, .int .i64 s2, .int .i64 s3]), .v (.c (.d (.int .i64 t)))], [] => K (rFrameE (axesV ⟨s1, s2, s3⟩ t)) []
  | _, _ => none
def T_Q8_Axes : Nat → List AV → List Blk → (AV → List Blk → Ans) → Ans := upd T_Q6_Along 48 s_Q8_Axes
theorem g_Q8_Axes : GOK Tryz.prog GT gbT T_Q8_Axes XT := by
  refine GOK.upd g_Q6_Along (fun args w => Tryz.call48 args w) fun xs bs K r h => ?_
  unfold s_Q8_Axes at h
  split at h
  · exact ⟨_, _, c_Q8_Axes _ _ _ _, h⟩
  · cases h


set_option maxRecDepth 100000 in
theorem w_Q8_Project (v1 : Int) (v2 : Int) (v3 : Int) (v4 : Int) (v5 : Int) (v6 : Int) (s1 : ByteArray) (s2 : Int) (s3 : Int) (t : Int) (K : AV → List Blk → Ans) : evFn Tryz.prog GT EQT T_Q8_Axes XT noL 100 32 [.v (.agg [.int .i64 v1, .int .i64 v2, .int .i64 v3, .int .i64 v4, .int .i64 v5, .int .i64 v6]), .v (.agg [.str s1, .int .i64 s2, .int .i64 s3]), .v (.c (.d (.int .i64 t)))] [] (fun v M => K v (M.take ([] : List Blk).length)) = projRef K ⟨⟨v1, v2⟩, ⟨v3, v4⟩, ⟨v5, v6⟩⟩ ⟨s1, s2, s3⟩ t := by
  kernel_rfl
set_option maxRecDepth 100000 in
theorem c_Q8_Project (v1 : Int) (v2 : Int) (v3 : Int) (v4 : Int) (v5 : Int) (v6 : Int) (s1 : ByteArray) (s2 : Int) (s3 : Int) (t : Int) : CallsA Tryz.prog GT gbT 32 [.v (.agg [.int .i64 v1, .int .i64 v2, .int .i64 v3, .int .i64 v4, .int .i64 v5, .int .i64 v6]), .v (.agg [.str s1, .int .i64 s2, .int .i64 s3]), .v (.c (.d (.int .i64 t)))] [] (rDirE (projV ⟨⟨v1, v2⟩, ⟨v3, v4⟩, ⟨v5, v6⟩⟩ ⟨s1, s2, s3⟩ t)) [] := by
  refine CallsA.ofOk fun hok => ?_
  have hw := w_Q8_Project v1 v2 v3 v4 v5 v6 s1 s2 s3 t (fun v M => some (Res.fin v M))
  refine CallsA.ofEv (Γ := T_Q8_Axes) (X := XT) (Λ := noL) (EQ := EQT) (n := 100) g_Q8_Axes hEQT hmT (fun _ _ _ _ => noL_ok _) (hw.trans ?_)
  have h_v1 := inR_i64 (hok (.int .i64 v1) (by simp [datasL, datas]))
  have h_v2 := inR_i64 (hok (.int .i64 v2) (by simp [datasL, datas]))
  have h_v3 := inR_i64 (hok (.int .i64 v3) (by simp [datasL, datas]))
  have h_v4 := inR_i64 (hok (.int .i64 v4) (by simp [datasL, datas]))
  have h_v5 := inR_i64 (hok (.int .i64 v5) (by simp [datasL, datas]))
  have h_v6 := inR_i64 (hok (.int .i64 v6) (by simp [datasL, datas]))
  have h_s2 := inR_i64 (hok (.int .i64 s2) (by simp [datasL, datas]))
  have h_s3 := inR_i64 (hok (.int .i64 s3) (by simp [datasL, datas]))
  have h_t := inR_i64 (hok (.int .i64 t) (by simp [datasL, datas]))
  clear hok hw
  exact projRef_ok (K := fun v M => some (Res.fin v M))
def s_Q8_Project : List AV → List Blk → (AV → List Blk → Ans) → Ans := fun xs bs K => match xs, bs with
  | [.v (.agg [.int .i64 v1, .int .i64 v2, .int .i64 v3, .int .i64 v4, .int .i64 v5, .int .i64 v6]), .v (.agg [.str s1, .int .i64 s2, .int .i64 s3]), .v (.c (.d (.int .i64 t)))], [] => K (rDirE (projV ⟨⟨v1, v2⟩, ⟨v3, v4⟩, ⟨v5, v6⟩⟩ ⟨s1, s2, s3⟩ t)) []
  | _, _ => none
def T_Q8_Project : Nat → List AV → List Blk → (AV → List Blk → Ans) → Ans := upd T_Q8_Axes 32 s_Q8_Project
theorem g_Q8_Project : GOK Tryz.prog GT gbT T_Q8_Project XT := by
  refine GOK.upd g_Q8_Axes (fun args w => Tryz.call32 args w) fun xs bs K r h => ?_
  unfold s_Q8_Project at h
  split at h
  · exact ⟨_, _, c_Q8_Project _ _ _ _ _ _ _ _ _ _, h⟩
  · cases h


set_option maxRecDepth 100000 in
theorem w_Q1_Of (n : Int) (K : AV → List Blk → Ans) : evFn Tryz.prog GT EQT T_Q8_Project XT noL 60 57 [.v (.c (.d (.int .i64 n)))] [] (fun v M => K v (M.take ([] : List Blk).length)) = K (rFrac ⟨n, 1⟩) [] := by
  kernel_rfl
set_option maxRecDepth 100000 in
theorem c_Q1_Of (n : Int) : CallsA Tryz.prog GT gbT 57 [.v (.c (.d (.int .i64 n)))] [] (rFrac ⟨n, 1⟩) [] := by
  refine CallsA.ofOk fun hok => ?_
  have hw := w_Q1_Of n (fun v M => some (Res.fin v M))
  refine CallsA.ofEv (Γ := T_Q8_Project) (X := XT) (Λ := noL) (EQ := EQT) (n := 60) g_Q8_Project hEQT hmT (fun _ _ _ _ => noL_ok _) (hw.trans ?_)
  rfl
def s_Q1_Of : List AV → List Blk → (AV → List Blk → Ans) → Ans := fun xs bs K => match xs, bs with
  | [.v (.c (.d (.int .i64 n)))], [] => K (rFrac ⟨n, 1⟩) []
  | _, _ => none
def T_Q1_Of : Nat → List AV → List Blk → (AV → List Blk → Ans) → Ans := upd T_Q8_Project 57 s_Q1_Of
theorem g_Q1_Of : GOK Tryz.prog GT gbT T_Q1_Of XT := by
  refine GOK.upd g_Q8_Project (fun args w => Tryz.call57 args w) fun xs bs K r h => ?_
  unfold s_Q1_Of at h
  split at h
  · exact ⟨_, _, c_Q1_Of _, h⟩
  · cases h


end Go.Ev

namespace Go.Ev
open Go Go.Proofs

set_option maxRecDepth 100000 in
theorem w_Q2_Pair (t1 t2 : Int) (K : AV → List Blk → Ans) : evFn Tryz.prog GT EQT T_Q1_Of XT noL 100 58 [.v (.agg [.int .i64 t1, .int .i64 t2])] [] (fun v M => K v (M.take ([] : List Blk).length)) = K (rPair (pairR ⟨t1, t2⟩)) [] := by
  simp only [pairR, pullK K]
  kernel_rfl
set_option maxRecDepth 100000 in
theorem c_Q2_Pair (t1 t2 : Int) : CallsA Tryz.prog GT gbT 58 [.v (.agg [.int .i64 t1, .int .i64 t2])] [] (rPair (pairR ⟨t1, t2⟩)) [] := by
  refine CallsA.ofOk fun hok => ?_
  have hw := w_Q2_Pair t1 t2 (fun v M => some (Res.fin v M))
  refine CallsA.ofEv (Γ := T_Q1_Of) (X := XT) (Λ := noL) (EQ := EQT) (n := 100) g_Q1_Of hEQT hmT (fun _ _ _ _ => noL_ok _) (hw.trans ?_)
  rfl
def s_Q2_Pair : List AV → List Blk → (AV → List Blk → Ans) → Ans := fun xs bs K => match xs, bs with
  | [.v (.agg [.int .i64 t1, .int .i64 t2])], [] => K (rPair (pairR ⟨t1, t2⟩)) []
  | _, _ => none
def T_Q2_Pair : Nat → List AV → List Blk → (AV → List Blk → Ans) → Ans := upd T_Q1_Of 58 s_Q2_Pair
theorem g_Q2_Pair : GOK Tryz.prog GT gbT T_Q2_Pair XT := by
  refine GOK.upd g_Q1_Of (fun args w => Tryz.call58 args w) fun xs bs K r h => ?_
  unfold s_Q2_Pair at h
  split at h
  · exact ⟨_, _, c_Q2_Pair _ _, h⟩
  · cases h


set_option maxRecDepth 100000 in
theorem w_frac_Make (n d : Int) (K : AV → List Blk → Ans) : evFn Tryz.prog GT EQT T_Q2_Pair XT noL 60 129 [.v (.c (.d (.int .i64 n))), .v (.c (.d (.int .i64 d)))] [] (fun v M => K v (M.take ([] : List Blk).length)) = makePAns K n d := by
  kernel_rfl
set_option maxRecDepth 100000 in
theorem c_frac_Make (n d : Int) : CallsA Tryz.prog GT gbT 129 [.v (.c (.d (.int .i64 n))), .v (.c (.d (.int .i64 d)))] [] (rFracE (makeF n d)) [] := by
  refine CallsA.ofOk fun hok => ?_
  have hw := w_frac_Make n d (fun v M => some (Res.fin v M))
  refine CallsA.ofEv (Γ := T_Q2_Pair) (X := XT) (Λ := noL) (EQ := EQT) (n := 60) g_Q2_Pair hEQT hmT (fun _ _ _ _ => noL_ok _) (hw.trans ?_)
  have h_n := inR_i64 (hok (.int .i64 n) (by simp [datasL, datas]))
  have h_d := inR_i64 (hok (.int .i64 d) (by simp [datasL, datas]))
  clear hok hw
  exact makePAns_ok (K := fun v M => some (Res.fin v M)) h_n h_d
def s_frac_Make : List AV → List Blk → (AV → List Blk → Ans) → Ans := fun xs bs K => match xs, bs with
  | [.v (.c (.d (.int .i64 n))), .v (.c (.d (.int .i64 d)))], [] => K (rFracE (makeF n d)) []
  | _, _ => none
def T_frac_Make : Nat → List AV → List Blk → (AV → List Blk → Ans) → Ans := upd T_Q2_Pair 129 s_frac_Make
theorem g_frac_Make : GOK Tryz.prog GT gbT T_frac_Make XT := by
  refine GOK.upd g_Q2_Pair (fun args w => Tryz.call129 args w) fun xs bs K r h => ?_
  unfold s_frac_Make at h
  split at h
  · exact ⟨_, _, c_frac_Make _ _, h⟩
  · cases h


set_option maxRecDepth 100000 in
theorem w_geoid_Check (g1 g2 : Int) (K : AV → List Blk → Ans) : evFn Tryz.prog GT EQT T_frac_Make XT noL 60 66 [.v (.agg [.int .i64 g1, .int .i64 g2])] [] (fun v M => K v (M.take ([] : List Blk).length)) = K (rI (checkGRaw ⟨g1, g2⟩)) [] := by
  simp only [checkGRaw, pullK K]
  kernel_rfl
set_option maxRecDepth 100000 in
theorem c_geoid_Check (g1 g2 : Int) : CallsA Tryz.prog GT gbT 66 [.v (.agg [.int .i64 g1, .int .i64 g2])] [] (rI (checkG ⟨g1, g2⟩)) [] := by
  refine CallsA.ofOk fun hok => ?_
  have hw := w_geoid_Check g1 g2 (fun v M => some (Res.fin v M))
  refine CallsA.ofEv (Γ := T_frac_Make) (X := XT) (Λ := noL) (EQ := EQT) (n := 60) g_frac_Make hEQT hmT (fun _ _ _ _ => noL_ok _) (hw.trans ?_)
  have h_g1 := inR_i64 (hok (.int .i64 g1) (by simp [datasL, datas]))
  have h_g2 := inR_i64 (hok (.int .i64 g2) (by simp [datasL, datas]))
  clear hok hw
  refine congrArg (fun v => some (Res.fin v [])) ?_
  rw [checkGRaw_ok]
def s_geoid_Check : List AV → List Blk → (AV → List Blk → Ans) → Ans := fun xs bs K => match xs, bs with
  | [.v (.agg [.int .i64 g1, .int .i64 g2])], [] => K (rI (checkG ⟨g1, g2⟩)) []
  | _, _ => none
def T_geoid_Check : Nat → List AV → List Blk → (AV → List Blk → Ans) → Ans := upd T_frac_Make 66 s_geoid_Check
theorem g_geoid_Check : GOK Tryz.prog GT gbT T_geoid_Check XT := by
  refine GOK.upd g_frac_Make (fun args w => Tryz.call66 args w) fun xs bs K r h => ?_
  unfold s_geoid_Check at h
  split at h
  · exact ⟨_, _, c_geoid_Check _ _, h⟩
  · cases h


set_option maxRecDepth 100000 in
theorem w_geoid_param (f1 f2 : Int) (K : AV → List Blk → Ans) : evFn Tryz.prog GT EQT T_geoid_Check XT noL 60 106 [.v (.agg [.int .i64 f1, .int .i64 f2])] [] (fun v M => K v (M.take ([] : List Blk).length)) = paramAns K ⟨f1, f2⟩ := by
  kernel_rfl
set_option maxRecDepth 100000 in
theorem c_geoid_param (f1 f2 : Int) : CallsA Tryz.prog GT gbT 106 [.v (.agg [.int .i64 f1, .int .i64 f2])] [] (rB (paramB ⟨f1, f2⟩)) [] := by
  refine CallsA.ofOk fun hok => ?_
  have hw := w_geoid_param f1 f2 (fun v M => some (Res.fin v M))
  refine CallsA.ofEv (Γ := T_geoid_Check) (X := XT) (Λ := noL) (EQ := EQT) (n := 60) g_geoid_Check hEQT hmT (fun _ _ _ _ => noL_ok _) (hw.trans ?_)
  have h_f1 := inR_i64 (hok (.int .i64 f1) (by simp [datasL, datas]))
  have h_f2 := inR_i64 (hok (.int .i64 f2) (by simp [datasL, datas]))
  clear hok hw
  exact paramAns_ok (K := fun v M => some (Res.fin v M))
def s_geoid_param : List AV → List Blk → (AV → List Blk → Ans) → Ans := fun xs bs K => match xs, bs with
  | [.v (.agg [.int .i64 f1, .int .i64 f2])], [] => K (rB (paramB ⟨f1, f2⟩)) []
  | _, _ => none
def T_geoid_param : Nat → List AV → List Blk → (AV → List Blk → Ans) → Ans := upd T_geoid_Check 106 s_geoid_param
theorem g_geoid_param : GOK Tryz.prog GT gbT T_geoid_param XT := by
  refine GOK.upd g_geoid_Check (fun args w => Tryz.call106 args w) fun xs bs K r h => ?_
  unfold s_geoid_param at h
  split at h
  · exact ⟨_, _, c_geoid_param _ _, h⟩
  · cases h


set_option maxRecDepth 100000 in
theorem w_geoid_whole (n : Int) (K : AV → List Blk → Ans) : evFn Tryz.prog GT EQT T_geoid_param XT noL 60 109 [.v (.c (.d (.int .i64 n)))] [] (fun v M => K v (M.take ([] : List Blk).length)) = K (rFrac (wholeF n)) [] := by
  kernel_rfl
set_option maxRecDepth 100000 in
theorem c_geoid_whole (n : Int) : CallsA Tryz.prog GT gbT 109 [.v (.c (.d (.int .i64 n)))] [] (rFrac (wholeF n)) [] := by
  refine CallsA.ofOk fun hok => ?_
  have hw := w_geoid_whole n (fun v M => some (Res.fin v M))
  refine CallsA.ofEv (Γ := T_geoid_param) (X := XT) (Λ := noL) (EQ := EQT) (n := 60) g_geoid_param hEQT hmT (fun _ _ _ _ => noL_ok _) (hw.trans ?_)
  rfl
def s_geoid_whole : List AV → List Blk → (AV → List Blk → Ans) → Ans := fun xs bs K => match xs, bs with
  | [.v (.c (.d (.int .i64 n)))], [] => K (rFrac (wholeF n)) []
  | _, _ => none
def T_geoid_whole : Nat → List AV → List Blk → (AV → List Blk → Ans) → Ans := upd T_geoid_param 109 s_geoid_whole
theorem g_geoid_whole : GOK Tryz.prog GT gbT T_geoid_whole XT := by
  refine GOK.upd g_geoid_param (fun args w => Tryz.call109 args w) fun xs bs K r h => ?_
  unfold s_geoid_whole at h
  split at h
  · exact ⟨_, _, c_geoid_whole _, h⟩
  · cases h


set_option maxRecDepth 100000 in
theorem w_geoid_around (u1 u2 : Int) (K : AV → List Blk → Ans) : evFn Tryz.prog GT EQT T_geoid_whole XT noL 60 107 [.v (.agg [.int .i64 u1, .int .i64 u2])] [] (fun v M => K v (M.take ([] : List Blk).length)) = aroundRaw K ⟨u1, u2⟩ := by
  kernel_rfl
set_option maxRecDepth 100000 in
theorem c_geoid_around (u1 u2 : Int) (hd : (paramB ⟨u1, u2⟩) = true) : CallsA Tryz.prog GT gbT 107 [.v (.agg [.int .i64 u1, .int .i64 u2])] [] (rFF (cosU ⟨u1, u2⟩) (sinU ⟨u1, u2⟩)) [] := by
  refine CallsA.ofOk fun hok => ?_
  have hw := w_geoid_around u1 u2 (fun v M => some (Res.fin v M))
  refine CallsA.ofEv (Γ := T_geoid_whole) (X := XT) (Λ := noL) (EQ := EQT) (n := 60) g_geoid_whole hEQT hmT (fun _ _ _ _ => noL_ok _) (hw.trans ?_)
  have h_u1 := inR_i64 (hok (.int .i64 u1) (by simp [datasL, datas]))
  have h_u2 := inR_i64 (hok (.int .i64 u2) (by simp [datasL, datas]))
  clear hok hw
  exact around_ok (K := fun v M => some (Res.fin v M)) (paramB_iff.1 hd)
def s_geoid_around : List AV → List Blk → (AV → List Blk → Ans) → Ans := fun xs bs K => match xs, bs with
  | [.v (.agg [.int .i64 u1, .int .i64 u2])], [] => bif paramB ⟨u1, u2⟩ then K (rFF (cosU ⟨u1, u2⟩) (sinU ⟨u1, u2⟩)) [] else none
  | _, _ => none
def T_geoid_around : Nat → List AV → List Blk → (AV → List Blk → Ans) → Ans := upd T_geoid_whole 107 s_geoid_around
theorem g_geoid_around : GOK Tryz.prog GT gbT T_geoid_around XT := by
  refine GOK.upd g_geoid_whole (fun args w => Tryz.call107 args w) fun xs bs K r h => ?_
  unfold s_geoid_around at h
  split at h
  · simp only [cond_eq_ite] at h
    split at h
    · exact ⟨_, _, c_geoid_around _ _ ‹_›, h⟩
    · cases h
  · cases h


set_option maxRecDepth 100000 in
theorem w_geoid_At (g1 g2 s1 s2 t1 t2 : Int) (K : AV → List Blk → Ans) : evFn Tryz.prog GT EQT T_geoid_around XT noL 100 68 [.v (.agg [.int .i64 g1, .int .i64 g2]), .v (.agg [.int .i64 s1, .int .i64 s2]), .v (.agg [.int .i64 t1, .int .i64 t2])] [] (fun v M => K v (M.take ([] : List Blk).length)) = atGAns K ⟨g1, g2⟩ ⟨s1, s2⟩ ⟨t1, t2⟩ := by
  kernel_rfl
set_option maxRecDepth 100000 in
theorem c_geoid_At (g1 g2 s1 s2 t1 t2 : Int) : CallsA Tryz.prog GT gbT 68 [.v (.agg [.int .i64 g1, .int .i64 g2]), .v (.agg [.int .i64 s1, .int .i64 s2]), .v (.agg [.int .i64 t1, .int .i64 t2])] [] (rVecE (atV ⟨g1, g2⟩ ⟨s1, s2⟩ ⟨t1, t2⟩)) [] := by
  refine CallsA.ofOk fun hok => ?_
  have hw := w_geoid_At g1 g2 s1 s2 t1 t2 (fun v M => some (Res.fin v M))
  refine CallsA.ofEv (Γ := T_geoid_around) (X := XT) (Λ := noL) (EQ := EQT) (n := 100) g_geoid_around hEQT hmT (fun _ _ _ _ => noL_ok _) (hw.trans ?_)
  have h_g1 := inR_i64 (hok (.int .i64 g1) (by simp [datasL, datas]))
  have h_g2 := inR_i64 (hok (.int .i64 g2) (by simp [datasL, datas]))
  have h_s1 := inR_i64 (hok (.int .i64 s1) (by simp [datasL, datas]))
  have h_s2 := inR_i64 (hok (.int .i64 s2) (by simp [datasL, datas]))
  have h_t1 := inR_i64 (hok (.int .i64 t1) (by simp [datasL, datas]))
  have h_t2 := inR_i64 (hok (.int .i64 t2) (by simp [datasL, datas]))
  clear hok hw
  exact atGAns_ok (K := fun v M => some (Res.fin v M))
def s_geoid_At : List AV → List Blk → (AV → List Blk → Ans) → Ans := fun xs bs K => match xs, bs with
  | [.v (.agg [.int .i64 g1, .int .i64 g2]), .v (.agg [.int .i64 s1, .int .i64 s2]), .v (.agg [.int .i64 t1, .int .i64 t2])], [] => K (rVecE (atV ⟨g1, g2⟩ ⟨s1, s2⟩ ⟨t1, t2⟩)) []
  | _, _ => none
def T_geoid_At : Nat → List AV → List Blk → (AV → List Blk → Ans) → Ans := upd T_geoid_around 68 s_geoid_At
theorem g_geoid_At : GOK Tryz.prog GT gbT T_geoid_At XT := by
  refine GOK.upd g_geoid_around (fun args w => Tryz.call68 args w) fun xs bs K r h => ?_
  unfold s_geoid_At at h
  split at h
  · exact ⟨_, _, c_geoid_At _ _ _ _ _ _, h⟩
  · cases h


set_option maxRecDepth 100000 in
theorem w_Q3_Check (g1 g2 : Int) (K : AV → List Blk → Ans) : evFn Tryz.prog GT EQT T_geoid_At XT noL 60 18 [.v (.agg [.int .i64 g1, .int .i64 g2])] [] (fun v M => K v (M.take ([] : List Blk).length)) = K (rI (checkGRaw ⟨g1, g2⟩)) [] := by
  simp only [checkGRaw, pullK K]
  kernel_rfl
set_option maxRecDepth 100000 in
theorem c_Q3_Check (g1 g2 : Int) : CallsA Tryz.prog GT gbT 18 [.v (.agg [.int .i64 g1, .int .i64 g2])] [] (rI (checkG ⟨g1, g2⟩)) [] := by
  refine CallsA.ofOk fun hok => ?_
  have hw := w_Q3_Check g1 g2 (fun v M => some (Res.fin v M))
  refine CallsA.ofEv (Γ := T_geoid_At) (X := XT) (Λ := noL) (EQ := EQT) (n := 60) g_geoid_At hEQT hmT (fun _ _ _ _ => noL_ok _) (hw.trans ?_)
  have h_g1 := inR_i64 (hok (.int .i64 g1) (by simp [datasL, datas]))
  have h_g2 := inR_i64 (hok (.int .i64 g2) (by simp [datasL, datas]))
  clear hok hw
  refine congrArg (fun v => some (Res.fin v [])) ?_
  rw [checkGRaw_ok]
def s_Q3_Check : List AV → List Blk → (AV → List Blk → Ans) → Ans := fun xs bs K => match xs, bs with
  | [.v (.agg [.int .i64 g1, .int .i64 g2])], [] => K (rI (checkG ⟨g1, g2⟩)) []
  | _, _ => none
def T_Q3_Check : Nat → List AV → List Blk → (AV → List Blk → Ans) → Ans := upd T_geoid_At 18 s_Q3_Check
theorem g_Q3_Check : GOK Tryz.prog GT gbT T_Q3_Check XT := by
  refine GOK.upd g_geoid_At (fun args w => Tryz.call18 args w) fun xs bs K r h => ?_
  unfold s_Q3_Check at h
  split at h
  · exact ⟨_, _, c_Q3_Check _ _, h⟩
  · cases h


set_option maxRecDepth 100000 in
theorem w_Q3_Param (u1 u2 : Int) (K : AV → List Blk → Ans) : evFn Tryz.prog GT EQT T_Q3_Check XT noL 60 54 [.v (.agg [.int .i64 u1, .int .i64 u2])] [] (fun v M => K v (M.take ([] : List Blk).length)) = paramRef K ⟨u1, u2⟩ := by
  kernel_rfl
set_option maxRecDepth 100000 in
theorem c_Q3_Param (u1 u2 : Int) : CallsA Tryz.prog GT gbT 54 [.v (.agg [.int .i64 u1, .int .i64 u2])] [] (rB (paramB ⟨u1, u2⟩)) [] := by
  refine CallsA.ofOk fun hok => ?_
  have hw := w_Q3_Param u1 u2 (fun v M => some (Res.fin v M))
  refine CallsA.ofEv (Γ := T_Q3_Check) (X := XT) (Λ := noL) (EQ := EQT) (n := 60) g_Q3_Check hEQT hmT (fun _ _ _ _ => noL_ok _) (hw.trans ?_)
  have h_u1 := inR_i64 (hok (.int .i64 u1) (by simp [datasL, datas]))
  have h_u2 := inR_i64 (hok (.int .i64 u2) (by simp [datasL, datas]))
  clear hok hw
  exact paramRef_ok (K := fun v M => some (Res.fin v M))
def s_Q3_Param : List AV → List Blk → (AV → List Blk → Ans) → Ans := fun xs bs K => match xs, bs with
  | [.v (.agg [.int .i64 u1, .int .i64 u2])], [] => K (rB (paramB ⟨u1, u2⟩)) []
  | _, _ => none
def T_Q3_Param : Nat → List AV → List Blk → (AV → List Blk → Ans) → Ans := upd T_Q3_Check 54 s_Q3_Param
theorem g_Q3_Param : GOK Tryz.prog GT gbT T_Q3_Param XT := by
  refine GOK.upd g_Q3_Check (fun args w => Tryz.call54 args w) fun xs bs K r h => ?_
  unfold s_Q3_Param at h
  split at h
  · exact ⟨_, _, c_Q3_Param _ _, h⟩
  · cases h


set_option maxRecDepth 100000 in
theorem w_Q3_One (K : AV → List Blk → Ans) : evFn Tryz.prog GT EQT T_Q3_Param XT noL 60 56 [] [] (fun v M => K v (M.take ([] : List Blk).length)) = K (rFrac oneF) [] := by
  kernel_rfl
set_option maxRecDepth 100000 in
theorem c_Q3_One : CallsA Tryz.prog GT gbT 56 [] [] (rFrac oneF) [] := by
  refine CallsA.ofOk fun hok => ?_
  have hw := w_Q3_One (fun v M => some (Res.fin v M))
  refine CallsA.ofEv (Γ := T_Q3_Param) (X := XT) (Λ := noL) (EQ := EQT) (n := 60) g_Q3_Param hEQT hmT (fun _ _ _ _ => noL_ok _) (hw.trans ?_)
  rfl
def s_Q3_One : List AV → List Blk → (AV → List Blk → Ans) → Ans := fun xs bs K => match xs, bs with
  | [], [] => K (rFrac oneF) []
  | _, _ => none
def T_Q3_One : Nat → List AV → List Blk → (AV → List Blk → Ans) → Ans := upd T_Q3_Param 56 s_Q3_One
theorem g_Q3_One : GOK Tryz.prog GT gbT T_Q3_One XT := by
  refine GOK.upd g_Q3_Param (fun args w => Tryz.call56 args w) fun xs bs K r h => ?_
  unfold s_Q3_One at h
  split at h
  · exact ⟨_, _, c_Q3_One, h⟩
  · cases h


set_option maxRecDepth 100000 in
theorem w_Q3_Placed (s1 s2 t1 t2 : Int) (K : AV → List Blk → Ans) : evFn Tryz.prog GT EQT T_Q3_One XT noL 60 36 [.v (.agg [.int .i64 s1, .int .i64 s2]), .v (.agg [.int .i64 t1, .int .i64 t2])] [] (fun v M => K v (M.take ([] : List Blk).length)) = placedRef K ⟨s1, s2⟩ ⟨t1, t2⟩ := by
  kernel_rfl
set_option maxRecDepth 100000 in
theorem c_Q3_Placed (s1 s2 t1 t2 : Int) : CallsA Tryz.prog GT gbT 36 [.v (.agg [.int .i64 s1, .int .i64 s2]), .v (.agg [.int .i64 t1, .int .i64 t2])] [] (rB (placedB ⟨s1, s2⟩ ⟨t1, t2⟩)) [] := by
  refine CallsA.ofOk fun hok => ?_
  have hw := w_Q3_Placed s1 s2 t1 t2 (fun v M => some (Res.fin v M))
  refine CallsA.ofEv (Γ := T_Q3_One) (X := XT) (Λ := noL) (EQ := EQT) (n := 60) g_Q3_One hEQT hmT (fun _ _ _ _ => noL_ok _) (hw.trans ?_)
  have h_s1 := inR_i64 (hok (.int .i64 s1) (by simp [datasL, datas]))
  have h_s2 := inR_i64 (hok (.int .i64 s2) (by simp [datasL, datas]))
  have h_t1 := inR_i64 (hok (.int .i64 t1) (by simp [datasL, datas]))
  have h_t2 := inR_i64 (hok (.int .i64 t2) (by simp [datasL, datas]))
  clear hok hw
  exact placedRef_ok (K := fun v M => some (Res.fin v M))
def s_Q3_Placed : List AV → List Blk → (AV → List Blk → Ans) → Ans := fun xs bs K => match xs, bs with
  | [.v (.agg [.int .i64 s1, .int .i64 s2]), .v (.agg [.int .i64 t1, .int .i64 t2])], [] => K (rB (placedB ⟨s1, s2⟩ ⟨t1, t2⟩)) []
  | _, _ => none
def T_Q3_Placed : Nat → List AV → List Blk → (AV → List Blk → Ans) → Ans := upd T_Q3_One 36 s_Q3_Placed
theorem g_Q3_Placed : GOK Tryz.prog GT gbT T_Q3_Placed XT := by
  refine GOK.upd g_Q3_One (fun args w => Tryz.call36 args w) fun xs bs K r h => ?_
  unfold s_Q3_Placed at h
  split at h
  · exact ⟨_, _, c_Q3_Placed _ _ _ _, h⟩
  · cases h


set_option maxRecDepth 100000 in
theorem w_Q3_Place (g1 g2 s1 s2 t1 t2 : Int) (K : AV → List Blk → Ans) : evFn Tryz.prog GT EQT T_Q3_Placed XT noL 100 37 [.v (.agg [.int .i64 g1, .int .i64 g2]), .v (.agg [.int .i64 s1, .int .i64 s2]), .v (.agg [.int .i64 t1, .int .i64 t2])] [] (fun v M => K v (M.take ([] : List Blk).length)) = K (rVec (placeR ⟨g1, g2⟩ ⟨s1, s2⟩ ⟨t1, t2⟩)) [] := by
  kernel_rfl
set_option maxRecDepth 100000 in
theorem c_Q3_Place (g1 g2 s1 s2 t1 t2 : Int) : CallsA Tryz.prog GT gbT 37 [.v (.agg [.int .i64 g1, .int .i64 g2]), .v (.agg [.int .i64 s1, .int .i64 s2]), .v (.agg [.int .i64 t1, .int .i64 t2])] [] (rVec (placeR ⟨g1, g2⟩ ⟨s1, s2⟩ ⟨t1, t2⟩)) [] := by
  refine CallsA.ofOk fun hok => ?_
  have hw := w_Q3_Place g1 g2 s1 s2 t1 t2 (fun v M => some (Res.fin v M))
  refine CallsA.ofEv (Γ := T_Q3_Placed) (X := XT) (Λ := noL) (EQ := EQT) (n := 100) g_Q3_Placed hEQT hmT (fun _ _ _ _ => noL_ok _) (hw.trans ?_)
  rfl
def s_Q3_Place : List AV → List Blk → (AV → List Blk → Ans) → Ans := fun xs bs K => match xs, bs with
  | [.v (.agg [.int .i64 g1, .int .i64 g2]), .v (.agg [.int .i64 s1, .int .i64 s2]), .v (.agg [.int .i64 t1, .int .i64 t2])], [] => K (rVec (placeR ⟨g1, g2⟩ ⟨s1, s2⟩ ⟨t1, t2⟩)) []
  | _, _ => none
def T_Q3_Place : Nat → List AV → List Blk → (AV → List Blk → Ans) → Ans := upd T_Q3_Placed 37 s_Q3_Place
theorem g_Q3_Place : GOK Tryz.prog GT gbT T_Q3_Place XT := by
  refine GOK.upd g_Q3_Placed (fun args w => Tryz.call37 args w) fun xs bs K r h => ?_
  unfold s_Q3_Place at h
  split at h
  · exact ⟨_, _, c_Q3_Place _ _ _ _ _ _, h⟩
  · cases h


end Go.Ev

namespace Go.Ev
open Go Go.Proofs

structure R_Q4_Great_0 where
  k : Nat
  p3 : Int

def run_Q4_Great_0 (p2 : Bool) (m0 : List Site) : Nat → Int → R_Q4_Great_0
  | 0, p3 => ⟨2, p3⟩
  | n + 1, p3 => bif decide (p3 < (m0.length : Int)) then (bif (decide ((0 : Int) ≤ p3) && decide (p3 < (m0.length : Int))) then (bif decide ((100 : Int) < (((m0.getD p3.toNat (ET.z .site)).name).size : Int)) then ⟨0, p3⟩ else run_Q4_Great_0 p2 m0 n (w64 (p3 + (1 : Int)))) else ⟨2, p3⟩) else ⟨1, p3⟩

def lp_Q4_Great_0 (p2 : Bool) (m0 : List Site) (p3 : Int) : R_Q4_Great_0 := run_Q4_Great_0 p2 m0 (2000 + (m0.length)) p3

abbrev H_Q4_Great_0 (p2 : Bool) (m0 : List Site) (p3 : Int) : TS := headT [0, 2, 3] 20 [.v (.c (.aslice 0 none)), .v (.c (.d (.bool p2))), .v (.c (.d (.int .i64 p3)))]

set_option maxRecDepth 100000 in
theorem b_Q4_Great_0 (p2 : Bool) (m0 : List Site) (p3 : Int) : evCode Tryz.prog GT EQT T_Q3_Place XT noL 80 (loopB Tryz.prog 17 0) (H_Q4_Great_0 p2 m0 p3) [.arr none .site m0] 1 (normK 1 [0, 2, 3]) =
    bif decide (p3 < (m0.length : Int)) then (bif (decide ((0 : Int) ≤ p3) && decide (p3 < (m0.length : Int))) then (bif decide ((100 : Int) < (((m0.getD p3.toNat (ET.z .site)).name).size : Int)) then some (.st .ret (headT [0, 2, 3] 20 [.v (.c (.aslice 0 none)), .v (.c (.d (.bool true))), .v (.c (.d (.int .i64 p3)))]) [.arr none .site m0] 1) else some (.st .normal (headT [0, 2, 3] 20 [.v (.c (.aslice 0 none)), .v (.c (.d (.bool p2))), .v (.c (.d (.int .i64 (w64 (p3 + (1 : Int))))))]) [.arr none .site m0] 1)) else none) else some (.st (.exit 0) (headT [0, 2, 3] 20 [.v (.c (.aslice 0 none)), .v (.c (.d (.bool p2))), .v (.c (.d (.int .i64 p3)))]) [.arr none .site m0] 1) := by
  kernel_rfl

def o_Q4_Great_0 (p2 : Bool) (m0 : List Site) (r : R_Q4_Great_0) : LT := .br (Nat.beq r.k 0) (.st .ret (headT [0, 2, 3] 20 [.v (.c (.aslice 0 none)), .v (.c (.d (.bool true))), .v (.c (.d (.int .i64 r.p3)))]) [.arr none .site m0] 1) (.br (Nat.beq r.k 1) (.st (.exit 0) (headT [0, 2, 3] 20 [.v (.c (.aslice 0 none)), .v (.c (.d (.bool p2))), .v (.c (.d (.int .i64 r.p3)))]) [.arr none .site m0] 1) (.no))

set_option maxRecDepth 100000 in
theorem r_Q4_Great_0 (p2 : Bool) (m0 : List Site) : ∀ (n : Nat) (p3 : Int) (x : Ex) (T' : TS) (M' : List Blk) (N' : Nat), LReach (o_Q4_Great_0 p2 m0 (run_Q4_Great_0 p2 m0 n p3)) x T' M' N' → x ≠ .normal ∧ ∃ j, RoundsN Tryz.prog GT gbT 1 (loopB Tryz.prog 17 0) j (H_Q4_Great_0 p2 m0 p3) [.arr none .site m0] 1 x T' M' N' := by
  have hL : LOKn Tryz.prog GT gbT 1 noL (loopsIn (loopB Tryz.prog 17 0)) := fun _ _ _ _ _ _ _ _ _ h => h.elim
  intro n
  induction n with
  | zero =>
    intro p3 x T' M' N' hr
    exact False.elim (redF (redF hr))
  | succ n ih =>
    intro p3 x T' M' N'
    rw [run_Q4_Great_0]
    exact viaE (b_Q4_Great_0 p2 m0 p3) (condG (o := o_Q4_Great_0 p2 m0) (condG (o := o_Q4_Great_0 p2 m0) (condG (o := o_Q4_Great_0 p2 m0) (fun he hr => stopN g_Q3_Place hEQT hmT hL he (by simp) (redT hr)) (fun he hr => goN g_Q3_Place hEQT hmT hL he (ih (w64 (p3 + (1 : Int))) x T' M' N' hr))) (fun _ hr => False.elim (redF (redF hr)))) (fun he hr => stopN g_Q3_Place hEQT hmT hL he (by simp) (redT (redF hr))))

def f_Q4_Great_0 : List AV → List Blk → LT := fun vs Ms => match vs, Ms with
  | [.v (.c (.aslice 0 none)), .v (.c (.d (.bool p2))), .v (.c (.d (.int .i64 p3)))], [.arr none .site m0] => o_Q4_Great_0 p2 m0 (lp_Q4_Great_0 p2 m0 p3)
  | _, _ => .no

def L_Q4_Great_0 := LamN 2 20 1 [0, 2, 3] f_Q4_Great_0

set_option maxRecDepth 100000 in
theorem k_Q4_Great_0 : LOKbn Tryz.prog GT gbT 1 L_Q4_Great_0 (loopB Tryz.prog 17 0) := by
  refine LOKbn.lamN (by kernel_rfl) fun vs Ms x T' M' N' hr => ?_
  unfold f_Q4_Great_0 at hr
  split at hr
  · obtain ⟨q1, j, q2⟩ := r_Q4_Great_0 _ _ _ _ x T' M' N' hr
    exact ⟨q1, j, q2⟩
  · exact hr.elim

structure O_Q4_Great where
  ok : Bool
  r0 : Bool

def m_Q4_Great (a0 : List Site) : O_Q4_Great := bif Nat.beq (lp_Q4_Great_0 false a0 (0 : Int)).k 0 then ⟨true, true⟩ else (bif Nat.beq (lp_Q4_Great_0 false a0 (0 : Int)).k 1 then ⟨true, decide ((20 : Int) < (a0.length : Int))⟩ else ⟨false, false⟩)

def F_Q4_Great (a0 : List Site) (K : AV → List Blk → Ans) (r : O_Q4_Great) : Ans := bif r.ok then K (.v (.c (.d (.bool r.r0)))) [.arr none .site a0] else none

set_option maxRecDepth 100000 in
theorem e_Q4_Great (a0 : List Site) (K : AV → List Blk → Ans) : evFn Tryz.prog GT EQT T_Q3_Place XT (orL L_Q4_Great_0 noL) 80 17 [.v (.c (.aslice 0 none))] [.arr none .site a0] (fun v M => K (finR 1 v M).1 (finR 1 v M).2) = F_Q4_Great a0 K (m_Q4_Great a0) := by
  unfold m_Q4_Great
  refine Eq.trans ?_ (Eq.symm (pushT rfl (pushT rfl rfl)))
  kernel_rfl

set_option maxRecDepth 100000 in
theorem lok_Q4_Great : ∀ fn c, Tryz.prog.funcs[17]? = some fn → fn.body = some c → LOKn Tryz.prog GT gbT 1 (orL L_Q4_Great_0 noL) (loopsIn c) := by
  refine LOKn.ofF fun b hb => ?_
  have e : loopsF Tryz.prog 17 = [loopB Tryz.prog 17 0] := by kernel_rfl
  rw [e] at hb
  simp only [List.mem_cons, List.not_mem_nil, or_false] at hb
  subst hb
  exact (LOKbn.or k_Q4_Great_0 (fun _ _ _ _ _ _ _ h => h.elim))


theorem c_Q4_Great (a0 : List Site) (hd : (m_Q4_Great a0).ok = true) : CallsA Tryz.prog GT gbT 17 [.v (.c (.aslice 0 none))] [.arr none .site a0] (.v (.c (.d (.bool ((m_Q4_Great a0).r0))))) [.arr none .site a0] := by
  refine CallsA.ofEvR g_Q3_Place hEQT hmT (n0 := 1) rfl lok_Q4_Great ((e_Q4_Great a0 (fun v M => some (Res.fin v M))).trans ?_)
  unfold F_Q4_Great
  rw [hd]
  rfl

def s_Q4_Great : List AV → List Blk → (AV → List Blk → Ans) → Ans := fun xs bs K => match xs, bs with
  | [.v (.c (.aslice 0 none))], [.arr none .site a0] => F_Q4_Great a0 K (m_Q4_Great a0)
  | _, _ => none

def T_Q4_Great : Nat → List AV → List Blk → (AV → List Blk → Ans) → Ans := upd T_Q3_Place 17 s_Q4_Great

theorem g_Q4_Great : GOK Tryz.prog GT gbT T_Q4_Great XT := by
  refine GOK.upd g_Q3_Place (fun args w => Tryz.call17 args w) fun xs bs K r h => ?_
  unfold s_Q4_Great at h
  split at h
  · unfold F_Q4_Great at h
    simp only [cond_eq_ite] at h
    split at h
    · rename_i hd
      exact ⟨_, _, c_Q4_Great _ hd, h⟩
    · cases h
  · cases h

structure O_W8_long where
  ok : Bool
  r0 : Bool

def m_W8_long (a0 : List Site) (a1 : Source) : O_W8_long := bif (m_Q4_Great a0).ok then (bif (m_Q4_Great a0).r0 then ⟨true, true⟩ else ⟨true, decide ((200 : Int) < (a1.name.size : Int))⟩) else ⟨false, false⟩

def F_W8_long (a0 : List Site) (a1 : Source) (K : AV → List Blk → Ans) (r : O_W8_long) : Ans := bif r.ok then K (.v (.c (.d (.bool r.r0)))) [.arr none .site a0] else none

set_option maxRecDepth 100000 in
theorem e_W8_long (a0 : List Site) (a1 : Source) (K : AV → List Blk → Ans) : evFn Tryz.prog GT EQT T_Q4_Great XT noL 80 5 [.v (.c (.aslice 0 none)), .v (.agg [.str a1.name, .int .i64 a1.ra, .int .i64 a1.dec])] [.arr none .site a0] (fun v M => K (finR 1 v M).1 (finR 1 v M).2) = F_W8_long a0 a1 K (m_W8_long a0 a1) := by
  unfold m_W8_long
  refine Eq.trans ?_ (Eq.symm (pushT (pushT rfl rfl) rfl))
  kernel_rfl

theorem c_W8_long (a0 : List Site) (a1 : Source) (hd : (m_W8_long a0 a1).ok = true) : CallsA Tryz.prog GT gbT 5 [.v (.c (.aslice 0 none)), .v (.agg [.str a1.name, .int .i64 a1.ra, .int .i64 a1.dec])] [.arr none .site a0] (.v (.c (.d (.bool ((m_W8_long a0 a1).r0))))) [.arr none .site a0] := by
  refine CallsA.ofEvR g_Q4_Great hEQT hmT (n0 := 1) rfl (fun _ _ _ _ => LOKn.nil) ((e_W8_long a0 a1 (fun v M => some (Res.fin v M))).trans ?_)
  unfold F_W8_long
  rw [hd]
  rfl

def s_W8_long : List AV → List Blk → (AV → List Blk → Ans) → Ans := fun xs bs K => match xs, bs with
  | [.v (.c (.aslice 0 none)), .v (.agg [.str a1_0, .int .i64 a1_1, .int .i64 a1_2])], [.arr none .site a0] => F_W8_long a0 (⟨a1_0, a1_1, a1_2⟩ : Source) K (m_W8_long a0 (⟨a1_0, a1_1, a1_2⟩ : Source))
  | _, _ => none

def T_W8_long : Nat → List AV → List Blk → (AV → List Blk → Ans) → Ans := upd T_Q4_Great 5 s_W8_long

theorem g_W8_long : GOK Tryz.prog GT gbT T_W8_long XT := by
  refine GOK.upd g_Q4_Great (fun args w => Tryz.call5 args w) fun xs bs K r h => ?_
  unfold s_W8_long at h
  split at h
  · unfold F_W8_long at h
    simp only [cond_eq_ite] at h
    split at h
    · rename_i hd
      exact ⟨_, _, c_W8_long _ _ hd, h⟩
    · cases h
  · cases h

structure R_array_valid_0 where
  k : Nat
  p32 : Int

def run_array_valid_0 (p2 : Bool) (p31 : Int) (q0 : Site) : Nat → Int → R_array_valid_0
  | 0, p32 => ⟨2, p32⟩
  | n + 1, p32 => bif decide (p32 < p31) then (bif (decide (0 ≤ p32) && decide (p32 < (q0.name.size : Int))) then (bif decide ((byteAt q0.name p32) < (97 : Int)) then (bif decide ((byteAt q0.name p32) < (48 : Int)) then (bif ((byteAt q0.name p32) != (45 : Int)) then ⟨0, p32⟩ else run_array_valid_0 p2 p31 q0 n (w64 (p32 + (1 : Int)))) else (bif decide ((57 : Int) < (byteAt q0.name p32)) then (bif ((byteAt q0.name p32) != (45 : Int)) then ⟨0, p32⟩ else run_array_valid_0 p2 p31 q0 n (w64 (p32 + (1 : Int)))) else run_array_valid_0 p2 p31 q0 n (w64 (p32 + (1 : Int))))) else (bif decide ((122 : Int) < (byteAt q0.name p32)) then (bif decide ((byteAt q0.name p32) < (48 : Int)) then (bif ((byteAt q0.name p32) != (45 : Int)) then ⟨0, p32⟩ else run_array_valid_0 p2 p31 q0 n (w64 (p32 + (1 : Int)))) else (bif decide ((57 : Int) < (byteAt q0.name p32)) then (bif ((byteAt q0.name p32) != (45 : Int)) then ⟨0, p32⟩ else run_array_valid_0 p2 p31 q0 n (w64 (p32 + (1 : Int)))) else run_array_valid_0 p2 p31 q0 n (w64 (p32 + (1 : Int))))) else run_array_valid_0 p2 p31 q0 n (w64 (p32 + (1 : Int))))) else ⟨2, p32⟩) else ⟨1, p32⟩

def lp_array_valid_0 (p2 : Bool) (p31 : Int) (q0 : Site) (p32 : Int) : R_array_valid_0 := run_array_valid_0 p2 p31 q0 (2000 + (stuckI p31)) p32

abbrev H_array_valid_0 (p2 : Bool) (p31 : Int) (q0 : Site) (p32 : Int) : TS := headT [1, 2, 31, 32] 69 [.v (.c (.ptr 0 0)), .v (.c (.d (.bool p2))), .v (.c (.d (.int .i64 p31))), .v (.c (.d (.int .i64 p32)))]

set_option maxRecDepth 100000 in
theorem b_array_valid_0 (p2 : Bool) (p31 : Int) (q0 : Site) (p32 : Int) : evCode Tryz.prog GT EQT T_W8_long XT noL 120 (loopB Tryz.prog 105 0) (H_array_valid_0 p2 p31 q0 p32) [.rw 58 [.str q0.name, .int .i64 q0.s.num, .int .i64 q0.s.den, .int .i64 q0.t.num, .int .i64 q0.t.den]] 1 (normK 0 [1, 2, 31, 32]) =
    bif decide (p32 < p31) then (bif (decide (0 ≤ p32) && decide (p32 < (q0.name.size : Int))) then (bif decide ((byteAt q0.name p32) < (97 : Int)) then (bif decide ((byteAt q0.name p32) < (48 : Int)) then (bif ((byteAt q0.name p32) != (45 : Int)) then some (.st .ret (headT [1, 2, 31, 32] 69 [.v (.c (.ptr 0 0)), .v (.c (.d (.bool false))), .v (.c (.d (.int .i64 p31))), .v (.c (.d (.int .i64 p32)))]) [.rw 58 [.str q0.name, .int .i64 q0.s.num, .int .i64 q0.s.den, .int .i64 q0.t.num, .int .i64 q0.t.den]] 1) else some (.st .normal (headT [1, 2, 31, 32] 69 [.v (.c (.ptr 0 0)), .v (.c (.d (.bool p2))), .v (.c (.d (.int .i64 p31))), .v (.c (.d (.int .i64 (w64 (p32 + (1 : Int))))))]) [.rw 58 [.str q0.name, .int .i64 q0.s.num, .int .i64 q0.s.den, .int .i64 q0.t.num, .int .i64 q0.t.den]] 1)) else (bif decide ((57 : Int) < (byteAt q0.name p32)) then (bif ((byteAt q0.name p32) != (45 : Int)) then some (.st .ret (headT [1, 2, 31, 32] 69 [.v (.c (.ptr 0 0)), .v (.c (.d (.bool false))), .v (.c (.d (.int .i64 p31))), .v (.c (.d (.int .i64 p32)))]) [.rw 58 [.str q0.name, .int .i64 q0.s.num, .int .i64 q0.s.den, .int .i64 q0.t.num, .int .i64 q0.t.den]] 1) else some (.st .normal (headT [1, 2, 31, 32] 69 [.v (.c (.ptr 0 0)), .v (.c (.d (.bool p2))), .v (.c (.d (.int .i64 p31))), .v (.c (.d (.int .i64 (w64 (p32 + (1 : Int))))))]) [.rw 58 [.str q0.name, .int .i64 q0.s.num, .int .i64 q0.s.den, .int .i64 q0.t.num, .int .i64 q0.t.den]] 1)) else some (.st .normal (headT [1, 2, 31, 32] 69 [.v (.c (.ptr 0 0)), .v (.c (.d (.bool p2))), .v (.c (.d (.int .i64 p31))), .v (.c (.d (.int .i64 (w64 (p32 + (1 : Int))))))]) [.rw 58 [.str q0.name, .int .i64 q0.s.num, .int .i64 q0.s.den, .int .i64 q0.t.num, .int .i64 q0.t.den]] 1))) else (bif decide ((122 : Int) < (byteAt q0.name p32)) then (bif decide ((byteAt q0.name p32) < (48 : Int)) then (bif ((byteAt q0.name p32) != (45 : Int)) then some (.st .ret (headT [1, 2, 31, 32] 69 [.v (.c (.ptr 0 0)), .v (.c (.d (.bool false))), .v (.c (.d (.int .i64 p31))), .v (.c (.d (.int .i64 p32)))]) [.rw 58 [.str q0.name, .int .i64 q0.s.num, .int .i64 q0.s.den, .int .i64 q0.t.num, .int .i64 q0.t.den]] 1) else some (.st .normal (headT [1, 2, 31, 32] 69 [.v (.c (.ptr 0 0)), .v (.c (.d (.bool p2))), .v (.c (.d (.int .i64 p31))), .v (.c (.d (.int .i64 (w64 (p32 + (1 : Int))))))]) [.rw 58 [.str q0.name, .int .i64 q0.s.num, .int .i64 q0.s.den, .int .i64 q0.t.num, .int .i64 q0.t.den]] 1)) else (bif decide ((57 : Int) < (byteAt q0.name p32)) then (bif ((byteAt q0.name p32) != (45 : Int)) then some (.st .ret (headT [1, 2, 31, 32] 69 [.v (.c (.ptr 0 0)), .v (.c (.d (.bool false))), .v (.c (.d (.int .i64 p31))), .v (.c (.d (.int .i64 p32)))]) [.rw 58 [.str q0.name, .int .i64 q0.s.num, .int .i64 q0.s.den, .int .i64 q0.t.num, .int .i64 q0.t.den]] 1) else some (.st .normal (headT [1, 2, 31, 32] 69 [.v (.c (.ptr 0 0)), .v (.c (.d (.bool p2))), .v (.c (.d (.int .i64 p31))), .v (.c (.d (.int .i64 (w64 (p32 + (1 : Int))))))]) [.rw 58 [.str q0.name, .int .i64 q0.s.num, .int .i64 q0.s.den, .int .i64 q0.t.num, .int .i64 q0.t.den]] 1)) else some (.st .normal (headT [1, 2, 31, 32] 69 [.v (.c (.ptr 0 0)), .v (.c (.d (.bool p2))), .v (.c (.d (.int .i64 p31))), .v (.c (.d (.int .i64 (w64 (p32 + (1 : Int))))))]) [.rw 58 [.str q0.name, .int .i64 q0.s.num, .int .i64 q0.s.den, .int .i64 q0.t.num, .int .i64 q0.t.den]] 1))) else some (.st .normal (headT [1, 2, 31, 32] 69 [.v (.c (.ptr 0 0)), .v (.c (.d (.bool p2))), .v (.c (.d (.int .i64 p31))), .v (.c (.d (.int .i64 (w64 (p32 + (1 : Int))))))]) [.rw 58 [.str q0.name, .int .i64 q0.s.num, .int .i64 q0.s.den, .int .i64 q0.t.num, .int .i64 q0.t.den]] 1))) else none) else some (.st (.exit 0) (headT [1, 2, 31, 32] 69 [.v (.c (.ptr 0 0)), .v (.c (.d (.bool p2))), .v (.c (.d (.int .i64 p31))), .v (.c (.d (.int .i64 p32)))]) [.rw 58 [.str q0.name, .int .i64 q0.s.num, .int .i64 q0.s.den, .int .i64 q0.t.num, .int .i64 q0.t.den]] 1) := by
  kernel_rfl

def o_array_valid_0 (p2 : Bool) (p31 : Int) (q0 : Site) (r : R_array_valid_0) : LT := .br (Nat.beq r.k 0) (.st .ret (headT [1, 2, 31, 32] 69 [.v (.c (.ptr 0 0)), .v (.c (.d (.bool false))), .v (.c (.d (.int .i64 p31))), .v (.c (.d (.int .i64 r.p32)))]) [.rw 58 [.str q0.name, .int .i64 q0.s.num, .int .i64 q0.s.den, .int .i64 q0.t.num, .int .i64 q0.t.den]] 1) (.br (Nat.beq r.k 1) (.st (.exit 0) (headT [1, 2, 31, 32] 69 [.v (.c (.ptr 0 0)), .v (.c (.d (.bool p2))), .v (.c (.d (.int .i64 p31))), .v (.c (.d (.int .i64 r.p32)))]) [.rw 58 [.str q0.name, .int .i64 q0.s.num, .int .i64 q0.s.den, .int .i64 q0.t.num, .int .i64 q0.t.den]] 1) (.no))

set_option maxRecDepth 100000 in
theorem r_array_valid_0 (p2 : Bool) (p31 : Int) (q0 : Site) : ∀ (n : Nat) (p32 : Int) (x : Ex) (T' : TS) (M' : List Blk) (N' : Nat), LReach (o_array_valid_0 p2 p31 q0 (run_array_valid_0 p2 p31 q0 n p32)) x T' M' N' → x ≠ .normal ∧ ∃ j, RoundsN Tryz.prog GT gbT 0 (loopB Tryz.prog 105 0) j (H_array_valid_0 p2 p31 q0 p32) [.rw 58 [.str q0.name, .int .i64 q0.s.num, .int .i64 q0.s.den, .int .i64 q0.t.num, .int .i64 q0.t.den]] 1 x T' M' N' := by
  have hL : LOKn Tryz.prog GT gbT 0 noL (loopsIn (loopB Tryz.prog 105 0)) := fun _ _ _ _ _ _ _ _ _ h => h.elim
  intro n
  induction n with
  | zero =>
    intro p32 x T' M' N' hr
    exact False.elim (redF (redF hr))
  | succ n ih =>
    intro p32 x T' M' N'
    rw [run_array_valid_0]
    exact viaE (b_array_valid_0 p2 p31 q0 p32) (condG (o := o_array_valid_0 p2 p31 q0) (condG (o := o_array_valid_0 p2 p31 q0) (condG (o := o_array_valid_0 p2 p31 q0) (condG (o := o_array_valid_0 p2 p31 q0) (condG (o := o_array_valid_0 p2 p31 q0) (fun he hr => stopN g_W8_long hEQT hmT hL he (by simp) (redT hr)) (fun he hr => goN g_W8_long hEQT hmT hL he (ih (w64 (p32 + (1 : Int))) x T' M' N' hr))) (condG (o := o_array_valid_0 p2 p31 q0) (condG (o := o_array_valid_0 p2 p31 q0) (fun he hr => stopN g_W8_long hEQT hmT hL he (by simp) (redT hr)) (fun he hr => goN g_W8_long hEQT hmT hL he (ih (w64 (p32 + (1 : Int))) x T' M' N' hr))) (fun he hr => goN g_W8_long hEQT hmT hL he (ih (w64 (p32 + (1 : Int))) x T' M' N' hr)))) (condG (o := o_array_valid_0 p2 p31 q0) (condG (o := o_array_valid_0 p2 p31 q0) (condG (o := o_array_valid_0 p2 p31 q0) (fun he hr => stopN g_W8_long hEQT hmT hL he (by simp) (redT hr)) (fun he hr => goN g_W8_long hEQT hmT hL he (ih (w64 (p32 + (1 : Int))) x T' M' N' hr))) (condG (o := o_array_valid_0 p2 p31 q0) (condG (o := o_array_valid_0 p2 p31 q0) (fun he hr => stopN g_W8_long hEQT hmT hL he (by simp) (redT hr)) (fun he hr => goN g_W8_long hEQT hmT hL he (ih (w64 (p32 + (1 : Int))) x T' M' N' hr))) (fun he hr => goN g_W8_long hEQT hmT hL he (ih (w64 (p32 + (1 : Int))) x T' M' N' hr)))) (fun he hr => goN g_W8_long hEQT hmT hL he (ih (w64 (p32 + (1 : Int))) x T' M' N' hr)))) (fun _ hr => False.elim (redF (redF hr)))) (fun he hr => stopN g_W8_long hEQT hmT hL he (by simp) (redT (redF hr))))

def f_array_valid_0 : List AV → List Blk → LT := fun vs Ms => match vs, Ms with
  | [.v (.c (.ptr 0 0)), .v (.c (.d (.bool p2))), .v (.c (.d (.int .i64 p31))), .v (.c (.d (.int .i64 p32)))], [.rw 58 [.str q0_0, .int .i64 q0_1, .int .i64 q0_2, .int .i64 q0_3, .int .i64 q0_4]] => o_array_valid_0 p2 p31 (⟨q0_0, ⟨q0_1, q0_2⟩, ⟨q0_3, q0_4⟩⟩ : Site) (lp_array_valid_0 p2 p31 (⟨q0_0, ⟨q0_1, q0_2⟩, ⟨q0_3, q0_4⟩⟩ : Site) p32)
  | _, _ => .no

def L_array_valid_0 := LamN 4 69 0 [1, 2, 31, 32] f_array_valid_0

set_option maxRecDepth 100000 in
theorem k_array_valid_0 : LOKbn Tryz.prog GT gbT 0 L_array_valid_0 (loopB Tryz.prog 105 0) := by
  refine LOKbn.lamN (by kernel_rfl) fun vs Ms x T' M' N' hr => ?_
  unfold f_array_valid_0 at hr
  split at hr
  · obtain ⟨q1, j, q2⟩ := r_array_valid_0 _ _ _ _ _ x T' M' N' hr
    exact ⟨q1, j, q2⟩
  · exact hr.elim

structure O_array_valid where
  ok : Bool
  r0 : Bool

def m_array_valid (a0 : Site) : O_array_valid := bif decide ((a0.name.size : Int) < (1 : Int)) then ⟨true, false⟩ else (bif decide ((40 : Int) < (a0.name.size : Int)) then ⟨true, false⟩ else (bif (decide (0 ≤ (0 : Int)) && decide ((0 : Int) < (a0.name.size : Int))) then (bif decide ((byteAt a0.name (0 : Int)) < (97 : Int)) then ⟨true, false⟩ else (bif (decide (0 ≤ (0 : Int)) && decide ((0 : Int) < (a0.name.size : Int))) then (bif decide ((122 : Int) < (byteAt a0.name (0 : Int))) then ⟨true, false⟩ else (bif Nat.beq (lp_array_valid_0 false (a0.name.size : Int) a0 (0 : Int)).k 0 then ⟨true, false⟩ else (bif Nat.beq (lp_array_valid_0 false (a0.name.size : Int) a0 (0 : Int)).k 1 then ⟨true, ((atV ⟨(1 : Int), (1 : Int)⟩ a0.s a0.t).2 == (0 : Int))⟩ else ⟨false, false⟩))) else ⟨false, false⟩)) else ⟨false, false⟩))

def F_array_valid (a0 : Site) (K : AV → List Blk → Ans) (r : O_array_valid) : Ans := bif r.ok then K (.v (.c (.d (.bool r.r0)))) [] else none

set_option maxRecDepth 100000 in
theorem e_array_valid (a0 : Site) (K : AV → List Blk → Ans) : evFn Tryz.prog GT EQT T_W8_long XT (orL L_array_valid_0 noL) 120 105 [.v (.agg [.str a0.name, .int .i64 a0.s.num, .int .i64 a0.s.den, .int .i64 a0.t.num, .int .i64 a0.t.den])] [] (fun v M => K (finR 0 v M).1 (finR 0 v M).2) = F_array_valid a0 K (m_array_valid a0) := by
  unfold m_array_valid
  refine Eq.trans ?_ (Eq.symm (pushT rfl (pushT rfl (pushT (pushT rfl (pushT (pushT rfl (pushT rfl (pushT rfl rfl))) rfl)) rfl))))
  kernel_rfl

set_option maxRecDepth 100000 in
theorem lok_array_valid : ∀ fn c, Tryz.prog.funcs[105]? = some fn → fn.body = some c → LOKn Tryz.prog GT gbT 0 (orL L_array_valid_0 noL) (loopsIn c) := by
  refine LOKn.ofF fun b hb => ?_
  have e : loopsF Tryz.prog 105 = [loopB Tryz.prog 105 0] := by kernel_rfl
  rw [e] at hb
  simp only [List.mem_cons, List.not_mem_nil, or_false] at hb
  subst hb
  exact (LOKbn.or k_array_valid_0 (fun _ _ _ _ _ _ _ h => h.elim))


theorem c_array_valid (a0 : Site) (hd : (m_array_valid a0).ok = true) : CallsA Tryz.prog GT gbT 105 [.v (.agg [.str a0.name, .int .i64 a0.s.num, .int .i64 a0.s.den, .int .i64 a0.t.num, .int .i64 a0.t.den])] [] (.v (.c (.d (.bool ((m_array_valid a0).r0))))) [] := by
  refine CallsA.ofEvR g_W8_long hEQT hmT (n0 := 0) rfl lok_array_valid ((e_array_valid a0 (fun v M => some (Res.fin v M))).trans ?_)
  unfold F_array_valid
  rw [hd]
  rfl

def s_array_valid : List AV → List Blk → (AV → List Blk → Ans) → Ans := fun xs bs K => match xs, bs with
  | [.v (.agg [.str a0_0, .int .i64 a0_1, .int .i64 a0_2, .int .i64 a0_3, .int .i64 a0_4])], [] => F_array_valid (⟨a0_0, ⟨a0_1, a0_2⟩, ⟨a0_3, a0_4⟩⟩ : Site) K (m_array_valid (⟨a0_0, ⟨a0_1, a0_2⟩, ⟨a0_3, a0_4⟩⟩ : Site))
  | _, _ => none

def T_array_valid : Nat → List AV → List Blk → (AV → List Blk → Ans) → Ans := upd T_W8_long 105 s_array_valid

theorem g_array_valid : GOK Tryz.prog GT gbT T_array_valid XT := by
  refine GOK.upd g_W8_long (fun args w => Tryz.call105 args w) fun xs bs K r h => ?_
  unfold s_array_valid at h
  split at h
  · unfold F_array_valid at h
    simp only [cond_eq_ite] at h
    split at h
    · rename_i hd
      exact ⟨_, _, c_array_valid _ hd, h⟩
    · cases h
  · cases h

structure R_array_stations_0 where
  k : Nat
  p10 : Int

def run_array_stations_0 (p2 : Int) (p9 : Int) (m0 : List Site) : Nat → Int → R_array_stations_0
  | 0, p10 => ⟨2, p10⟩
  | n + 1, p10 => bif decide (p10 < p9) then (bif (decide ((0 : Int) ≤ p10) && decide (p10 < (m0.length : Int))) then (bif (m_array_valid (m0.getD p10.toNat (ET.z .site))).ok then (bif (!(m_array_valid (m0.getD p10.toNat (ET.z .site))).r0) then ⟨0, p10⟩ else run_array_stations_0 p2 p9 m0 n (w64 (p10 + (1 : Int)))) else ⟨2, p10⟩) else ⟨2, p10⟩) else ⟨1, p10⟩

def lp_array_stations_0 (p2 : Int) (p9 : Int) (m0 : List Site) (p10 : Int) : R_array_stations_0 := run_array_stations_0 p2 p9 m0 (2000 + (m0.length)) p10

abbrev H_array_stations_0 (p2 : Int) (p9 : Int) (m0 : List Site) (p10 : Int) : TS := headT [2, 8, 9, 10] 18 [.v (.c (.d (.int .i64 p2))), .v (.c (.aslice 0 none)), .v (.c (.d (.int .i64 p9))), .v (.c (.d (.int .i64 p10)))]

set_option maxRecDepth 100000 in
theorem b_array_stations_0 (p2 : Int) (p9 : Int) (m0 : List Site) (p10 : Int) : evCode Tryz.prog GT EQT T_array_valid XT noL 80 (loopB Tryz.prog 67 0) (H_array_stations_0 p2 p9 m0 p10) [.arr none .site m0] 1 (normK 1 [2, 8, 9, 10]) =
    bif decide (p10 < p9) then (bif (decide ((0 : Int) ≤ p10) && decide (p10 < (m0.length : Int))) then (bif (m_array_valid (m0.getD p10.toNat (ET.z .site))).ok then (bif (!(m_array_valid (m0.getD p10.toNat (ET.z .site))).r0) then some (.st .ret (headT [2, 8, 9, 10] 18 [.v (.c (.d (.int .i64 (8 : Int)))), .v (.c (.aslice 0 none)), .v (.c (.d (.int .i64 p9))), .v (.c (.d (.int .i64 p10)))]) [.arr none .site m0] 1) else some (.st .normal (headT [2, 8, 9, 10] 18 [.v (.c (.d (.int .i64 p2))), .v (.c (.aslice 0 none)), .v (.c (.d (.int .i64 p9))), .v (.c (.d (.int .i64 (w64 (p10 + (1 : Int))))))]) [.arr none .site m0] 1)) else none) else none) else some (.st (.exit 0) (headT [2, 8, 9, 10] 18 [.v (.c (.d (.int .i64 p2))), .v (.c (.aslice 0 none)), .v (.c (.d (.int .i64 p9))), .v (.c (.d (.int .i64 p10)))]) [.arr none .site m0] 1) := by
  kernel_rfl

def o_array_stations_0 (p2 : Int) (p9 : Int) (m0 : List Site) (r : R_array_stations_0) : LT := .br (Nat.beq r.k 0) (.st .ret (headT [2, 8, 9, 10] 18 [.v (.c (.d (.int .i64 (8 : Int)))), .v (.c (.aslice 0 none)), .v (.c (.d (.int .i64 p9))), .v (.c (.d (.int .i64 r.p10)))]) [.arr none .site m0] 1) (.br (Nat.beq r.k 1) (.st (.exit 0) (headT [2, 8, 9, 10] 18 [.v (.c (.d (.int .i64 p2))), .v (.c (.aslice 0 none)), .v (.c (.d (.int .i64 p9))), .v (.c (.d (.int .i64 r.p10)))]) [.arr none .site m0] 1) (.no))

set_option maxRecDepth 100000 in
theorem r_array_stations_0 (p2 : Int) (p9 : Int) (m0 : List Site) : ∀ (n : Nat) (p10 : Int) (x : Ex) (T' : TS) (M' : List Blk) (N' : Nat), LReach (o_array_stations_0 p2 p9 m0 (run_array_stations_0 p2 p9 m0 n p10)) x T' M' N' → x ≠ .normal ∧ ∃ j, RoundsN Tryz.prog GT gbT 1 (loopB Tryz.prog 67 0) j (H_array_stations_0 p2 p9 m0 p10) [.arr none .site m0] 1 x T' M' N' := by
  have hL : LOKn Tryz.prog GT gbT 1 noL (loopsIn (loopB Tryz.prog 67 0)) := fun _ _ _ _ _ _ _ _ _ h => h.elim
  intro n
  induction n with
  | zero =>
    intro p10 x T' M' N' hr
    exact False.elim (redF (redF hr))
  | succ n ih =>
    intro p10 x T' M' N'
    rw [run_array_stations_0]
    exact viaE (b_array_stations_0 p2 p9 m0 p10) (condG (o := o_array_stations_0 p2 p9 m0) (condG (o := o_array_stations_0 p2 p9 m0) (condG (o := o_array_stations_0 p2 p9 m0) (condG (o := o_array_stations_0 p2 p9 m0) (fun he hr => stopN g_array_valid hEQT hmT hL he (by simp) (redT hr)) (fun he hr => goN g_array_valid hEQT hmT hL he (ih (w64 (p10 + (1 : Int))) x T' M' N' hr))) (fun _ hr => False.elim (redF (redF hr)))) (fun _ hr => False.elim (redF (redF hr)))) (fun he hr => stopN g_array_valid hEQT hmT hL he (by simp) (redT (redF hr))))

def f_array_stations_0 : List AV → List Blk → LT := fun vs Ms => match vs, Ms with
  | [.v (.c (.d (.int .i64 p2))), .v (.c (.aslice 0 none)), .v (.c (.d (.int .i64 p9))), .v (.c (.d (.int .i64 p10)))], [.arr none .site m0] => o_array_stations_0 p2 p9 m0 (lp_array_stations_0 p2 p9 m0 p10)
  | _, _ => .no

def L_array_stations_0 := LamN 4 18 1 [2, 8, 9, 10] f_array_stations_0

set_option maxRecDepth 100000 in
theorem k_array_stations_0 : LOKbn Tryz.prog GT gbT 1 L_array_stations_0 (loopB Tryz.prog 67 0) := by
  refine LOKbn.lamN (by kernel_rfl) fun vs Ms x T' M' N' hr => ?_
  unfold f_array_stations_0 at hr
  split at hr
  · obtain ⟨q1, j, q2⟩ := r_array_stations_0 _ _ _ _ _ x T' M' N' hr
    exact ⟨q1, j, q2⟩
  · exact hr.elim

structure O_array_stations where
  ok : Bool
  r0 : Int

def m_array_stations (a0 : List Site) : O_array_stations := bif decide ((8 : Int) < (a0.length : Int)) then ⟨true, (4 : Int)⟩ else (bif Nat.beq (lp_array_stations_0 (0 : Int) (a0.length : Int) a0 (0 : Int)).k 0 then ⟨true, (8 : Int)⟩ else (bif Nat.beq (lp_array_stations_0 (0 : Int) (a0.length : Int) a0 (0 : Int)).k 1 then ⟨true, (0 : Int)⟩ else ⟨false, 0⟩))

def F_array_stations (a0 : List Site) (K : AV → List Blk → Ans) (r : O_array_stations) : Ans := bif r.ok then K (.v (.c (.d (.int .i64 r.r0)))) [.arr none .site a0] else none

set_option maxRecDepth 100000 in
theorem e_array_stations (a0 : List Site) (K : AV → List Blk → Ans) : evFn Tryz.prog GT EQT T_array_valid XT (orL L_array_stations_0 noL) 80 67 [.v (.c (.aslice 0 none))] [.arr none .site a0] (fun v M => K (finR 1 v M).1 (finR 1 v M).2) = F_array_stations a0 K (m_array_stations a0) := by
  unfold m_array_stations
  refine Eq.trans ?_ (Eq.symm (pushT rfl (pushT rfl (pushT rfl rfl))))
  kernel_rfl

set_option maxRecDepth 100000 in
theorem lok_array_stations : ∀ fn c, Tryz.prog.funcs[67]? = some fn → fn.body = some c → LOKn Tryz.prog GT gbT 1 (orL L_array_stations_0 noL) (loopsIn c) := by
  refine LOKn.ofF fun b hb => ?_
  have e : loopsF Tryz.prog 67 = [loopB Tryz.prog 67 0] := by kernel_rfl
  rw [e] at hb
  simp only [List.mem_cons, List.not_mem_nil, or_false] at hb
  subst hb
  exact (LOKbn.or k_array_stations_0 (fun _ _ _ _ _ _ _ h => h.elim))


theorem c_array_stations (a0 : List Site) (hd : (m_array_stations a0).ok = true) : CallsA Tryz.prog GT gbT 67 [.v (.c (.aslice 0 none))] [.arr none .site a0] (.v (.c (.d (.int .i64 ((m_array_stations a0).r0))))) [.arr none .site a0] := by
  refine CallsA.ofEvR g_array_valid hEQT hmT (n0 := 1) rfl lok_array_stations ((e_array_stations a0 (fun v M => some (Res.fin v M))).trans ?_)
  unfold F_array_stations
  rw [hd]
  rfl

def s_array_stations : List AV → List Blk → (AV → List Blk → Ans) → Ans := fun xs bs K => match xs, bs with
  | [.v (.c (.aslice 0 none))], [.arr none .site a0] => F_array_stations a0 K (m_array_stations a0)
  | _, _ => none

def T_array_stations : Nat → List AV → List Blk → (AV → List Blk → Ans) → Ans := upd T_array_valid 67 s_array_stations

theorem g_array_stations : GOK Tryz.prog GT gbT T_array_stations XT := by
  refine GOK.upd g_array_valid (fun args w => Tryz.call67 args w) fun xs bs K r h => ?_
  unfold s_array_stations at h
  split at h
  · unfold F_array_stations at h
    simp only [cond_eq_ite] at h
    split at h
    · rename_i hd
      exact ⟨_, _, c_array_stations _ hd, h⟩
    · cases h
  · cases h

set_option maxRecDepth 100000 in
theorem c_array_pairs (a0 : Int) : CallsA Tryz.prog GT gbT 69 [.v (.c (.d (.int .i64 a0)))] [] (.v (.c (.fn 110 [0]))) [.rw 3 [.int .i64 a0]] :=
  CallsA.ofEvN g_array_stations hEQT hmT (n := 40) (Λ := noL) (fun _ M => M) (fun _ _ _ => .inl rfl) (fun _ _ _ _ => LOKn.nil) (by kernel_rfl)

def s_array_pairs : List AV → List Blk → (AV → List Blk → Ans) → Ans := fun xs bs K => match xs, bs with
  | [.v (.c (.d (.int .i64 a0)))], [] => K (.v (.c (.fn 110 [0]))) [.rw 3 [.int .i64 a0]]
  | _, _ => none

def T_array_pairs : Nat → List AV → List Blk → (AV → List Blk → Ans) → Ans := upd T_array_stations 69 s_array_pairs

theorem g_array_pairs : GOK Tryz.prog GT gbT T_array_pairs XT := by
  refine GOK.upd g_array_stations (fun args w => Tryz.call69 args w) fun xs bs K r h => ?_
  unfold s_array_pairs at h
  split at h
  · exact ⟨_, _, c_array_pairs _, h⟩
  · cases h

end Go.Ev

namespace Go.Ev
open Go Go.Proofs

structure R_array_place_0 where
  k : Nat
  p29 : Int
  m5 : List Placed

def run_array_place_0 (p28 : Int) (m0 : List Site) (q1 : Globe) (q3_0 : Int) : Nat → Int → List Placed → R_array_place_0
  | 0, p29, m5 => ⟨2, p29, m5⟩
  | n + 1, p29, m5 => bif decide (p29 < p28) then (bif (decide ((0 : Int) ≤ p29) && decide (p29 < (m0.length : Int))) then (bif ((atV q1 ((m0.getD p29.toNat (ET.z .site)).s) ((m0.getD p29.toNat (ET.z .site)).t)).2 != (0 : Int)) then ⟨0, p29, m5⟩ else (bif (decide ((0 : Int) ≤ p29) && decide (p29 < (m5.length : Int))) then run_array_place_0 p28 m0 q1 q3_0 n (w64 (p29 + (1 : Int))) (m5.set p29.toNat ⟨m0.getD p29.toNat (ET.z .site), (atV q1 ((m0.getD p29.toNat (ET.z .site)).s) ((m0.getD p29.toNat (ET.z .site)).t)).1⟩) else ⟨2, p29, m5⟩)) else ⟨2, p29, m5⟩) else ⟨1, p29, m5⟩

def lp_array_place_0 (p28 : Int) (m0 : List Site) (q1 : Globe) (q3_0 : Int) (p29 : Int) (m5 : List Placed) : R_array_place_0 := run_array_place_0 p28 m0 q1 q3_0 (2000 + (m0.length + m5.length)) p29 m5

abbrev H_array_place_0 (p28 : Int) (m0 : List Site) (q1 : Globe) (q3_0 : Int) (p29 : Int) (m5 : List Placed) : TS := headT [2, 4, 5, 8, 27, 28, 29] 88 [.v (.c (.ptr 1 0)), .v (.c (.ptr 2 0)), .v (.c (.ptr 3 0)), .v (.c (.ptr 4 0)), .v (.c (.aslice 0 none)), .v (.c (.d (.int .i64 p28))), .v (.c (.d (.int .i64 p29)))]

set_option maxRecDepth 100000 in
theorem b_array_place_0 (p28 : Int) (m0 : List Site) (q1 : Globe) (q3_0 : Int) (p29 : Int) (m5 : List Placed) : evCode Tryz.prog GT EQT T_array_pairs XT noL 120 (loopB Tryz.prog 44 0) (H_array_place_0 p28 m0 q1 q3_0 p29 m5) [.arr none .site m0, .rw 23 [.int .i64 q1.a, .int .i64 q1.b], .cell 97 .nilS, .rw 35 [.int .i64 q3_0], .cell 97 (.aslice 5 none), .arr (some 102) .placed m5] 6 (normK 1 [2, 4, 5, 8, 27, 28, 29]) =
    bif decide (p29 < p28) then (bif (decide ((0 : Int) ≤ p29) && decide (p29 < (m0.length : Int))) then (bif ((atV q1 ((m0.getD p29.toNat (ET.z .site)).s) ((m0.getD p29.toNat (ET.z .site)).t)).2 != (0 : Int)) then some (.st .ret (headT [2, 4, 5, 8, 27, 28, 29] 88 [.v (.c (.ptr 1 0)), .v (.c (.ptr 2 0)), .v (.c (.ptr 3 0)), .v (.c (.ptr 4 0)), .v (.c (.aslice 0 none)), .v (.c (.d (.int .i64 p28))), .v (.c (.d (.int .i64 p29)))]) [.arr none .site m0, .rw 23 [.int .i64 q1.a, .int .i64 q1.b], .cell 97 .nilS, .rw 35 [.int .i64 ((atV q1 ((m0.getD p29.toNat (ET.z .site)).s) ((m0.getD p29.toNat (ET.z .site)).t)).2)], .cell 97 (.aslice 5 none), .arr (some 102) .placed m5] 6) else (bif (decide ((0 : Int) ≤ p29) && decide (p29 < (m5.length : Int))) then some (.st .normal (headT [2, 4, 5, 8, 27, 28, 29] 88 [.v (.c (.ptr 1 0)), .v (.c (.ptr 2 0)), .v (.c (.ptr 3 0)), .v (.c (.ptr 4 0)), .v (.c (.aslice 0 none)), .v (.c (.d (.int .i64 p28))), .v (.c (.d (.int .i64 (w64 (p29 + (1 : Int))))))]) [.arr none .site m0, .rw 23 [.int .i64 q1.a, .int .i64 q1.b], .cell 97 .nilS, .rw 35 [.int .i64 q3_0], .cell 97 (.aslice 5 none), .arr (some 102) .placed (m5.set p29.toNat ⟨m0.getD p29.toNat (ET.z .site), (atV q1 ((m0.getD p29.toNat (ET.z .site)).s) ((m0.getD p29.toNat (ET.z .site)).t)).1⟩)] 6) else none)) else none) else some (.st (.exit 0) (headT [2, 4, 5, 8, 27, 28, 29] 88 [.v (.c (.ptr 1 0)), .v (.c (.ptr 2 0)), .v (.c (.ptr 3 0)), .v (.c (.ptr 4 0)), .v (.c (.aslice 0 none)), .v (.c (.d (.int .i64 p28))), .v (.c (.d (.int .i64 p29)))]) [.arr none .site m0, .rw 23 [.int .i64 q1.a, .int .i64 q1.b], .cell 97 .nilS, .rw 35 [.int .i64 q3_0], .cell 97 (.aslice 5 none), .arr (some 102) .placed m5] 6) := by
  kernel_rfl

def o_array_place_0 (p28 : Int) (m0 : List Site) (q1 : Globe) (q3_0 : Int) (r : R_array_place_0) : LT := .br (Nat.beq r.k 0) (.st .ret (headT [2, 4, 5, 8, 27, 28, 29] 88 [.v (.c (.ptr 1 0)), .v (.c (.ptr 2 0)), .v (.c (.ptr 3 0)), .v (.c (.ptr 4 0)), .v (.c (.aslice 0 none)), .v (.c (.d (.int .i64 p28))), .v (.c (.d (.int .i64 r.p29)))]) [.arr none .site m0, .rw 23 [.int .i64 q1.a, .int .i64 q1.b], .cell 97 .nilS, .rw 35 [.int .i64 ((atV q1 ((m0.getD r.p29.toNat (ET.z .site)).s) ((m0.getD r.p29.toNat (ET.z .site)).t)).2)], .cell 97 (.aslice 5 none), .arr (some 102) .placed r.m5] 6) (.br (Nat.beq r.k 1) (.st (.exit 0) (headT [2, 4, 5, 8, 27, 28, 29] 88 [.v (.c (.ptr 1 0)), .v (.c (.ptr 2 0)), .v (.c (.ptr 3 0)), .v (.c (.ptr 4 0)), .v (.c (.aslice 0 none)), .v (.c (.d (.int .i64 p28))), .v (.c (.d (.int .i64 r.p29)))]) [.arr none .site m0, .rw 23 [.int .i64 q1.a, .int .i64 q1.b], .cell 97 .nilS, .rw 35 [.int .i64 q3_0], .cell 97 (.aslice 5 none), .arr (some 102) .placed r.m5] 6) (.no))

set_option maxRecDepth 100000 in
theorem r_array_place_0 (p28 : Int) (m0 : List Site) (q1 : Globe) (q3_0 : Int) : ∀ (n : Nat) (p29 : Int) (m5 : List Placed) (x : Ex) (T' : TS) (M' : List Blk) (N' : Nat), LReach (o_array_place_0 p28 m0 q1 q3_0 (run_array_place_0 p28 m0 q1 q3_0 n p29 m5)) x T' M' N' → x ≠ .normal ∧ ∃ j, RoundsN Tryz.prog GT gbT 1 (loopB Tryz.prog 44 0) j (H_array_place_0 p28 m0 q1 q3_0 p29 m5) [.arr none .site m0, .rw 23 [.int .i64 q1.a, .int .i64 q1.b], .cell 97 .nilS, .rw 35 [.int .i64 q3_0], .cell 97 (.aslice 5 none), .arr (some 102) .placed m5] 6 x T' M' N' := by
  have hL : LOKn Tryz.prog GT gbT 1 noL (loopsIn (loopB Tryz.prog 44 0)) := fun _ _ _ _ _ _ _ _ _ h => h.elim
  intro n
  induction n with
  | zero =>
    intro p29 m5 x T' M' N' hr
    exact False.elim (redF (redF hr))
  | succ n ih =>
    intro p29 m5 x T' M' N'
    rw [run_array_place_0]
    exact viaE (b_array_place_0 p28 m0 q1 q3_0 p29 m5) (condG (o := o_array_place_0 p28 m0 q1 q3_0) (condG (o := o_array_place_0 p28 m0 q1 q3_0) (condG (o := o_array_place_0 p28 m0 q1 q3_0) (fun he hr => stopN g_array_pairs hEQT hmT hL he (by simp) (redT hr)) (condG (o := o_array_place_0 p28 m0 q1 q3_0) (fun he hr => goN g_array_pairs hEQT hmT hL he (ih (w64 (p29 + (1 : Int))) (m5.set p29.toNat ⟨m0.getD p29.toNat (ET.z .site), (atV q1 ((m0.getD p29.toNat (ET.z .site)).s) ((m0.getD p29.toNat (ET.z .site)).t)).1⟩) x T' M' N' hr)) (fun _ hr => False.elim (redF (redF hr))))) (fun _ hr => False.elim (redF (redF hr)))) (fun he hr => stopN g_array_pairs hEQT hmT hL he (by simp) (redT (redF hr))))

def f_array_place_0 : List AV → List Blk → LT := fun vs Ms => match vs, Ms with
  | [.v (.c (.ptr 1 0)), .v (.c (.ptr 2 0)), .v (.c (.ptr 3 0)), .v (.c (.ptr 4 0)), .v (.c (.aslice 0 none)), .v (.c (.d (.int .i64 p28))), .v (.c (.d (.int .i64 p29)))], [.arr none .site m0, .rw 23 [.int .i64 q1_0, .int .i64 q1_1], .cell 97 .nilS, .rw 35 [.int .i64 q3_0], .cell 97 (.aslice 5 none), .arr (some 102) .placed m5] => o_array_place_0 p28 m0 (⟨q1_0, q1_1⟩ : Globe) q3_0 (lp_array_place_0 p28 m0 (⟨q1_0, q1_1⟩ : Globe) q3_0 p29 m5)
  | _, _ => .no

def L_array_place_0 := LamN 9 88 1 [2, 4, 5, 8, 27, 28, 29] f_array_place_0

set_option maxRecDepth 100000 in
theorem k_array_place_0 : LOKbn Tryz.prog GT gbT 1 L_array_place_0 (loopB Tryz.prog 44 0) := by
  refine LOKbn.lamN (by kernel_rfl) fun vs Ms x T' M' N' hr => ?_
  unfold f_array_place_0 at hr
  split at hr
  · obtain ⟨q1, j, q2⟩ := r_array_place_0 _ _ _ _ _ _ _ x T' M' N' hr
    exact ⟨q1, j, q2⟩
  · exact hr.elim

abbrev TP := T_array_pairs
theorem gP : GOK Tryz.prog GT gbT TP XT := g_array_pairs
abbrev LP := (orL L_array_place_0 noL)

structure O0_array_place where
  k : Nat
  e : Int
  ps : List Placed

def m0_array_place (a0 : Globe) (a1 : List Site) : O0_array_place := bif ((checkG a0) != (0 : Int)) then ⟨0, (checkG a0), []⟩ else (bif (m_array_stations a1).ok then (bif ((m_array_stations a1).r0 != (0 : Int)) then ⟨0, (m_array_stations a1).r0, []⟩ else (bif (decide ((a1.length : Int) = (a1.length : Int)) && (decide (0 ≤ (a1.length : Int)) && (decide ((a1.length : Int) ≤ 1048576) && ((11 == 11) && (Nat.blt 0 11 && Nat.ble 96 4096))))) then (bif Nat.beq (lp_array_place_0 (a1.length : Int) a1 a0 (0 : Int) (0 : Int) (List.replicate a1.length (⟨⟨ByteArray.empty, ⟨(0 : Int), (0 : Int)⟩, ⟨(0 : Int), (0 : Int)⟩⟩, ⟨⟨(0 : Int), (0 : Int)⟩, ⟨(0 : Int), (0 : Int)⟩, ⟨(0 : Int), (0 : Int)⟩⟩⟩ : Placed))).k 0 then ⟨0, (atV a0 ((a1.getD ((lp_array_place_0 (a1.length : Int) a1 a0 (0 : Int) (0 : Int) (List.replicate a1.length (⟨⟨ByteArray.empty, ⟨(0 : Int), (0 : Int)⟩, ⟨(0 : Int), (0 : Int)⟩⟩, ⟨⟨(0 : Int), (0 : Int)⟩, ⟨(0 : Int), (0 : Int)⟩, ⟨(0 : Int), (0 : Int)⟩⟩⟩ : Placed))).p29).toNat (ET.z .site)).s) ((a1.getD ((lp_array_place_0 (a1.length : Int) a1 a0 (0 : Int) (0 : Int) (List.replicate a1.length (⟨⟨ByteArray.empty, ⟨(0 : Int), (0 : Int)⟩, ⟨(0 : Int), (0 : Int)⟩⟩, ⟨⟨(0 : Int), (0 : Int)⟩, ⟨(0 : Int), (0 : Int)⟩, ⟨(0 : Int), (0 : Int)⟩⟩⟩ : Placed))).p29).toNat (ET.z .site)).t)).2, []⟩ else (bif Nat.beq (lp_array_place_0 (a1.length : Int) a1 a0 (0 : Int) (0 : Int) (List.replicate a1.length (⟨⟨ByteArray.empty, ⟨(0 : Int), (0 : Int)⟩, ⟨(0 : Int), (0 : Int)⟩⟩, ⟨⟨(0 : Int), (0 : Int)⟩, ⟨(0 : Int), (0 : Int)⟩, ⟨(0 : Int), (0 : Int)⟩⟩⟩ : Placed))).k 1 then ⟨1, 0, ((lp_array_place_0 (a1.length : Int) a1 a0 (0 : Int) (0 : Int) (List.replicate a1.length (⟨⟨ByteArray.empty, ⟨(0 : Int), (0 : Int)⟩, ⟨(0 : Int), (0 : Int)⟩⟩, ⟨⟨(0 : Int), (0 : Int)⟩, ⟨(0 : Int), (0 : Int)⟩, ⟨(0 : Int), (0 : Int)⟩⟩⟩ : Placed))).m5)⟩ else ⟨2, 0, []⟩)) else ⟨2, 0, []⟩)) else ⟨2, 0, []⟩)

def F0_array_place (a0 : Globe) (a1 : List Site) (r : O0_array_place) : Ans := bif Nat.beq r.k 0 then some (.st .ret (headT [4, 5] 88 [.v (.c (.ptr 1 0)), .v (.c (.ptr 2 0))]) [.arr none .site a1, .cell 97 .nilS, .rw 35 [.int .i64 r.e]] 3) else bif Nat.beq r.k 1 then some (.st .normal (headT [4, 5, 8, 55] 88 [.v (.c (.ptr 1 0)), .v (.c (.ptr 2 0)), .v (.c (.ptr 3 0)), .v (.c (.fn 110 [4]))]) [.arr none .site a1, .cell 97 .nilS, .rw 35 [.int .i64 (0 : Int)], .cell 97 (.aslice 5 none), .rw 3 [.int .i64 (r.ps.length : Int)], .arr (some 102) .placed r.ps] 6) else none

set_option maxRecDepth 100000 in
theorem w0_array_place (a0 : Globe) (a1 : List Site) : evList Tryz.prog GT EQT TP XT LP 120 (splitC 5 (bodyC Tryz.prog 44)).1 (frameT [.v (.agg [.int .i64 a0.a, .int .i64 a0.b]), .v (.c (.aslice 0 none))] 86) [.arr none .site a1] 1 (placeK Tryz.prog GT EQT TP XT LP 120 (fstC (fstC (splitC 5 (bodyC Tryz.prog 44)).2)) 1 [4, 5] [4, 5, 8, 55]) =
    bif ((checkG a0) != (0 : Int)) then some (.st .ret (headT [4, 5] 88 [.v (.c (.ptr 1 0)), .v (.c (.ptr 2 0))]) [.arr none .site a1, .cell 97 .nilS, .rw 35 [.int .i64 (checkG a0)]] 3) else (bif (m_array_stations a1).ok then (bif ((m_array_stations a1).r0 != (0 : Int)) then some (.st .ret (headT [4, 5] 88 [.v (.c (.ptr 1 0)), .v (.c (.ptr 2 0))]) [.arr none .site a1, .cell 97 .nilS, .rw 35 [.int .i64 ((m_array_stations a1).r0)]] 3) else (bif (decide ((a1.length : Int) = (a1.length : Int)) && (decide (0 ≤ (a1.length : Int)) && (decide ((a1.length : Int) ≤ 1048576) && ((11 == 11) && (Nat.blt 0 11 && Nat.ble 96 4096))))) then (bif Nat.beq (lp_array_place_0 (a1.length : Int) a1 a0 (0 : Int) (0 : Int) (List.replicate a1.length (⟨⟨ByteArray.empty, ⟨(0 : Int), (0 : Int)⟩, ⟨(0 : Int), (0 : Int)⟩⟩, ⟨⟨(0 : Int), (0 : Int)⟩, ⟨(0 : Int), (0 : Int)⟩, ⟨(0 : Int), (0 : Int)⟩⟩⟩ : Placed))).k 0 then some (.st .ret (headT [4, 5] 88 [.v (.c (.ptr 1 0)), .v (.c (.ptr 2 0))]) [.arr none .site a1, .cell 97 .nilS, .rw 35 [.int .i64 ((atV a0 ((a1.getD ((lp_array_place_0 (a1.length : Int) a1 a0 (0 : Int) (0 : Int) (List.replicate a1.length (⟨⟨ByteArray.empty, ⟨(0 : Int), (0 : Int)⟩, ⟨(0 : Int), (0 : Int)⟩⟩, ⟨⟨(0 : Int), (0 : Int)⟩, ⟨(0 : Int), (0 : Int)⟩, ⟨(0 : Int), (0 : Int)⟩⟩⟩ : Placed))).p29).toNat (ET.z .site)).s) ((a1.getD ((lp_array_place_0 (a1.length : Int) a1 a0 (0 : Int) (0 : Int) (List.replicate a1.length (⟨⟨ByteArray.empty, ⟨(0 : Int), (0 : Int)⟩, ⟨(0 : Int), (0 : Int)⟩⟩, ⟨⟨(0 : Int), (0 : Int)⟩, ⟨(0 : Int), (0 : Int)⟩, ⟨(0 : Int), (0 : Int)⟩⟩⟩ : Placed))).p29).toNat (ET.z .site)).t)).2)]] 3) else (bif Nat.beq (lp_array_place_0 (a1.length : Int) a1 a0 (0 : Int) (0 : Int) (List.replicate a1.length (⟨⟨ByteArray.empty, ⟨(0 : Int), (0 : Int)⟩, ⟨(0 : Int), (0 : Int)⟩⟩, ⟨⟨(0 : Int), (0 : Int)⟩, ⟨(0 : Int), (0 : Int)⟩, ⟨(0 : Int), (0 : Int)⟩⟩⟩ : Placed))).k 1 then some (.st .normal (headT [4, 5, 8, 55] 88 [.v (.c (.ptr 1 0)), .v (.c (.ptr 2 0)), .v (.c (.ptr 3 0)), .v (.c (.fn 110 [4]))]) [.arr none .site a1, .cell 97 .nilS, .rw 35 [.int .i64 (0 : Int)], .cell 97 (.aslice 5 none), .rw 3 [.int .i64 (((lp_array_place_0 (a1.length : Int) a1 a0 (0 : Int) (0 : Int) (List.replicate a1.length (⟨⟨ByteArray.empty, ⟨(0 : Int), (0 : Int)⟩, ⟨(0 : Int), (0 : Int)⟩⟩, ⟨⟨(0 : Int), (0 : Int)⟩, ⟨(0 : Int), (0 : Int)⟩, ⟨(0 : Int), (0 : Int)⟩⟩⟩ : Placed))).m5).length : Int)], .arr (some 102) .placed ((lp_array_place_0 (a1.length : Int) a1 a0 (0 : Int) (0 : Int) (List.replicate a1.length (⟨⟨ByteArray.empty, ⟨(0 : Int), (0 : Int)⟩, ⟨(0 : Int), (0 : Int)⟩⟩, ⟨⟨(0 : Int), (0 : Int)⟩, ⟨(0 : Int), (0 : Int)⟩, ⟨(0 : Int), (0 : Int)⟩⟩⟩ : Placed))).m5)] 6) else none)) else none)) else none) := by
  kernel_rfl

set_option maxRecDepth 100000 in
theorem e0_array_place (a0 : Globe) (a1 : List Site) : evList Tryz.prog GT EQT TP XT LP 120 (splitC 5 (bodyC Tryz.prog 44)).1 (frameT [.v (.agg [.int .i64 a0.a, .int .i64 a0.b]), .v (.c (.aslice 0 none))] 86) [.arr none .site a1] 1 (placeK Tryz.prog GT EQT TP XT LP 120 (fstC (fstC (splitC 5 (bodyC Tryz.prog 44)).2)) 1 [4, 5] [4, 5, 8, 55]) = F0_array_place a0 a1 (m0_array_place a0 a1) := by
  refine (w0_array_place a0 a1).trans ?_
  unfold m0_array_place
  exact (condF rfl (condF (condF rfl (condF (condF rfl (condF rfl rfl)) rfl)) rfl))

set_option maxRecDepth 100000 in
theorem wa_array_place (a1 : List Site) (ps : List Placed) (i j : Int) : evCode Tryz.prog GT EQT TP XT noL 120 (asgC (sndC (fstC (splitC 5 (bodyC Tryz.prog 44)).2))) (tset (.v (.agg [.int .i64 i, .int .i64 j])) (headT [4, 5, 8, 55] 88 [.v (.c (.ptr 1 0)), .v (.c (.ptr 2 0)), .v (.c (.ptr 3 0)), .v (.c (.fn 110 [4]))]) 56) [.arr none .site a1, .cell 97 .nilS, .rw 35 [.int .i64 (0 : Int)], .cell 97 (.aslice 5 none), .dead, .arr (some 102) .placed ps] 6 (fun x T M N => some (.st x T M N)) =
    some (.st .normal (tset (.v (.c (.ptr 6 0))) (tset (.v (.agg [.int .i64 i, .int .i64 j])) (headT [4, 5, 8, 55] 88 [.v (.c (.ptr 1 0)), .v (.c (.ptr 2 0)), .v (.c (.ptr 3 0)), .v (.c (.fn 110 [4]))]) 56) 13) [.arr none .site a1, .cell 97 .nilS, .rw 35 [.int .i64 (0 : Int)], .cell 97 (.aslice 5 none), .dead, .arr (some 102) .placed ps, .rw 132 [.int .i64 i, .int .i64 j]] 7) := by
  kernel_rfl

set_option maxRecDepth 100000 in
theorem wb_array_place (a1 : List Site) (ps : List Placed) (i j : Int) : evCode Tryz.prog GT EQT TP XT noL 120 (bodC (sndC (fstC (splitC 5 (bodyC Tryz.prog 44)).2))) (tset (.v (.c (.ptr 6 0))) (tset (.v (.agg [.int .i64 i, .int .i64 j])) (headT [4, 5, 8, 55] 88 [.v (.c (.ptr 1 0)), .v (.c (.ptr 2 0)), .v (.c (.ptr 3 0)), .v (.c (.fn 110 [4]))]) 56) 13) [.arr none .site a1, .cell 97 .nilS, .rw 35 [.int .i64 (0 : Int)], .cell 97 (.aslice 5 none), .dead, .arr (some 102) .placed ps, .rw 132 [.int .i64 i, .int .i64 j]] 7 (cutR 6) =
    bif (decide ((0 : Int) ≤ i) && decide (i < (ps.length : Int))) then (bif (decide ((0 : Int) ≤ j) && decide (j < (ps.length : Int))) then (bif ((((ps.getD i.toNat (ET.z .placed)).site).name).data.toList == (((ps.getD j.toNat (ET.z .placed)).site).name).data.toList) then some (.st .ret ⟨0, .any, []⟩ [.arr none .site a1, .cell 97 .nilS, .rw 35 [.int .i64 (14 : Int)], .cell 97 (.aslice 5 none), .dead, .arr (some 102) .placed ps] 7) else (bif (decide ((0 : Int) ≤ i) && decide (i < (ps.length : Int))) then (bif (decide ((0 : Int) ≤ j) && decide (j < (ps.length : Int))) then (bif eqAll [.int .i64 ((((ps.getD i.toNat (ET.z .placed)).at_).x).num), .int .i64 ((((ps.getD i.toNat (ET.z .placed)).at_).x).den), .int .i64 ((((ps.getD i.toNat (ET.z .placed)).at_).y).num), .int .i64 ((((ps.getD i.toNat (ET.z .placed)).at_).y).den), .int .i64 ((((ps.getD i.toNat (ET.z .placed)).at_).z).num), .int .i64 ((((ps.getD i.toNat (ET.z .placed)).at_).z).den)] [.int .i64 ((((ps.getD j.toNat (ET.z .placed)).at_).x).num), .int .i64 ((((ps.getD j.toNat (ET.z .placed)).at_).x).den), .int .i64 ((((ps.getD j.toNat (ET.z .placed)).at_).y).num), .int .i64 ((((ps.getD j.toNat (ET.z .placed)).at_).y).den), .int .i64 ((((ps.getD j.toNat (ET.z .placed)).at_).z).num), .int .i64 ((((ps.getD j.toNat (ET.z .placed)).at_).z).den)] then some (.st .ret ⟨0, .any, []⟩ [.arr none .site a1, .cell 97 .nilS, .rw 35 [.int .i64 (14 : Int)], .cell 97 (.aslice 5 none), .dead, .arr (some 102) .placed ps] 7) else some (.st .normal ⟨0, .any, []⟩ [.arr none .site a1, .cell 97 .nilS, .rw 35 [.int .i64 (0 : Int)], .cell 97 (.aslice 5 none), .dead, .arr (some 102) .placed ps] 7)) else none) else none)) else none) else none := by
  kernel_rfl

set_option maxRecDepth 100000 in
theorem lok_array_place : ∀ fn c, Tryz.prog.funcs[44]? = some fn → fn.body = some c → LOKn Tryz.prog GT gbT 1 LP (loopsIn c) := by
  refine LOKn.ofF fun b hb => ?_
  have e : loopsF Tryz.prog 44 = [loopB Tryz.prog 44 0] := by kernel_rfl
  rw [e] at hb
  simp only [List.mem_cons, List.not_mem_nil, or_false] at hb
  subst hb
  exact (LOKbn.or k_array_place_0 (fun _ _ _ _ _ _ _ h => h.elim))


end Go.Ev

namespace Go.Proofs
open Go.RowKit Go.Shelf

attribute [local go_sem] Oper.semAt_some

abbrev PairN (n : Nat) : Type := { p : Nat × Nat // p.1 < p.2 ∧ p.2 < n }

def encP {n : Nat} (x : PairN n) : Array Value := #[.agg #[.int .i64 (x.1.1 : Int), .int .i64 (x.1.2 : Int)]]

set_option maxRecDepth 100000 in
set_option maxHeartbeats 4000000 in
theorem pairs1_in (m l bn n : Nat) (hn : n ≤ 9223372036854775807) (J Jx : List (PairN n) → World → Prop)
    (hY : ∀ pre x W, J pre W → pre.length < n * n → YieldAt Fence.wide (m - 1) Tryz.prog l (encP x) W fun e W' =>
      (e = .returned (.bool true) ∧ J (pre ++ [x]) W' ∧ W'.heap[bn]? = W.heap[bn]?) ∨ (e = .returned (.bool false) ∧ Jx (pre ++ [x]) W'))
    (W : World) (hb : W.cell? ⟨bn, 0, none⟩ = some (.int .i64 n)) (h0 : J [] W) :
    CallsIn Fence.wide m Tryz.prog 110 #[.func (.yield l) #[] #[], .pointer (some ⟨bn, 0, none⟩)] W fun e W' => (∃ v, e = .returned v) ∧
      ((∃ ys, (∀ p, p ∈ ys) ∧ J ys W') ∨ (∃ pre, True ∧ Jx pre W')) := by
  refine callsIn_of_wp Tryz.func110 rfl trivial ?_ rfl
  simp only [Tryz.ntmps110, List.size_toArray, List.length_cons, List.length_nil, Nat.reduceAdd, Nat.reduceSub, Array.replicate_succ, Array.replicate_zero, List.push_toArray, List.append_toArray, List.nil_append, List.cons_append]
  gi_wp2
  gi_loopw [6] (fun i wr => ∃ k : Nat, k ≤ n ∧ i = .int .i64 k ∧ ∃ pre, J pre wr ∧ (∀ p : PairN n, p.1.1 < k → p ∈ pre) ∧ pre.length ≤ k * n ∧ wr.heap[bn]? = W.heap[bn]?)
    (fun i _ => n - (intOf i).toNat)
  case atStart => exact ⟨0, Nat.zero_le _, rfl, [], h0, fun p hp => by omega, by simp, rfl⟩
  case round =>
    obtain ⟨k, hk, rfl, pre, hJ, hall, hlen, hbn⟩ := hrel
    by_cases hlt : k < n
    · have hbc : wr.cell? ⟨bn, 0, none⟩ = some (.int .i64 n) := (World.cell?_of_block (a := ⟨bn, 0, none⟩) hbn).trans hb
      gi_wp2
      gi_loopw [4] (fun j wq => ∃ c : Nat, k + 1 ≤ c ∧ c ≤ n ∧ j = .int .i64 c ∧ ∃ pre, J pre wq ∧ (∀ p : PairN n, p.1.1 < k → p ∈ pre) ∧ (∀ p : PairN n, p.1.1 = k → p.1.2 < c → p ∈ pre) ∧ pre.length ≤ k * n + c ∧ wq.heap[bn]? = W.heap[bn]?)
        (fun j _ => n - (intOf j).toNat)
      case atStart => exact ⟨k + 1, Nat.le_refl _, hlt, by simp, pre, hJ, hall, fun p h1 h2 => by have := p.2.1; omega, by omega, hbn⟩
      case round =>
        clear hJ hall hlen hbn hbc pre
        obtain ⟨c, hc1, hc2, rfl, pre, hJ, hall, hrow, hlen, hbn⟩ := hrel
        have hbc : wr.cell? ⟨bn, 0, none⟩ = some (.int .i64 n) := (World.cell?_of_block (a := ⟨bn, 0, none⟩) hbn).trans hb
        by_cases hlt2 : c < n
        · have hkn : k * n + n ≤ n * n := by rw [← Nat.succ_mul]; exact Nat.mul_le_mul_right n hlt
          obtain ⟨fn, tmps, assign, body, hy, hR⟩ := hY pre ⟨(k, c), by omega, hlt2⟩ wr hJ (by omega)
          simp only [encP] at hy
          gi_wp2
          refine ⟨fun h => (by cases h), hR.mono ?_⟩
          rintro e W3 (⟨rfl, hJ3, hk3⟩ | ⟨rfl, hJx3⟩)
          · gi_wp2
            go_roundw
            case rel =>
              refine ⟨c + 1, by omega, by omega, by simp, _, hJ3, fun p hp => by simp [hall p hp], fun p h1 h2 => ?_, by simp; omega, hk3.trans hbn⟩
              by_cases h3 : p.1.2 < c
              · simp [hrow p h1 h3]
              · have : p = ⟨(k, c), by omega, hlt2⟩ := Subtype.ext (Prod.ext h1 (show p.1.2 = c by omega))
                simp [this]
            case measure => simp [intOf]; omega
          · gi_wp2
            refine bodyPost_ret (results_none rfl _ _ _) rfl ?_
            exact ⟨⟨_, rfl⟩, .inr ⟨_, trivial, hJx3⟩⟩
        · obtain rfl : c = n := by omega
          gi_wp2
          go_roundw
          case rel =>
            refine ⟨k + 1, by omega, by simp, pre, hJ, fun p hp => ?_, by rw [Nat.succ_mul]; exact hlen, hbn⟩
            by_cases h3 : p.1.1 < k
            · exact hall p h3
            · exact hrow p (by omega) p.2.2
          case measure => simp [intOf]; omega
    · obtain rfl : k = n := by omega
      gi_wp2
      go_end0
      exact ⟨⟨_, rfl⟩, .inl ⟨pre, fun p => hall p (by have := p.2; omega), hJ⟩⟩

end Go.Proofs

namespace Go.Ev
open Go Go.Proofs Go.RowKit

def dupAt (ps : List Placed) (i j : Nat) : Bool :=
  bif ((ps.getD i (ET.z .placed)).site.name.data.toList == (ps.getD j (ET.z .placed)).site.name.data.toList) then true else
    eqAll [.int .i64 (ps.getD i (ET.z .placed)).at_.x.num, .int .i64 (ps.getD i (ET.z .placed)).at_.x.den, .int .i64 (ps.getD i (ET.z .placed)).at_.y.num, .int .i64 (ps.getD i (ET.z .placed)).at_.y.den, .int .i64 (ps.getD i (ET.z .placed)).at_.z.num, .int .i64 (ps.getD i (ET.z .placed)).at_.z.den]
      [.int .i64 (ps.getD j (ET.z .placed)).at_.x.num, .int .i64 (ps.getD j (ET.z .placed)).at_.x.den, .int .i64 (ps.getD j (ET.z .placed)).at_.y.num, .int .i64 (ps.getD j (ET.z .placed)).at_.y.den, .int .i64 (ps.getD j (ET.z .placed)).at_.z.num, .int .i64 (ps.getD j (ET.z .placed)).at_.z.den]

def dupP (ps : List Placed) : Bool := (List.range ps.length).any fun j => (List.range j).any fun i => dupAt ps i j

theorem dupP_true {ps : List Placed} {i j : Nat} (h1 : i < j) (h2 : j < ps.length) (h : dupAt ps i j = true) : dupP ps = true := by
  unfold dupP
  rw [List.any_eq_true]
  exact ⟨j, List.mem_range.2 h2, List.any_eq_true.2 ⟨i, List.mem_range.2 h1, h⟩⟩

theorem dupP_false {ps : List Placed} (h : ∀ i j, i < j → j < ps.length → dupAt ps i j = false) : dupP ps = false := by
  unfold dupP
  rw [List.any_eq_false]
  intro j hj
  rw [List.any_eq_true]
  rintro ⟨i, hi, he⟩
  rw [h i j (List.mem_range.1 hi) (List.mem_range.1 hj)] at he
  cases he

structure O_array_place where
  ok : Bool
  r0 : List Placed
  r1 : Int

def m_array_place (a0 : Globe) (a1 : List Site) : O_array_place :=
  bif Nat.beq (m0_array_place a0 a1).k 0 then ⟨true, [], (m0_array_place a0 a1).e⟩
  else bif Nat.beq (m0_array_place a0 a1).k 1 then (bif dupP (m0_array_place a0 a1).ps then ⟨true, [], 14⟩ else ⟨true, (m0_array_place a0 a1).ps, 0⟩)
  else ⟨false, [], 0⟩

theorem round_eval (l : List Site) (ps : List Placed) (i j : Nat) (hi : i < j) (hj : j < ps.length) :
    evCode Tryz.prog GT EQT TP XT noL 120 (bodC (sndC (fstC (splitC 5 (bodyC Tryz.prog 44)).2))) (tset (.v (.c (.ptr 6 0))) (tset (.v (.agg [.int .i64 i, .int .i64 j])) (headT [4, 5, 8, 55] 88 [.v (.c (.ptr 1 0)), .v (.c (.ptr 2 0)), .v (.c (.ptr 3 0)), .v (.c (.fn 110 [4]))]) 56) 13) [.arr none .site l, .cell 97 .nilS, .rw 35 [.int .i64 (0 : Int)], .cell 97 (.aslice 5 none), .dead, .arr (some 102) .placed ps, .rw 132 [.int .i64 i, .int .i64 j]] 7 (cutR 6) =
    bif dupAt ps i j then some (.st .ret ⟨0, .any, []⟩ [.arr none .site l, .cell 97 .nilS, .rw 35 [.int .i64 (14 : Int)], .cell 97 (.aslice 5 none), .dead, .arr (some 102) .placed ps] 7)
    else some (.st .normal ⟨0, .any, []⟩ [.arr none .site l, .cell 97 .nilS, .rw 35 [.int .i64 (0 : Int)], .cell 97 (.aslice 5 none), .dead, .arr (some 102) .placed ps] 7) := by
  refine (wb_array_place l ps i j).trans ?_
  unfold dupAt
  simp only [nn_t, lt_t (show i < ps.length by omega), lt_t hj, Bool.and_self, cond_true, Int.toNat_natCast]
  cases ((ps.getD i (ET.z .placed)).site.name.data.toList == (ps.getD j (ET.z .placed)).site.name.data.toList) <;> rfl

set_option maxRecDepth 100000 in
theorem tail_eval (l : List Site) (ps : List Placed) : evCode Tryz.prog GT EQT TP XT noL 20 (fstC (sndC (splitC 5 (bodyC Tryz.prog 44)).2)) (headT [4, 5, 8, 55] 88 [.v (.c (.ptr 1 0)), .v (.c (.ptr 2 0)), .v (.c (.ptr 3 0)), .v (.c (.fn 110 [4]))])
      [.arr none .site l, .cell 97 .nilS, .rw 35 [.int .i64 (0 : Int)], .cell 97 (.aslice 5 none), .dead, .arr (some 102) .placed ps] 6 (fun x T M N => some (.st x T M N)) =
    some (.st .normal (tset (.v (.c (.aslice 5 none))) (headT [4, 5, 8, 55] 88 [.v (.c (.ptr 1 0)), .v (.c (.ptr 2 0)), .v (.c (.ptr 3 0)), .v (.c (.fn 110 [4]))]) 87)
      [.arr none .site l, .cell 97 (.aslice 5 none), .rw 35 [.int .i64 (0 : Int)], .cell 97 (.aslice 5 none), .dead, .arr (some 102) .placed ps] 6) := by
  kernel_rfl

theorem shape_place : (splitC 5 (bodyC Tryz.prog 44)).2 = .seq (.seq (fstC (fstC (splitC 5 (bodyC Tryz.prog 44)).2)) (.block 2 (.rangeFunc (.tmp 55) #[56] (asgC (sndC (fstC (splitC 5 (bodyC Tryz.prog 44)).2))) (bodC (sndC (fstC (splitC 5 (bodyC Tryz.prog 44)).2)))))) (.seq (fstC (sndC (splitC 5 (bodyC Tryz.prog 44)).2)) .ret) := by kernel_rfl

theorem none_result {P : Program} {wA w : World} {W : Nat → Prop} {σ τ : Sg} {T : TS} {M : List Blk} {a : Act} {l : List Site} {e : Int} {fn : Func} {n0 : Nat} (ty : Nat) (hn0 : n0 = 1) (hfr : ∀ b, n0 ≤ b → σ b = none) (hle : leB n0 σ τ) (hT : TRel τ T a) (hM : MRel wA W τ M w) (hm0 : mget M 0 = .arr none .site l)
    (hr : resDs P T M fn.results.toList = some [.c .nilS, .c (.d (.int .i64 e))]) : ∃ v, (results fn a.tmps).run P w = .ok v w ∧ ∃ υ, σ.le υ ∧ AVRel υ (.tup [.c (.aslice 1 none), .c (.d (.int .i64 e))]) v ∧ MRel wA W υ [.arr none .site l, .arr (some ty) .placed []] w := by
  subst hn0
  obtain ⟨v, h1, h2⟩ := results_rel hT hM hr
  refine ⟨v, h1, fun c => if c = 0 then τ 0 else if c = 1 then some ⟨0, 0, 0, true, 0, ET.len .placed⟩ else none, fun b L hL => ?_, ?_, ?_⟩
  · have hb : b < 1 := by
      rcases Nat.lt_or_ge b 1 with h | h
      · exact h
      · rw [hfr b h] at hL; cases hL
    obtain rfl : b = 0 := by omega
    exact hle 0 L hb hL
  · obtain ⟨vs, e1, e2⟩ := h2
    refine ⟨vs, e1, ?_⟩
    cases hv : vs.toList with
    | nil => rw [hv] at e2; exact e2.elim
    | cons v1 r =>
      rw [hv] at e2
      obtain ⟨k1, k2⟩ := e2
      refine ⟨⟨_, rfl, .inl ⟨rfl, k1⟩⟩, ?_⟩
      cases r with
      | nil => exact k2.elim
      | cons v2 s =>
        obtain ⟨k3, k4⟩ := k2
        refine ⟨k3, ?_⟩
        cases s with
        | nil => trivial
        | cons _ _ => exact k4.elim
  · refine ⟨fun b => ?_, fun b _ _ _ _ hb => ?_, fun b _ hb => ?_, hM.kept⟩
    · match b with
      | 0 =>
        have := hM.blk 0
        rw [hm0] at this
        obtain ⟨L, h3, h4⟩ := this
        exact ⟨L, h3, h4⟩
      | 1 => exact ⟨_, rfl, rfl, rfl, by simp [ET.flat], rfl, rfl, .inl rfl⟩
      | _ + 2 => trivial
    · match b with
      | 0 => cases l <;> cases hb
      | 1 => cases hb
      | _ + 2 => cases hb
    · match b with
      | 0 => cases l <;> cases hb
      | 1 => cases hb
      | _ + 2 => cases hb

theorem some_result {P : Program} {wA w : World} {W : Nat → Prop} {σ τ : Sg} {T : TS} {M : List Blk} {a : Act} {l : List Site} {ps : List Placed} {e : Int} {fn : Func} {n0 b5 : Nat} (ty : Nat) (hn0 : n0 = 1) (hb5 : 1 ≤ b5) (hfr : ∀ b, n0 ≤ b → σ b = none) (hle : leB n0 σ τ) (hT : TRel τ T a) (hM : MRel wA W τ M w) (hm0 : mget M 0 = .arr none .site l) (hm5 : mget M b5 = .arr (some ty) .placed ps)
    (hr : resDs P T M fn.results.toList = some [.c (.aslice b5 none), .c (.d (.int .i64 e))]) : ∃ v, (results fn a.tmps).run P w = .ok v w ∧ ∃ υ, σ.le υ ∧ AVRel υ (.tup [.c (.aslice 1 none), .c (.d (.int .i64 e))]) v ∧ MRel wA W υ [.arr none .site l, .arr (some ty) .placed ps] w := by
  subst hn0
  obtain ⟨v, h1, h2⟩ := results_rel hT hM hr
  refine ⟨v, h1, _, fun b L hL => ?_, ?_, hM.ren (N' := 2) (fun c => if c = 1 then b5 else c) (fun c => ?_) (fun c c' h1 h2 h3 => ?_)⟩
  · have hb : b < 1 := by
      rcases Nat.lt_or_ge b 1 with h | h
      · exact h
      · rw [hfr b h] at hL; cases hL
    obtain rfl : b = 0 := by omega
    exact hle 0 L hb hL
  · have : AVRel τ (renA (fun c => if c = 1 then b5 else c) (.tup [.c (.aslice 1 none), .c (.d (.int .i64 e))])) v := h2
    refine AVRel.ren (fun b hb => ?_) this
    simp [refsX, refsV, refsC] at hb
    subst hb
    rfl
  · match c with
    | 0 => exact .inr ⟨hm0, by omega, fun b hb => by cases hb⟩
    | 1 => exact .inr ⟨hm5, by omega, fun b hb => by cases hb⟩
    | _ + 2 => exact .inl rfl
  · split at h3 <;> split at h3 <;> omega

set_option maxRecDepth 100000 in
set_option maxHeartbeats 1000000 in
theorem place_calls (g : Globe) (l : List Site) (hok : (m_array_place g l).ok = true) :
    CallsA Tryz.prog GT gbT 44 [.v (.agg [.int .i64 g.a, .int .i64 g.b]), .v (.c (.aslice 0 none))] [.arr none .site l] (.tup [.c (.aslice 1 none), .c (.d (.int .i64 (m_array_place g l).r1))]) [.arr none .site l, .arr (some 102) .placed (m_array_place g l).r0] := by
  intro σ w args hargs hM hG hfr
  have hbody : Tryz.f44.body = some (bodyC Tryz.prog 44) := by kernel_rfl
  have hE := e0_array_place g l
  have hL : ∀ c ∈ (splitC 5 (bodyC Tryz.prog 44)).1, LOKn Tryz.prog GT gbT 1 LP (loopsIn c) := fun c hc b hb => lok_array_place _ _ Tryz.func44 hbody b (splitC_loops _ _ _ hc b hb)
  have hLc : LOKn Tryz.prog GT gbT 1 LP (loopsIn (fstC (fstC (splitC 5 (bodyC Tryz.prog 44)).2))) := by
    have : loopsIn (fstC (fstC (splitC 5 (bodyC Tryz.prog 44)).2)) = [] := by kernel_rfl
    rw [this]
    intro b hb
    cases hb
  have hlen := hargs.length
  have hT0 : TRel σ (frameT [.v (.agg [.int .i64 g.a, .int .i64 g.b]), .v (.c (.aslice 0 none))] 86) { tmps := args ++ Array.replicate (Tryz.f44.ntmps - args.size) undef, defers := [] } := by
    refine ⟨?_, fun t => ?_, rfl⟩
    · have : Tryz.f44.ntmps = 88 := by kernel_rfl
      simp [frameT, TS.length, this] at hlen ⊢
      omega
    · have := enter_rel 86 hargs t
      rw [frame_get]
      rw [Array.getD_eq_getD_getElem?]
      rw [List.getD_eq_getElem?_getD] at this
      rw [← Array.getElem?_toList, Array.toList_append, Array.toList_replicate]
      have e : Tryz.f44.ntmps - args.size = 86 := by
        have : Tryz.f44.ntmps = 88 := by kernel_rfl
        simp at hlen
        omega
      rw [e]
      exact this
  refine callsIn_wide.1 (callsIn_of_wp_marks (n := 10) Tryz.func44 hbody trivial ?_ rfl)
  rw [wpIn_wide]
  rw [← splitC_eq 5 (bodyC Tryz.prog 44), shape_place]
  unfold m_array_place at hok ⊢
  unfold F0_array_place at hE
  cases hk0 : Nat.beq (m0_array_place g l).k 0 with
  | true =>
    rw [hk0] at hE
    simp only [cond_true] at hE ⊢
    refine place_pre hEQT hmT gP hL hLc hE _ _ w (Wof σ [.arr none .site l]) σ _ w _ hG hT0 hM hfr fun τ a' w' hle hT' hM' hN' => ?_
    show LeavesInM _ _ _ _ _ _ a'.defers _ _
    rw [hT'.df]
    obtain ⟨v, hv1, υ, hv2, hv3, hv4⟩ := none_result (P := Tryz.prog) (fn := Tryz.f44) 102 rfl hfr hle hT' hM' rfl (by kernel_rfl)
    exact ⟨v, hv1, v, υ, rfl, hv2, hv3, hv4⟩
  | false =>
    rw [hk0] at hE hok
    simp only [cond_false] at hE hok ⊢
    cases hk1 : Nat.beq (m0_array_place g l).k 1 with
    | false => rw [hk1] at hok; cases hok
    | true =>
    rw [hk1] at hE
    simp only [cond_true] at hE ⊢
    generalize (m0_array_place g l).ps = ps at hE ⊢
    refine place_pre hEQT hmT gP hL hLc hE _ _ w (Wof σ [.arr none .site l]) σ _ w _ hG hT0 hM hfr fun τ a' w' hle hT' hM' hN' => ?_
    -- what lies in memory
    obtain ⟨Mr, hMrd⟩ : ∃ Mr : List Blk, Mr = [.arr none .site l, .cell 97 .nilS, .rw 35 [.int .i64 (0 : Int)], .cell 97 (.aslice 5 none), .dead, .arr (some 102) .placed ps] := ⟨_, rfl⟩
    have d0 : ∃ L, τ 0 = some L := by obtain ⟨L, h, _⟩ := hM'.blk 0; exact ⟨L, h⟩
    have d1 : ∃ L, τ 1 = some L := by obtain ⟨L, _, h, _⟩ := hM'.blk 1; exact ⟨L, h⟩
    have d2 : ∃ L, τ 2 = some L := by obtain ⟨L, _, h, _⟩ := hM'.blk 2; exact ⟨L, h⟩
    have d3 : ∃ L, τ 3 = some L := by obtain ⟨L, _, h, _⟩ := hM'.blk 3; exact ⟨L, h⟩
    have d5 : ∃ L, τ 5 = some L := by obtain ⟨L, h, _⟩ := hM'.blk 5; exact ⟨L, h⟩
    have hn : ps.length ≤ 9223372036854775807 := by
      obtain ⟨_, _, _, _, _, _, _, L5, h1, h2⟩ := hM'.blk 3
      obtain ⟨L5', h3, h4, _⟩ := hM'.blk 5
      rw [h1] at h3
      cases h3
      rcases h2 with ⟨h2, _⟩ | ⟨_, _, _, h2, _⟩
      · omega
      · simp only [maxLen] at h2; omega
    obtain ⟨L4, cur4, q1, q2, q3, q4, q5, q6, q7⟩ := hM'.blk 4
    obtain ⟨bn, hbn⟩ : ∃ bn, L4.blk = bn := ⟨_, rfl⟩
    rw [hbn] at q4
    have hbnlt : bn < w'.heap.size := (Array.getElem?_eq_some_iff.1 q4).1
    have hbncell : w'.cell? ⟨bn, 0, none⟩ = some (.int .i64 (ps.length : Int)) := by
      rw [cell_of_heap q4]
      have : (cur4.toList.take 1)[0]? = ([D.int .i64 (ps.length : Int)].map D.val)[0]? := by rw [← q7]; rfl
      simpa [D.val] using this
    have hMr : MRel w (Wof σ [.arr none .site l]) τ Mr w' := hM'.congr fun b => by
      rw [hMrd]
      match b with
      | 0 | 1 | 2 | 3 | 5 => exact .inl rfl
      | 4 => exact .inr rfl
      | _ + 6 => exact .inl rfl
    have notbn : ¬ Wof τ Mr bn := by
      rintro ⟨b, L, hw, hL, e⟩
      rw [hMrd] at hw
      refine hM'.sep b 4 L L4 ?_ ?_ rfl hL q1 (by rw [e, hbn])
      · rintro rfl; cases hw
      · match b with
        | 0 | 1 | 2 | 3 | 5 => exact hw
        | 4 => cases hw
        | _ + 6 => exact hw
    have dom : ∀ b, mget Mr b = .dead ∨ ((∃ L, τ b = some L) ∧ ∀ r ∈ refsB (mget Mr b), ∃ L, τ r = some L) := by
      intro b
      rw [hMrd]
      match b with
      | 0 => exact .inr ⟨d0, fun r hr => by cases hr⟩
      | 1 => exact .inr ⟨d1, fun r hr => by cases hr⟩
      | 2 => exact .inr ⟨d2, fun r hr => by cases hr⟩
      | 3 => exact .inr ⟨d3, fun r hr => by simp [mget, gets, refsB, refsC] at hr; subst hr; exact d5⟩
      | 4 => exact .inl rfl
      | 5 => exact .inr ⟨d5, fun r hr => by cases hr⟩
      | _ + 6 => exact .inl rfl
    have domx : ∀ b, mget ([.arr none .site l, .cell 97 .nilS, .rw 35 [.int .i64 (14 : Int)]] : List Blk) b = .dead ∨ ((∃ L, τ b = some L) ∧ ∀ r ∈ refsB (mget ([.arr none .site l, .cell 97 .nilS, .rw 35 [.int .i64 (14 : Int)]] : List Blk) b), ∃ L, τ r = some L) := by
      intro b
      match b with
      | 0 => exact .inr ⟨d0, fun r hr => by cases hr⟩
      | 1 => exact .inr ⟨d1, fun r hr => by cases hr⟩
      | 2 => exact .inr ⟨d2, fun r hr => by cases hr⟩
      | _ + 3 => exact .inl rfl
    -- the function that is ranged over
    obtain ⟨vs, hvs, hvp⟩ := hT'.val 55
    have hvl : vs = #[.pointer (some ⟨bn, 0, none⟩)] := by
      cases hv : vs.toList with
      | nil => rw [hv] at hvp; exact hvp.elim
      | cons v1 r =>
        rw [hv] at hvp
        obtain ⟨⟨L, k1, k2⟩, k3⟩ := hvp
        rw [q1] at k1
        cases k1
        cases r with
        | nil => apply Array.ext'; rw [hv, k2, q2, hbn]
        | cons _ _ => exact k3.elim
    have hg : a'.eval (.tmp 55) = .func (.func 110) #[] #[.pointer (some ⟨bn, 0, none⟩)] := by
      rw [← hvl]
      exact hvs
    have hseq : SeqStopsK Fence.wide (10 - 1) Tryz.prog 110 #[.pointer (some ⟨bn, 0, none⟩)] (encP (n := ps.length)) (fun X Y => Y.heap[bn]? = X.heap[bn]?) (fun ys => ∀ p, p ∈ ys) (fun _ => True) (ps.length * ps.length) w' :=
      fun lp J Jx W hW _ _ hY h0 => pairs1_in 9 lp bn ps.length hn J Jx hY W ((hW.cell (p := ⟨bn, 0, none⟩) hbnlt).trans hbncell) h0
    have hG' : ∀ {τ' : Sg} {M'' : List Blk} {X : World}, MRel w (Wof σ [.arr none .site l]) τ' M'' X → Glob GT gbT (Wof τ' M'') X := fun h => hG.rebase h
    have hwB : w.heap.size ≤ w'.heap.size := hM'.kept.size
    have stay : ∀ {τ' : Sg} {M'' : List Blk} {X Y : World}, X.heap[bn]? = w'.heap[bn]? → ¬ Wof τ' M'' bn → Kept (Wof τ' M'') X Y → Y.heap[bn]? = X.heap[bn]? := fun h1 h2 h3 =>
      h3.block bn (Array.getElem?_eq_some_iff.1 (h1.trans q4)).1 h2
    refine wp_block (wpIn_wide.1 (wpIn_rangeFunc_ownH (n := 10) (α := PairN ps.length) rfl (by decide) hg trivial (fun args w => Tryz.call110 args w) hseq (fun h k => k.trans h)
      (fun W lp o o' hl _ _ _ => World.putObj_heap_other (by omega)) (Below.refl _ _) (fun _ => rfl)
      (fun pre W => (∀ p ∈ pre, dupAt ps p.1.1 p.1.2 = false) ∧ MRel w (Wof σ [.arr none .site l]) τ Mr W ∧ W.heap[bn]? = w'.heap[bn]?)
      (fun c pre W => c = .ret ∧ (∃ p ∈ pre, dupAt ps p.1.1 p.1.2 = true) ∧ MRel w (Wof σ [.arr none .site l]) τ [.arr none .site l, .cell 97 .nilS, .rw 35 [.int .i64 (14 : Int)]] W)
      ?hI ?hIx ⟨fun p hp => (by cases hp), hMr, rfl⟩
      (fun x a2 W => ∃ υ, τ.le υ ∧ TRel υ (tset (.v (.c (.ptr 6 0))) (tset (.v (.agg [.int .i64 (x.1.1 : Int), .int .i64 (x.1.2 : Int)])) (headT [4, 5, 8, 55] 88 [.v (.c (.ptr 1 0)), .v (.c (.ptr 2 0)), .v (.c (.ptr 3 0)), .v (.c (.fn 110 [4]))]) 56) 13) a2 ∧ MRel w (Wof σ [.arr none .site l]) υ (Mr ++ [.rw 132 [.int .i64 (x.1.1 : Int), .int .i64 (x.1.2 : Int)]]) W ∧ (∀ b, 7 ≤ b → υ b = none) ∧ ¬ Wof υ (Mr ++ [.rw 132 [.int .i64 (x.1.1 : Int), .int .i64 (x.1.2 : Int)]]) bn)
      ?hAx ?asg ?bod ?done ?stop))
    case hI =>
      rintro pre X Y row ⟨h1, h2, h3⟩ hg' hr
      refine ⟨h1, h2.grown hg' fun r e => ⟨Nat.le_trans hwB (hr r e).1, (hr r e).2⟩, (hg'.block bn ?_ fun e => ?_).trans h3⟩
      · rw [q4] at h3; exact (Array.getElem?_eq_some_iff.1 h3).1
      · have := (hr bn e.symm).1; omega
    case hIx =>
      rintro c pre X Y row ⟨h1, h2, h3⟩ hg' hr
      exact ⟨h1, h2, h3.grown hg' fun r e => ⟨Nat.le_trans hwB (hr r e).1, (hr r e).2⟩⟩
    case hAx =>
      rintro x a2 _ X Y row ⟨υ, h1, h2, h3, h4⟩ hg' hr
      exact ⟨υ, h1, h2, h3.grown hg' fun r e => ⟨Nat.le_trans hwB (hr r e).1, (hr r e).2⟩, h4⟩
    case asg =>
      rintro lp pre x W K ⟨h1, h2, h3⟩ hK
      have hwa := wa_array_place l ps (x.1.1 : Int) (x.1.2 : Int)
      rw [← hMrd] at hwa
      have hcr := CodeR.ofEv (b := asgC (sndC (fstC (splitC 5 (bodyC Tryz.prog 44)).2))) gP hEQT hmT (by kernel_rfl) hwa
      have hT1 := hT'.put (some 56) (x := .v (.agg [.int .i64 (x.1.1 : Int), .int .i64 (x.1.2 : Int)])) (v := .agg #[.int .i64 (x.1.1 : Int), .int .i64 (x.1.2 : Int)]) ⟨rfl, by
        have hx1 := x.2.1
        have hx2 := x.2.2
        intro d hd
        simp only [List.mem_cons, List.not_mem_nil, or_false] at hd
        rcases hd with rfl | rfl <;> simp only [D.ok, inR, Bool.and_eq_true, decide_eq_true_eq] <;> omega⟩
      have hact : (a'.put (some 56) (.agg #[.int .i64 (x.1.1 : Int), .int .i64 (x.1.2 : Int)])) = { tmps := ((#[56] : Array Tmp).zip (encP x)).foldl (fun t (p, v) => t.setIfInBounds p v) a'.tmps, defers := [] } := by
        simp [Act.put, encP, hT'.df]
      rw [hact] at hT1
      refine hcr lp _ W (Wof τ Mr) τ _ W _ (fun ⟨_, _, h⟩ => h) (hG' h2) hT1 h2.rebase ?_ fun υ a2 W2 hle2 hT2 hM2 hN2 => ?_
      · intro b hb
        exact hN' b hb
      · have hkept := hM2.kept
        have hsince := h2.since hM2
        have hbn2 := stay h3 notbn hkept
        have hap : Mr ++ [.rw 132 [.int .i64 (x.1.1 : Int), .int .i64 (x.1.2 : Int)]] = [.arr none .site l, .cell 97 .nilS, .rw 35 [.int .i64 (0 : Int)], .cell 97 (.aslice 5 none), .dead, .arr (some 102) .placed ps, .rw 132 [.int .i64 (x.1.1 : Int), .int .i64 (x.1.2 : Int)]] := by rw [hMrd]; rfl
        have hnot : ¬ Wof υ (Mr ++ [.rw 132 [.int .i64 (x.1.1 : Int), .int .i64 (x.1.2 : Int)]]) bn := by
          rintro ⟨b, L, hw, hL, e⟩
          rcases hM2.own b L (by rw [hap] at hw; exact hw) hL with h5 | h5
          · exact notbn (e ▸ h5)
          · have hlt : bn < W.heap.size := (Array.getElem?_eq_some_iff.1 (h3.trans q4)).1
            omega
        refine hK a2 W2 (Kept.keepsFrom h2.rebase hkept _) hbn2 ⟨h1, ?_, hbn2.trans h3⟩ ⟨υ, hle2, hT2, ?_, hN2, hnot⟩
        · refine MRel.under hle2 (hsince.congr fun b => ?_) dom
          rw [hMrd]
          match b with
          | 0 | 1 | 2 | 3 | 5 => exact .inl rfl
          | 4 => exact .inl rfl
          | 6 => exact .inr rfl
          | _ + 7 => exact .inl rfl
        · rw [hap]
          exact hsince
    case bod =>
      rintro lp pre x a2 W hlp _ ⟨h1, h2, h3⟩ ⟨υ, k1, k2, k3, k4, k5⟩ _
      have hev := round_eval l ps x.1.1 x.1.2 x.2.1 x.2.2
      have hap : Mr ++ [.rw 132 [.int .i64 (x.1.1 : Int), .int .i64 (x.1.2 : Int)]] = [.arr none .site l, .cell 97 .nilS, .rw 35 [.int .i64 (0 : Int)], .cell 97 (.aslice 5 none), .dead, .arr (some 102) .placed ps, .rw 132 [.int .i64 (x.1.1 : Int), .int .i64 (x.1.2 : Int)]] := by rw [hMrd]; rfl
      rw [hap] at k3 k5
      cases hdup : dupAt ps x.1.1 x.1.2 with
      | false =>
        rw [hdup] at hev
        obtain ⟨T2, M2, hc, hcr⟩ := CodeR.ofCut (b := bodC (sndC (fstC (splitC 5 (bodyC Tryz.prog 44)).2))) gP hEQT hmT (by kernel_rfl) hev
        refine hcr lp _ W _ υ a2 W _ (fun ⟨_, _, h⟩ => h) (hG' k3) k2 k3.rebase k4 fun ω a3 W3 hle3 _ hM3 _ => ?_
        have hbn3 := stay h3 k5 hM3.kept
        refine ⟨Kept.keepsFrom k3.rebase hM3.kept _, hbn3, fun p hp => ?_, ?_, hbn3.trans h3⟩
        · rcases List.mem_append.1 hp with hp | hp
          · exact h1 p hp
          · rw [List.mem_singleton.1 hp]; exact hdup
        · refine MRel.under (Sg.le_trans k1 hle3) ((k3.since hM3).congr fun b => ?_) dom
          rw [hMrd]
          exact hc b
      | true =>
        rw [hdup] at hev
        obtain ⟨T2, M2, hc, hcr⟩ := CodeR.ofCut (b := bodC (sndC (fstC (splitC 5 (bodyC Tryz.prog 44)).2))) gP hEQT hmT (by kernel_rfl) hev
        refine hcr lp _ W _ υ a2 W _ (fun ⟨_, _, h⟩ => h) (hG' k3) k2 k3.rebase k4 fun ω a3 W3 hle3 _ hM3 _ => ?_
        refine ⟨Kept.keepsFrom k3.rebase hM3.kept _, rfl, ⟨x, by simp, hdup⟩, ?_⟩
        refine MRel.under (Sg.le_trans k1 hle3) ((k3.since hM3).congr fun b => ?_) domx
        match b with
        | 0 => exact hc 0
        | 1 => exact hc 1
        | 2 => exact hc 2
        | _ + 3 => exact .inr rfl
    case done =>
      rintro D xs W hD hS ⟨h1, h2, h3⟩ hKd
      rw [dupP_false fun i j hi hj => h1 ⟨(i, j), hi, hj⟩ (hS _)]
      show (Code.seq _ .ret).wp _ _ _ _
      have hreg : ∃ id ops, fstC (sndC (splitC 5 (bodyC Tryz.prog 44)).2) = .region id ops false ∧ (ops.toList.all fun o => plainOp o.op) = true := by
        refine ⟨20, _, (by kernel_rfl : fstC (sndC (splitC 5 (bodyC Tryz.prog 44)).2) = .region 20 (opsC (fstC (sndC (splitC 5 (bodyC Tryz.prog 44)).2))) false), by kernel_rfl⟩
      obtain ⟨id, ops, hr1, hr2⟩ := hreg
      have hte := tail_eval l ps
      rw [← hMrd] at hte
      rw [hr1] at hte ⊢
      rw [hT'.df]
      have hnl : ¬ LetsOut (bodyPostM Fence.wide 10 Tryz.prog Tryz.f44 fun e w'_1 => ∃ v' τ, e = .returned v' ∧ σ.le τ ∧ AVRel τ (.tup [.c (.aslice 1 none), .c (.d (.int .i64 (0 : Int)))]) v' ∧ MRel w (Wof σ [.arr none .site l]) τ [.arr none .site l, .arr (some 102) .placed ps] w'_1) := by
        rintro ⟨_, _, _, _, h, _⟩
        cases h
      have hdf : ({ a' with defers := [{ target := .collected D, args := #[] }] } : Act) = { a' with defers := [{ target := .collected D, args := #[] }] } := rfl
      refine wp_seq (region_defers hEQT gP hr2 hte W (Wof τ Mr) τ a' W _ _ (then_out hnl) (hG' h2) hT' h2.rebase hN' fun υ a2 W2 hle2 hT2 hM2 => ?_)
      refine wp_ret ?_
      show LeavesInM _ _ _ _ _ _ [_] _ _
      have hD2 : W2.heap[D]? = some (.deferred (some [])) := by
        have hlt : D < W.heap.size := (Array.getElem?_eq_some_iff.1 hKd).1
        refine (hM2.kept.block D hlt ?_).trans hKd
        rintro ⟨b, L, hw, hL, e⟩
        obtain ⟨cur, t, fr, h5⟩ := (h2.blk b).cellsAt (wr_live hw) hL
        rw [e, hKd] at h5
        cases h5
      refine ⟨by simp, .inl ⟨D, _, rfl, run_takeDeferred hD2, ?_⟩⟩
      have h4 := (h2.since hM2).grown (grownBy_putObj' W2 D (.deferred none)) fun r e => by cases e; exact ⟨Nat.le_trans hwB hD, _, hD2, rfl⟩
      obtain ⟨v, hv1, υ', hv2, hv3, hv4⟩ := some_result (P := Tryz.prog) (fn := Tryz.f44) 102 rfl (by decide) hfr (fun b L hb hL => hle2 b L (hle b L hb hL)) hT2 h4 rfl rfl (b5 := 5) (by kernel_rfl)
      exact ⟨v, hv1, v, υ', rfl, hv2, hv3, hv4⟩
    case stop =>
      rintro D c pre W hD _ ⟨rfl, ⟨p, _, hp⟩, h3⟩ hKd
      refine wpIn_ret ?_
      show LeavesInM _ _ _ _ _ _ (_ :: a'.defers) _ _
      rw [hT'.df, dupP_true p.2.1 p.2.2 hp]
      refine ⟨by simp, .inl ⟨D, _, rfl, run_takeDeferred hKd, ?_⟩⟩
      have h4 := h3.grown (grownBy_putObj' W D (.deferred none)) fun r e => by cases e; exact ⟨Nat.le_trans hwB hD, _, hKd, rfl⟩
      obtain ⟨v, hv1, υ, hv2, hv3, hv4⟩ := none_result (P := Tryz.prog) (fn := Tryz.f44) 102 rfl hfr hle hT' h4 rfl (by kernel_rfl)
      exact ⟨v, hv1, v, υ, rfl, hv2, hv3, hv4⟩

def s_array_place : List AV → List Blk → (AV → List Blk → Ans) → Ans := fun xs bs K => match xs, bs with
  | [.v (.agg [.int .i64 a0_0, .int .i64 a0_1]), .v (.c (.aslice 0 none))], [.arr none .site a1] => bif (m_array_place (⟨a0_0, a0_1⟩ : Globe) a1).ok then K (.tup [.c (.aslice 1 none), .c (.d (.int .i64 (m_array_place (⟨a0_0, a0_1⟩ : Globe) a1).r1))]) [.arr none .site a1, .arr (some 102) .placed (m_array_place (⟨a0_0, a0_1⟩ : Globe) a1).r0] else none
  | _, _ => none

def T_array_place : Nat → List AV → List Blk → (AV → List Blk → Ans) → Ans := upd TP 44 s_array_place

theorem g_array_place : GOK Tryz.prog GT gbT T_array_place XT := by
  refine GOK.upd gP (fun args w => Tryz.call44 args w) fun xs bs K r h => ?_
  unfold s_array_place at h
  split at h
  · simp only [cond_eq_ite] at h
    split at h
    · rename_i hd
      exact ⟨_, _, place_calls _ _ hd, h⟩
    · cases h
  · cases h

end Go.Ev

