/-
  Contracts of functions: what each returns. No condition beyond those of the statements.
-/
import Derived.Test.YtifoghbobjlcfaaGreatPkK7
set_option maxRecDepth 100000
namespace Go.Ev
open Go Go.Proofs
theorem w_Q1_below (a b c d e f g h : Int) (K : AV → List Blk → Ans) : evFn Tryz.prog GT EQT T_Q1_Product XT noL 80 49 [.v (.agg [.int .u64 a, .int .u64 b, .int .u64 c, .int .u64 d]), .v (.agg [.int .u64 e, .int .u64 f, .int .u64 g, .int .u64 h])] [] (fun v M => K v (M.take ([] : List Blk).length)) = K (rB (belowRaw ⟨a, b, c, d⟩ ⟨e, f, g, h⟩)) [] := by
  simp only [belowRaw, pullK K]
  kernel_rfl
theorem c_Q1_below (a b c d e f g h : Int) : CallsA Tryz.prog GT gbT 49 [.v (.agg [.int .u64 a, .int .u64 b, .int .u64 c, .int .u64 d]), .v (.agg [.int .u64 e, .int .u64 f, .int .u64 g, .int .u64 h])] [] (rB (belowRaw ⟨a, b, c, d⟩ ⟨e, f, g, h⟩)) [] := by
  refine CallsA.ofOk fun hok => ?_
  have hw := w_Q1_below a b c d e f g h (fun v M => some (Res.fin v M))
  refine CallsA.ofEv (Γ := T_Q1_Product) (X := XT) (Λ := noL) (EQ := EQT) (n := 80) g_Q1_Product hEQT hmT (fun _ _ _ _ => noL_ok _) (hw.trans ?_)
  rfl
def s_Q1_below : List AV → List Blk → (AV → List Blk → Ans) → Ans := fun xs bs K => match xs, bs with
  | [.v (.agg [.int .u64 a, .int .u64 b, .int .u64 c, .int .u64 d]), .v (.agg [.int .u64 e, .int .u64 f, .int .u64 g, .int .u64 h])], [] => K (rB (belowRaw ⟨a, b, c, d⟩ ⟨e, f, g, h⟩)) []
  | _, _ => none
def T_Q1_below : Nat → List AV → List Blk → (AV → List Blk → Ans) → Ans := upd T_Q1_Product 49 s_Q1_below
theorem g_Q1_below : GOK Tryz.prog GT gbT T_Q1_below XT := by
  refine GOK.upd g_Q1_Product (fun args w => Tryz.call49 args w) fun xs bs K r h => ?_
  unfold s_Q1_below at h
  split at h
  · exact ⟨_, _, c_Q1_below _ _ _ _ _ _ _ _, h⟩
  · cases h
theorem w_Q1_Small (a b c d : Int) (K : AV → List Blk → Ans) : evFn Tryz.prog GT EQT T_Q1_below XT noL 60 73 [.v (.agg [.int .u64 a, .int .u64 b, .int .u64 c, .int .u64 d])] [] (fun v M => K v (M.take ([] : List Blk).length)) = bif c == 0 then (bif d == 0 then K (rIB ((smallRaw ⟨a, b, c, d⟩).1, decide (borU (shlU b 32) a ≤ 1000000000000000000))) [] else K (rIB ((smallRaw ⟨a, b, c, d⟩).1, false)) []) else K (rIB ((smallRaw ⟨a, b, c, d⟩).1, false)) [] := by
  kernel_rfl
theorem c_Q1_Small (a b c d : Int) : CallsA Tryz.prog GT gbT 73 [.v (.agg [.int .u64 a, .int .u64 b, .int .u64 c, .int .u64 d])] [] (rIB (smallRaw ⟨a, b, c, d⟩)) [] := by
  refine CallsA.ofOk fun hok => ?_
  have hw := w_Q1_Small a b c d (fun v M => some (Res.fin v M))
  refine CallsA.ofEv (Γ := T_Q1_below) (X := XT) (Λ := noL) (EQ := EQT) (n := 60) g_Q1_below hEQT hmT (fun _ _ _ _ => noL_ok _) (hw.trans ?_)
  have h_a := inR_u64 (hok (.int .u64 a) (by simp [datasL, datas]))
  have h_b := inR_u64 (hok (.int .u64 b) (by simp [datasL, datas]))
  have h_c := inR_u64 (hok (.int .u64 c) (by simp [datasL, datas]))
  have h_d := inR_u64 (hok (.int .u64 d) (by simp [datasL, datas]))
  clear hok hw
  unfold smallRaw
  simp only
  cases c == 0 <;> cases d == 0 <;> rfl
def s_Q1_Small : List AV → List Blk → (AV → List Blk → Ans) → Ans := fun xs bs K => match xs, bs with
  | [.v (.agg [.int .u64 a, .int .u64 b, .int .u64 c, .int .u64 d])], [] => K (rIB (smallRaw ⟨a, b, c, d⟩)) []
  | _, _ => none
def T_Q1_Small : Nat → List AV → List Blk → (AV → List Blk → Ans) → Ans := upd T_Q1_below 73 s_Q1_Small
theorem g_Q1_Small : GOK Tryz.prog GT gbT T_Q1_Small XT := by
  refine GOK.upd g_Q1_below (fun args w => Tryz.call73 args w) fun xs bs K r h => ?_
  unfold s_Q1_Small at h
  split at h
  · exact ⟨_, _, c_Q1_Small _ _ _ _, h⟩
  · cases h
abbrev sh_Over : List (Nat × Sh) := [(1, .int .u64), (2, .ptr 0 0), (4, .ptr 1 0), (6, .ptr 2 0), (7, .int .u64), (8, .int .i64), (9, .int .i64)]
abbrev ms_Over : List (Nat × List IntKind) := [(89, [.u64, .u64, .u64, .u64]), (89, [.u64, .u64, .u64, .u64]), (89, [.u64, .u64, .u64, .u64])]
abbrev T_OverIn (n i r b : Int) : TS := maskT (mkS sh_Over [n, r, i, b]) 46
abbrev T_OverOut (n i r : Int) : TS := maskT (mkS (sh_Over.take 6) [n, r, i]) 46
abbrev M_Over (l : List Int) : List Blk := mkM ms_Over l
def f_Over (xs ys : List Int) : LT := match xs, ys with
  | [n, r, i, b], [a0, a1, a2, a3, z0, z1, z2, z3, o0, o1, o2, o3] =>
    bif b == 31 then bif i == 3 && o3 == 0 then .br (digOn n r a3) (.st (.exit 2) (T_OverOut n 3 (dR n r a3)) (M_Over [a0, a1, a2, a3, z0, z1, z2, z3, o0, o1, o2, dQ n r a3]) 3) .no else bif i == 2 && o2 == 0 then .br (digOn n r a2) (.st (.exit 2) (T_OverOut n 2 (dR n r a2)) (M_Over [a0, a1, a2, a3, z0, z1, z2, z3, o0, o1, dQ n r a2, o3]) 3) .no else bif i == 1 && o1 == 0 then .br (digOn n r a1) (.st (.exit 2) (T_OverOut n 1 (dR n r a1)) (M_Over [a0, a1, a2, a3, z0, z1, z2, z3, o0, dQ n r a1, o2, o3]) 3) .no else bif i == 0 && o0 == 0 then .br (digOn n r a0) (.st (.exit 2) (T_OverOut n 0 (dR n r a0)) (M_Over [a0, a1, a2, a3, z0, z1, z2, z3, dQ n r a0, o1, o2, o3]) 3) .no else .no else .no
  | _, _ => .no
def L_Over := LamS 6 46 3 sh_Over ms_Over f_Over
theorem b_Over0 (n r b a0 a1 a2 a3 z0 z1 z2 z3 o0 o1 o2 o3 : Int) : evCode Tryz.prog GT EQT T_Q1_Small XT noL 40 (loopB Tryz.prog 51 1) (T_OverIn n 0 r b) (M_Over [a0, a1, a2, a3, z0, z1, z2, z3, o0, o1, o2, o3]) 3 (fun x T M N => some (.st x (forget [1, 2, 4, 6, 7, 8, 9] T) M N)) =
    bif decide (0 ≤ b) then (bif decide (b < 0) then none else bif decide (n ≤ bitIn r a0 b) then (bif decide (b < 0) then none else some (.st .normal (T_OverIn n 0 (wu64 (bitIn r a0 b - n)) (w64 (b - 1))) (M_Over [a0, a1, a2, a3, z0, z1, z2, z3, borU o0 (shlU 1 b), o1, o2, o3]) 3)) else some (.st .normal (T_OverIn n 0 (bitIn r a0 b) (w64 (b - 1))) (M_Over [a0, a1, a2, a3, z0, z1, z2, z3, o0, o1, o2, o3]) 3))
    else some (.st (.exit 2) (T_OverIn n 0 r b) (M_Over [a0, a1, a2, a3, z0, z1, z2, z3, o0, o1, o2, o3]) 3) := by kernel_rfl
theorem b_Over1 (n r b a0 a1 a2 a3 z0 z1 z2 z3 o0 o1 o2 o3 : Int) : evCode Tryz.prog GT EQT T_Q1_Small XT noL 40 (loopB Tryz.prog 51 1) (T_OverIn n 1 r b) (M_Over [a0, a1, a2, a3, z0, z1, z2, z3, o0, o1, o2, o3]) 3 (fun x T M N => some (.st x (forget [1, 2, 4, 6, 7, 8, 9] T) M N)) =
    bif decide (0 ≤ b) then (bif decide (b < 0) then none else bif decide (n ≤ bitIn r a1 b) then (bif decide (b < 0) then none else some (.st .normal (T_OverIn n 1 (wu64 (bitIn r a1 b - n)) (w64 (b - 1))) (M_Over [a0, a1, a2, a3, z0, z1, z2, z3, o0, borU o1 (shlU 1 b), o2, o3]) 3)) else some (.st .normal (T_OverIn n 1 (bitIn r a1 b) (w64 (b - 1))) (M_Over [a0, a1, a2, a3, z0, z1, z2, z3, o0, o1, o2, o3]) 3))
    else some (.st (.exit 2) (T_OverIn n 1 r b) (M_Over [a0, a1, a2, a3, z0, z1, z2, z3, o0, o1, o2, o3]) 3) := by kernel_rfl
theorem b_Over2 (n r b a0 a1 a2 a3 z0 z1 z2 z3 o0 o1 o2 o3 : Int) : evCode Tryz.prog GT EQT T_Q1_Small XT noL 40 (loopB Tryz.prog 51 1) (T_OverIn n 2 r b) (M_Over [a0, a1, a2, a3, z0, z1, z2, z3, o0, o1, o2, o3]) 3 (fun x T M N => some (.st x (forget [1, 2, 4, 6, 7, 8, 9] T) M N)) =
    bif decide (0 ≤ b) then (bif decide (b < 0) then none else bif decide (n ≤ bitIn r a2 b) then (bif decide (b < 0) then none else some (.st .normal (T_OverIn n 2 (wu64 (bitIn r a2 b - n)) (w64 (b - 1))) (M_Over [a0, a1, a2, a3, z0, z1, z2, z3, o0, o1, borU o2 (shlU 1 b), o3]) 3)) else some (.st .normal (T_OverIn n 2 (bitIn r a2 b) (w64 (b - 1))) (M_Over [a0, a1, a2, a3, z0, z1, z2, z3, o0, o1, o2, o3]) 3))
    else some (.st (.exit 2) (T_OverIn n 2 r b) (M_Over [a0, a1, a2, a3, z0, z1, z2, z3, o0, o1, o2, o3]) 3) := by kernel_rfl
theorem b_Over3 (n r b a0 a1 a2 a3 z0 z1 z2 z3 o0 o1 o2 o3 : Int) : evCode Tryz.prog GT EQT T_Q1_Small XT noL 40 (loopB Tryz.prog 51 1) (T_OverIn n 3 r b) (M_Over [a0, a1, a2, a3, z0, z1, z2, z3, o0, o1, o2, o3]) 3 (fun x T M N => some (.st x (forget [1, 2, 4, 6, 7, 8, 9] T) M N)) =
    bif decide (0 ≤ b) then (bif decide (b < 0) then none else bif decide (n ≤ bitIn r a3 b) then (bif decide (b < 0) then none else some (.st .normal (T_OverIn n 3 (wu64 (bitIn r a3 b - n)) (w64 (b - 1))) (M_Over [a0, a1, a2, a3, z0, z1, z2, z3, o0, o1, o2, borU o3 (shlU 1 b)]) 3)) else some (.st .normal (T_OverIn n 3 (bitIn r a3 b) (w64 (b - 1))) (M_Over [a0, a1, a2, a3, z0, z1, z2, z3, o0, o1, o2, o3]) 3))
    else some (.st (.exit 2) (T_OverIn n 3 r b) (M_Over [a0, a1, a2, a3, z0, z1, z2, z3, o0, o1, o2, o3]) 3) := by kernel_rfl
theorem l_Over (n i r b : Int) : Less (T_OverOut n i r) (T_OverIn n i r b) := less_of (by kernel_rfl) (readS_gets (by kernel_rfl))
theorem r_Over0 (n r a0 a1 a2 a3 z0 z1 z2 z3 o1 o2 o3 : Int) (h : digOn n r a0 = true) : ∃ k, RoundsOK Tryz.prog GT gbT (loopB Tryz.prog 51 1) k (T_OverIn n 0 r 31) (M_Over [a0, a1, a2, a3, z0, z1, z2, z3, 0, o1, o2, o3]) 3 (.exit 2) (T_OverOut n 0 (dR n r a0)) (M_Over [a0, a1, a2, a3, z0, z1, z2, z3, dQ n r a0, o1, o2, o3]) 3 := by
  simp only [digOn, Bool.and_eq_true, decide_eq_true_eq] at h
  obtain ⟨h1, h2, h3, h4, h5, h6⟩ := h
  obtain ⟨n', rfl⟩ := Int.eq_ofNat_of_zero_le (Int.le_of_lt h1)
  obtain ⟨r', rfl⟩ := Int.eq_ofNat_of_zero_le h3
  obtain ⟨a', rfl⟩ := Int.eq_ofNat_of_zero_le h5
  have hh := over_rounds (c := loopB Tryz.prog 51 1) (e := 2) g_Q1_Small hEQT hmT (fun r b => T_OverIn n' 0 r b) (fun r => T_OverOut n' 0 r) (fun o => M_Over [(a' : Int), a1, a2, a3, z0, z1, z2, z3, o, o1, o2, o3]) a' n' (by omega) (by omega) (by omega) (fun r b => l_Over n' 0 r b) (fun r b o => b_Over0 n' r b (a' : Int) a1 a2 a3 z0 z1 z2 z3 o o1 o2 o3) 32 r' 0 (by omega) (by omega) (by omega)
  rw [Nat.zero_mul, Nat.zero_add, dR_nat _ _ _ (by omega), dQ_nat _ _ _ (by omega)] at hh
  exact hh
theorem r_Over1 (n r a0 a1 a2 a3 z0 z1 z2 z3 o0 o2 o3 : Int) (h : digOn n r a1 = true) : ∃ k, RoundsOK Tryz.prog GT gbT (loopB Tryz.prog 51 1) k (T_OverIn n 1 r 31) (M_Over [a0, a1, a2, a3, z0, z1, z2, z3, o0, 0, o2, o3]) 3 (.exit 2) (T_OverOut n 1 (dR n r a1)) (M_Over [a0, a1, a2, a3, z0, z1, z2, z3, o0, dQ n r a1, o2, o3]) 3 := by
  simp only [digOn, Bool.and_eq_true, decide_eq_true_eq] at h
  obtain ⟨h1, h2, h3, h4, h5, h6⟩ := h
  obtain ⟨n', rfl⟩ := Int.eq_ofNat_of_zero_le (Int.le_of_lt h1)
  obtain ⟨r', rfl⟩ := Int.eq_ofNat_of_zero_le h3
  obtain ⟨a', rfl⟩ := Int.eq_ofNat_of_zero_le h5
  have hh := over_rounds (c := loopB Tryz.prog 51 1) (e := 2) g_Q1_Small hEQT hmT (fun r b => T_OverIn n' 1 r b) (fun r => T_OverOut n' 1 r) (fun o => M_Over [a0, (a' : Int), a2, a3, z0, z1, z2, z3, o0, o, o2, o3]) a' n' (by omega) (by omega) (by omega) (fun r b => l_Over n' 1 r b) (fun r b o => b_Over1 n' r b a0 (a' : Int) a2 a3 z0 z1 z2 z3 o0 o o2 o3) 32 r' 0 (by omega) (by omega) (by omega)
  rw [Nat.zero_mul, Nat.zero_add, dR_nat _ _ _ (by omega), dQ_nat _ _ _ (by omega)] at hh
  exact hh
theorem r_Over2 (n r a0 a1 a2 a3 z0 z1 z2 z3 o0 o1 o3 : Int) (h : digOn n r a2 = true) : ∃ k, RoundsOK Tryz.prog GT gbT (loopB Tryz.prog 51 1) k (T_OverIn n 2 r 31) (M_Over [a0, a1, a2, a3, z0, z1, z2, z3, o0, o1, 0, o3]) 3 (.exit 2) (T_OverOut n 2 (dR n r a2)) (M_Over [a0, a1, a2, a3, z0, z1, z2, z3, o0, o1, dQ n r a2, o3]) 3 := by
  simp only [digOn, Bool.and_eq_true, decide_eq_true_eq] at h
  obtain ⟨h1, h2, h3, h4, h5, h6⟩ := h
  obtain ⟨n', rfl⟩ := Int.eq_ofNat_of_zero_le (Int.le_of_lt h1)
  obtain ⟨r', rfl⟩ := Int.eq_ofNat_of_zero_le h3
  obtain ⟨a', rfl⟩ := Int.eq_ofNat_of_zero_le h5
  have hh := over_rounds (c := loopB Tryz.prog 51 1) (e := 2) g_Q1_Small hEQT hmT (fun r b => T_OverIn n' 2 r b) (fun r => T_OverOut n' 2 r) (fun o => M_Over [a0, a1, (a' : Int), a3, z0, z1, z2, z3, o0, o1, o, o3]) a' n' (by omega) (by omega) (by omega) (fun r b => l_Over n' 2 r b) (fun r b o => b_Over2 n' r b a0 a1 (a' : Int) a3 z0 z1 z2 z3 o0 o1 o o3) 32 r' 0 (by omega) (by omega) (by omega)
  rw [Nat.zero_mul, Nat.zero_add, dR_nat _ _ _ (by omega), dQ_nat _ _ _ (by omega)] at hh
  exact hh
theorem r_Over3 (n r a0 a1 a2 a3 z0 z1 z2 z3 o0 o1 o2 : Int) (h : digOn n r a3 = true) : ∃ k, RoundsOK Tryz.prog GT gbT (loopB Tryz.prog 51 1) k (T_OverIn n 3 r 31) (M_Over [a0, a1, a2, a3, z0, z1, z2, z3, o0, o1, o2, 0]) 3 (.exit 2) (T_OverOut n 3 (dR n r a3)) (M_Over [a0, a1, a2, a3, z0, z1, z2, z3, o0, o1, o2, dQ n r a3]) 3 := by
  simp only [digOn, Bool.and_eq_true, decide_eq_true_eq] at h
  obtain ⟨h1, h2, h3, h4, h5, h6⟩ := h
  obtain ⟨n', rfl⟩ := Int.eq_ofNat_of_zero_le (Int.le_of_lt h1)
  obtain ⟨r', rfl⟩ := Int.eq_ofNat_of_zero_le h3
  obtain ⟨a', rfl⟩ := Int.eq_ofNat_of_zero_le h5
  have hh := over_rounds (c := loopB Tryz.prog 51 1) (e := 2) g_Q1_Small hEQT hmT (fun r b => T_OverIn n' 3 r b) (fun r => T_OverOut n' 3 r) (fun o => M_Over [a0, a1, a2, (a' : Int), z0, z1, z2, z3, o0, o1, o2, o]) a' n' (by omega) (by omega) (by omega) (fun r b => l_Over n' 3 r b) (fun r b o => b_Over3 n' r b a0 a1 a2 (a' : Int) z0 z1 z2 z3 o0 o1 o2 o) 32 r' 0 (by omega) (by omega) (by omega)
  rw [Nat.zero_mul, Nat.zero_add, dR_nat _ _ _ (by omega), dQ_nat _ _ _ (by omega)] at hh
  exact hh
theorem LL_Over : ∀ fn c, Tryz.prog.funcs[51]? = some fn → fn.body = some c → LOK Tryz.prog GT gbT L_Over (loopsIn c) := by
  refine LOK.ofF fun b hb => ?_
  have e : loopsF Tryz.prog 51 = [loopB Tryz.prog 51 0, loopB Tryz.prog 51 1] := by kernel_rfl
  have k0 : loopKey (loopB Tryz.prog 51 0) = 3 := by kernel_rfl
  have k1 : loopKey (loopB Tryz.prog 51 1) = 6 := by kernel_rfl
  rw [e, List.mem_cons, List.mem_singleton] at hb
  rcases hb with rfl | rfl
  · exact LOKb.lamS_other (by rw [k0]; decide)
  · unfold L_Over
    rw [← k1]
    refine LOKb.lamS fun xs ys x T' M' N' hr => ?_
    unfold f_Over at hr
    split at hr
    · rename_i n r i b a0 a1 a2 a3 z0 z1 z2 z3 o0 o1 o2 o3
      simp only [cond_eq_ite, beq_iff_eq, Bool.and_eq_true] at hr
      split at hr
      · rename_i hb
        subst hb
        split at hr
        · rename_i hi
          obtain ⟨rfl, rfl⟩ := hi
          rcases hr with ⟨hd, rfl, rfl, rfl, rfl⟩ | ⟨_, hf⟩
          · exact ⟨by simp, r_Over3 n r a0 a1 a2 a3 z0 z1 z2 z3 o0 o1 o2 hd⟩
          · exact hf.elim
        split at hr
        · rename_i hi
          obtain ⟨rfl, rfl⟩ := hi
          rcases hr with ⟨hd, rfl, rfl, rfl, rfl⟩ | ⟨_, hf⟩
          · exact ⟨by simp, r_Over2 n r a0 a1 a2 a3 z0 z1 z2 z3 o0 o1 o3 hd⟩
          · exact hf.elim
        split at hr
        · rename_i hi
          obtain ⟨rfl, rfl⟩ := hi
          rcases hr with ⟨hd, rfl, rfl, rfl, rfl⟩ | ⟨_, hf⟩
          · exact ⟨by simp, r_Over1 n r a0 a1 a2 a3 z0 z1 z2 z3 o0 o2 o3 hd⟩
          · exact hf.elim
        split at hr
        · rename_i hi
          obtain ⟨rfl, rfl⟩ := hi
          rcases hr with ⟨hd, rfl, rfl, rfl, rfl⟩ | ⟨_, hf⟩
          · exact ⟨by simp, r_Over0 n r a0 a1 a2 a3 z0 z1 z2 z3 o1 o2 o3 hd⟩
          · exact hf.elim
        exact hr.elim
      · exact hr.elim
    · exact hr.elim
theorem w_Q1_Over (a b c d n : Int) (K : AV → List Blk → Ans) : evFn Tryz.prog GT EQT T_Q1_Small XT L_Over 90 51 [.v (.agg [.int .u64 a, .int .u64 b, .int .u64 c, .int .u64 d]), .v (.c (.d (.int .u64 n)))] [] (fun v M => K v (M.take ([] : List Blk).length)) = overAns K a b c d n := by
  kernel_rfl
theorem c_Q1_Over (a b c d n : Int) (hd : (overOn ⟨a, b, c, d⟩ n) = true) : CallsA Tryz.prog GT gbT 51 [.v (.agg [.int .u64 a, .int .u64 b, .int .u64 c, .int .u64 d]), .v (.c (.d (.int .u64 n)))] [] (rBigU (overI (valOf ⟨a, b, c, d⟩) n)) [] := by
  refine CallsA.ofOk fun hok => ?_
  have hw := w_Q1_Over a b c d n (fun v M => some (Res.fin v M))
  refine CallsA.ofEv (Γ := T_Q1_Small) (X := XT) (Λ := L_Over) (EQ := EQT) (n := 90) g_Q1_Small hEQT hmT (LL_Over) (hw.trans ?_)
  have h_a := inR_u64 (hok (.int .u64 a) (by simp [datasL, datas]))
  have h_b := inR_u64 (hok (.int .u64 b) (by simp [datasL, datas]))
  have h_c := inR_u64 (hok (.int .u64 c) (by simp [datasL, datas]))
  have h_d := inR_u64 (hok (.int .u64 d) (by simp [datasL, datas]))
  have h_n := inR_u64 (hok (.int .u64 n) (by simp [datasL, datas]))
  clear hok hw
  exact overAns_ok (K := fun v M => some (Res.fin v M)) hd
def s_Q1_Over : List AV → List Blk → (AV → List Blk → Ans) → Ans := fun xs bs K => match xs, bs with
  | [.v (.agg [.int .u64 a, .int .u64 b, .int .u64 c, .int .u64 d]), .v (.c (.d (.int .u64 n)))], [] => bif overOn ⟨a, b, c, d⟩ n then K (rBigU (overI (valOf ⟨a, b, c, d⟩) n)) [] else none
  | _, _ => none
def T_Q1_Over : Nat → List AV → List Blk → (AV → List Blk → Ans) → Ans := upd T_Q1_Small 51 s_Q1_Over
theorem g_Q1_Over : GOK Tryz.prog GT gbT T_Q1_Over XT := by
  refine GOK.upd g_Q1_Small (fun args w => Tryz.call51 args w) fun xs bs K r h => ?_
  unfold s_Q1_Over at h
  split at h
  · simp only [cond_eq_ite] at h
    split at h
    · exact ⟨_, _, c_Q1_Over _ _ _ _ _ ‹_›, h⟩
    · cases h
  · cases h
theorem w_Q1_lowest (m : Bool) (a b c d e f g h : Int) (K : AV → List Blk → Ans) : evFn Tryz.prog GT EQT T_Q1_Over XT noL 60 52 [.v (.c (.d (.bool m))), .v (.agg [.int .u64 a, .int .u64 b, .int .u64 c, .int .u64 d]), .v (.agg [.int .u64 e, .int .u64 f, .int .u64 g, .int .u64 h])] [] (fun v M => K v (M.take ([] : List Blk).length)) = K (rFracE (lowestRaw m ⟨a, b, c, d⟩ ⟨e, f, g, h⟩)) [] := by
  simp only [lowestRaw, pullK K]
  kernel_rfl
theorem c_Q1_lowest (m : Bool) (a b c d e f g h : Int) : CallsA Tryz.prog GT gbT 52 [.v (.c (.d (.bool m))), .v (.agg [.int .u64 a, .int .u64 b, .int .u64 c, .int .u64 d]), .v (.agg [.int .u64 e, .int .u64 f, .int .u64 g, .int .u64 h])] [] (rFracE (lowestRaw m ⟨a, b, c, d⟩ ⟨e, f, g, h⟩)) [] := by
  refine CallsA.ofOk fun hok => ?_
  have hw := w_Q1_lowest m a b c d e f g h (fun v M => some (Res.fin v M))
  refine CallsA.ofEv (Γ := T_Q1_Over) (X := XT) (Λ := noL) (EQ := EQT) (n := 60) g_Q1_Over hEQT hmT (fun _ _ _ _ => noL_ok _) (hw.trans ?_)
  rfl
def s_Q1_lowest : List AV → List Blk → (AV → List Blk → Ans) → Ans := fun xs bs K => match xs, bs with
  | [.v (.c (.d (.bool m))), .v (.agg [.int .u64 a, .int .u64 b, .int .u64 c, .int .u64 d]), .v (.agg [.int .u64 e, .int .u64 f, .int .u64 g, .int .u64 h])], [] => K (rFracE (lowestRaw m ⟨a, b, c, d⟩ ⟨e, f, g, h⟩)) []
  | _, _ => none
def T_Q1_lowest : Nat → List AV → List Blk → (AV → List Blk → Ans) → Ans := upd T_Q1_Over 52 s_Q1_lowest
theorem g_Q1_lowest : GOK Tryz.prog GT gbT T_Q1_lowest XT := by
  refine GOK.upd g_Q1_Over (fun args w => Tryz.call52 args w) fun xs bs K r h => ?_
  unfold s_Q1_lowest at h
  split at h
  · exact ⟨_, _, c_Q1_lowest _ _ _ _ _ _ _ _ _, h⟩
  · cases h
theorem w_Q1_Less (a b c d : Int) (K : AV → List Blk → Ans) : evFn Tryz.prog GT EQT T_Q1_lowest XT noL 60 39 [.v (.agg [.int .i64 a, .int .i64 b]), .v (.agg [.int .i64 c, .int .i64 d])] [] (fun v M => K v (M.take ([] : List Blk).length)) = K (rB (lessRaw ⟨a, b⟩ ⟨c, d⟩)) [] := by
  simp only [lessRaw, diffSign, pullK K]
  kernel_rfl
theorem c_Q1_Less (a b c d : Int) : CallsA Tryz.prog GT gbT 39 [.v (.agg [.int .i64 a, .int .i64 b]), .v (.agg [.int .i64 c, .int .i64 d])] [] (rB (lessN ⟨a, b⟩ ⟨c, d⟩)) [] := by
  refine CallsA.ofOk fun hok => ?_
  have hw := w_Q1_Less a b c d (fun v M => some (Res.fin v M))
  refine CallsA.ofEv (Γ := T_Q1_lowest) (X := XT) (Λ := noL) (EQ := EQT) (n := 60) g_Q1_lowest hEQT hmT (fun _ _ _ _ => noL_ok _) (hw.trans ?_)
  have h_a := inR_i64 (hok (.int .i64 a) (by simp [datasL, datas]))
  have h_b := inR_i64 (hok (.int .i64 b) (by simp [datasL, datas]))
  have h_c := inR_i64 (hok (.int .i64 c) (by simp [datasL, datas]))
  have h_d := inR_i64 (hok (.int .i64 d) (by simp [datasL, datas]))
  clear hok hw
  refine congrArg (fun v => some (Res.fin v [])) ?_
  rw [lessRaw_ok]
def s_Q1_Less : List AV → List Blk → (AV → List Blk → Ans) → Ans := fun xs bs K => match xs, bs with
  | [.v (.agg [.int .i64 a, .int .i64 b]), .v (.agg [.int .i64 c, .int .i64 d])], [] => K (rB (lessN ⟨a, b⟩ ⟨c, d⟩)) []
  | _, _ => none
def T_Q1_Less : Nat → List AV → List Blk → (AV → List Blk → Ans) → Ans := upd T_Q1_lowest 39 s_Q1_Less
theorem g_Q1_Less : GOK Tryz.prog GT gbT T_Q1_Less XT := by
  refine GOK.upd g_Q1_lowest (fun args w => Tryz.call39 args w) fun xs bs K r h => ?_
  unfold s_Q1_Less at h
  split at h
  · exact ⟨_, _, c_Q1_Less _ _ _ _, h⟩
  · cases h
theorem w_sine_valid (lo hi : Int) (K : AV → List Blk → Ans) : evFn Tryz.prog GT EQT T_Q1_Less XT noL 60 63 [.v (.agg [.int .i64 lo, .int .i64 hi])] [] (fun v M => K v (M.take ([] : List Blk).length)) = K (rB (spanValid ⟨lo, hi⟩)) [] := by
  simp only [spanValid, pullK K]
  kernel_rfl
theorem c_sine_valid (lo hi : Int) : CallsA Tryz.prog GT gbT 63 [.v (.agg [.int .i64 lo, .int .i64 hi])] [] (rB (spanValid ⟨lo, hi⟩)) [] := by
  refine CallsA.ofOk fun hok => ?_
  have hw := w_sine_valid lo hi (fun v M => some (Res.fin v M))
  refine CallsA.ofEv (Γ := T_Q1_Less) (X := XT) (Λ := noL) (EQ := EQT) (n := 60) g_Q1_Less hEQT hmT (fun _ _ _ _ => noL_ok _) (hw.trans ?_)
  rfl
def s_sine_valid : List AV → List Blk → (AV → List Blk → Ans) → Ans := fun xs bs K => match xs, bs with
  | [.v (.agg [.int .i64 lo, .int .i64 hi])], [] => K (rB (spanValid ⟨lo, hi⟩)) []
  | _, _ => none
def T_sine_valid : Nat → List AV → List Blk → (AV → List Blk → Ans) → Ans := upd T_Q1_Less 63 s_sine_valid
theorem g_sine_valid : GOK Tryz.prog GT gbT T_sine_valid XT := by
  refine GOK.upd g_Q1_Less (fun args w => Tryz.call63 args w) fun xs bs K r h => ?_
  unfold s_sine_valid at h
  split at h
  · exact ⟨_, _, c_sine_valid _ _, h⟩
  · cases h
theorem w_Q5_Valid (lo hi : Int) (K : AV → List Blk → Ans) : evFn Tryz.prog GT EQT T_sine_valid XT noL 60 36 [.v (.agg [.int .i64 lo, .int .i64 hi])] [] (fun v M => K v (M.take ([] : List Blk).length)) = K (rB (spanValid ⟨lo, hi⟩)) [] := by
  simp only [spanValid, pullK K]
  kernel_rfl
theorem c_Q5_Valid (lo hi : Int) : CallsA Tryz.prog GT gbT 36 [.v (.agg [.int .i64 lo, .int .i64 hi])] [] (rB (spanValid ⟨lo, hi⟩)) [] := by
  refine CallsA.ofOk fun hok => ?_
  have hw := w_Q5_Valid lo hi (fun v M => some (Res.fin v M))
  refine CallsA.ofEv (Γ := T_sine_valid) (X := XT) (Λ := noL) (EQ := EQT) (n := 60) g_sine_valid hEQT hmT (fun _ _ _ _ => noL_ok _) (hw.trans ?_)
  rfl
def s_Q5_Valid : List AV → List Blk → (AV → List Blk → Ans) → Ans := fun xs bs K => match xs, bs with
  | [.v (.agg [.int .i64 lo, .int .i64 hi])], [] => K (rB (spanValid ⟨lo, hi⟩)) []
  | _, _ => none
def T_Q5_Valid : Nat → List AV → List Blk → (AV → List Blk → Ans) → Ans := upd T_sine_valid 36 s_Q5_Valid
theorem g_Q5_Valid : GOK Tryz.prog GT gbT T_Q5_Valid XT := by
  refine GOK.upd g_sine_valid (fun args w => Tryz.call36 args w) fun xs bs K r h => ?_
  unfold s_Q5_Valid at h
  split at h
  · exact ⟨_, _, c_Q5_Valid _ _, h⟩
  · cases h
theorem w_sine_ranged (lo hi : Int) (K : AV → List Blk → Ans) : evFn Tryz.prog GT EQT T_Q5_Valid XT noL 60 62 [.v (.agg [.int .i64 lo, .int .i64 hi])] [] (fun v M => K v (M.take ([] : List Blk).length)) = K (rSpanE (rangedS ⟨lo, hi⟩)) [] := by
  simp only [rangedS, pullK K]
  kernel_rfl
theorem c_sine_ranged (lo hi : Int) : CallsA Tryz.prog GT gbT 62 [.v (.agg [.int .i64 lo, .int .i64 hi])] [] (rSpanE (rangedS ⟨lo, hi⟩)) [] := by
  refine CallsA.ofOk fun hok => ?_
  have hw := w_sine_ranged lo hi (fun v M => some (Res.fin v M))
  refine CallsA.ofEv (Γ := T_Q5_Valid) (X := XT) (Λ := noL) (EQ := EQT) (n := 60) g_Q5_Valid hEQT hmT (fun _ _ _ _ => noL_ok _) (hw.trans ?_)
  rfl
def s_sine_ranged : List AV → List Blk → (AV → List Blk → Ans) → Ans := fun xs bs K => match xs, bs with
  | [.v (.agg [.int .i64 lo, .int .i64 hi])], [] => K (rSpanE (rangedS ⟨lo, hi⟩)) []
  | _, _ => none
def T_sine_ranged : Nat → List AV → List Blk → (AV → List Blk → Ans) → Ans := upd T_Q5_Valid 62 s_sine_ranged
theorem g_sine_ranged : GOK Tryz.prog GT gbT T_sine_ranged XT := by
  refine GOK.upd g_Q5_Valid (fun args w => Tryz.call62 args w) fun xs bs K r h => ?_
  unfold s_sine_ranged at h
  split at h
  · exact ⟨_, _, c_sine_ranged _ _, h⟩
  · cases h
theorem w_Q5_made (lo hi : Int) (K : AV → List Blk → Ans) : evFn Tryz.prog GT EQT T_sine_ranged XT noL 60 37 [.v (.c (.d (.int .i64 lo))), .v (.c (.d (.int .i64 hi)))] [] (fun v M => K v (M.take ([] : List Blk).length)) = K (rSpanE (rangedS ⟨lo, hi⟩)) [] := by
  simp only [rangedS, pullK K]
  kernel_rfl
theorem c_Q5_made (lo hi : Int) : CallsA Tryz.prog GT gbT 37 [.v (.c (.d (.int .i64 lo))), .v (.c (.d (.int .i64 hi)))] [] (rSpanE (rangedS ⟨lo, hi⟩)) [] := by
  refine CallsA.ofOk fun hok => ?_
  have hw := w_Q5_made lo hi (fun v M => some (Res.fin v M))
  refine CallsA.ofEv (Γ := T_sine_ranged) (X := XT) (Λ := noL) (EQ := EQT) (n := 60) g_sine_ranged hEQT hmT (fun _ _ _ _ => noL_ok _) (hw.trans ?_)
  rfl
def s_Q5_made : List AV → List Blk → (AV → List Blk → Ans) → Ans := fun xs bs K => match xs, bs with
  | [.v (.c (.d (.int .i64 lo))), .v (.c (.d (.int .i64 hi)))], [] => K (rSpanE (rangedS ⟨lo, hi⟩)) []
  | _, _ => none
def T_Q5_made : Nat → List AV → List Blk → (AV → List Blk → Ans) → Ans := upd T_sine_ranged 37 s_Q5_made
theorem g_Q5_made : GOK Tryz.prog GT gbT T_Q5_made XT := by
  refine GOK.upd g_sine_ranged (fun args w => Tryz.call37 args w) fun xs bs K r h => ?_
  unfold s_Q5_made at h
  split at h
  · exact ⟨_, _, c_Q5_made _ _, h⟩
  · cases h
theorem w_sine_down (n : Int) (K : AV → List Blk → Ans) : evFn Tryz.prog GT EQT T_Q5_made XT noL 60 64 [.v (.c (.d (.int .i64 n)))] [] (fun v M => K v (M.take ([] : List Blk).length)) = K (rI (floorRaw n 1000000)) [] := by
  simp only [floorRaw, pullK K]
  kernel_rfl
theorem c_sine_down (n : Int) : CallsA Tryz.prog GT gbT 64 [.v (.c (.d (.int .i64 n)))] [] (rI (n / 1000000)) [] := by
  refine CallsA.ofOk fun hok => ?_
  have hw := w_sine_down n (fun v M => some (Res.fin v M))
  refine CallsA.ofEv (Γ := T_Q5_made) (X := XT) (Λ := noL) (EQ := EQT) (n := 60) g_Q5_made hEQT hmT (fun _ _ _ _ => noL_ok _) (hw.trans ?_)
  have h_n := inR_i64 (hok (.int .i64 n) (by simp [datasL, datas]))
  clear hok hw
  refine congrArg (fun v => some (Res.fin v [])) ?_
  rw [floorRaw_ok (by omega) h_n]
def s_sine_down : List AV → List Blk → (AV → List Blk → Ans) → Ans := fun xs bs K => match xs, bs with
  | [.v (.c (.d (.int .i64 n)))], [] => K (rI (n / 1000000)) []
  | _, _ => none
def T_sine_down : Nat → List AV → List Blk → (AV → List Blk → Ans) → Ans := upd T_Q5_made 64 s_sine_down
theorem g_sine_down : GOK Tryz.prog GT gbT T_sine_down XT := by
  refine GOK.upd g_Q5_made (fun args w => Tryz.call64 args w) fun xs bs K r h => ?_
  unfold s_sine_down at h
  split at h
  · exact ⟨_, _, c_sine_down _, h⟩
  · cases h
theorem w_Q5_down (n d : Int) (K : AV → List Blk → Ans) : evFn Tryz.prog GT EQT T_sine_down XT noL 60 87 [.v (.c (.d (.int .i64 n))), .v (.c (.d (.int .i64 d)))] [] (fun v M => K v (M.take ([] : List Blk).length)) = bif d == 0 then none else bif d == 0 then none else (bif decide (n.tmod d < 0) then K (rI (w64 (w64 (n.tdiv d) - 1))) [] else K (rI (w64 (n.tdiv d))) []) := by
  kernel_rfl
theorem c_Q5_down (n d : Int) (hd : (decide (0 < d)) = true) : CallsA Tryz.prog GT gbT 87 [.v (.c (.d (.int .i64 n))), .v (.c (.d (.int .i64 d)))] [] (rI (n / d)) [] := by
  refine CallsA.ofOk fun hok => ?_
  have hw := w_Q5_down n d (fun v M => some (Res.fin v M))
  refine CallsA.ofEv (Γ := T_sine_down) (X := XT) (Λ := noL) (EQ := EQT) (n := 60) g_sine_down hEQT hmT (fun _ _ _ _ => noL_ok _) (hw.trans ?_)
  have h_n := inR_i64 (hok (.int .i64 n) (by simp [datasL, datas]))
  have h_d := inR_i64 (hok (.int .i64 d) (by simp [datasL, datas]))
  clear hok hw
  have hd0 := of_decide_eq_true hd
  have h := floorRaw_ok hd0 h_n
  rw [show (d == 0) = false by simp; omega]
  simp only [cond_false]
  rw [← h]
  unfold floorRaw
  cases decide (n.tmod d < 0) <;> rfl
def s_Q5_down : List AV → List Blk → (AV → List Blk → Ans) → Ans := fun xs bs K => match xs, bs with
  | [.v (.c (.d (.int .i64 n))), .v (.c (.d (.int .i64 d)))], [] => bif decide (0 < d) then K (rI (n / d)) [] else none
  | _, _ => none
def T_Q5_down : Nat → List AV → List Blk → (AV → List Blk → Ans) → Ans := upd T_sine_down 87 s_Q5_down
theorem g_Q5_down : GOK Tryz.prog GT gbT T_Q5_down XT := by
  refine GOK.upd g_sine_down (fun args w => Tryz.call87 args w) fun xs bs K r h => ?_
  unfold s_Q5_down at h
  split at h
  · simp only [cond_eq_ite] at h
    split at h
    · exact ⟨_, _, c_Q5_down _ _ ‹_›, h⟩
    · cases h
  · cases h
theorem w_Q5_Neg (lo hi : Int) (K : AV → List Blk → Ans) : evFn Tryz.prog GT EQT T_Q5_down XT noL 60 13 [.v (.agg [.int .i64 lo, .int .i64 hi])] [] (fun v M => K v (M.take ([] : List Blk).length)) = K (rSpan (negRaw ⟨lo, hi⟩)) [] := by
  kernel_rfl
theorem c_Q5_Neg (lo hi : Int) : CallsA Tryz.prog GT gbT 13 [.v (.agg [.int .i64 lo, .int .i64 hi])] [] (rSpan (negRaw ⟨lo, hi⟩)) [] := by
  refine CallsA.ofOk fun hok => ?_
  have hw := w_Q5_Neg lo hi (fun v M => some (Res.fin v M))
  refine CallsA.ofEv (Γ := T_Q5_down) (X := XT) (Λ := noL) (EQ := EQT) (n := 60) g_Q5_down hEQT hmT (fun _ _ _ _ => noL_ok _) (hw.trans ?_)
  rfl
def s_Q5_Neg : List AV → List Blk → (AV → List Blk → Ans) → Ans := fun xs bs K => match xs, bs with
  | [.v (.agg [.int .i64 lo, .int .i64 hi])], [] => K (rSpan (negRaw ⟨lo, hi⟩)) []
  | _, _ => none
def T_Q5_Neg : Nat → List AV → List Blk → (AV → List Blk → Ans) → Ans := upd T_Q5_down 13 s_Q5_Neg
theorem g_Q5_Neg : GOK Tryz.prog GT gbT T_Q5_Neg XT := by
  refine GOK.upd g_Q5_down (fun args w => Tryz.call13 args w) fun xs bs K r h => ?_
  unfold s_Q5_Neg at h
  split at h
  · exact ⟨_, _, c_Q5_Neg _ _, h⟩
  · cases h
theorem w_sine_Add (a b c d : Int) (K : AV → List Blk → Ans) : evFn Tryz.prog GT EQT T_Q5_Neg XT noL 60 43 [.v (.agg [.int .i64 a, .int .i64 b]), .v (.agg [.int .i64 c, .int .i64 d])] [] (fun v M => K v (M.take ([] : List Blk).length)) = K (rSpanE (addRaw ⟨a, b⟩ ⟨c, d⟩)) [] := by
  simp only [addRaw, pullK K]
  kernel_rfl
theorem c_sine_Add (a b c d : Int) : CallsA Tryz.prog GT gbT 43 [.v (.agg [.int .i64 a, .int .i64 b]), .v (.agg [.int .i64 c, .int .i64 d])] [] (rSpanE (addS ⟨a, b⟩ ⟨c, d⟩)) [] := by
  refine CallsA.ofOk fun hok => ?_
  have hw := w_sine_Add a b c d (fun v M => some (Res.fin v M))
  refine CallsA.ofEv (Γ := T_Q5_Neg) (X := XT) (Λ := noL) (EQ := EQT) (n := 60) g_Q5_Neg hEQT hmT (fun _ _ _ _ => noL_ok _) (hw.trans ?_)
  have h_a := inR_i64 (hok (.int .i64 a) (by simp [datasL, datas]))
  have h_b := inR_i64 (hok (.int .i64 b) (by simp [datasL, datas]))
  have h_c := inR_i64 (hok (.int .i64 c) (by simp [datasL, datas]))
  have h_d := inR_i64 (hok (.int .i64 d) (by simp [datasL, datas]))
  clear hok hw
  refine congrArg (fun v => some (Res.fin v [])) ?_
  rw [addRaw_ok]
def s_sine_Add : List AV → List Blk → (AV → List Blk → Ans) → Ans := fun xs bs K => match xs, bs with
  | [.v (.agg [.int .i64 a, .int .i64 b]), .v (.agg [.int .i64 c, .int .i64 d])], [] => K (rSpanE (addS ⟨a, b⟩ ⟨c, d⟩)) []
  | _, _ => none
def T_sine_Add : Nat → List AV → List Blk → (AV → List Blk → Ans) → Ans := upd T_Q5_Neg 43 s_sine_Add
theorem g_sine_Add : GOK Tryz.prog GT gbT T_sine_Add XT := by
  refine GOK.upd g_Q5_Neg (fun args w => Tryz.call43 args w) fun xs bs K r h => ?_
  unfold s_sine_Add at h
  split at h
  · exact ⟨_, _, c_sine_Add _ _ _ _, h⟩
  · cases h
theorem w_Q5_Add (a b c d : Int) (K : AV → List Blk → Ans) : evFn Tryz.prog GT EQT T_sine_Add XT noL 60 14 [.v (.agg [.int .i64 a, .int .i64 b]), .v (.agg [.int .i64 c, .int .i64 d])] [] (fun v M => K v (M.take ([] : List Blk).length)) = K (rSpanE (addRaw ⟨a, b⟩ ⟨c, d⟩)) [] := by
  simp only [addRaw, pullK K]
  kernel_rfl
theorem c_Q5_Add (a b c d : Int) : CallsA Tryz.prog GT gbT 14 [.v (.agg [.int .i64 a, .int .i64 b]), .v (.agg [.int .i64 c, .int .i64 d])] [] (rSpanE (addS ⟨a, b⟩ ⟨c, d⟩)) [] := by
  refine CallsA.ofOk fun hok => ?_
  have hw := w_Q5_Add a b c d (fun v M => some (Res.fin v M))
  refine CallsA.ofEv (Γ := T_sine_Add) (X := XT) (Λ := noL) (EQ := EQT) (n := 60) g_sine_Add hEQT hmT (fun _ _ _ _ => noL_ok _) (hw.trans ?_)
  have h_a := inR_i64 (hok (.int .i64 a) (by simp [datasL, datas]))
  have h_b := inR_i64 (hok (.int .i64 b) (by simp [datasL, datas]))
  have h_c := inR_i64 (hok (.int .i64 c) (by simp [datasL, datas]))
  have h_d := inR_i64 (hok (.int .i64 d) (by simp [datasL, datas]))
  clear hok hw
  refine congrArg (fun v => some (Res.fin v [])) ?_
  rw [addRaw_ok]
def s_Q5_Add : List AV → List Blk → (AV → List Blk → Ans) → Ans := fun xs bs K => match xs, bs with
  | [.v (.agg [.int .i64 a, .int .i64 b]), .v (.agg [.int .i64 c, .int .i64 d])], [] => K (rSpanE (addS ⟨a, b⟩ ⟨c, d⟩)) []
  | _, _ => none
def T_Q5_Add : Nat → List AV → List Blk → (AV → List Blk → Ans) → Ans := upd T_sine_Add 14 s_Q5_Add
theorem g_Q5_Add : GOK Tryz.prog GT gbT T_Q5_Add XT := by
  refine GOK.upd g_sine_Add (fun args w => Tryz.call14 args w) fun xs bs K r h => ?_
  unfold s_Q5_Add at h
  split at h
  · exact ⟨_, _, c_Q5_Add _ _ _ _, h⟩
  · cases h
theorem w_sine_Sub (a b c d : Int) (K : AV → List Blk → Ans) : evFn Tryz.prog GT EQT T_Q5_Add XT noL 60 32 [.v (.agg [.int .i64 a, .int .i64 b]), .v (.agg [.int .i64 c, .int .i64 d])] [] (fun v M => K v (M.take ([] : List Blk).length)) = K (rSpanE (subRaw ⟨a, b⟩ ⟨c, d⟩)) [] := by
  simp only [subRaw, pullK K]
  kernel_rfl
theorem c_sine_Sub (a b c d : Int) : CallsA Tryz.prog GT gbT 32 [.v (.agg [.int .i64 a, .int .i64 b]), .v (.agg [.int .i64 c, .int .i64 d])] [] (rSpanE (subS ⟨a, b⟩ ⟨c, d⟩)) [] := by
  refine CallsA.ofOk fun hok => ?_
  have hw := w_sine_Sub a b c d (fun v M => some (Res.fin v M))
  refine CallsA.ofEv (Γ := T_Q5_Add) (X := XT) (Λ := noL) (EQ := EQT) (n := 60) g_Q5_Add hEQT hmT (fun _ _ _ _ => noL_ok _) (hw.trans ?_)
  have h_a := inR_i64 (hok (.int .i64 a) (by simp [datasL, datas]))
  have h_b := inR_i64 (hok (.int .i64 b) (by simp [datasL, datas]))
  have h_c := inR_i64 (hok (.int .i64 c) (by simp [datasL, datas]))
  have h_d := inR_i64 (hok (.int .i64 d) (by simp [datasL, datas]))
  clear hok hw
  refine congrArg (fun v => some (Res.fin v [])) ?_
  rw [subRaw_ok]
def s_sine_Sub : List AV → List Blk → (AV → List Blk → Ans) → Ans := fun xs bs K => match xs, bs with
  | [.v (.agg [.int .i64 a, .int .i64 b]), .v (.agg [.int .i64 c, .int .i64 d])], [] => K (rSpanE (subS ⟨a, b⟩ ⟨c, d⟩)) []
  | _, _ => none
def T_sine_Sub : Nat → List AV → List Blk → (AV → List Blk → Ans) → Ans := upd T_Q5_Add 32 s_sine_Sub
theorem g_sine_Sub : GOK Tryz.prog GT gbT T_sine_Sub XT := by
  refine GOK.upd g_Q5_Add (fun args w => Tryz.call32 args w) fun xs bs K r h => ?_
  unfold s_sine_Sub at h
  split at h
  · exact ⟨_, _, c_sine_Sub _ _ _ _, h⟩
  · cases h
theorem w_Q5_Sub (a b c d : Int) (K : AV → List Blk → Ans) : evFn Tryz.prog GT EQT T_sine_Sub XT noL 60 33 [.v (.agg [.int .i64 a, .int .i64 b]), .v (.agg [.int .i64 c, .int .i64 d])] [] (fun v M => K v (M.take ([] : List Blk).length)) = K (rSpanE (subRef ⟨a, b⟩ ⟨c, d⟩)) [] := by
  simp only [subRef, pullK K]
  kernel_rfl
theorem c_Q5_Sub (a b c d : Int) : CallsA Tryz.prog GT gbT 33 [.v (.agg [.int .i64 a, .int .i64 b]), .v (.agg [.int .i64 c, .int .i64 d])] [] (rSpanE (subS ⟨a, b⟩ ⟨c, d⟩)) [] := by
  refine CallsA.ofOk fun hok => ?_
  have hw := w_Q5_Sub a b c d (fun v M => some (Res.fin v M))
  refine CallsA.ofEv (Γ := T_sine_Sub) (X := XT) (Λ := noL) (EQ := EQT) (n := 60) g_sine_Sub hEQT hmT (fun _ _ _ _ => noL_ok _) (hw.trans ?_)
  have h_a := inR_i64 (hok (.int .i64 a) (by simp [datasL, datas]))
  have h_b := inR_i64 (hok (.int .i64 b) (by simp [datasL, datas]))
  have h_c := inR_i64 (hok (.int .i64 c) (by simp [datasL, datas]))
  have h_d := inR_i64 (hok (.int .i64 d) (by simp [datasL, datas]))
  clear hok hw
  refine congrArg (fun v => some (Res.fin v [])) ?_
  rw [subRef_ok]
def s_Q5_Sub : List AV → List Blk → (AV → List Blk → Ans) → Ans := fun xs bs K => match xs, bs with
  | [.v (.agg [.int .i64 a, .int .i64 b]), .v (.agg [.int .i64 c, .int .i64 d])], [] => K (rSpanE (subS ⟨a, b⟩ ⟨c, d⟩)) []
  | _, _ => none
def T_Q5_Sub : Nat → List AV → List Blk → (AV → List Blk → Ans) → Ans := upd T_sine_Sub 33 s_Q5_Sub
theorem g_Q5_Sub : GOK Tryz.prog GT gbT T_Q5_Sub XT := by
  refine GOK.upd g_sine_Sub (fun args w => Tryz.call33 args w) fun xs bs K r h => ?_
  unfold s_Q5_Sub at h
  split at h
  · exact ⟨_, _, c_Q5_Sub _ _ _ _, h⟩
  · cases h
theorem w_sine_Mul (a b c d : Int) (K : AV → List Blk → Ans) : evFn Tryz.prog GT EQT T_Q5_Sub XT noL 60 27 [.v (.agg [.int .i64 a, .int .i64 b]), .v (.agg [.int .i64 c, .int .i64 d])] [] (fun v M => K v (M.take ([] : List Blk).length)) = K (rSpanE (mulRaw' ⟨a, b⟩ ⟨c, d⟩)) [] := by
  simp only [mulRaw', pullK K]
  kernel_rfl
theorem c_sine_Mul (a b c d : Int) : CallsA Tryz.prog GT gbT 27 [.v (.agg [.int .i64 a, .int .i64 b]), .v (.agg [.int .i64 c, .int .i64 d])] [] (rSpanE (mulS ⟨a, b⟩ ⟨c, d⟩)) [] := by
  refine CallsA.ofOk fun hok => ?_
  have hw := w_sine_Mul a b c d (fun v M => some (Res.fin v M))
  refine CallsA.ofEv (Γ := T_Q5_Sub) (X := XT) (Λ := noL) (EQ := EQT) (n := 60) g_Q5_Sub hEQT hmT (fun _ _ _ _ => noL_ok _) (hw.trans ?_)
  have h_a := inR_i64 (hok (.int .i64 a) (by simp [datasL, datas]))
  have h_b := inR_i64 (hok (.int .i64 b) (by simp [datasL, datas]))
  have h_c := inR_i64 (hok (.int .i64 c) (by simp [datasL, datas]))
  have h_d := inR_i64 (hok (.int .i64 d) (by simp [datasL, datas]))
  clear hok hw
  refine congrArg (fun v => some (Res.fin v [])) ?_
  rw [mulRaw'_ok]
def s_sine_Mul : List AV → List Blk → (AV → List Blk → Ans) → Ans := fun xs bs K => match xs, bs with
  | [.v (.agg [.int .i64 a, .int .i64 b]), .v (.agg [.int .i64 c, .int .i64 d])], [] => K (rSpanE (mulS ⟨a, b⟩ ⟨c, d⟩)) []
  | _, _ => none
def T_sine_Mul : Nat → List AV → List Blk → (AV → List Blk → Ans) → Ans := upd T_Q5_Sub 27 s_sine_Mul
theorem g_sine_Mul : GOK Tryz.prog GT gbT T_sine_Mul XT := by
  refine GOK.upd g_Q5_Sub (fun args w => Tryz.call27 args w) fun xs bs K r h => ?_
  unfold s_sine_Mul at h
  split at h
  · exact ⟨_, _, c_sine_Mul _ _ _ _, h⟩
  · cases h
theorem w_Q5_Mul (a b c d : Int) (K : AV → List Blk → Ans) : evFn Tryz.prog GT EQT T_sine_Mul XT noL 60 68 [.v (.agg [.int .i64 a, .int .i64 b]), .v (.agg [.int .i64 c, .int .i64 d])] [] (fun v M => K v (M.take ([] : List Blk).length)) = K (rSpanE (mulRaw' ⟨a, b⟩ ⟨c, d⟩)) [] := by
  simp only [mulRaw', pullK K]
  kernel_rfl
theorem c_Q5_Mul (a b c d : Int) : CallsA Tryz.prog GT gbT 68 [.v (.agg [.int .i64 a, .int .i64 b]), .v (.agg [.int .i64 c, .int .i64 d])] [] (rSpanE (mulS ⟨a, b⟩ ⟨c, d⟩)) [] := by
  refine CallsA.ofOk fun hok => ?_
  have hw := w_Q5_Mul a b c d (fun v M => some (Res.fin v M))
  refine CallsA.ofEv (Γ := T_sine_Mul) (X := XT) (Λ := noL) (EQ := EQT) (n := 60) g_sine_Mul hEQT hmT (fun _ _ _ _ => noL_ok _) (hw.trans ?_)
  have h_a := inR_i64 (hok (.int .i64 a) (by simp [datasL, datas]))
  have h_b := inR_i64 (hok (.int .i64 b) (by simp [datasL, datas]))
  have h_c := inR_i64 (hok (.int .i64 c) (by simp [datasL, datas]))
  have h_d := inR_i64 (hok (.int .i64 d) (by simp [datasL, datas]))
  clear hok hw
  refine congrArg (fun v => some (Res.fin v [])) ?_
  rw [mulRaw'_ok]
def s_Q5_Mul : List AV → List Blk → (AV → List Blk → Ans) → Ans := fun xs bs K => match xs, bs with
  | [.v (.agg [.int .i64 a, .int .i64 b]), .v (.agg [.int .i64 c, .int .i64 d])], [] => K (rSpanE (mulS ⟨a, b⟩ ⟨c, d⟩)) []
  | _, _ => none
def T_Q5_Mul : Nat → List AV → List Blk → (AV → List Blk → Ans) → Ans := upd T_sine_Mul 68 s_Q5_Mul
theorem g_Q5_Mul : GOK Tryz.prog GT gbT T_Q5_Mul XT := by
  refine GOK.upd g_sine_Mul (fun args w => Tryz.call68 args w) fun xs bs K r h => ?_
  unfold s_Q5_Mul at h
  split at h
  · exact ⟨_, _, c_Q5_Mul _ _ _ _, h⟩
  · cases h
theorem w_sine_around (num den : Int) (K : AV → List Blk → Ans) : evFn Tryz.prog GT EQT T_Q5_Mul XT noL 60 61 [.v (.agg [.int .i64 num, .int .i64 den])] [] (fun v M => K v (M.take ([] : List Blk).length)) = bif decide (num < 0) then aroundAns K num den (w64 (0 - num)) else aroundAns K num den num := by
  simp only [aroundAns, aroundTail, pullK K]
  kernel_rfl
theorem c_sine_around (num den : Int) (hd : (fracOkB ⟨num, den⟩) = true) : CallsA Tryz.prog GT gbT 61 [.v (.agg [.int .i64 num, .int .i64 den])] [] (rSpanB (aroundB ⟨num, den⟩)) [] := by
  refine CallsA.ofOk fun hok => ?_
  have hw := w_sine_around num den (fun v M => some (Res.fin v M))
  refine CallsA.ofEv (Γ := T_Q5_Mul) (X := XT) (Λ := noL) (EQ := EQT) (n := 60) g_Q5_Mul hEQT hmT (fun _ _ _ _ => noL_ok _) (hw.trans ?_)
  have h_num := inR_i64 (hok (.int .i64 num) (by simp [datasL, datas]))
  have h_den := inR_i64 (hok (.int .i64 den) (by simp [datasL, datas]))
  clear hok hw
  have hk := fracOkB_iff.1 hd
  have h1 := hk.numlo
  have h2 := hk.numhi
  simp only at h1 h2
  by_cases hn : num < 0
  · rw [decide_eq_true hn, cond_true, w64_id (by omega)]
    exact aroundAns_ok (K := fun v M => some (Res.fin v M)) hk (by rw [absI_of_neg hn]; omega)
  · rw [decide_eq_false hn, cond_false]
    exact aroundAns_ok (K := fun v M => some (Res.fin v M)) hk (absI_of_nonneg (by omega)).symm
def s_sine_around : List AV → List Blk → (AV → List Blk → Ans) → Ans := fun xs bs K => match xs, bs with
  | [.v (.agg [.int .i64 num, .int .i64 den])], [] => bif fracOkB ⟨num, den⟩ then K (rSpanB (aroundB ⟨num, den⟩)) [] else none
  | _, _ => none
def T_sine_around : Nat → List AV → List Blk → (AV → List Blk → Ans) → Ans := upd T_Q5_Mul 61 s_sine_around
theorem g_sine_around : GOK Tryz.prog GT gbT T_sine_around XT := by
  refine GOK.upd g_Q5_Mul (fun args w => Tryz.call61 args w) fun xs bs K r h => ?_
  unfold s_sine_around at h
  split at h
  · simp only [cond_eq_ite] at h
    split at h
    · exact ⟨_, _, c_sine_around _ _ ‹_›, h⟩
    · cases h
  · cases h
theorem w_sine_Of (num den : Int) (K : AV → List Blk → Ans) : evFn Tryz.prog GT EQT T_sine_around XT noL 60 26 [.v (.agg [.int .i64 num, .int .i64 den])] [] (fun v M => K v (M.take ([] : List Blk).length)) = bif checkF ⟨num, den⟩ != 0 then K (rSpanE (spanZ, 8)) [] else bif fracOkB ⟨num, den⟩ then (bif !(aroundB ⟨num, den⟩).2 then K (rSpanE (spanZ, 16)) [] else K (rSpanE (rangedS (aroundB ⟨num, den⟩).1)) []) else none := by
  kernel_rfl
theorem c_sine_Of (num den : Int) : CallsA Tryz.prog GT gbT 26 [.v (.agg [.int .i64 num, .int .i64 den])] [] (rSpanE (ofS ⟨num, den⟩)) [] := by
  refine CallsA.ofOk fun hok => ?_
  have hw := w_sine_Of num den (fun v M => some (Res.fin v M))
  refine CallsA.ofEv (Γ := T_sine_around) (X := XT) (Λ := noL) (EQ := EQT) (n := 60) g_sine_around hEQT hmT (fun _ _ _ _ => noL_ok _) (hw.trans ?_)
  have h_num := inR_i64 (hok (.int .i64 num) (by simp [datasL, datas]))
  have h_den := inR_i64 (hok (.int .i64 den) (by simp [datasL, datas]))
  clear hok hw
  exact sineOf_ok (K := fun v M => some (Res.fin v M))
def s_sine_Of : List AV → List Blk → (AV → List Blk → Ans) → Ans := fun xs bs K => match xs, bs with
  | [.v (.agg [.int .i64 num, .int .i64 den])], [] => K (rSpanE (ofS ⟨num, den⟩)) []
  | _, _ => none
def T_sine_Of : Nat → List AV → List Blk → (AV → List Blk → Ans) → Ans := upd T_sine_around 26 s_sine_Of
theorem g_sine_Of : GOK Tryz.prog GT gbT T_sine_Of XT := by
  refine GOK.upd g_sine_around (fun args w => Tryz.call26 args w) fun xs bs K r h => ?_
  unfold s_sine_Of at h
  split at h
  · exact ⟨_, _, c_sine_Of _ _, h⟩
  · cases h
end Go.Ev

namespace Go.Ev
open Go Go.Proofs
theorem w_Q5_Of (num den : Int) (K : AV → List Blk → Ans) : evFn Tryz.prog GT EQT T_sine_Of XT noL 90 67 [.v (.agg [.int .i64 num, .int .i64 den])] [] (fun v M => K v (M.take ([] : List Blk).length)) = bif checkF ⟨num, den⟩ != 0 then K (rSpanE (spanZ, 8)) [] else bif decide (0 < den) then ofAns K num den else none := by
  kernel_rfl
theorem c_Q5_Of (num den : Int) : CallsA Tryz.prog GT gbT 67 [.v (.agg [.int .i64 num, .int .i64 den])] [] (rSpanE (ofS ⟨num, den⟩)) [] := by
  refine CallsA.ofOk fun hok => ?_
  have hw := w_Q5_Of num den (fun v M => some (Res.fin v M))
  refine CallsA.ofEv (Γ := T_sine_Of) (X := XT) (Λ := noL) (EQ := EQT) (n := 90) g_sine_Of hEQT hmT (fun _ _ _ _ => noL_ok _) (hw.trans ?_)
  have h_num := inR_i64 (hok (.int .i64 num) (by simp [datasL, datas]))
  have h_den := inR_i64 (hok (.int .i64 den) (by simp [datasL, datas]))
  clear hok hw
  exact refOf_ok (K := fun v M => some (Res.fin v M))
def s_Q5_Of : List AV → List Blk → (AV → List Blk → Ans) → Ans := fun xs bs K => match xs, bs with
  | [.v (.agg [.int .i64 num, .int .i64 den])], [] => K (rSpanE (ofS ⟨num, den⟩)) []
  | _, _ => none
def T_Q5_Of : Nat → List AV → List Blk → (AV → List Blk → Ans) → Ans := upd T_sine_Of 67 s_Q5_Of
theorem g_Q5_Of : GOK Tryz.prog GT gbT T_Q5_Of XT := by
  refine GOK.upd g_sine_Of (fun args w => Tryz.call67 args w) fun xs bs K r h => ?_
  unfold s_Q5_Of at h
  split at h
  · exact ⟨_, _, c_Q5_Of _ _, h⟩
  · cases h
theorem w_bits_Rem64 (hi lo y : Int) (K : AV → List Blk → Ans) : evFn Tryz.prog GT EQT T_Q5_Of XT noL 60 92 [.v (.c (.d (.int .u64 hi))), .v (.c (.d (.int .u64 lo))), .v (.c (.d (.int .u64 y)))] [] (fun v M => K v (M.take ([] : List Blk).length)) = remAns K hi lo y := by
  kernel_rfl
theorem c_bits_Rem64 (hi lo y : Int) (hd : (decide (0 < y)) = true) : CallsA Tryz.prog GT gbT 92 [.v (.c (.d (.int .u64 hi))), .v (.c (.d (.int .u64 lo))), .v (.c (.d (.int .u64 y)))] [] (rU ((hi * 18446744073709551616 + lo) % y)) [] := by
  refine CallsA.ofOk fun hok => ?_
  have hw := w_bits_Rem64 hi lo y (fun v M => some (Res.fin v M))
  refine CallsA.ofEv (Γ := T_Q5_Of) (X := XT) (Λ := noL) (EQ := EQT) (n := 60) g_Q5_Of hEQT hmT (fun _ _ _ _ => noL_ok _) (hw.trans ?_)
  have h_hi := inR_u64 (hok (.int .u64 hi) (by simp [datasL, datas]))
  have h_lo := inR_u64 (hok (.int .u64 lo) (by simp [datasL, datas]))
  have h_y := inR_u64 (hok (.int .u64 y) (by simp [datasL, datas]))
  clear hok hw
  exact remAns_ok (K := fun v M => some (Res.fin v M)) h_hi.1 (of_decide_eq_true hd)
def s_bits_Rem64 : List AV → List Blk → (AV → List Blk → Ans) → Ans := fun xs bs K => match xs, bs with
  | [.v (.c (.d (.int .u64 hi))), .v (.c (.d (.int .u64 lo))), .v (.c (.d (.int .u64 y)))], [] => bif decide (0 < y) then K (rU ((hi * 18446744073709551616 + lo) % y)) [] else none
  | _, _ => none
def T_bits_Rem64 : Nat → List AV → List Blk → (AV → List Blk → Ans) → Ans := upd T_Q5_Of 92 s_bits_Rem64
theorem g_bits_Rem64 : GOK Tryz.prog GT gbT T_bits_Rem64 XT := by
  refine GOK.upd g_Q5_Of (fun args w => Tryz.call92 args w) fun xs bs K r h => ?_
  unfold s_bits_Rem64 at h
  split at h
  · simp only [cond_eq_ite] at h
    split at h
    · exact ⟨_, _, c_bits_Rem64 _ _ _ ‹_›, h⟩
    · cases h
  · cases h
theorem w_frac_wider (a b c d : Int) (K : AV → List Blk → Ans) : evFn Tryz.prog GT EQT T_bits_Rem64 XT noL 60 90 [.v (.c (.d (.int .u64 a))), .v (.c (.d (.int .u64 b))), .v (.c (.d (.int .u64 c))), .v (.c (.d (.int .u64 d)))] [] (fun v M => K v (M.take ([] : List Blk).length)) = K (rI (widerRaw a b c d)) [] := by
  simp only [widerRaw, widerTail, pullK K]
  kernel_rfl
theorem c_frac_wider (a b c d : Int) : CallsA Tryz.prog GT gbT 90 [.v (.c (.d (.int .u64 a))), .v (.c (.d (.int .u64 b))), .v (.c (.d (.int .u64 c))), .v (.c (.d (.int .u64 d)))] [] (rI (cmpI (a * 18446744073709551616 + b) (c * 18446744073709551616 + d))) [] := by
  refine CallsA.ofOk fun hok => ?_
  have hw := w_frac_wider a b c d (fun v M => some (Res.fin v M))
  refine CallsA.ofEv (Γ := T_bits_Rem64) (X := XT) (Λ := noL) (EQ := EQT) (n := 60) g_bits_Rem64 hEQT hmT (fun _ _ _ _ => noL_ok _) (hw.trans ?_)
  have h_a := inR_u64 (hok (.int .u64 a) (by simp [datasL, datas]))
  have h_b := inR_u64 (hok (.int .u64 b) (by simp [datasL, datas]))
  have h_c := inR_u64 (hok (.int .u64 c) (by simp [datasL, datas]))
  have h_d := inR_u64 (hok (.int .u64 d) (by simp [datasL, datas]))
  clear hok hw
  refine congrArg (fun v => some (Res.fin v [])) ?_
  rw [widerRaw_ok h_b h_d]
def s_frac_wider : List AV → List Blk → (AV → List Blk → Ans) → Ans := fun xs bs K => match xs, bs with
  | [.v (.c (.d (.int .u64 a))), .v (.c (.d (.int .u64 b))), .v (.c (.d (.int .u64 c))), .v (.c (.d (.int .u64 d)))], [] => K (rI (cmpI (a * 18446744073709551616 + b) (c * 18446744073709551616 + d))) []
  | _, _ => none
def T_frac_wider : Nat → List AV → List Blk → (AV → List Blk → Ans) → Ans := upd T_bits_Rem64 90 s_frac_wider
theorem g_frac_wider : GOK Tryz.prog GT gbT T_frac_wider XT := by
  refine GOK.upd g_bits_Rem64 (fun args w => Tryz.call90 args w) fun xs bs K r h => ?_
  unfold s_frac_wider at h
  split at h
  · exact ⟨_, _, c_frac_wider _ _ _ _, h⟩
  · cases h
theorem w_frac_build (m : Bool) (n d : Int) (K : AV → List Blk → Ans) : evFn Tryz.prog GT EQT T_frac_wider XT noL 60 93 [.v (.c (.d (.bool m))), .v (.c (.d (.int .u64 n))), .v (.c (.d (.int .u64 d)))] [] (fun v M => K v (M.take ([] : List Blk).length)) = K (rFracE (buildRaw m n d)) [] := by
  simp only [buildRaw, pullK K]
  kernel_rfl
theorem c_frac_build (m : Bool) (n d : Int) : CallsA Tryz.prog GT gbT 93 [.v (.c (.d (.bool m))), .v (.c (.d (.int .u64 n))), .v (.c (.d (.int .u64 d)))] [] (rFracE (lowF m n d)) [] := by
  refine CallsA.ofOk fun hok => ?_
  have hw := w_frac_build m n d (fun v M => some (Res.fin v M))
  refine CallsA.ofEv (Γ := T_frac_wider) (X := XT) (Λ := noL) (EQ := EQT) (n := 60) g_frac_wider hEQT hmT (fun _ _ _ _ => noL_ok _) (hw.trans ?_)
  have h_n := inR_u64 (hok (.int .u64 n) (by simp [datasL, datas]))
  have h_d := inR_u64 (hok (.int .u64 d) (by simp [datasL, datas]))
  clear hok hw
  refine congrArg (fun v => some (Res.fin v [])) ?_
  rw [buildRaw_ok h_n.1 h_d.1]
def s_frac_build : List AV → List Blk → (AV → List Blk → Ans) → Ans := fun xs bs K => match xs, bs with
  | [.v (.c (.d (.bool m))), .v (.c (.d (.int .u64 n))), .v (.c (.d (.int .u64 d)))], [] => K (rFracE (lowF m n d)) []
  | _, _ => none
def T_frac_build : Nat → List AV → List Blk → (AV → List Blk → Ans) → Ans := upd T_frac_wider 93 s_frac_build
theorem g_frac_build : GOK Tryz.prog GT gbT T_frac_build XT := by
  refine GOK.upd g_frac_wider (fun args w => Tryz.call93 args w) fun xs bs K r h => ?_
  unfold s_frac_build at h
  split at h
  · exact ⟨_, _, c_frac_build _ _ _, h⟩
  · cases h
theorem w_frac_both (a b c d : Int) (K : AV → List Blk → Ans) : evFn Tryz.prog GT EQT T_frac_build XT noL 60 70 [.v (.agg [.int .i64 a, .int .i64 b]), .v (.agg [.int .i64 c, .int .i64 d])] [] (fun v M => K v (M.take ([] : List Blk).length)) = K (rI (bothE ⟨a, b⟩ ⟨c, d⟩)) [] := by
  simp only [bothE, pullK K]
  kernel_rfl
theorem c_frac_both (a b c d : Int) : CallsA Tryz.prog GT gbT 70 [.v (.agg [.int .i64 a, .int .i64 b]), .v (.agg [.int .i64 c, .int .i64 d])] [] (rI (bothE ⟨a, b⟩ ⟨c, d⟩)) [] := by
  refine CallsA.ofOk fun hok => ?_
  have hw := w_frac_both a b c d (fun v M => some (Res.fin v M))
  refine CallsA.ofEv (Γ := T_frac_build) (X := XT) (Λ := noL) (EQ := EQT) (n := 60) g_frac_build hEQT hmT (fun _ _ _ _ => noL_ok _) (hw.trans ?_)
  rfl
def s_frac_both : List AV → List Blk → (AV → List Blk → Ans) → Ans := fun xs bs K => match xs, bs with
  | [.v (.agg [.int .i64 a, .int .i64 b]), .v (.agg [.int .i64 c, .int .i64 d])], [] => K (rI (bothE ⟨a, b⟩ ⟨c, d⟩)) []
  | _, _ => none
def T_frac_both : Nat → List AV → List Blk → (AV → List Blk → Ans) → Ans := upd T_frac_build 70 s_frac_both
theorem g_frac_both : GOK Tryz.prog GT gbT T_frac_both XT := by
  refine GOK.upd g_frac_build (fun args w => Tryz.call70 args w) fun xs bs K r h => ?_
  unfold s_frac_both at h
  split at h
  · exact ⟨_, _, c_frac_both _ _ _ _, h⟩
  · cases h
theorem w_frac_sum (a b c d : Int) (K : AV → List Blk → Ans) : evFn Tryz.prog GT EQT T_frac_both XT noL 120 71 [.v (.agg [.int .i64 a, .int .i64 b]), .v (.agg [.int .i64 c, .int .i64 d])] [] (fun v M => K v (M.take ([] : List Blk).length)) = sumAns K ⟨a, b⟩ ⟨c, d⟩ := by
  kernel_rfl
theorem c_frac_sum (a b c d : Int) (hd : (fracOkB ⟨a, b⟩ && fracOkB ⟨c, d⟩) = true) : CallsA Tryz.prog GT gbT 71 [.v (.agg [.int .i64 a, .int .i64 b]), .v (.agg [.int .i64 c, .int .i64 d])] [] (rFracE (fracOf (a * d + c * b) (b * d))) [] := by
  refine CallsA.ofOk fun hok => ?_
  have hw := w_frac_sum a b c d (fun v M => some (Res.fin v M))
  refine CallsA.ofEv (Γ := T_frac_both) (X := XT) (Λ := noL) (EQ := EQT) (n := 120) g_frac_both hEQT hmT (fun _ _ _ _ => noL_ok _) (hw.trans ?_)
  have h_a := inR_i64 (hok (.int .i64 a) (by simp [datasL, datas]))
  have h_b := inR_i64 (hok (.int .i64 b) (by simp [datasL, datas]))
  have h_c := inR_i64 (hok (.int .i64 c) (by simp [datasL, datas]))
  have h_d := inR_i64 (hok (.int .i64 d) (by simp [datasL, datas]))
  clear hok hw
  simp only [Bool.and_eq_true] at hd
  exact sumAns_ok (K := fun v M => some (Res.fin v M)) (fracOkB_iff.1 hd.1) (fracOkB_iff.1 hd.2)
def s_frac_sum : List AV → List Blk → (AV → List Blk → Ans) → Ans := fun xs bs K => match xs, bs with
  | [.v (.agg [.int .i64 a, .int .i64 b]), .v (.agg [.int .i64 c, .int .i64 d])], [] => bif fracOkB ⟨a, b⟩ && fracOkB ⟨c, d⟩ then K (rFracE (fracOf (a * d + c * b) (b * d))) [] else none
  | _, _ => none
def T_frac_sum : Nat → List AV → List Blk → (AV → List Blk → Ans) → Ans := upd T_frac_both 71 s_frac_sum
theorem g_frac_sum : GOK Tryz.prog GT gbT T_frac_sum XT := by
  refine GOK.upd g_frac_both (fun args w => Tryz.call71 args w) fun xs bs K r h => ?_
  unfold s_frac_sum at h
  split at h
  · simp only [cond_eq_ite] at h
    split at h
    · exact ⟨_, _, c_frac_sum _ _ _ _ ‹_›, h⟩
    · cases h
  · cases h
theorem w_frac_product (a b c d : Int) (K : AV → List Blk → Ans) : evFn Tryz.prog GT EQT T_frac_sum XT noL 120 148 [.v (.agg [.int .i64 a, .int .i64 b]), .v (.agg [.int .i64 c, .int .i64 d])] [] (fun v M => K v (M.take ([] : List Blk).length)) = prodAns K ⟨a, b⟩ ⟨c, d⟩ := by
  kernel_rfl
theorem c_frac_product (a b c d : Int) (hd : (fracOkB ⟨a, b⟩ && fracOkB ⟨c, d⟩) = true) : CallsA Tryz.prog GT gbT 148 [.v (.agg [.int .i64 a, .int .i64 b]), .v (.agg [.int .i64 c, .int .i64 d])] [] (rFracE (fracOf (a * c) (b * d))) [] := by
  refine CallsA.ofOk fun hok => ?_
  have hw := w_frac_product a b c d (fun v M => some (Res.fin v M))
  refine CallsA.ofEv (Γ := T_frac_sum) (X := XT) (Λ := noL) (EQ := EQT) (n := 120) g_frac_sum hEQT hmT (fun _ _ _ _ => noL_ok _) (hw.trans ?_)
  have h_a := inR_i64 (hok (.int .i64 a) (by simp [datasL, datas]))
  have h_b := inR_i64 (hok (.int .i64 b) (by simp [datasL, datas]))
  have h_c := inR_i64 (hok (.int .i64 c) (by simp [datasL, datas]))
  have h_d := inR_i64 (hok (.int .i64 d) (by simp [datasL, datas]))
  clear hok hw
  simp only [Bool.and_eq_true] at hd
  exact prodAns_ok (K := fun v M => some (Res.fin v M)) (fracOkB_iff.1 hd.1) (fracOkB_iff.1 hd.2)
def s_frac_product : List AV → List Blk → (AV → List Blk → Ans) → Ans := fun xs bs K => match xs, bs with
  | [.v (.agg [.int .i64 a, .int .i64 b]), .v (.agg [.int .i64 c, .int .i64 d])], [] => bif fracOkB ⟨a, b⟩ && fracOkB ⟨c, d⟩ then K (rFracE (fracOf (a * c) (b * d))) [] else none
  | _, _ => none
def T_frac_product : Nat → List AV → List Blk → (AV → List Blk → Ans) → Ans := upd T_frac_sum 148 s_frac_product
theorem g_frac_product : GOK Tryz.prog GT gbT T_frac_product XT := by
  refine GOK.upd g_frac_sum (fun args w => Tryz.call148 args w) fun xs bs K r h => ?_
  unfold s_frac_product at h
  split at h
  · simp only [cond_eq_ite] at h
    split at h
    · exact ⟨_, _, c_frac_product _ _ _ _ ‹_›, h⟩
    · cases h
  · cases h
theorem w_frac_Sub (a b c d : Int) (K : AV → List Blk → Ans) : evFn Tryz.prog GT EQT T_frac_product XT noL 60 42 [.v (.agg [.int .i64 a, .int .i64 b]), .v (.agg [.int .i64 c, .int .i64 d])] [] (fun v M => K v (M.take ([] : List Blk).length)) = subAns K ⟨a, b⟩ ⟨c, d⟩ := by
  kernel_rfl
theorem c_frac_Sub (a b c d : Int) : CallsA Tryz.prog GT gbT 42 [.v (.agg [.int .i64 a, .int .i64 b]), .v (.agg [.int .i64 c, .int .i64 d])] [] (rFracE (subF ⟨a, b⟩ ⟨c, d⟩)) [] := by
  refine CallsA.ofOk fun hok => ?_
  have hw := w_frac_Sub a b c d (fun v M => some (Res.fin v M))
  refine CallsA.ofEv (Γ := T_frac_product) (X := XT) (Λ := noL) (EQ := EQT) (n := 60) g_frac_product hEQT hmT (fun _ _ _ _ => noL_ok _) (hw.trans ?_)
  have h_a := inR_i64 (hok (.int .i64 a) (by simp [datasL, datas]))
  have h_b := inR_i64 (hok (.int .i64 b) (by simp [datasL, datas]))
  have h_c := inR_i64 (hok (.int .i64 c) (by simp [datasL, datas]))
  have h_d := inR_i64 (hok (.int .i64 d) (by simp [datasL, datas]))
  clear hok hw
  exact subAns_ok (K := fun v M => some (Res.fin v M))
def s_frac_Sub : List AV → List Blk → (AV → List Blk → Ans) → Ans := fun xs bs K => match xs, bs with
  | [.v (.agg [.int .i64 a, .int .i64 b]), .v (.agg [.int .i64 c, .int .i64 d])], [] => K (rFracE (subF ⟨a, b⟩ ⟨c, d⟩)) []
  | _, _ => none
def T_frac_Sub : Nat → List AV → List Blk → (AV → List Blk → Ans) → Ans := upd T_frac_product 42 s_frac_Sub
theorem g_frac_Sub : GOK Tryz.prog GT gbT T_frac_Sub XT := by
  refine GOK.upd g_frac_product (fun args w => Tryz.call42 args w) fun xs bs K r h => ?_
  unfold s_frac_Sub at h
  split at h
  · exact ⟨_, _, c_frac_Sub _ _ _ _, h⟩
  · cases h
theorem w_frac_Mul (a b c d : Int) (K : AV → List Blk → Ans) : evFn Tryz.prog GT EQT T_frac_Sub XT noL 60 129 [.v (.agg [.int .i64 a, .int .i64 b]), .v (.agg [.int .i64 c, .int .i64 d])] [] (fun v M => K v (M.take ([] : List Blk).length)) = mulAns K ⟨a, b⟩ ⟨c, d⟩ := by
  kernel_rfl
theorem c_frac_Mul (a b c d : Int) : CallsA Tryz.prog GT gbT 129 [.v (.agg [.int .i64 a, .int .i64 b]), .v (.agg [.int .i64 c, .int .i64 d])] [] (rFracE (mulF ⟨a, b⟩ ⟨c, d⟩)) [] := by
  refine CallsA.ofOk fun hok => ?_
  have hw := w_frac_Mul a b c d (fun v M => some (Res.fin v M))
  refine CallsA.ofEv (Γ := T_frac_Sub) (X := XT) (Λ := noL) (EQ := EQT) (n := 60) g_frac_Sub hEQT hmT (fun _ _ _ _ => noL_ok _) (hw.trans ?_)
  have h_a := inR_i64 (hok (.int .i64 a) (by simp [datasL, datas]))
  have h_b := inR_i64 (hok (.int .i64 b) (by simp [datasL, datas]))
  have h_c := inR_i64 (hok (.int .i64 c) (by simp [datasL, datas]))
  have h_d := inR_i64 (hok (.int .i64 d) (by simp [datasL, datas]))
  clear hok hw
  exact mulAns_ok (K := fun v M => some (Res.fin v M))
def s_frac_Mul : List AV → List Blk → (AV → List Blk → Ans) → Ans := fun xs bs K => match xs, bs with
  | [.v (.agg [.int .i64 a, .int .i64 b]), .v (.agg [.int .i64 c, .int .i64 d])], [] => K (rFracE (mulF ⟨a, b⟩ ⟨c, d⟩)) []
  | _, _ => none
def T_frac_Mul : Nat → List AV → List Blk → (AV → List Blk → Ans) → Ans := upd T_frac_Sub 129 s_frac_Mul
theorem g_frac_Mul : GOK Tryz.prog GT gbT T_frac_Mul XT := by
  refine GOK.upd g_frac_Sub (fun args w => Tryz.call129 args w) fun xs bs K r h => ?_
  unfold s_frac_Mul at h
  split at h
  · exact ⟨_, _, c_frac_Mul _ _ _ _, h⟩
  · cases h
theorem w_Q1_Both (a b c d : Int) (K : AV → List Blk → Ans) : evFn Tryz.prog GT EQT T_frac_Mul XT noL 60 44 [.v (.agg [.int .i64 a, .int .i64 b]), .v (.agg [.int .i64 c, .int .i64 d])] [] (fun v M => K v (M.take ([] : List Blk).length)) = K (rI (bothE ⟨a, b⟩ ⟨c, d⟩)) [] := by
  simp only [bothE, pullK K]
  kernel_rfl
theorem c_Q1_Both (a b c d : Int) : CallsA Tryz.prog GT gbT 44 [.v (.agg [.int .i64 a, .int .i64 b]), .v (.agg [.int .i64 c, .int .i64 d])] [] (rI (bothE ⟨a, b⟩ ⟨c, d⟩)) [] := by
  refine CallsA.ofOk fun hok => ?_
  have hw := w_Q1_Both a b c d (fun v M => some (Res.fin v M))
  refine CallsA.ofEv (Γ := T_frac_Mul) (X := XT) (Λ := noL) (EQ := EQT) (n := 60) g_frac_Mul hEQT hmT (fun _ _ _ _ => noL_ok _) (hw.trans ?_)
  rfl
def s_Q1_Both : List AV → List Blk → (AV → List Blk → Ans) → Ans := fun xs bs K => match xs, bs with
  | [.v (.agg [.int .i64 a, .int .i64 b]), .v (.agg [.int .i64 c, .int .i64 d])], [] => K (rI (bothE ⟨a, b⟩ ⟨c, d⟩)) []
  | _, _ => none
def T_Q1_Both : Nat → List AV → List Blk → (AV → List Blk → Ans) → Ans := upd T_frac_Mul 44 s_Q1_Both
theorem g_Q1_Both : GOK Tryz.prog GT gbT T_Q1_Both XT := by
  refine GOK.upd g_frac_Mul (fun args w => Tryz.call44 args w) fun xs bs K r h => ?_
  unfold s_Q1_Both at h
  split at h
  · exact ⟨_, _, c_Q1_Both _ _ _ _, h⟩
  · cases h
theorem w_Q1_sum (a b c d e f g h : Int) (K : AV → List Blk → Ans) : evFn Tryz.prog GT EQT T_Q1_Both XT noL 60 48 [.v (.agg [.int .u64 a, .int .u64 b, .int .u64 c, .int .u64 d]), .v (.agg [.int .u64 e, .int .u64 f, .int .u64 g, .int .u64 h])] [] (fun v M => K v (M.take ([] : List Blk).length)) = K (rBig (sumBig ⟨a, b, c, d⟩ ⟨e, f, g, h⟩)) [] := by
  kernel_rfl
theorem c_Q1_sum (a b c d e f g h : Int) (hd : (sumOn ⟨a, b, c, d⟩ ⟨e, f, g, h⟩) = true) : CallsA Tryz.prog GT gbT 48 [.v (.agg [.int .u64 a, .int .u64 b, .int .u64 c, .int .u64 d]), .v (.agg [.int .u64 e, .int .u64 f, .int .u64 g, .int .u64 h])] [] (rBig (bigOf (valOf ⟨a, b, c, d⟩ + valOf ⟨e, f, g, h⟩))) [] := by
  refine CallsA.ofOk fun hok => ?_
  have hw := w_Q1_sum a b c d e f g h (fun v M => some (Res.fin v M))
  refine CallsA.ofEv (Γ := T_Q1_Both) (X := XT) (Λ := noL) (EQ := EQT) (n := 60) g_Q1_Both hEQT hmT (fun _ _ _ _ => noL_ok _) (hw.trans ?_)
  have h_a := inR_u64 (hok (.int .u64 a) (by simp [datasL, datas]))
  have h_b := inR_u64 (hok (.int .u64 b) (by simp [datasL, datas]))
  have h_c := inR_u64 (hok (.int .u64 c) (by simp [datasL, datas]))
  have h_d := inR_u64 (hok (.int .u64 d) (by simp [datasL, datas]))
  have h_e := inR_u64 (hok (.int .u64 e) (by simp [datasL, datas]))
  have h_f := inR_u64 (hok (.int .u64 f) (by simp [datasL, datas]))
  have h_g := inR_u64 (hok (.int .u64 g) (by simp [datasL, datas]))
  have h_h := inR_u64 (hok (.int .u64 h) (by simp [datasL, datas]))
  clear hok hw
  refine congrArg (fun v => some (Res.fin v [])) ?_
  rw [sumBig_ok hd]
def s_Q1_sum : List AV → List Blk → (AV → List Blk → Ans) → Ans := fun xs bs K => match xs, bs with
  | [.v (.agg [.int .u64 a, .int .u64 b, .int .u64 c, .int .u64 d]), .v (.agg [.int .u64 e, .int .u64 f, .int .u64 g, .int .u64 h])], [] => bif sumOn ⟨a, b, c, d⟩ ⟨e, f, g, h⟩ then K (rBig (bigOf (valOf ⟨a, b, c, d⟩ + valOf ⟨e, f, g, h⟩))) [] else none
  | _, _ => none
def T_Q1_sum : Nat → List AV → List Blk → (AV → List Blk → Ans) → Ans := upd T_Q1_Both 48 s_Q1_sum
theorem g_Q1_sum : GOK Tryz.prog GT gbT T_Q1_sum XT := by
  refine GOK.upd g_Q1_Both (fun args w => Tryz.call48 args w) fun xs bs K r h => ?_
  unfold s_Q1_sum at h
  split at h
  · simp only [cond_eq_ite] at h
    split at h
    · exact ⟨_, _, c_Q1_sum _ _ _ _ _ _ _ _ ‹_›, h⟩
    · cases h
  · cases h
theorem w_Q1_rest (a b c d e f g h : Int) (K : AV → List Blk → Ans) : evFn Tryz.prog GT EQT T_Q1_sum XT noL 60 50 [.v (.agg [.int .u64 a, .int .u64 b, .int .u64 c, .int .u64 d]), .v (.agg [.int .u64 e, .int .u64 f, .int .u64 g, .int .u64 h])] [] (fun v M => K v (M.take ([] : List Blk).length)) = K (rBig (restBig ⟨a, b, c, d⟩ ⟨e, f, g, h⟩)) [] := by
  kernel_rfl
theorem c_Q1_rest (a b c d e f g h : Int) (hd : (restOn ⟨a, b, c, d⟩ ⟨e, f, g, h⟩) = true) : CallsA Tryz.prog GT gbT 50 [.v (.agg [.int .u64 a, .int .u64 b, .int .u64 c, .int .u64 d]), .v (.agg [.int .u64 e, .int .u64 f, .int .u64 g, .int .u64 h])] [] (rBig (bigOf (valOf ⟨a, b, c, d⟩ - valOf ⟨e, f, g, h⟩))) [] := by
  refine CallsA.ofOk fun hok => ?_
  have hw := w_Q1_rest a b c d e f g h (fun v M => some (Res.fin v M))
  refine CallsA.ofEv (Γ := T_Q1_sum) (X := XT) (Λ := noL) (EQ := EQT) (n := 60) g_Q1_sum hEQT hmT (fun _ _ _ _ => noL_ok _) (hw.trans ?_)
  have h_a := inR_u64 (hok (.int .u64 a) (by simp [datasL, datas]))
  have h_b := inR_u64 (hok (.int .u64 b) (by simp [datasL, datas]))
  have h_c := inR_u64 (hok (.int .u64 c) (by simp [datasL, datas]))
  have h_d := inR_u64 (hok (.int .u64 d) (by simp [datasL, datas]))
  have h_e := inR_u64 (hok (.int .u64 e) (by simp [datasL, datas]))
  have h_f := inR_u64 (hok (.int .u64 f) (by simp [datasL, datas]))
  have h_g := inR_u64 (hok (.int .u64 g) (by simp [datasL, datas]))
  have h_h := inR_u64 (hok (.int .u64 h) (by simp [datasL, datas]))
  clear hok hw
  refine congrArg (fun v => some (Res.fin v [])) ?_
  rw [restBig_ok hd]
def s_Q1_rest : List AV → List Blk → (AV → List Blk → Ans) → Ans := fun xs bs K => match xs, bs with
  | [.v (.agg [.int .u64 a, .int .u64 b, .int .u64 c, .int .u64 d]), .v (.agg [.int .u64 e, .int .u64 f, .int .u64 g, .int .u64 h])], [] => bif restOn ⟨a, b, c, d⟩ ⟨e, f, g, h⟩ then K (rBig (bigOf (valOf ⟨a, b, c, d⟩ - valOf ⟨e, f, g, h⟩))) [] else none
  | _, _ => none
def T_Q1_rest : Nat → List AV → List Blk → (AV → List Blk → Ans) → Ans := upd T_Q1_sum 50 s_Q1_rest
theorem g_Q1_rest : GOK Tryz.prog GT gbT T_Q1_rest XT := by
  refine GOK.upd g_Q1_sum (fun args w => Tryz.call50 args w) fun xs bs K r h => ?_
  unfold s_Q1_rest at h
  split at h
  · simp only [cond_eq_ite] at h
    split at h
    · exact ⟨_, _, c_Q1_rest _ _ _ _ _ _ _ _ ‹_›, h⟩
    · cases h
  · cases h
theorem w_Q1_Neg (a b : Int) (K : AV → List Blk → Ans) : evFn Tryz.prog GT EQT T_Q1_rest XT noL 60 144 [.v (.agg [.int .i64 a, .int .i64 b])] [] (fun v M => K v (M.take ([] : List Blk).length)) = K (rFrac ⟨w64 (0 - a), b⟩) [] := by
  kernel_rfl
theorem c_Q1_Neg (a b : Int) : CallsA Tryz.prog GT gbT 144 [.v (.agg [.int .i64 a, .int .i64 b])] [] (rFrac ⟨w64 (0 - a), b⟩) [] := by
  refine CallsA.ofOk fun hok => ?_
  have hw := w_Q1_Neg a b (fun v M => some (Res.fin v M))
  refine CallsA.ofEv (Γ := T_Q1_rest) (X := XT) (Λ := noL) (EQ := EQT) (n := 60) g_Q1_rest hEQT hmT (fun _ _ _ _ => noL_ok _) (hw.trans ?_)
  rfl
def s_Q1_Neg : List AV → List Blk → (AV → List Blk → Ans) → Ans := fun xs bs K => match xs, bs with
  | [.v (.agg [.int .i64 a, .int .i64 b])], [] => K (rFrac ⟨w64 (0 - a), b⟩) []
  | _, _ => none
def T_Q1_Neg : Nat → List AV → List Blk → (AV → List Blk → Ans) → Ans := upd T_Q1_rest 144 s_Q1_Neg
theorem g_Q1_Neg : GOK Tryz.prog GT gbT T_Q1_Neg XT := by
  refine GOK.upd g_Q1_rest (fun args w => Tryz.call144 args w) fun xs bs K r h => ?_
  unfold s_Q1_Neg at h
  split at h
  · exact ⟨_, _, c_Q1_Neg _ _, h⟩
  · cases h
theorem w_Q1_Add (a b c d : Int) (K : AV → List Blk → Ans) : evFn Tryz.prog GT EQT T_Q1_Neg XT noL 120 19 [.v (.agg [.int .i64 a, .int .i64 b]), .v (.agg [.int .i64 c, .int .i64 d])] [] (fun v M => K v (M.take ([] : List Blk).length)) = addRefAns K ⟨a, b⟩ ⟨c, d⟩ := by
  kernel_rfl
theorem c_Q1_Add (a b c d : Int) : CallsA Tryz.prog GT gbT 19 [.v (.agg [.int .i64 a, .int .i64 b]), .v (.agg [.int .i64 c, .int .i64 d])] [] (rFracE (addF ⟨a, b⟩ ⟨c, d⟩)) [] := by
  refine CallsA.ofOk fun hok => ?_
  have hw := w_Q1_Add a b c d (fun v M => some (Res.fin v M))
  refine CallsA.ofEv (Γ := T_Q1_Neg) (X := XT) (Λ := noL) (EQ := EQT) (n := 120) g_Q1_Neg hEQT hmT (fun _ _ _ _ => noL_ok _) (hw.trans ?_)
  have h_a := inR_i64 (hok (.int .i64 a) (by simp [datasL, datas]))
  have h_b := inR_i64 (hok (.int .i64 b) (by simp [datasL, datas]))
  have h_c := inR_i64 (hok (.int .i64 c) (by simp [datasL, datas]))
  have h_d := inR_i64 (hok (.int .i64 d) (by simp [datasL, datas]))
  clear hok hw
  exact addRefAns_ok (K := fun v M => some (Res.fin v M))
def s_Q1_Add : List AV → List Blk → (AV → List Blk → Ans) → Ans := fun xs bs K => match xs, bs with
  | [.v (.agg [.int .i64 a, .int .i64 b]), .v (.agg [.int .i64 c, .int .i64 d])], [] => K (rFracE (addF ⟨a, b⟩ ⟨c, d⟩)) []
  | _, _ => none
def T_Q1_Add : Nat → List AV → List Blk → (AV → List Blk → Ans) → Ans := upd T_Q1_Neg 19 s_Q1_Add
theorem g_Q1_Add : GOK Tryz.prog GT gbT T_Q1_Add XT := by
  refine GOK.upd g_Q1_Neg (fun args w => Tryz.call19 args w) fun xs bs K r h => ?_
  unfold s_Q1_Add at h
  split at h
  · exact ⟨_, _, c_Q1_Add _ _ _ _, h⟩
  · cases h
theorem w_Q1_Sub (a b c d : Int) (K : AV → List Blk → Ans) : evFn Tryz.prog GT EQT T_Q1_Add XT noL 60 160 [.v (.agg [.int .i64 a, .int .i64 b]), .v (.agg [.int .i64 c, .int .i64 d])] [] (fun v M => K v (M.take ([] : List Blk).length)) = subRefAns K ⟨a, b⟩ ⟨c, d⟩ := by
  kernel_rfl
theorem c_Q1_Sub (a b c d : Int) : CallsA Tryz.prog GT gbT 160 [.v (.agg [.int .i64 a, .int .i64 b]), .v (.agg [.int .i64 c, .int .i64 d])] [] (rFracE (subF ⟨a, b⟩ ⟨c, d⟩)) [] := by
  refine CallsA.ofOk fun hok => ?_
  have hw := w_Q1_Sub a b c d (fun v M => some (Res.fin v M))
  refine CallsA.ofEv (Γ := T_Q1_Add) (X := XT) (Λ := noL) (EQ := EQT) (n := 60) g_Q1_Add hEQT hmT (fun _ _ _ _ => noL_ok _) (hw.trans ?_)
  have h_a := inR_i64 (hok (.int .i64 a) (by simp [datasL, datas]))
  have h_b := inR_i64 (hok (.int .i64 b) (by simp [datasL, datas]))
  have h_c := inR_i64 (hok (.int .i64 c) (by simp [datasL, datas]))
  have h_d := inR_i64 (hok (.int .i64 d) (by simp [datasL, datas]))
  clear hok hw
  exact subRefAns_ok (K := fun v M => some (Res.fin v M))
def s_Q1_Sub : List AV → List Blk → (AV → List Blk → Ans) → Ans := fun xs bs K => match xs, bs with
  | [.v (.agg [.int .i64 a, .int .i64 b]), .v (.agg [.int .i64 c, .int .i64 d])], [] => K (rFracE (subF ⟨a, b⟩ ⟨c, d⟩)) []
  | _, _ => none
def T_Q1_Sub : Nat → List AV → List Blk → (AV → List Blk → Ans) → Ans := upd T_Q1_Add 160 s_Q1_Sub
theorem g_Q1_Sub : GOK Tryz.prog GT gbT T_Q1_Sub XT := by
  refine GOK.upd g_Q1_Add (fun args w => Tryz.call160 args w) fun xs bs K r h => ?_
  unfold s_Q1_Sub at h
  split at h
  · exact ⟨_, _, c_Q1_Sub _ _ _ _, h⟩
  · cases h
theorem w_Q1_Mul (a b c d : Int) (K : AV → List Blk → Ans) : evFn Tryz.prog GT EQT T_Q1_Sub XT noL 60 156 [.v (.agg [.int .i64 a, .int .i64 b]), .v (.agg [.int .i64 c, .int .i64 d])] [] (fun v M => K v (M.take ([] : List Blk).length)) = mulRefAns K ⟨a, b⟩ ⟨c, d⟩ := by
  kernel_rfl
theorem c_Q1_Mul (a b c d : Int) : CallsA Tryz.prog GT gbT 156 [.v (.agg [.int .i64 a, .int .i64 b]), .v (.agg [.int .i64 c, .int .i64 d])] [] (rFracE (mulF ⟨a, b⟩ ⟨c, d⟩)) [] := by
  refine CallsA.ofOk fun hok => ?_
  have hw := w_Q1_Mul a b c d (fun v M => some (Res.fin v M))
  refine CallsA.ofEv (Γ := T_Q1_Sub) (X := XT) (Λ := noL) (EQ := EQT) (n := 60) g_Q1_Sub hEQT hmT (fun _ _ _ _ => noL_ok _) (hw.trans ?_)
  have h_a := inR_i64 (hok (.int .i64 a) (by simp [datasL, datas]))
  have h_b := inR_i64 (hok (.int .i64 b) (by simp [datasL, datas]))
  have h_c := inR_i64 (hok (.int .i64 c) (by simp [datasL, datas]))
  have h_d := inR_i64 (hok (.int .i64 d) (by simp [datasL, datas]))
  clear hok hw
  exact mulRefAns_ok (K := fun v M => some (Res.fin v M))
def s_Q1_Mul : List AV → List Blk → (AV → List Blk → Ans) → Ans := fun xs bs K => match xs, bs with
  | [.v (.agg [.int .i64 a, .int .i64 b]), .v (.agg [.int .i64 c, .int .i64 d])], [] => K (rFracE (mulF ⟨a, b⟩ ⟨c, d⟩)) []
  | _, _ => none
def T_Q1_Mul : Nat → List AV → List Blk → (AV → List Blk → Ans) → Ans := upd T_Q1_Sub 156 s_Q1_Mul
theorem g_Q1_Mul : GOK Tryz.prog GT gbT T_Q1_Mul XT := by
  refine GOK.upd g_Q1_Sub (fun args w => Tryz.call156 args w) fun xs bs K r h => ?_
  unfold s_Q1_Mul at h
  split at h
  · exact ⟨_, _, c_Q1_Mul _ _ _ _, h⟩
  · cases h
theorem w_Q1_Div (a b c d : Int) (K : AV → List Blk → Ans) : evFn Tryz.prog GT EQT T_Q1_Mul XT noL 60 161 [.v (.agg [.int .i64 a, .int .i64 b]), .v (.agg [.int .i64 c, .int .i64 d])] [] (fun v M => K v (M.take ([] : List Blk).length)) = divRefAns K ⟨a, b⟩ ⟨c, d⟩ := by
  kernel_rfl
theorem c_Q1_Div (a b c d : Int) : CallsA Tryz.prog GT gbT 161 [.v (.agg [.int .i64 a, .int .i64 b]), .v (.agg [.int .i64 c, .int .i64 d])] [] (rFracE (divF ⟨a, b⟩ ⟨c, d⟩)) [] := by
  refine CallsA.ofOk fun hok => ?_
  have hw := w_Q1_Div a b c d (fun v M => some (Res.fin v M))
  refine CallsA.ofEv (Γ := T_Q1_Mul) (X := XT) (Λ := noL) (EQ := EQT) (n := 60) g_Q1_Mul hEQT hmT (fun _ _ _ _ => noL_ok _) (hw.trans ?_)
  have h_a := inR_i64 (hok (.int .i64 a) (by simp [datasL, datas]))
  have h_b := inR_i64 (hok (.int .i64 b) (by simp [datasL, datas]))
  have h_c := inR_i64 (hok (.int .i64 c) (by simp [datasL, datas]))
  have h_d := inR_i64 (hok (.int .i64 d) (by simp [datasL, datas]))
  clear hok hw
  exact divRefAns_ok (K := fun v M => some (Res.fin v M))
def s_Q1_Div : List AV → List Blk → (AV → List Blk → Ans) → Ans := fun xs bs K => match xs, bs with
  | [.v (.agg [.int .i64 a, .int .i64 b]), .v (.agg [.int .i64 c, .int .i64 d])], [] => K (rFracE (divF ⟨a, b⟩ ⟨c, d⟩)) []
  | _, _ => none
def T_Q1_Div : Nat → List AV → List Blk → (AV → List Blk → Ans) → Ans := upd T_Q1_Mul 161 s_Q1_Div
theorem g_Q1_Div : GOK Tryz.prog GT gbT T_Q1_Div XT := by
  refine GOK.upd g_Q1_Mul (fun args w => Tryz.call161 args w) fun xs bs K r h => ?_
  unfold s_Q1_Div at h
  split at h
  · exact ⟨_, _, c_Q1_Div _ _ _ _, h⟩
  · cases h
theorem w_vec_Check (a b c d e f : Int) (K : AV → List Blk → Ans) : evFn Tryz.prog GT EQT (inl Tryz.prog GT EQT XT [149] T_Q1_Div 60 1) XT noL 60 132 [.v (.agg [.int .i64 a, .int .i64 b, .int .i64 c, .int .i64 d, .int .i64 e, .int .i64 f])] [] (fun v M => K v (M.take ([] : List Blk).length)) = K (rI (checkVRaw ⟨⟨a, b⟩, ⟨c, d⟩, ⟨e, f⟩⟩)) [] := by
  simp only [checkVRaw, pullK K]
  kernel_rfl
theorem c_vec_Check (a b c d e f : Int) : CallsA Tryz.prog GT gbT 132 [.v (.agg [.int .i64 a, .int .i64 b, .int .i64 c, .int .i64 d, .int .i64 e, .int .i64 f])] [] (rI (checkV ⟨⟨a, b⟩, ⟨c, d⟩, ⟨e, f⟩⟩)) [] := by
  refine CallsA.ofOk fun hok => ?_
  have hw := w_vec_Check a b c d e f (fun v M => some (Res.fin v M))
  refine CallsA.ofEv (Γ := (inl Tryz.prog GT EQT XT [149] T_Q1_Div 60 1)) (X := XT) (Λ := noL) (EQ := EQT) (n := 60) (g_Q1_Div.inl hEQT hmT (fun f hf => by simp only [List.mem_cons, List.not_mem_nil, or_false] at hf; subst hf; exact (fun args w => Tryz.call149 args w)) 60 1) hEQT hmT (fun _ _ _ _ => noL_ok _) (hw.trans ?_)
  have h_a := inR_i64 (hok (.int .i64 a) (by simp [datasL, datas]))
  have h_b := inR_i64 (hok (.int .i64 b) (by simp [datasL, datas]))
  have h_c := inR_i64 (hok (.int .i64 c) (by simp [datasL, datas]))
  have h_d := inR_i64 (hok (.int .i64 d) (by simp [datasL, datas]))
  have h_e := inR_i64 (hok (.int .i64 e) (by simp [datasL, datas]))
  have h_f := inR_i64 (hok (.int .i64 f) (by simp [datasL, datas]))
  clear hok hw
  refine congrArg (fun v => some (Res.fin v [])) ?_
  rw [checkVRaw_ok]
def s_vec_Check : List AV → List Blk → (AV → List Blk → Ans) → Ans := fun xs bs K => match xs, bs with
  | [.v (.agg [.int .i64 a, .int .i64 b, .int .i64 c, .int .i64 d, .int .i64 e, .int .i64 f])], [] => K (rI (checkV ⟨⟨a, b⟩, ⟨c, d⟩, ⟨e, f⟩⟩)) []
  | _, _ => none
def T_vec_Check : Nat → List AV → List Blk → (AV → List Blk → Ans) → Ans := upd T_Q1_Div 132 s_vec_Check
theorem g_vec_Check : GOK Tryz.prog GT gbT T_vec_Check XT := by
  refine GOK.upd g_Q1_Div (fun args w => Tryz.call132 args w) fun xs bs K r h => ?_
  unfold s_vec_Check at h
  split at h
  · exact ⟨_, _, c_vec_Check _ _ _ _ _ _, h⟩
  · cases h
theorem w_Q2_Check (a b c d e f : Int) (K : AV → List Blk → Ans) : evFn Tryz.prog GT EQT T_vec_Check XT noL 60 123 [.v (.agg [.int .i64 a, .int .i64 b, .int .i64 c, .int .i64 d, .int .i64 e, .int .i64 f])] [] (fun v M => K v (M.take ([] : List Blk).length)) = K (rI (checkVRef ⟨⟨a, b⟩, ⟨c, d⟩, ⟨e, f⟩⟩)) [] := by
  simp only [checkVRef, pullK K]
  kernel_rfl
theorem c_Q2_Check (a b c d e f : Int) : CallsA Tryz.prog GT gbT 123 [.v (.agg [.int .i64 a, .int .i64 b, .int .i64 c, .int .i64 d, .int .i64 e, .int .i64 f])] [] (rI (checkV ⟨⟨a, b⟩, ⟨c, d⟩, ⟨e, f⟩⟩)) [] := by
  refine CallsA.ofOk fun hok => ?_
  have hw := w_Q2_Check a b c d e f (fun v M => some (Res.fin v M))
  refine CallsA.ofEv (Γ := T_vec_Check) (X := XT) (Λ := noL) (EQ := EQT) (n := 60) g_vec_Check hEQT hmT (fun _ _ _ _ => noL_ok _) (hw.trans ?_)
  have h_a := inR_i64 (hok (.int .i64 a) (by simp [datasL, datas]))
  have h_b := inR_i64 (hok (.int .i64 b) (by simp [datasL, datas]))
  have h_c := inR_i64 (hok (.int .i64 c) (by simp [datasL, datas]))
  have h_d := inR_i64 (hok (.int .i64 d) (by simp [datasL, datas]))
  have h_e := inR_i64 (hok (.int .i64 e) (by simp [datasL, datas]))
  have h_f := inR_i64 (hok (.int .i64 f) (by simp [datasL, datas]))
  clear hok hw
  refine congrArg (fun v => some (Res.fin v [])) ?_
  rw [checkVRef_ok]
def s_Q2_Check : List AV → List Blk → (AV → List Blk → Ans) → Ans := fun xs bs K => match xs, bs with
  | [.v (.agg [.int .i64 a, .int .i64 b, .int .i64 c, .int .i64 d, .int .i64 e, .int .i64 f])], [] => K (rI (checkV ⟨⟨a, b⟩, ⟨c, d⟩, ⟨e, f⟩⟩)) []
  | _, _ => none
def T_Q2_Check : Nat → List AV → List Blk → (AV → List Blk → Ans) → Ans := upd T_vec_Check 123 s_Q2_Check
theorem g_Q2_Check : GOK Tryz.prog GT gbT T_Q2_Check XT := by
  refine GOK.upd g_vec_Check (fun args w => Tryz.call123 args w) fun xs bs K r h => ?_
  unfold s_Q2_Check at h
  split at h
  · exact ⟨_, _, c_Q2_Check _ _ _ _ _ _, h⟩
  · cases h
theorem w_Q2_Both (a b c d e f g h i j k l : Int) (K : AV → List Blk → Ans) : evFn Tryz.prog GT EQT T_Q2_Check XT noL 60 116 [.v (.agg [.int .i64 a, .int .i64 b, .int .i64 c, .int .i64 d, .int .i64 e, .int .i64 f]), .v (.agg [.int .i64 g, .int .i64 h, .int .i64 i, .int .i64 j, .int .i64 k, .int .i64 l])] [] (fun v M => K v (M.take ([] : List Blk).length)) = K (rI (bothV ⟨⟨a, b⟩, ⟨c, d⟩, ⟨e, f⟩⟩ ⟨⟨g, h⟩, ⟨i, j⟩, ⟨k, l⟩⟩)) [] := by
  simp only [bothV, pullK K]
  kernel_rfl
theorem c_Q2_Both (a b c d e f g h i j k l : Int) : CallsA Tryz.prog GT gbT 116 [.v (.agg [.int .i64 a, .int .i64 b, .int .i64 c, .int .i64 d, .int .i64 e, .int .i64 f]), .v (.agg [.int .i64 g, .int .i64 h, .int .i64 i, .int .i64 j, .int .i64 k, .int .i64 l])] [] (rI (bothV ⟨⟨a, b⟩, ⟨c, d⟩, ⟨e, f⟩⟩ ⟨⟨g, h⟩, ⟨i, j⟩, ⟨k, l⟩⟩)) [] := by
  refine CallsA.ofOk fun hok => ?_
  have hw := w_Q2_Both a b c d e f g h i j k l (fun v M => some (Res.fin v M))
  refine CallsA.ofEv (Γ := T_Q2_Check) (X := XT) (Λ := noL) (EQ := EQT) (n := 60) g_Q2_Check hEQT hmT (fun _ _ _ _ => noL_ok _) (hw.trans ?_)
  rfl
def s_Q2_Both : List AV → List Blk → (AV → List Blk → Ans) → Ans := fun xs bs K => match xs, bs with
  | [.v (.agg [.int .i64 a, .int .i64 b, .int .i64 c, .int .i64 d, .int .i64 e, .int .i64 f]), .v (.agg [.int .i64 g, .int .i64 h, .int .i64 i, .int .i64 j, .int .i64 k, .int .i64 l])], [] => K (rI (bothV ⟨⟨a, b⟩, ⟨c, d⟩, ⟨e, f⟩⟩ ⟨⟨g, h⟩, ⟨i, j⟩, ⟨k, l⟩⟩)) []
  | _, _ => none
def T_Q2_Both : Nat → List AV → List Blk → (AV → List Blk → Ans) → Ans := upd T_Q2_Check 116 s_Q2_Both
theorem g_Q2_Both : GOK Tryz.prog GT gbT T_Q2_Both XT := by
  refine GOK.upd g_Q2_Check (fun args w => Tryz.call116 args w) fun xs bs K r h => ?_
  unfold s_Q2_Both at h
  split at h
  · exact ⟨_, _, c_Q2_Both _ _ _ _ _ _ _ _ _ _ _ _, h⟩
  · cases h
end Go.Ev

namespace Go.Ev
open Go Go.Proofs
theorem w_vec_Sub (a b c d e f g h i j k l : Int) (K : AV → List Blk → Ans) : evFn Tryz.prog GT EQT (inl Tryz.prog GT EQT XT [102, 103, 104, 105] T_Q2_Both 120 3) XT noL 120 78 [.v (.agg [.int .i64 a, .int .i64 b, .int .i64 c, .int .i64 d, .int .i64 e, .int .i64 f]), .v (.agg [.int .i64 g, .int .i64 h, .int .i64 i, .int .i64 j, .int .i64 k, .int .i64 l])] [] (fun v M => K v (M.take ([] : List Blk).length)) = subVAns K ⟨⟨a, b⟩, ⟨c, d⟩, ⟨e, f⟩⟩ ⟨⟨g, h⟩, ⟨i, j⟩, ⟨k, l⟩⟩ := by
  kernel_rfl
theorem c_vec_Sub (a b c d e f g h i j k l : Int) : CallsA Tryz.prog GT gbT 78 [.v (.agg [.int .i64 a, .int .i64 b, .int .i64 c, .int .i64 d, .int .i64 e, .int .i64 f]), .v (.agg [.int .i64 g, .int .i64 h, .int .i64 i, .int .i64 j, .int .i64 k, .int .i64 l])] [] (rVecE (subV ⟨⟨a, b⟩, ⟨c, d⟩, ⟨e, f⟩⟩ ⟨⟨g, h⟩, ⟨i, j⟩, ⟨k, l⟩⟩)) [] := by
  refine CallsA.ofOk fun hok => ?_
  have hw := w_vec_Sub a b c d e f g h i j k l (fun v M => some (Res.fin v M))
  refine CallsA.ofEv (Γ := (inl Tryz.prog GT EQT XT [102, 103, 104, 105] T_Q2_Both 120 3)) (X := XT) (Λ := noL) (EQ := EQT) (n := 120) (g_Q2_Both.inl hEQT hmT (fun f hf => by simp only [List.mem_cons, List.not_mem_nil, or_false] at hf; rcases hf with rfl | rfl | rfl | rfl; exact (fun args w => Tryz.call102 args w); exact (fun args w => Tryz.call103 args w); exact (fun args w => Tryz.call104 args w); exact (fun args w => Tryz.call105 args w)) 120 3) hEQT hmT (fun _ _ _ _ => noL_ok _) (hw.trans ?_)
  have h_a := inR_i64 (hok (.int .i64 a) (by simp [datasL, datas]))
  have h_b := inR_i64 (hok (.int .i64 b) (by simp [datasL, datas]))
  have h_c := inR_i64 (hok (.int .i64 c) (by simp [datasL, datas]))
  have h_d := inR_i64 (hok (.int .i64 d) (by simp [datasL, datas]))
  have h_e := inR_i64 (hok (.int .i64 e) (by simp [datasL, datas]))
  have h_f := inR_i64 (hok (.int .i64 f) (by simp [datasL, datas]))
  have h_g := inR_i64 (hok (.int .i64 g) (by simp [datasL, datas]))
  have h_h := inR_i64 (hok (.int .i64 h) (by simp [datasL, datas]))
  have h_i := inR_i64 (hok (.int .i64 i) (by simp [datasL, datas]))
  have h_j := inR_i64 (hok (.int .i64 j) (by simp [datasL, datas]))
  have h_k := inR_i64 (hok (.int .i64 k) (by simp [datasL, datas]))
  have h_l := inR_i64 (hok (.int .i64 l) (by simp [datasL, datas]))
  clear hok hw
  exact subVAns_ok (K := fun v M => some (Res.fin v M))
def s_vec_Sub : List AV → List Blk → (AV → List Blk → Ans) → Ans := fun xs bs K => match xs, bs with
  | [.v (.agg [.int .i64 a, .int .i64 b, .int .i64 c, .int .i64 d, .int .i64 e, .int .i64 f]), .v (.agg [.int .i64 g, .int .i64 h, .int .i64 i, .int .i64 j, .int .i64 k, .int .i64 l])], [] => K (rVecE (subV ⟨⟨a, b⟩, ⟨c, d⟩, ⟨e, f⟩⟩ ⟨⟨g, h⟩, ⟨i, j⟩, ⟨k, l⟩⟩)) []
  | _, _ => none
def T_vec_Sub : Nat → List AV → List Blk → (AV → List Blk → Ans) → Ans := upd T_Q2_Both 78 s_vec_Sub
theorem g_vec_Sub : GOK Tryz.prog GT gbT T_vec_Sub XT := by
  refine GOK.upd g_Q2_Both (fun args w => Tryz.call78 args w) fun xs bs K r h => ?_
  unfold s_vec_Sub at h
  split at h
  · exact ⟨_, _, c_vec_Sub _ _ _ _ _ _ _ _ _ _ _ _, h⟩
  · cases h
theorem w_Q2_first (a b c : Int) (K : AV → List Blk → Ans) : evFn Tryz.prog GT EQT T_vec_Sub XT noL 60 143 [.v (.c (.d (.int .i64 a))), .v (.c (.d (.int .i64 b))), .v (.c (.d (.int .i64 c)))] [] (fun v M => K v (M.take ([] : List Blk).length)) = K (rI (firstI a b c)) [] := by
  simp only [firstI, pullK K]
  kernel_rfl
theorem c_Q2_first (a b c : Int) : CallsA Tryz.prog GT gbT 143 [.v (.c (.d (.int .i64 a))), .v (.c (.d (.int .i64 b))), .v (.c (.d (.int .i64 c)))] [] (rI (firstI a b c)) [] := by
  refine CallsA.ofOk fun hok => ?_
  have hw := w_Q2_first a b c (fun v M => some (Res.fin v M))
  refine CallsA.ofEv (Γ := T_vec_Sub) (X := XT) (Λ := noL) (EQ := EQT) (n := 60) g_vec_Sub hEQT hmT (fun _ _ _ _ => noL_ok _) (hw.trans ?_)
  rfl
def s_Q2_first : List AV → List Blk → (AV → List Blk → Ans) → Ans := fun xs bs K => match xs, bs with
  | [.v (.c (.d (.int .i64 a))), .v (.c (.d (.int .i64 b))), .v (.c (.d (.int .i64 c)))], [] => K (rI (firstI a b c)) []
  | _, _ => none
def T_Q2_first : Nat → List AV → List Blk → (AV → List Blk → Ans) → Ans := upd T_vec_Sub 143 s_Q2_first
theorem g_Q2_first : GOK Tryz.prog GT gbT T_Q2_first XT := by
  refine GOK.upd g_vec_Sub (fun args w => Tryz.call143 args w) fun xs bs K r h => ?_
  unfold s_Q2_first at h
  split at h
  · exact ⟨_, _, c_Q2_first _ _ _, h⟩
  · cases h
theorem w_Q2_vec (a b c d e f g : Int) (K : AV → List Blk → Ans) : evFn Tryz.prog GT EQT T_Q2_first XT noL 60 142 [.v (.agg [.int .i64 a, .int .i64 b]), .v (.agg [.int .i64 c, .int .i64 d]), .v (.agg [.int .i64 e, .int .i64 f]), .v (.c (.d (.int .i64 g)))] [] (fun v M => K v (M.take ([] : List Blk).length)) = K (rVecE (vecR ⟨a, b⟩ ⟨c, d⟩ ⟨e, f⟩ g)) [] := by
  simp only [vecR, pullK K]
  kernel_rfl
theorem c_Q2_vec (a b c d e f g : Int) : CallsA Tryz.prog GT gbT 142 [.v (.agg [.int .i64 a, .int .i64 b]), .v (.agg [.int .i64 c, .int .i64 d]), .v (.agg [.int .i64 e, .int .i64 f]), .v (.c (.d (.int .i64 g)))] [] (rVecE (vecR ⟨a, b⟩ ⟨c, d⟩ ⟨e, f⟩ g)) [] := by
  refine CallsA.ofOk fun hok => ?_
  have hw := w_Q2_vec a b c d e f g (fun v M => some (Res.fin v M))
  refine CallsA.ofEv (Γ := T_Q2_first) (X := XT) (Λ := noL) (EQ := EQT) (n := 60) g_Q2_first hEQT hmT (fun _ _ _ _ => noL_ok _) (hw.trans ?_)
  rfl
def s_Q2_vec : List AV → List Blk → (AV → List Blk → Ans) → Ans := fun xs bs K => match xs, bs with
  | [.v (.agg [.int .i64 a, .int .i64 b]), .v (.agg [.int .i64 c, .int .i64 d]), .v (.agg [.int .i64 e, .int .i64 f]), .v (.c (.d (.int .i64 g)))], [] => K (rVecE (vecR ⟨a, b⟩ ⟨c, d⟩ ⟨e, f⟩ g)) []
  | _, _ => none
def T_Q2_vec : Nat → List AV → List Blk → (AV → List Blk → Ans) → Ans := upd T_Q2_first 142 s_Q2_vec
theorem g_Q2_vec : GOK Tryz.prog GT gbT T_Q2_vec XT := by
  refine GOK.upd g_Q2_first (fun args w => Tryz.call142 args w) fun xs bs K r h => ?_
  unfold s_Q2_vec at h
  split at h
  · exact ⟨_, _, c_Q2_vec _ _ _ _ _ _ _, h⟩
  · cases h
theorem w_Q2_Neg (a b c d e f : Int) (K : AV → List Blk → Ans) : evFn Tryz.prog GT EQT T_Q2_vec XT noL 60 118 [.v (.agg [.int .i64 a, .int .i64 b, .int .i64 c, .int .i64 d, .int .i64 e, .int .i64 f])] [] (fun v M => K v (M.take ([] : List Blk).length)) = K (rVec (negV ⟨⟨a, b⟩, ⟨c, d⟩, ⟨e, f⟩⟩)) [] := by
  kernel_rfl
theorem c_Q2_Neg (a b c d e f : Int) : CallsA Tryz.prog GT gbT 118 [.v (.agg [.int .i64 a, .int .i64 b, .int .i64 c, .int .i64 d, .int .i64 e, .int .i64 f])] [] (rVec (negV ⟨⟨a, b⟩, ⟨c, d⟩, ⟨e, f⟩⟩)) [] := by
  refine CallsA.ofOk fun hok => ?_
  have hw := w_Q2_Neg a b c d e f (fun v M => some (Res.fin v M))
  refine CallsA.ofEv (Γ := T_Q2_vec) (X := XT) (Λ := noL) (EQ := EQT) (n := 60) g_Q2_vec hEQT hmT (fun _ _ _ _ => noL_ok _) (hw.trans ?_)
  rfl
def s_Q2_Neg : List AV → List Blk → (AV → List Blk → Ans) → Ans := fun xs bs K => match xs, bs with
  | [.v (.agg [.int .i64 a, .int .i64 b, .int .i64 c, .int .i64 d, .int .i64 e, .int .i64 f])], [] => K (rVec (negV ⟨⟨a, b⟩, ⟨c, d⟩, ⟨e, f⟩⟩)) []
  | _, _ => none
def T_Q2_Neg : Nat → List AV → List Blk → (AV → List Blk → Ans) → Ans := upd T_Q2_vec 118 s_Q2_Neg
theorem g_Q2_Neg : GOK Tryz.prog GT gbT T_Q2_Neg XT := by
  refine GOK.upd g_Q2_vec (fun args w => Tryz.call118 args w) fun xs bs K r h => ?_
  unfold s_Q2_Neg at h
  split at h
  · exact ⟨_, _, c_Q2_Neg _ _ _ _ _ _, h⟩
  · cases h
theorem w_Q2_Add (a b c d e f g h i j k l : Int) (K : AV → List Blk → Ans) : evFn Tryz.prog GT EQT T_Q2_Neg XT noL 120 117 [.v (.agg [.int .i64 a, .int .i64 b, .int .i64 c, .int .i64 d, .int .i64 e, .int .i64 f]), .v (.agg [.int .i64 g, .int .i64 h, .int .i64 i, .int .i64 j, .int .i64 k, .int .i64 l])] [] (fun v M => K v (M.take ([] : List Blk).length)) = addVRef K ⟨⟨a, b⟩, ⟨c, d⟩, ⟨e, f⟩⟩ ⟨⟨g, h⟩, ⟨i, j⟩, ⟨k, l⟩⟩ := by
  kernel_rfl
theorem c_Q2_Add (a b c d e f g h i j k l : Int) : CallsA Tryz.prog GT gbT 117 [.v (.agg [.int .i64 a, .int .i64 b, .int .i64 c, .int .i64 d, .int .i64 e, .int .i64 f]), .v (.agg [.int .i64 g, .int .i64 h, .int .i64 i, .int .i64 j, .int .i64 k, .int .i64 l])] [] (rVecE (addV ⟨⟨a, b⟩, ⟨c, d⟩, ⟨e, f⟩⟩ ⟨⟨g, h⟩, ⟨i, j⟩, ⟨k, l⟩⟩)) [] := by
  refine CallsA.ofOk fun hok => ?_
  have hw := w_Q2_Add a b c d e f g h i j k l (fun v M => some (Res.fin v M))
  refine CallsA.ofEv (Γ := T_Q2_Neg) (X := XT) (Λ := noL) (EQ := EQT) (n := 120) g_Q2_Neg hEQT hmT (fun _ _ _ _ => noL_ok _) (hw.trans ?_)
  have h_a := inR_i64 (hok (.int .i64 a) (by simp [datasL, datas]))
  have h_b := inR_i64 (hok (.int .i64 b) (by simp [datasL, datas]))
  have h_c := inR_i64 (hok (.int .i64 c) (by simp [datasL, datas]))
  have h_d := inR_i64 (hok (.int .i64 d) (by simp [datasL, datas]))
  have h_e := inR_i64 (hok (.int .i64 e) (by simp [datasL, datas]))
  have h_f := inR_i64 (hok (.int .i64 f) (by simp [datasL, datas]))
  have h_g := inR_i64 (hok (.int .i64 g) (by simp [datasL, datas]))
  have h_h := inR_i64 (hok (.int .i64 h) (by simp [datasL, datas]))
  have h_i := inR_i64 (hok (.int .i64 i) (by simp [datasL, datas]))
  have h_j := inR_i64 (hok (.int .i64 j) (by simp [datasL, datas]))
  have h_k := inR_i64 (hok (.int .i64 k) (by simp [datasL, datas]))
  have h_l := inR_i64 (hok (.int .i64 l) (by simp [datasL, datas]))
  clear hok hw
  exact addVRef_ok (K := fun v M => some (Res.fin v M))
def s_Q2_Add : List AV → List Blk → (AV → List Blk → Ans) → Ans := fun xs bs K => match xs, bs with
  | [.v (.agg [.int .i64 a, .int .i64 b, .int .i64 c, .int .i64 d, .int .i64 e, .int .i64 f]), .v (.agg [.int .i64 g, .int .i64 h, .int .i64 i, .int .i64 j, .int .i64 k, .int .i64 l])], [] => K (rVecE (addV ⟨⟨a, b⟩, ⟨c, d⟩, ⟨e, f⟩⟩ ⟨⟨g, h⟩, ⟨i, j⟩, ⟨k, l⟩⟩)) []
  | _, _ => none
def T_Q2_Add : Nat → List AV → List Blk → (AV → List Blk → Ans) → Ans := upd T_Q2_Neg 117 s_Q2_Add
theorem g_Q2_Add : GOK Tryz.prog GT gbT T_Q2_Add XT := by
  refine GOK.upd g_Q2_Neg (fun args w => Tryz.call117 args w) fun xs bs K r h => ?_
  unfold s_Q2_Add at h
  split at h
  · exact ⟨_, _, c_Q2_Add _ _ _ _ _ _ _ _ _ _ _ _, h⟩
  · cases h
theorem w_Q2_Sub (a b c d e f g h i j k l : Int) (K : AV → List Blk → Ans) : evFn Tryz.prog GT EQT T_Q2_Add XT noL 120 95 [.v (.agg [.int .i64 a, .int .i64 b, .int .i64 c, .int .i64 d, .int .i64 e, .int .i64 f]), .v (.agg [.int .i64 g, .int .i64 h, .int .i64 i, .int .i64 j, .int .i64 k, .int .i64 l])] [] (fun v M => K v (M.take ([] : List Blk).length)) = subVRef K ⟨⟨a, b⟩, ⟨c, d⟩, ⟨e, f⟩⟩ ⟨⟨g, h⟩, ⟨i, j⟩, ⟨k, l⟩⟩ := by
  kernel_rfl
theorem c_Q2_Sub (a b c d e f g h i j k l : Int) : CallsA Tryz.prog GT gbT 95 [.v (.agg [.int .i64 a, .int .i64 b, .int .i64 c, .int .i64 d, .int .i64 e, .int .i64 f]), .v (.agg [.int .i64 g, .int .i64 h, .int .i64 i, .int .i64 j, .int .i64 k, .int .i64 l])] [] (rVecE (subV ⟨⟨a, b⟩, ⟨c, d⟩, ⟨e, f⟩⟩ ⟨⟨g, h⟩, ⟨i, j⟩, ⟨k, l⟩⟩)) [] := by
  refine CallsA.ofOk fun hok => ?_
  have hw := w_Q2_Sub a b c d e f g h i j k l (fun v M => some (Res.fin v M))
  refine CallsA.ofEv (Γ := T_Q2_Add) (X := XT) (Λ := noL) (EQ := EQT) (n := 120) g_Q2_Add hEQT hmT (fun _ _ _ _ => noL_ok _) (hw.trans ?_)
  have h_a := inR_i64 (hok (.int .i64 a) (by simp [datasL, datas]))
  have h_b := inR_i64 (hok (.int .i64 b) (by simp [datasL, datas]))
  have h_c := inR_i64 (hok (.int .i64 c) (by simp [datasL, datas]))
  have h_d := inR_i64 (hok (.int .i64 d) (by simp [datasL, datas]))
  have h_e := inR_i64 (hok (.int .i64 e) (by simp [datasL, datas]))
  have h_f := inR_i64 (hok (.int .i64 f) (by simp [datasL, datas]))
  have h_g := inR_i64 (hok (.int .i64 g) (by simp [datasL, datas]))
  have h_h := inR_i64 (hok (.int .i64 h) (by simp [datasL, datas]))
  have h_i := inR_i64 (hok (.int .i64 i) (by simp [datasL, datas]))
  have h_j := inR_i64 (hok (.int .i64 j) (by simp [datasL, datas]))
  have h_k := inR_i64 (hok (.int .i64 k) (by simp [datasL, datas]))
  have h_l := inR_i64 (hok (.int .i64 l) (by simp [datasL, datas]))
  clear hok hw
  exact subVRef_ok (K := fun v M => some (Res.fin v M))
def s_Q2_Sub : List AV → List Blk → (AV → List Blk → Ans) → Ans := fun xs bs K => match xs, bs with
  | [.v (.agg [.int .i64 a, .int .i64 b, .int .i64 c, .int .i64 d, .int .i64 e, .int .i64 f]), .v (.agg [.int .i64 g, .int .i64 h, .int .i64 i, .int .i64 j, .int .i64 k, .int .i64 l])], [] => K (rVecE (subV ⟨⟨a, b⟩, ⟨c, d⟩, ⟨e, f⟩⟩ ⟨⟨g, h⟩, ⟨i, j⟩, ⟨k, l⟩⟩)) []
  | _, _ => none
def T_Q2_Sub : Nat → List AV → List Blk → (AV → List Blk → Ans) → Ans := upd T_Q2_Add 95 s_Q2_Sub
theorem g_Q2_Sub : GOK Tryz.prog GT gbT T_Q2_Sub XT := by
  refine GOK.upd g_Q2_Add (fun args w => Tryz.call95 args w) fun xs bs K r h => ?_
  unfold s_Q2_Sub at h
  split at h
  · exact ⟨_, _, c_Q2_Sub _ _ _ _ _ _ _ _ _ _ _ _, h⟩
  · cases h
theorem w_track_Along (a b c d e f g h i j k l : Int) (K : AV → List Blk → Ans) : evFn Tryz.prog GT EQT (inl Tryz.prog GT EQT XT [137, 138, 152] T_Q2_Sub 120 2) XT noL 120 109 [.v (.agg [.int .i64 a, .int .i64 b, .int .i64 c, .int .i64 d, .int .i64 e, .int .i64 f]), .v (.agg [.int .i64 g, .int .i64 h, .int .i64 i, .int .i64 j, .int .i64 k, .int .i64 l])] [] (fun v M => K v (M.take ([] : List Blk).length)) = alongAns K ⟨⟨a, b⟩, ⟨c, d⟩, ⟨e, f⟩⟩ ⟨⟨g, h⟩, ⟨i, j⟩, ⟨k, l⟩⟩ := by
  kernel_rfl
theorem c_track_Along (a b c d e f g h i j k l : Int) : CallsA Tryz.prog GT gbT 109 [.v (.agg [.int .i64 a, .int .i64 b, .int .i64 c, .int .i64 d, .int .i64 e, .int .i64 f]), .v (.agg [.int .i64 g, .int .i64 h, .int .i64 i, .int .i64 j, .int .i64 k, .int .i64 l])] [] (rSpanE (alongS ⟨⟨a, b⟩, ⟨c, d⟩, ⟨e, f⟩⟩ ⟨⟨g, h⟩, ⟨i, j⟩, ⟨k, l⟩⟩)) [] := by
  refine CallsA.ofOk fun hok => ?_
  have hw := w_track_Along a b c d e f g h i j k l (fun v M => some (Res.fin v M))
  refine CallsA.ofEv (Γ := (inl Tryz.prog GT EQT XT [137, 138, 152] T_Q2_Sub 120 2)) (X := XT) (Λ := noL) (EQ := EQT) (n := 120) (g_Q2_Sub.inl hEQT hmT (fun f hf => by simp only [List.mem_cons, List.not_mem_nil, or_false] at hf; rcases hf with rfl | rfl | rfl; exact (fun args w => Tryz.call137 args w); exact (fun args w => Tryz.call138 args w); exact (fun args w => Tryz.call152 args w)) 120 2) hEQT hmT (fun _ _ _ _ => noL_ok _) (hw.trans ?_)
  have h_a := inR_i64 (hok (.int .i64 a) (by simp [datasL, datas]))
  have h_b := inR_i64 (hok (.int .i64 b) (by simp [datasL, datas]))
  have h_c := inR_i64 (hok (.int .i64 c) (by simp [datasL, datas]))
  have h_d := inR_i64 (hok (.int .i64 d) (by simp [datasL, datas]))
  have h_e := inR_i64 (hok (.int .i64 e) (by simp [datasL, datas]))
  have h_f := inR_i64 (hok (.int .i64 f) (by simp [datasL, datas]))
  have h_g := inR_i64 (hok (.int .i64 g) (by simp [datasL, datas]))
  have h_h := inR_i64 (hok (.int .i64 h) (by simp [datasL, datas]))
  have h_i := inR_i64 (hok (.int .i64 i) (by simp [datasL, datas]))
  have h_j := inR_i64 (hok (.int .i64 j) (by simp [datasL, datas]))
  have h_k := inR_i64 (hok (.int .i64 k) (by simp [datasL, datas]))
  have h_l := inR_i64 (hok (.int .i64 l) (by simp [datasL, datas]))
  clear hok hw
  exact alongAns_ok (K := fun v M => some (Res.fin v M))
def s_track_Along : List AV → List Blk → (AV → List Blk → Ans) → Ans := fun xs bs K => match xs, bs with
  | [.v (.agg [.int .i64 a, .int .i64 b, .int .i64 c, .int .i64 d, .int .i64 e, .int .i64 f]), .v (.agg [.int .i64 g, .int .i64 h, .int .i64 i, .int .i64 j, .int .i64 k, .int .i64 l])], [] => K (rSpanE (alongS ⟨⟨a, b⟩, ⟨c, d⟩, ⟨e, f⟩⟩ ⟨⟨g, h⟩, ⟨i, j⟩, ⟨k, l⟩⟩)) []
  | _, _ => none
def T_track_Along : Nat → List AV → List Blk → (AV → List Blk → Ans) → Ans := upd T_Q2_Sub 109 s_track_Along
theorem g_track_Along : GOK Tryz.prog GT gbT T_track_Along XT := by
  refine GOK.upd g_Q2_Sub (fun args w => Tryz.call109 args w) fun xs bs K r h => ?_
  unfold s_track_Along at h
  split at h
  · exact ⟨_, _, c_track_Along _ _ _ _ _ _ _ _ _ _ _ _, h⟩
  · cases h
abbrev T_named (s : ByteArray) (i : Int) : TS := maskT [(0, .v (.c (.d (.str s)))), (24, aint .i64 (s.size : Int)), (25, aint .i64 i), (2, .any)] 50
abbrev B_named (s : ByteArray) (i : Int) : TS := maskT [(0, .v (.c (.d (.str s)))), (24, aint .i64 (s.size : Int)), (25, aint .i64 i), (2, abool false)] 50
def f_named (T : TS) (M : List Blk) (N : Nat) : LT := match tget T 0, tget T 24, tget T 25 with
  | .v (.c (.d (.str s))), .v (.c (.d (.int .i64 n))), .v (.c (.d (.int .i64 i))) =>
    bif i == 0 then .br (n == (s.size : Int) && decide ((s.size : Int) ≤ 1000)) (.br (restOk s 0 s.size) (.st (.exit 0) (maskT [] 50) M N) (.st .ret (maskT [(2, abool false)] 50) M N)) .no else .no
  | _, _, _ => .no
def L_named := LamG 4 50 f_named
theorem b_named (s : ByteArray) (i : Int) (M : List Blk) (N : Nat) : evCode Tryz.prog GT EQT T_track_Along XT noL 40 (loopB Tryz.prog 77 0) (T_named s i) M N (fun x T M N => some (.st x (forget [0, 24, 25, 2] T) M N)) =
    bif decide (i < (s.size : Int)) then (bif decide (0 ≤ i) && decide (i < (s.size : Int)) then nameStep (byteAt s i) (some (.st .ret (B_named s i) M N)) (some (.st .normal (T_named s (w64 (i + 1))) M N)) else none)
    else some (.st (.exit 0) (T_named s i) M N) := by kernel_rfl
theorem LL_named : ∀ fn c, Tryz.prog.funcs[77]? = some fn → fn.body = some c → LOK Tryz.prog GT gbT L_named (loopsIn c) := by
  refine LOK.ofF fun b hb => ?_
  have e : loopsF Tryz.prog 77 = [loopB Tryz.prog 77 0] := by kernel_rfl
  have k0 : loopKey (loopB Tryz.prog 77 0) = 4 := by kernel_rfl
  rw [e, List.mem_singleton] at hb
  subst hb
  unfold L_named
  rw [← k0]
  refine LOKb.lamG fun T M N x T' M' N' hl hr => ?_
  unfold f_named at hr
  split at hr
  · rename_i s n i h0 h1 h2
    simp only [cond_eq_ite, beq_iff_eq] at hr
    split at hr
    · rename_i hi
      subst hi
      obtain ⟨hc, hr2⟩ := Or.resolve_right hr (fun h => h.2.elim)
      simp only [Bool.and_eq_true, beq_iff_eq, decide_eq_true_eq] at hc
      obtain ⟨rfl, hs⟩ := hc
      have hless : Less (T_named s 0) T := less_of' hl (by simp only [List.mem_cons, List.not_mem_nil, or_false]; intro p hp; rcases hp with rfl | rfl | rfl | rfl; exact .inl h0; exact .inl h1; exact .inl h2; exact .inr rfl)
      have hh := name_rounds (c := loopB Tryz.prog 77 0) (M := M) (NN := N) g_track_Along hEQT hmT s hs (fun i => T_named s i) (maskT [] 50) (maskT [(2, abool false)] 50) (fun i => less_of (by kernel_rfl) (by simp)) (fun i => B_named s i) (fun i => less_of (by kernel_rfl) (by simp; kernel_rfl)) (fun i => (b_named s i M N)) s.size 0 (by omega) (by omega)
      rcases hr2 with ⟨hd, rfl, rfl, rfl, rfl⟩ | ⟨hd, rfl, rfl, rfl, rfl⟩
      · obtain ⟨k, hk⟩ := hh.1 hd
        exact ⟨by simp, k, hk.less hless⟩
      · obtain ⟨k, hk⟩ := hh.2 hd
        exact ⟨by simp, k, hk.less hless⟩
    · exact hr.elim
  · exact hr.elim
theorem w_track_named (s : ByteArray) (K : AV → List Blk → Ans) : evFn Tryz.prog GT EQT T_track_Along XT L_named 60 77 [.v (.c (.d (.str s)))] [] (fun v M => K v (M.take ([] : List Blk).length)) = nameAns K s := by
  kernel_rfl
theorem c_track_named (s : ByteArray) : CallsA Tryz.prog GT gbT 77 [.v (.c (.d (.str s)))] [] (rB (namedB s)) [] := by
  refine CallsA.ofOk fun hok => ?_
  have hw := w_track_named s (fun v M => some (Res.fin v M))
  refine CallsA.ofEv (Γ := T_track_Along) (X := XT) (Λ := L_named) (EQ := EQT) (n := 60) g_track_Along hEQT hmT (LL_named) (hw.trans ?_)
  clear hok hw
  exact nameAns_ok (K := fun v M => some (Res.fin v M))
def s_track_named : List AV → List Blk → (AV → List Blk → Ans) → Ans := fun xs bs K => match xs, bs with
  | [.v (.c (.d (.str s)))], [] => K (rB (namedB s)) []
  | _, _ => none
def T_track_named : Nat → List AV → List Blk → (AV → List Blk → Ans) → Ans := upd T_track_Along 77 s_track_named
theorem g_track_named : GOK Tryz.prog GT gbT T_track_named XT := by
  refine GOK.upd g_track_Along (fun args w => Tryz.call77 args w) fun xs bs K r h => ?_
  unfold s_track_named at h
  split at h
  · exact ⟨_, _, c_track_named _, h⟩
  · cases h
abbrev T_Named (s : ByteArray) (i : Int) : TS := maskT [(0, .v (.c (.d (.str s)))), (3, aint .i64 i), (2, .any)] 56
abbrev B_Named (s : ByteArray) (i : Int) : TS := maskT [(0, .v (.c (.d (.str s)))), (3, aint .i64 i), (2, abool false)] 56
def f_Named (T : TS) (M : List Blk) (N : Nat) : LT := match tget T 0, tget T 3 with
  | .v (.c (.d (.str s))), .v (.c (.d (.int .i64 i))) =>
    bif i == 0 then .br (decide ((s.size : Int) ≤ 1000)) (.br (restOk s 0 s.size) (.st (.exit 0) (maskT [] 56) M N) (.st .ret (maskT [(2, abool false)] 56) M N)) .no else .no
  | _, _ => .no
def L_Named := LamG 4 56 f_Named
theorem b_Named (s : ByteArray) (i : Int) (M : List Blk) (N : Nat) : evCode Tryz.prog GT EQT T_track_named XT noL 40 (loopB Tryz.prog 114 0) (T_Named s i) M N (fun x T M N => some (.st x (forget [0, 3, 2] T) M N)) =
    bif decide (i < (s.size : Int)) then (bif decide (0 ≤ i) && decide (i < (s.size : Int)) then nameStepR (decide (0 ≤ i) && decide (i < (s.size : Int))) (byteAt s i) (some (.st .ret (B_Named s i) M N)) (some (.st .normal (T_Named s (w64 (i + 1))) M N)) else none)
    else some (.st (.exit 0) (T_Named s i) M N) := by kernel_rfl
theorem LL_Named : ∀ fn c, Tryz.prog.funcs[114]? = some fn → fn.body = some c → LOK Tryz.prog GT gbT L_Named (loopsIn c) := by
  refine LOK.ofF fun b hb => ?_
  have e : loopsF Tryz.prog 114 = [loopB Tryz.prog 114 0] := by kernel_rfl
  have k0 : loopKey (loopB Tryz.prog 114 0) = 4 := by kernel_rfl
  rw [e, List.mem_singleton] at hb
  subst hb
  unfold L_Named
  rw [← k0]
  refine LOKb.lamG fun T M N x T' M' N' hl hr => ?_
  unfold f_Named at hr
  split at hr
  · rename_i s i h0 h2
    simp only [cond_eq_ite, beq_iff_eq] at hr
    split at hr
    · rename_i hi
      subst hi
      obtain ⟨hs, hr2⟩ := Or.resolve_right hr (fun h => h.2.elim)
      simp only [decide_eq_true_eq] at hs
      have hless : Less (T_Named s 0) T := less_of' hl (by simp only [List.mem_cons, List.not_mem_nil, or_false]; intro p hp; rcases hp with rfl | rfl | rfl; exact .inl h0; exact .inl h2; exact .inr rfl)
      have hh := name_rounds (c := loopB Tryz.prog 114 0) (M := M) (NN := N) g_track_named hEQT hmT s hs (fun i => T_Named s i) (maskT [] 56) (maskT [(2, abool false)] 56) (fun i => less_of (by kernel_rfl) (by simp)) (fun i => B_Named s i) (fun i => less_of (by kernel_rfl) (by simp; kernel_rfl)) (fun i => (b_Named s i M N).trans (by rw [nameStepR_eq])) s.size 0 (by omega) (by omega)
      rcases hr2 with ⟨hd, rfl, rfl, rfl, rfl⟩ | ⟨hd, rfl, rfl, rfl, rfl⟩
      · obtain ⟨k, hk⟩ := hh.1 hd
        exact ⟨by simp, k, hk.less hless⟩
      · obtain ⟨k, hk⟩ := hh.2 hd
        exact ⟨by simp, k, hk.less hless⟩
    · exact hr.elim
  · exact hr.elim
theorem w_Q4_Named (s : ByteArray) (K : AV → List Blk → Ans) : evFn Tryz.prog GT EQT T_track_named XT L_Named 60 114 [.v (.c (.d (.str s)))] [] (fun v M => K v (M.take ([] : List Blk).length)) = nameAns' K s := by
  kernel_rfl
theorem c_Q4_Named (s : ByteArray) : CallsA Tryz.prog GT gbT 114 [.v (.c (.d (.str s)))] [] (rB (namedB s)) [] := by
  refine CallsA.ofOk fun hok => ?_
  have hw := w_Q4_Named s (fun v M => some (Res.fin v M))
  refine CallsA.ofEv (Γ := T_track_named) (X := XT) (Λ := L_Named) (EQ := EQT) (n := 60) g_track_named hEQT hmT (LL_Named) (hw.trans ?_)
  clear hok hw
  exact nameAns'_ok (K := fun v M => some (Res.fin v M))
def s_Q4_Named : List AV → List Blk → (AV → List Blk → Ans) → Ans := fun xs bs K => match xs, bs with
  | [.v (.c (.d (.str s)))], [] => K (rB (namedB s)) []
  | _, _ => none
def T_Q4_Named : Nat → List AV → List Blk → (AV → List Blk → Ans) → Ans := upd T_track_named 114 s_Q4_Named
theorem g_Q4_Named : GOK Tryz.prog GT gbT T_Q4_Named XT := by
  refine GOK.upd g_track_named (fun args w => Tryz.call114 args w) fun xs bs K r h => ?_
  unfold s_Q4_Named at h
  split at h
  · exact ⟨_, _, c_Q4_Named _, h⟩
  · cases h
theorem w_track_Check (nm : ByteArray) (ra dec : Int) (K : AV → List Blk → Ans) : evFn Tryz.prog GT EQT T_Q4_Named XT noL 60 57 [.v (.agg [.str nm, .int .i64 ra, .int .i64 dec])] [] (fun v M => K v (M.take ([] : List Blk).length)) = K (rI (checkSrc ⟨nm, ra, dec⟩)) [] := by
  simp only [checkSrc, pullK K]
  kernel_rfl
theorem c_track_Check (nm : ByteArray) (ra dec : Int) : CallsA Tryz.prog GT gbT 57 [.v (.agg [.str nm, .int .i64 ra, .int .i64 dec])] [] (rI (checkSrc ⟨nm, ra, dec⟩)) [] := by
  refine CallsA.ofOk fun hok => ?_
  have hw := w_track_Check nm ra dec (fun v M => some (Res.fin v M))
  refine CallsA.ofEv (Γ := T_Q4_Named) (X := XT) (Λ := noL) (EQ := EQT) (n := 60) g_Q4_Named hEQT hmT (fun _ _ _ _ => noL_ok _) (hw.trans ?_)
  rfl
def s_track_Check : List AV → List Blk → (AV → List Blk → Ans) → Ans := fun xs bs K => match xs, bs with
  | [.v (.agg [.str nm, .int .i64 ra, .int .i64 dec])], [] => K (rI (checkSrc ⟨nm, ra, dec⟩)) []
  | _, _ => none
def T_track_Check : Nat → List AV → List Blk → (AV → List Blk → Ans) → Ans := upd T_Q4_Named 57 s_track_Check
theorem g_track_Check : GOK Tryz.prog GT gbT T_track_Check XT := by
  refine GOK.upd g_Q4_Named (fun args w => Tryz.call57 args w) fun xs bs K r h => ?_
  unfold s_track_Check at h
  split at h
  · exact ⟨_, _, c_track_Check _ _ _, h⟩
  · cases h
theorem w_Q6_Check (nm : ByteArray) (ra dec : Int) (K : AV → List Blk → Ans) : evFn Tryz.prog GT EQT T_track_Check XT noL 60 86 [.v (.agg [.str nm, .int .i64 ra, .int .i64 dec])] [] (fun v M => K v (M.take ([] : List Blk).length)) = K (rI (checkSrc ⟨nm, ra, dec⟩)) [] := by
  simp only [checkSrc, pullK K]
  kernel_rfl
theorem c_Q6_Check (nm : ByteArray) (ra dec : Int) : CallsA Tryz.prog GT gbT 86 [.v (.agg [.str nm, .int .i64 ra, .int .i64 dec])] [] (rI (checkSrc ⟨nm, ra, dec⟩)) [] := by
  refine CallsA.ofOk fun hok => ?_
  have hw := w_Q6_Check nm ra dec (fun v M => some (Res.fin v M))
  refine CallsA.ofEv (Γ := T_track_Check) (X := XT) (Λ := noL) (EQ := EQT) (n := 60) g_track_Check hEQT hmT (fun _ _ _ _ => noL_ok _) (hw.trans ?_)
  rfl
def s_Q6_Check : List AV → List Blk → (AV → List Blk → Ans) → Ans := fun xs bs K => match xs, bs with
  | [.v (.agg [.str nm, .int .i64 ra, .int .i64 dec])], [] => K (rI (checkSrc ⟨nm, ra, dec⟩)) []
  | _, _ => none
def T_Q6_Check : Nat → List AV → List Blk → (AV → List Blk → Ans) → Ans := upd T_track_Check 86 s_Q6_Check
theorem g_Q6_Check : GOK Tryz.prog GT gbT T_Q6_Check XT := by
  refine GOK.upd g_track_Check (fun args w => Tryz.call86 args w) fun xs bs K r h => ?_
  unfold s_Q6_Check at h
  split at h
  · exact ⟨_, _, c_Q6_Check _ _ _, h⟩
  · cases h
theorem w_track_circle (h : Int) (K : AV → List Blk → Ans) : evFn Tryz.prog GT EQT T_Q6_Check XT noL 60 150 [.v (.c (.d (.int .i64 h)))] [] (fun v M => K v (M.take ([] : List Blk).length)) = K (rSpan2 (sinT h, cosT h)) [] := by
  kernel_rfl
theorem c_track_circle (h : Int) : CallsA Tryz.prog GT gbT 150 [.v (.c (.d (.int .i64 h)))] [] (rSpan2 (sinT h, cosT h)) [] := by
  refine CallsA.ofOk fun hok => ?_
  have hw := w_track_circle h (fun v M => some (Res.fin v M))
  refine CallsA.ofEv (Γ := T_Q6_Check) (X := XT) (Λ := noL) (EQ := EQT) (n := 60) g_Q6_Check hEQT hmT (fun _ _ _ _ => noL_ok _) (hw.trans ?_)
  rfl
def s_track_circle : List AV → List Blk → (AV → List Blk → Ans) → Ans := fun xs bs K => match xs, bs with
  | [.v (.c (.d (.int .i64 h)))], [] => K (rSpan2 (sinT h, cosT h)) []
  | _, _ => none
def T_track_circle : Nat → List AV → List Blk → (AV → List Blk → Ans) → Ans := upd T_Q6_Check 150 s_track_circle
theorem g_track_circle : GOK Tryz.prog GT gbT T_track_circle XT := by
  refine GOK.upd g_Q6_Check (fun args w => Tryz.call150 args w) fun xs bs K r h => ?_
  unfold s_track_circle at h
  split at h
  · exact ⟨_, _, c_track_circle _, h⟩
  · cases h
theorem w_track_direction (nm : ByteArray) (ra dec t : Int) (K : AV → List Blk → Ans) : evFn Tryz.prog GT EQT T_track_circle XT noL 60 134 [.v (.agg [.str nm, .int .i64 ra, .int .i64 dec]), .v (.c (.d (.int .i64 t)))] [] (fun v M => K v (M.take ([] : List Blk).length)) = dirAns K ra dec t := by
  kernel_rfl
theorem c_track_direction (nm : ByteArray) (ra dec t : Int) (hd : (dirOn ra dec t) = true) : CallsA Tryz.prog GT gbT 134 [.v (.agg [.str nm, .int .i64 ra, .int .i64 dec]), .v (.c (.d (.int .i64 t)))] [] (rDirE (dirS ra dec t, 0)) [] := by
  refine CallsA.ofOk fun hok => ?_
  have hw := w_track_direction nm ra dec t (fun v M => some (Res.fin v M))
  refine CallsA.ofEv (Γ := T_track_circle) (X := XT) (Λ := noL) (EQ := EQT) (n := 60) g_track_circle hEQT hmT (fun _ _ _ _ => noL_ok _) (hw.trans ?_)
  have h_ra := inR_i64 (hok (.int .i64 ra) (by simp [datasL, datas]))
  have h_dec := inR_i64 (hok (.int .i64 dec) (by simp [datasL, datas]))
  have h_t := inR_i64 (hok (.int .i64 t) (by simp [datasL, datas]))
  clear hok hw
  exact dirAns_ok (K := fun v M => some (Res.fin v M)) hd
def s_track_direction : List AV → List Blk → (AV → List Blk → Ans) → Ans := fun xs bs K => match xs, bs with
  | [.v (.agg [.str _, .int .i64 ra, .int .i64 dec]), .v (.c (.d (.int .i64 t)))], [] => bif dirOn ra dec t then K (rDirE (dirS ra dec t, 0)) [] else none
  | _, _ => none
def T_track_direction : Nat → List AV → List Blk → (AV → List Blk → Ans) → Ans := upd T_track_circle 134 s_track_direction
theorem g_track_direction : GOK Tryz.prog GT gbT T_track_direction XT := by
  refine GOK.upd g_track_circle (fun args w => Tryz.call134 args w) fun xs bs K r h => ?_
  unfold s_track_direction at h
  split at h
  · simp only [cond_eq_ite] at h
    split at h
    · exact ⟨_, _, c_track_direction _ _ _ _ ‹_›, h⟩
    · cases h
  · cases h
theorem w_track_At (nm : ByteArray) (ra dec t : Int) (K : AV → List Blk → Ans) : evFn Tryz.prog GT EQT (inl Tryz.prog GT EQT XT [133] T_track_direction 60 1) XT noL 60 106 [.v (.agg [.str nm, .int .i64 ra, .int .i64 dec]), .v (.c (.d (.int .i64 t)))] [] (fun v M => K v (M.take ([] : List Blk).length)) = atAns K ⟨nm, ra, dec⟩ t := by
  kernel_rfl
theorem c_track_At (nm : ByteArray) (ra dec t : Int) : CallsA Tryz.prog GT gbT 106 [.v (.agg [.str nm, .int .i64 ra, .int .i64 dec]), .v (.c (.d (.int .i64 t)))] [] (rDirE (atS ⟨nm, ra, dec⟩ t)) [] := by
  refine CallsA.ofOk fun hok => ?_
  have hw := w_track_At nm ra dec t (fun v M => some (Res.fin v M))
  refine CallsA.ofEv (Γ := (inl Tryz.prog GT EQT XT [133] T_track_direction 60 1)) (X := XT) (Λ := noL) (EQ := EQT) (n := 60) (g_track_direction.inl hEQT hmT (fun f hf => by simp only [List.mem_cons, List.not_mem_nil, or_false] at hf; subst hf; exact (fun args w => Tryz.call133 args w)) 60 1) hEQT hmT (fun _ _ _ _ => noL_ok _) (hw.trans ?_)
  have h_ra := inR_i64 (hok (.int .i64 ra) (by simp [datasL, datas]))
  have h_dec := inR_i64 (hok (.int .i64 dec) (by simp [datasL, datas]))
  have h_t := inR_i64 (hok (.int .i64 t) (by simp [datasL, datas]))
  clear hok hw
  exact atAns_ok (K := fun v M => some (Res.fin v M))
def s_track_At : List AV → List Blk → (AV → List Blk → Ans) → Ans := fun xs bs K => match xs, bs with
  | [.v (.agg [.str nm, .int .i64 ra, .int .i64 dec]), .v (.c (.d (.int .i64 t)))], [] => K (rDirE (atS ⟨nm, ra, dec⟩ t)) []
  | _, _ => none
def T_track_At : Nat → List AV → List Blk → (AV → List Blk → Ans) → Ans := upd T_track_direction 106 s_track_At
theorem g_track_At : GOK Tryz.prog GT gbT T_track_At XT := by
  refine GOK.upd g_track_direction (fun args w => Tryz.call106 args w) fun xs bs K r h => ?_
  unfold s_track_At at h
  split at h
  · exact ⟨_, _, c_track_At _ _ _ _, h⟩
  · cases h
theorem w_Q5_times (x y : Int) (K : AV → List Blk → Ans) : evFn Tryz.prog GT EQT T_track_At XT noL 60 170 [.v (.c (.d (.int .u64 x))), .v (.c (.d (.int .u64 y)))] [] (fun v M => K v (M.take ([] : List Blk).length)) = bif overOn (bigOf (x * y)) 100000000000000000 then K (rU (overSmall (x * y) 100000000000000000)) [] else none := by
  kernel_rfl
theorem c_Q5_times (x y : Int) : CallsA Tryz.prog GT gbT 170 [.v (.c (.d (.int .u64 x))), .v (.c (.d (.int .u64 y)))] [] (rU (timesI x y)) [] := by
  refine CallsA.ofOk fun hok => ?_
  have hw := w_Q5_times x y (fun v M => some (Res.fin v M))
  refine CallsA.ofEv (Γ := T_track_At) (X := XT) (Λ := noL) (EQ := EQT) (n := 60) g_track_At hEQT hmT (fun _ _ _ _ => noL_ok _) (hw.trans ?_)
  have h_x := inR_u64 (hok (.int .u64 x) (by simp [datasL, datas]))
  have h_y := inR_u64 (hok (.int .u64 y) (by simp [datasL, datas]))
  clear hok hw
  exact times_ok (K := fun v M => some (Res.fin v M)) h_x h_y
def s_Q5_times : List AV → List Blk → (AV → List Blk → Ans) → Ans := fun xs bs K => match xs, bs with
  | [.v (.c (.d (.int .u64 x))), .v (.c (.d (.int .u64 y)))], [] => K (rU (timesI x y)) []
  | _, _ => none
def T_Q5_times : Nat → List AV → List Blk → (AV → List Blk → Ans) → Ans := upd T_track_At 170 s_Q5_times
theorem g_Q5_times : GOK Tryz.prog GT gbT T_Q5_times XT := by
  refine GOK.upd g_track_At (fun args w => Tryz.call170 args w) fun xs bs K r h => ?_
  unfold s_Q5_times at h
  split at h
  · exact ⟨_, _, c_Q5_times _ _, h⟩
  · cases h
abbrev lv_series : List (Nat × IntKind) := [(7, .u64), (8, .u64), (9, .u64), (2, .u64), (10, .u64)]
def L_series := Lam1 3 40 0 lv_series seriesDom seriesFin
theorem b_series (sq s t k i : Int) (M : List Blk) (N : Nat) : evCode Tryz.prog GT EQT T_Q5_times XT noL 40 (loopB Tryz.prog 168 0) (mkT lv_series 40 [s, t, sq, k, i]) M N (fun x T M N => some (.st x (forget [7, 8, 9, 2, 10] T) M N)) =
    bif decide (i < 12) then (bif wu64 (k * wu64 (k + 1)) == 0 then none else bif i.tmod 2 == 0 then some (.st .normal (mkT lv_series 40 [wu64 (s - termI t sq k), termI t sq k, sq, wu64 (k + 2), wu64 (i + 1)]) M N) else some (.st .normal (mkT lv_series 40 [wu64 (s + termI t sq k), termI t sq k, sq, wu64 (k + 2), wu64 (i + 1)]) M N))
    else some (.st (.exit 0) (mkT lv_series 40 [s, t, sq, k, i]) M N) := by kernel_rfl
theorem l_series (s t sq k i : Int) : Less (mkT lv_series 40 [s]) (mkT lv_series 40 [s, t, sq, k, i]) := by
  have h : mkT lv_series 40 [s] = mkT (lv_series.take 1) 40 [s] := by kernel_rfl
  rw [h]
  exact less_mkT (by kernel_rfl) (by kernel_rfl)
theorem LL_series : ∀ fn c, Tryz.prog.funcs[168]? = some fn → fn.body = some c → LOK Tryz.prog GT gbT L_series (loopsIn c) := by
  refine LOK.ofF fun b hb => ?_
  have e : loopsF Tryz.prog 168 = [loopB Tryz.prog 168 0] := by kernel_rfl
  have k0 : loopKey (loopB Tryz.prog 168 0) = 3 := by kernel_rfl
  rw [e, List.mem_singleton] at hb
  subst hb
  unfold L_series
  rw [← k0]
  refine LOKb.lam1 (n := 40) (e := 0) (live := lv_series) fun xs M N hl hd => ?_
  match xs, hl with
  | [s, t, sq, k, i], _ =>
    simp only [seriesDom, serOn, Bool.and_eq_true, decide_eq_true_eq, beq_iff_eq] at hd
    obtain ⟨⟨h1, h2⟩, rfl⟩ := hd
    exact ref_rounds (c := loopB Tryz.prog 168 0) g_Q5_times hEQT hmT (fun s t k i => mkT lv_series 40 [s, t, sq, k, i]) (fun s => mkT lv_series 40 [s]) sq (fun s t k i => l_series s t sq k i) (fun s t k i => b_series sq s t k i M N) 12 s t k 0 (by omega) (by omega) h1 (by omega)
theorem w_Q5_series (x y k : Int) (K : AV → List Blk → Ans) : evFn Tryz.prog GT EQT T_Q5_times XT L_series 60 168 [.v (.c (.d (.int .u64 x))), .v (.c (.d (.int .u64 y))), .v (.c (.d (.int .u64 k)))] [] (fun v M => K v (M.take ([] : List Blk).length)) = bif seriesDom [y, y, timesI x x, k, 0] then K (rU (serI 12 y y (timesI x x) k true)) [] else none := by
  kernel_rfl
theorem c_Q5_series (x y k : Int) (hd : (serOn k) = true) : CallsA Tryz.prog GT gbT 168 [.v (.c (.d (.int .u64 x))), .v (.c (.d (.int .u64 y))), .v (.c (.d (.int .u64 k)))] [] (rU (serI 12 y y (timesI x x) k true)) [] := by
  refine CallsA.ofOk fun hok => ?_
  have hw := w_Q5_series x y k (fun v M => some (Res.fin v M))
  refine CallsA.ofEv (Γ := T_Q5_times) (X := XT) (Λ := L_series) (EQ := EQT) (n := 60) g_Q5_times hEQT hmT (LL_series) (hw.trans ?_)
  have h_x := inR_u64 (hok (.int .u64 x) (by simp [datasL, datas]))
  have h_y := inR_u64 (hok (.int .u64 y) (by simp [datasL, datas]))
  have h_k := inR_u64 (hok (.int .u64 k) (by simp [datasL, datas]))
  clear hok hw
  have : seriesDom [y, y, timesI x x, k, 0] = true := by simp only [seriesDom, hd]; rfl
  rw [this]
  rfl
def s_Q5_series : List AV → List Blk → (AV → List Blk → Ans) → Ans := fun xs bs K => match xs, bs with
  | [.v (.c (.d (.int .u64 x))), .v (.c (.d (.int .u64 y))), .v (.c (.d (.int .u64 k)))], [] => bif serOn k then K (rU (serI 12 y y (timesI x x) k true)) [] else none
  | _, _ => none
def T_Q5_series : Nat → List AV → List Blk → (AV → List Blk → Ans) → Ans := upd T_Q5_times 168 s_Q5_series
theorem g_Q5_series : GOK Tryz.prog GT gbT T_Q5_series XT := by
  refine GOK.upd g_Q5_times (fun args w => Tryz.call168 args w) fun xs bs K r h => ?_
  unfold s_Q5_series at h
  split at h
  · simp only [cond_eq_ite] at h
    split at h
    · exact ⟨_, _, c_Q5_series _ _ _ ‹_›, h⟩
    · cases h
  · cases h
theorem w_Q5_eighth (k n : Int) (K : AV → List Blk → Ans) : evFn Tryz.prog GT EQT T_Q5_series XT noL 60 162 [.v (.c (.d (.int .u64 k))), .v (.c (.d (.int .u64 n)))] [] (fun v M => K v (M.take ([] : List Blk).length)) = eighthAns K k n := by
  kernel_rfl
theorem c_Q5_eighth (k n : Int) (hd : (eighthOn k n) = true) : CallsA Tryz.prog GT gbT 162 [.v (.c (.d (.int .u64 k))), .v (.c (.d (.int .u64 n)))] [] (rUU (cosSer (partI k n), sinSer (partI k n))) [] := by
  refine CallsA.ofOk fun hok => ?_
  have hw := w_Q5_eighth k n (fun v M => some (Res.fin v M))
  refine CallsA.ofEv (Γ := T_Q5_series) (X := XT) (Λ := noL) (EQ := EQT) (n := 60) g_Q5_series hEQT hmT (fun _ _ _ _ => noL_ok _) (hw.trans ?_)
  have h_k := inR_u64 (hok (.int .u64 k) (by simp [datasL, datas]))
  have h_n := inR_u64 (hok (.int .u64 n) (by simp [datasL, datas]))
  clear hok hw
  exact eighthAns_ok (K := fun v M => some (Res.fin v M)) hd
def s_Q5_eighth : List AV → List Blk → (AV → List Blk → Ans) → Ans := fun xs bs K => match xs, bs with
  | [.v (.c (.d (.int .u64 k))), .v (.c (.d (.int .u64 n)))], [] => bif eighthOn k n then K (rUU (cosSer (partI k n), sinSer (partI k n))) [] else none
  | _, _ => none
def T_Q5_eighth : Nat → List AV → List Blk → (AV → List Blk → Ans) → Ans := upd T_Q5_series 162 s_Q5_eighth
theorem g_Q5_eighth : GOK Tryz.prog GT gbT T_Q5_eighth XT := by
  refine GOK.upd g_Q5_series (fun args w => Tryz.call162 args w) fun xs bs K r h => ?_
  unfold s_Q5_eighth at h
  split at h
  · simp only [cond_eq_ite] at h
    split at h
    · exact ⟨_, _, c_Q5_eighth _ _ ‹_›, h⟩
    · cases h
  · cases h
theorem w_Q5_exact (k n : Int) (s : Bool) (K : AV → List Blk → Ans) : evFn Tryz.prog GT EQT T_Q5_eighth XT noL 60 163 [.v (.c (.d (.int .i64 k))), .v (.c (.d (.int .i64 n))), .v (.c (.d (.bool s)))] [] (fun v M => K v (M.take ([] : List Blk).length)) = K (rB (exactI k n s)) [] := by
  simp only [exactI, pullK K]
  kernel_rfl
theorem c_Q5_exact (k n : Int) (s : Bool) : CallsA Tryz.prog GT gbT 163 [.v (.c (.d (.int .i64 k))), .v (.c (.d (.int .i64 n))), .v (.c (.d (.bool s)))] [] (rB (exactI k n s)) [] := by
  refine CallsA.ofOk fun hok => ?_
  have hw := w_Q5_exact k n s (fun v M => some (Res.fin v M))
  refine CallsA.ofEv (Γ := T_Q5_eighth) (X := XT) (Λ := noL) (EQ := EQT) (n := 60) g_Q5_eighth hEQT hmT (fun _ _ _ _ => noL_ok _) (hw.trans ?_)
  rfl
def s_Q5_exact : List AV → List Blk → (AV → List Blk → Ans) → Ans := fun xs bs K => match xs, bs with
  | [.v (.c (.d (.int .i64 k))), .v (.c (.d (.int .i64 n))), .v (.c (.d (.bool s)))], [] => K (rB (exactI k n s)) []
  | _, _ => none
def T_Q5_exact : Nat → List AV → List Blk → (AV → List Blk → Ans) → Ans := upd T_Q5_eighth 163 s_Q5_exact
theorem g_Q5_exact : GOK Tryz.prog GT gbT T_Q5_exact XT := by
  refine GOK.upd g_Q5_eighth (fun args w => Tryz.call163 args w) fun xs bs K r h => ?_
  unfold s_Q5_exact at h
  split at h
  · exact ⟨_, _, c_Q5_exact _ _ _, h⟩
  · cases h
theorem w_Q5_round (n : Int) (K : AV → List Blk → Ans) : evFn Tryz.prog GT EQT T_Q5_exact XT noL 60 164 [.v (.c (.d (.int .i64 n)))] [] (fun v M => K v (M.take ([] : List Blk).length)) = K (rSpan ⟨n, n⟩) [] := by
  kernel_rfl
theorem c_Q5_round (n : Int) : CallsA Tryz.prog GT gbT 164 [.v (.c (.d (.int .i64 n)))] [] (rSpan ⟨n, n⟩) [] := by
  refine CallsA.ofOk fun hok => ?_
  have hw := w_Q5_round n (fun v M => some (Res.fin v M))
  refine CallsA.ofEv (Γ := T_Q5_exact) (X := XT) (Λ := noL) (EQ := EQT) (n := 60) g_Q5_exact hEQT hmT (fun _ _ _ _ => noL_ok _) (hw.trans ?_)
  rfl
def s_Q5_round : List AV → List Blk → (AV → List Blk → Ans) → Ans := fun xs bs K => match xs, bs with
  | [.v (.c (.d (.int .i64 n)))], [] => K (rSpan ⟨n, n⟩) []
  | _, _ => none
def T_Q5_round : Nat → List AV → List Blk → (AV → List Blk → Ans) → Ans := upd T_Q5_exact 164 s_Q5_round
theorem g_Q5_round : GOK Tryz.prog GT gbT T_Q5_round XT := by
  refine GOK.upd g_Q5_exact (fun args w => Tryz.call164 args w) fun xs bs K r h => ?_
  unfold s_Q5_round at h
  split at h
  · exact ⟨_, _, c_Q5_round _, h⟩
  · cases h
theorem w_Q5_quarter (k n : Int) (K : AV → List Blk → Ans) : evFn Tryz.prog GT EQT T_Q5_round XT noL 60 158 [.v (.c (.d (.int .i64 k))), .v (.c (.d (.int .i64 n)))] [] (fun v M => K v (M.take ([] : List Blk).length)) = quarterAns K k n := by
  kernel_rfl
theorem c_Q5_quarter (k n : Int) (hd : (quarterOn k n) = true) : CallsA Tryz.prog GT gbT 158 [.v (.c (.d (.int .i64 k))), .v (.c (.d (.int .i64 n)))] [] (rSpan (refI (n - 4 * k) n)) [] := by
  refine CallsA.ofOk fun hok => ?_
  have hw := w_Q5_quarter k n (fun v M => some (Res.fin v M))
  refine CallsA.ofEv (Γ := T_Q5_round) (X := XT) (Λ := noL) (EQ := EQT) (n := 60) g_Q5_round hEQT hmT (fun _ _ _ _ => noL_ok _) (hw.trans ?_)
  have h_k := inR_i64 (hok (.int .i64 k) (by simp [datasL, datas]))
  have h_n := inR_i64 (hok (.int .i64 n) (by simp [datasL, datas]))
  clear hok hw
  exact quarterAns_ok (K := fun v M => some (Res.fin v M)) hd
def s_Q5_quarter : List AV → List Blk → (AV → List Blk → Ans) → Ans := fun xs bs K => match xs, bs with
  | [.v (.c (.d (.int .i64 k))), .v (.c (.d (.int .i64 n)))], [] => bif quarterOn k n then K (rSpan (refI (n - 4 * k) n)) [] else none
  | _, _ => none
def T_Q5_quarter : Nat → List AV → List Blk → (AV → List Blk → Ans) → Ans := upd T_Q5_round 158 s_Q5_quarter
theorem g_Q5_quarter : GOK Tryz.prog GT gbT T_Q5_quarter XT := by
  refine GOK.upd g_Q5_round (fun args w => Tryz.call158 args w) fun xs bs K r h => ?_
  unfold s_Q5_quarter at h
  split at h
  · simp only [cond_eq_ite] at h
    split at h
    · exact ⟨_, _, c_Q5_quarter _ _ ‹_›, h⟩
    · cases h
  · cases h
end Go.Ev

