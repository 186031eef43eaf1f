/-
  Contracts of functions: what each returns. No condition beyond those of the statements.
-/
import Derived.Test.YtckjflbbilideaaDoorGyCD
import Derived.Test.YtckjflbbilideaaDoorGeoS
namespace Go.Ev
open Go Go.Proofs

abbrev lv_root : List (Nat × IntKind) := [(0, .i64), (4, .i64), (5, .i64)]
def L_root := Lam1 3 28 0 lv_root (fun l => match l with | [n, r, s] => (r == 0 && s == 1073741824) && rootOnR n | _ => false) (fun l => match l with | [n, _, _] => [n, rootR n, 0] | _ => [])
set_option maxRecDepth 100000 in
theorem b_root (n r s : Int) (M : List Blk) (N : Nat) : evCode Tryd.prog GT EQT T_fringelaw03_alive XT noL 20 (loopB Tryd.prog 51 0) (mkT lv_root 28 [n, r, s]) M N (fun x T M N => some (.st x (forget [0, 4, 5] T) M N)) =
    bif decide (s > 0) then (bif decide (w64 (w64 (r + s) * w64 (r + s)) ≤ n) then some (.st .normal (mkT lv_root 28 [n, w64 (r + s), w64 (s.tdiv 2)]) M N) else some (.st .normal (mkT lv_root 28 [n, r, w64 (s.tdiv 2)]) M N)) else some (.st (.exit 0) (mkT lv_root 28 [n, r, s]) M N) := by kernel_rfl
theorem r_root (M : List Blk) (N : Nat) (n : Int) : ∀ (k : Nat) (r : Int), 0 ≤ r → r + 2 ^ k ≤ 2147483648 → ∃ j, RoundsOK Tryd.prog GT gbT (loopB Tryd.prog 51 0) j (mkT lv_root 28 [n, r, stepOf k]) M N (.exit 0) (mkT lv_root 28 [n, rootD k r n, 0]) M N
  | 0, r, _, _ => ⟨1, RoundsOK.fin (Λ := noL) g_fringelaw03_alive hEQT hmT (noL_ok _) (b_root n r 0 M N)⟩
  | k + 1, r, h0, h1 => by
    have hp := pow_pos' k
    have e : (2 : Int) ^ (k + 1) = 2 ^ k + 2 ^ k := by rw [Int.pow_succ]; omega
    have hb := b_root n r (2 ^ k) M N
    have q1 : (r + 2 ^ k) * (r + 2 ^ k) ≤ 2147483648 * 2147483648 := mul_le (by omega) (by omega) (by omega) (by omega)
    have q2 := sq_nn (r + 2 ^ k)
    have hs : 0 ≤ stepOf k ∧ stepOf k ≤ 2147483648 := by
      cases k with
      | zero => exact ⟨by decide, by decide⟩
      | succ k =>
        have := pow_pos' k
        have e2 : (2 : Int) ^ (k + 1) = 2 ^ k + 2 ^ k := by rw [Int.pow_succ]; omega
        rw [stepOf]; omega
    rw [w64_id (n := r + 2 ^ k) (by omega), w64_id (n := (r + 2 ^ k) * (r + 2 ^ k)) (by omega), step_half, w64_id (n := stepOf k) (by omega), decide_eq_true (show (2 : Int) ^ k > 0 by omega)] at hb
    rw [stepOf, rootD]
    by_cases h : (r + 2 ^ k) * (r + 2 ^ k) ≤ n
    · rw [decide_eq_true h] at hb ⊢
      obtain ⟨j, hj⟩ := r_root M N n k (r + 2 ^ k) (by omega) (by omega)
      exact ⟨j + 1, RoundsOK.go (Λ := noL) g_fringelaw03_alive hEQT hmT (noL_ok _) hb hj⟩
    · rw [decide_eq_false h] at hb ⊢
      obtain ⟨j, hj⟩ := r_root M N n k r h0 (by omega)
      exact ⟨j + 1, RoundsOK.go (Λ := noL) g_fringelaw03_alive hEQT hmT (noL_ok _) hb hj⟩
set_option maxRecDepth 100000 in
theorem LL_root : ∀ fn c, Tryd.prog.funcs[51]? = some fn → fn.body = some c → LOK Tryd.prog GT gbT L_root (loopsIn c) := by
  refine LOK.ofF fun b hb => ?_
  have e : loopsF Tryd.prog 51 = [loopB Tryd.prog 51 0] := by kernel_rfl
  rw [e, List.mem_singleton] at hb
  subst hb
  refine LOKb.lam1 (b := loopB Tryd.prog 51 0) (n := 28) (e := 0) (live := lv_root) fun xs M N hl hd => ?_
  match xs, hl with
  | [n, r, s], _ =>
    simp only [Bool.and_eq_true, beq_iff_eq] at hd
    obtain ⟨⟨rfl, rfl⟩, _⟩ := hd
    exact r_root M N n 31 0 (by omega) (by decide)

set_option maxRecDepth 100000 in
/-- fringeref03.root -/
theorem w_fringeref03_root (n : Int) (K : AV → List Blk → Ans) : evFn Tryd.prog GT EQT T_fringelaw03_alive XT L_root 60 51 [.v (.c (.d (.int .i64 n)))] [] (fun v M => K v (M.take ([] : List Blk).length)) = rootAnsR K n := by
  kernel_rfl
set_option maxRecDepth 100000 in
theorem c_fringeref03_root (n : Int) (hd : (rootOnR n) = true) : CallsA Tryd.prog GT gbT 51 [.v (.c (.d (.int .i64 n)))] [] (rRoot n) [] := by
  refine CallsA.ofOk fun hok => ?_
  have hw := w_fringeref03_root n (fun v M => some (Res.fin v M))
  refine CallsA.ofEv (Γ := T_fringelaw03_alive) (X := XT) (Λ := L_root) (EQ := EQT) (n := 60) g_fringelaw03_alive hEQT hmT (LL_root) (hw.trans ?_)
  have h_n := inR_i64 (hok (.int .i64 n) (by simp [datasL, datas]))
  clear hok hw
  exact rootAnsR_ok (K := fun v M => some (Res.fin v M)) hd
def s_fringeref03_root : List AV → List Blk → (AV → List Blk → Ans) → Ans := fun xs bs K => match xs, bs with
  | [.v (.c (.d (.int .i64 n)))], [] => bif rootOnR n then K (rRoot n) [] else none
  | _, _ => none
def T_fringeref03_root : Nat → List AV → List Blk → (AV → List Blk → Ans) → Ans := upd T_fringelaw03_alive 51 s_fringeref03_root
theorem g_fringeref03_root : GOK Tryd.prog GT gbT T_fringeref03_root XT := by
  refine GOK.upd g_fringelaw03_alive (fun args w => Tryd.call51 args w) fun xs bs K r h => ?_
  unfold s_fringeref03_root at h
  split at h
  · simp only [cond_eq_ite] at h
    split at h
    · exact ⟨_, _, c_fringeref03_root _ ‹_›, h⟩
    · cases h
  · cases h


set_option maxRecDepth 100000 in
/-- fringeref03.solved -/
theorem w_fringeref03_solved (c1 c2 k1 k2 : Int) (K : AV → List Blk → Ans) : evFn Tryd.prog GT EQT T_fringeref03_root XT noL 60 52 [.v (.agg [.int .i64 c1, .int .i64 c2]), .v (.agg [.int .i64 k1, .int .i64 k2])] [] (fun v M => K v (M.take ([] : List Blk).length)) = K (rFrac (solvedR ⟨c1, c2⟩ ⟨k1, k2⟩)) [] := by
  kernel_rfl
set_option maxRecDepth 100000 in
theorem c_fringeref03_solved (c1 c2 k1 k2 : Int) : CallsA Tryd.prog GT gbT 52 [.v (.agg [.int .i64 c1, .int .i64 c2]), .v (.agg [.int .i64 k1, .int .i64 k2])] [] (rFrac (solvedR ⟨c1, c2⟩ ⟨k1, k2⟩)) [] := by
  refine CallsA.ofOk fun hok => ?_
  have hw := w_fringeref03_solved c1 c2 k1 k2 (fun v M => some (Res.fin v M))
  refine CallsA.ofEv (Γ := T_fringeref03_root) (X := XT) (Λ := noL) (EQ := EQT) (n := 60) g_fringeref03_root hEQT hmT (fun _ _ _ _ => noL_ok _) (hw.trans ?_)
  rfl
def s_fringeref03_solved : List AV → List Blk → (AV → List Blk → Ans) → Ans := fun xs bs K => match xs, bs with
  | [.v (.agg [.int .i64 c1, .int .i64 c2]), .v (.agg [.int .i64 k1, .int .i64 k2])], [] => K (rFrac (solvedR ⟨c1, c2⟩ ⟨k1, k2⟩)) []
  | _, _ => none
def T_fringeref03_solved : Nat → List AV → List Blk → (AV → List Blk → Ans) → Ans := upd T_fringeref03_root 52 s_fringeref03_solved
theorem g_fringeref03_solved : GOK Tryd.prog GT gbT T_fringeref03_solved XT := by
  refine GOK.upd g_fringeref03_root (fun args w => Tryd.call52 args w) fun xs bs K r h => ?_
  unfold s_fringeref03_solved at h
  split at h
  · exact ⟨_, _, c_fringeref03_solved _ _ _ _, h⟩
  · cases h


set_option maxRecDepth 100000 in
/-- fringeref03.Params -/
theorem w_fringeref03_Params (g1 g2 p1 p2 p3 p4 p5 p6 : Int) (K : AV → List Blk → Ans) : evFn Tryd.prog GT EQT T_fringeref03_solved XT noL 100 25 [.v (.agg [.int .i64 g1, .int .i64 g2]), .v (.agg [.int .i64 p1, .int .i64 p2, .int .i64 p3, .int .i64 p4, .int .i64 p5, .int .i64 p6])] [] (fun v M => K v (M.take ([] : List Blk).length)) = paramsRef K ⟨g1, g2⟩ ⟨⟨p1, p2⟩, ⟨p3, p4⟩, ⟨p5, p6⟩⟩ := by
  kernel_rfl
set_option maxRecDepth 100000 in
theorem c_fringeref03_Params (g1 g2 p1 p2 p3 p4 p5 p6 : Int) : CallsA Tryd.prog GT gbT 25 [.v (.agg [.int .i64 g1, .int .i64 g2]), .v (.agg [.int .i64 p1, .int .i64 p2, .int .i64 p3, .int .i64 p4, .int .i64 p5, .int .i64 p6])] [] (rFFE (paramsV ⟨g1, g2⟩ ⟨⟨p1, p2⟩, ⟨p3, p4⟩, ⟨p5, p6⟩⟩)) [] := by
  refine CallsA.ofOk fun hok => ?_
  have hw := w_fringeref03_Params g1 g2 p1 p2 p3 p4 p5 p6 (fun v M => some (Res.fin v M))
  refine CallsA.ofEv (Γ := T_fringeref03_solved) (X := XT) (Λ := noL) (EQ := EQT) (n := 100) g_fringeref03_solved hEQT hmT (fun _ _ _ _ => noL_ok _) (hw.trans ?_)
  have h_g1 := inR_i64 (hok (.int .i64 g1) (by simp [datasL, datas]))
  have h_g2 := inR_i64 (hok (.int .i64 g2) (by simp [datasL, datas]))
  have h_p1 := inR_i64 (hok (.int .i64 p1) (by simp [datasL, datas]))
  have h_p2 := inR_i64 (hok (.int .i64 p2) (by simp [datasL, datas]))
  have h_p3 := inR_i64 (hok (.int .i64 p3) (by simp [datasL, datas]))
  have h_p4 := inR_i64 (hok (.int .i64 p4) (by simp [datasL, datas]))
  have h_p5 := inR_i64 (hok (.int .i64 p5) (by simp [datasL, datas]))
  have h_p6 := inR_i64 (hok (.int .i64 p6) (by simp [datasL, datas]))
  clear hok hw
  exact paramsRef_ok (K := fun v M => some (Res.fin v M))
def s_fringeref03_Params : List AV → List Blk → (AV → List Blk → Ans) → Ans := fun xs bs K => match xs, bs with
  | [.v (.agg [.int .i64 g1, .int .i64 g2]), .v (.agg [.int .i64 p1, .int .i64 p2, .int .i64 p3, .int .i64 p4, .int .i64 p5, .int .i64 p6])], [] => K (rFFE (paramsV ⟨g1, g2⟩ ⟨⟨p1, p2⟩, ⟨p3, p4⟩, ⟨p5, p6⟩⟩)) []
  | _, _ => none
def T_fringeref03_Params : Nat → List AV → List Blk → (AV → List Blk → Ans) → Ans := upd T_fringeref03_solved 25 s_fringeref03_Params
theorem g_fringeref03_Params : GOK Tryd.prog GT gbT T_fringeref03_Params XT := by
  refine GOK.upd g_fringeref03_solved (fun args w => Tryd.call25 args w) fun xs bs K r h => ?_
  unfold s_fringeref03_Params at h
  split at h
  · exact ⟨_, _, c_fringeref03_Params _ _ _ _ _ _ _ _, h⟩
  · cases h


set_option maxRecDepth 100000 in
/-- fringelaw03.GeoidSides -/
theorem w_fringelaw03_GeoidSides (g1 g2 p1 p2 p3 p4 p5 p6 q1 q2 q3 q4 q5 q6 : Int) (K : AV → List Blk → Ans) : evFn Tryd.prog GT EQT T_fringeref03_Params XT noL 150 5 [.v (.agg [.int .i64 g1, .int .i64 g2]), .v (.agg [.int .i64 p1, .int .i64 p2, .int .i64 p3, .int .i64 p4, .int .i64 p5, .int .i64 p6]), .v (.agg [.int .i64 q1, .int .i64 q2, .int .i64 q3, .int .i64 q4, .int .i64 q5, .int .i64 q6])] [] (fun v M => K v (M.take ([] : List Blk).length)) = lawGeoidSides K ⟨g1, g2⟩ ⟨⟨p1, p2⟩, ⟨p3, p4⟩, ⟨p5, p6⟩⟩ ⟨⟨q1, q2⟩, ⟨q3, q4⟩, ⟨q5, q6⟩⟩ := by
  kernel_rfl
set_option maxRecDepth 100000 in
theorem c_fringelaw03_GeoidSides (g1 g2 p1 p2 p3 p4 p5 p6 q1 q2 q3 q4 q5 q6 : Int) : CallsA Tryd.prog GT gbT 5 [.v (.agg [.int .i64 g1, .int .i64 g2]), .v (.agg [.int .i64 p1, .int .i64 p2, .int .i64 p3, .int .i64 p4, .int .i64 p5, .int .i64 p6]), .v (.agg [.int .i64 q1, .int .i64 q2, .int .i64 q3, .int .i64 q4, .int .i64 q5, .int .i64 q6])] [] (rB true) [] := by
  refine CallsA.ofOk fun hok => ?_
  have hw := w_fringelaw03_GeoidSides g1 g2 p1 p2 p3 p4 p5 p6 q1 q2 q3 q4 q5 q6 (fun v M => some (Res.fin v M))
  refine CallsA.ofEv (Γ := T_fringeref03_Params) (X := XT) (Λ := noL) (EQ := EQT) (n := 150) g_fringeref03_Params hEQT hmT (fun _ _ _ _ => noL_ok _) (hw.trans ?_)
  have h_g1 := inR_i64 (hok (.int .i64 g1) (by simp [datasL, datas]))
  have h_g2 := inR_i64 (hok (.int .i64 g2) (by simp [datasL, datas]))
  have h_p1 := inR_i64 (hok (.int .i64 p1) (by simp [datasL, datas]))
  have h_p2 := inR_i64 (hok (.int .i64 p2) (by simp [datasL, datas]))
  have h_p3 := inR_i64 (hok (.int .i64 p3) (by simp [datasL, datas]))
  have h_p4 := inR_i64 (hok (.int .i64 p4) (by simp [datasL, datas]))
  have h_p5 := inR_i64 (hok (.int .i64 p5) (by simp [datasL, datas]))
  have h_p6 := inR_i64 (hok (.int .i64 p6) (by simp [datasL, datas]))
  have h_q1 := inR_i64 (hok (.int .i64 q1) (by simp [datasL, datas]))
  have h_q2 := inR_i64 (hok (.int .i64 q2) (by simp [datasL, datas]))
  have h_q3 := inR_i64 (hok (.int .i64 q3) (by simp [datasL, datas]))
  have h_q4 := inR_i64 (hok (.int .i64 q4) (by simp [datasL, datas]))
  have h_q5 := inR_i64 (hok (.int .i64 q5) (by simp [datasL, datas]))
  have h_q6 := inR_i64 (hok (.int .i64 q6) (by simp [datasL, datas]))
  clear hok hw
  exact lawGeoidSides_ok (K := fun v M => some (Res.fin v M))

end Go.Ev
