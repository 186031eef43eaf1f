/-
  Contracts of functions: what each returns. No condition beyond those of the statements.
-/
import Derived.Test.YtdgegcaljelohaaAlCC
namespace Go.Ev
open Go Go.Proofs

set_option maxRecDepth 100000 in
/-- fringeref02.Check -/
theorem w_fringeref02_Check (a b c d e f : Int) (K : AV → List Blk → Ans) : evFn Try.prog GT EQT T_vec_Check XT noL 60 40 [.v (.agg [.int .i64 a, .int .i64 b, .int .i64 c, .int .i64 d, .int .i64 e, .int .i64 f])] [] (fun v M => K v (M.take ([] : List Blk).length)) = K (rI (checkVRef ⟨⟨a, b⟩, ⟨c, d⟩, ⟨e, f⟩⟩)) [] := by
  simp only [checkVRef, pullK K]
  kernel_rfl
theorem c_fringeref02_Check (a b c d e f : Int) : CallsA Try.prog GT gbT 40 [.v (.agg [.int .i64 a, .int .i64 b, .int .i64 c, .int .i64 d, .int .i64 e, .int .i64 f])] [] (rI (checkV ⟨⟨a, b⟩, ⟨c, d⟩, ⟨e, f⟩⟩)) [] := by
  refine CallsA.ofOk fun hok => ?_
  have hw := w_fringeref02_Check a b c d e f (fun v M => some (Res.fin v M))
  refine CallsA.ofEv (Γ := T_vec_Check) (X := XT) (Λ := noL) (EQ := EQT) (n := 60) g_vec_Check hEQT hmT (fun _ _ _ _ => noL_ok _) (hw.trans ?_)
  have h_a := inR_i64 (hok (.int .i64 a) (by simp [datasL, datas]))
  have h_b := inR_i64 (hok (.int .i64 b) (by simp [datasL, datas]))
  have h_c := inR_i64 (hok (.int .i64 c) (by simp [datasL, datas]))
  have h_d := inR_i64 (hok (.int .i64 d) (by simp [datasL, datas]))
  have h_e := inR_i64 (hok (.int .i64 e) (by simp [datasL, datas]))
  have h_f := inR_i64 (hok (.int .i64 f) (by simp [datasL, datas]))
  clear hok hw
  refine congrArg (fun v => some (Res.fin v [])) ?_
  rw [checkVRef_ok]
def s_fringeref02_Check : List AV → List Blk → (AV → List Blk → Ans) → Ans := fun xs bs K => match xs, bs with
  | [.v (.agg [.int .i64 a, .int .i64 b, .int .i64 c, .int .i64 d, .int .i64 e, .int .i64 f])], [] => K (rI (checkV ⟨⟨a, b⟩, ⟨c, d⟩, ⟨e, f⟩⟩)) []
  | _, _ => none
def T_fringeref02_Check : Nat → List AV → List Blk → (AV → List Blk → Ans) → Ans := upd T_vec_Check 40 s_fringeref02_Check
theorem g_fringeref02_Check : GOK Try.prog GT gbT T_fringeref02_Check XT := by
  refine GOK.upd g_vec_Check (fun args w => Try.call40 args w) fun xs bs K r h => ?_
  unfold s_fringeref02_Check at h
  split at h
  · exact ⟨_, _, c_fringeref02_Check _ _ _ _ _ _, h⟩
  · cases h


set_option maxRecDepth 100000 in
/-- fringeref02.Both -/
theorem w_fringeref02_Both (a b c d e f g h i j k l : Int) (K : AV → List Blk → Ans) : evFn Try.prog GT EQT T_fringeref02_Check XT noL 60 25 [.v (.agg [.int .i64 a, .int .i64 b, .int .i64 c, .int .i64 d, .int .i64 e, .int .i64 f]), .v (.agg [.int .i64 g, .int .i64 h, .int .i64 i, .int .i64 j, .int .i64 k, .int .i64 l])] [] (fun v M => K v (M.take ([] : List Blk).length)) = K (rI (bothV ⟨⟨a, b⟩, ⟨c, d⟩, ⟨e, f⟩⟩ ⟨⟨g, h⟩, ⟨i, j⟩, ⟨k, l⟩⟩)) [] := by
  simp only [bothV, pullK K]
  kernel_rfl
theorem c_fringeref02_Both (a b c d e f g h i j k l : Int) : CallsA Try.prog GT gbT 25 [.v (.agg [.int .i64 a, .int .i64 b, .int .i64 c, .int .i64 d, .int .i64 e, .int .i64 f]), .v (.agg [.int .i64 g, .int .i64 h, .int .i64 i, .int .i64 j, .int .i64 k, .int .i64 l])] [] (rI (bothV ⟨⟨a, b⟩, ⟨c, d⟩, ⟨e, f⟩⟩ ⟨⟨g, h⟩, ⟨i, j⟩, ⟨k, l⟩⟩)) [] := by
  refine CallsA.ofOk fun hok => ?_
  have hw := w_fringeref02_Both a b c d e f g h i j k l (fun v M => some (Res.fin v M))
  refine CallsA.ofEv (Γ := T_fringeref02_Check) (X := XT) (Λ := noL) (EQ := EQT) (n := 60) g_fringeref02_Check hEQT hmT (fun _ _ _ _ => noL_ok _) (hw.trans ?_)
  rfl
def s_fringeref02_Both : List AV → List Blk → (AV → List Blk → Ans) → Ans := fun xs bs K => match xs, bs with
  | [.v (.agg [.int .i64 a, .int .i64 b, .int .i64 c, .int .i64 d, .int .i64 e, .int .i64 f]), .v (.agg [.int .i64 g, .int .i64 h, .int .i64 i, .int .i64 j, .int .i64 k, .int .i64 l])], [] => K (rI (bothV ⟨⟨a, b⟩, ⟨c, d⟩, ⟨e, f⟩⟩ ⟨⟨g, h⟩, ⟨i, j⟩, ⟨k, l⟩⟩)) []
  | _, _ => none
def T_fringeref02_Both : Nat → List AV → List Blk → (AV → List Blk → Ans) → Ans := upd T_fringeref02_Check 25 s_fringeref02_Both
theorem g_fringeref02_Both : GOK Try.prog GT gbT T_fringeref02_Both XT := by
  refine GOK.upd g_fringeref02_Check (fun args w => Try.call25 args w) fun xs bs K r h => ?_
  unfold s_fringeref02_Both at h
  split at h
  · exact ⟨_, _, c_fringeref02_Both _ _ _ _ _ _ _ _ _ _ _ _, h⟩
  · cases h


set_option maxRecDepth 100000 in
/-- vec.Add -/
theorem w_vec_Add (a b c d e f g h i j k l : Int) (K : AV → List Blk → Ans) : evFn Try.prog GT EQT (inl Try.prog GT EQT XT [41, 42, 43, 44] T_fringeref02_Both 120 3) XT noL 120 26 [.v (.agg [.int .i64 a, .int .i64 b, .int .i64 c, .int .i64 d, .int .i64 e, .int .i64 f]), .v (.agg [.int .i64 g, .int .i64 h, .int .i64 i, .int .i64 j, .int .i64 k, .int .i64 l])] [] (fun v M => K v (M.take ([] : List Blk).length)) = addVAns K ⟨⟨a, b⟩, ⟨c, d⟩, ⟨e, f⟩⟩ ⟨⟨g, h⟩, ⟨i, j⟩, ⟨k, l⟩⟩ := by
  kernel_rfl
theorem c_vec_Add (a b c d e f g h i j k l : Int) : CallsA Try.prog GT gbT 26 [.v (.agg [.int .i64 a, .int .i64 b, .int .i64 c, .int .i64 d, .int .i64 e, .int .i64 f]), .v (.agg [.int .i64 g, .int .i64 h, .int .i64 i, .int .i64 j, .int .i64 k, .int .i64 l])] [] (rVecE (addV ⟨⟨a, b⟩, ⟨c, d⟩, ⟨e, f⟩⟩ ⟨⟨g, h⟩, ⟨i, j⟩, ⟨k, l⟩⟩)) [] := by
  refine CallsA.ofOk fun hok => ?_
  have hw := w_vec_Add a b c d e f g h i j k l (fun v M => some (Res.fin v M))
  refine CallsA.ofEv (Γ := (inl Try.prog GT EQT XT [41, 42, 43, 44] T_fringeref02_Both 120 3)) (X := XT) (Λ := noL) (EQ := EQT) (n := 120) (g_fringeref02_Both.inl hEQT hmT (fun f hf => by simp only [List.mem_cons, List.not_mem_nil, or_false] at hf; rcases hf with rfl | rfl | rfl | rfl <;> first | exact (fun args w => Try.call41 args w) | exact (fun args w => Try.call42 args w) | exact (fun args w => Try.call43 args w) | exact (fun args w => Try.call44 args w)) 120 3) hEQT hmT (fun _ _ _ _ => noL_ok _) (hw.trans ?_)
  have h_a := inR_i64 (hok (.int .i64 a) (by simp [datasL, datas]))
  have h_b := inR_i64 (hok (.int .i64 b) (by simp [datasL, datas]))
  have h_c := inR_i64 (hok (.int .i64 c) (by simp [datasL, datas]))
  have h_d := inR_i64 (hok (.int .i64 d) (by simp [datasL, datas]))
  have h_e := inR_i64 (hok (.int .i64 e) (by simp [datasL, datas]))
  have h_f := inR_i64 (hok (.int .i64 f) (by simp [datasL, datas]))
  have h_g := inR_i64 (hok (.int .i64 g) (by simp [datasL, datas]))
  have h_h := inR_i64 (hok (.int .i64 h) (by simp [datasL, datas]))
  have h_i := inR_i64 (hok (.int .i64 i) (by simp [datasL, datas]))
  have h_j := inR_i64 (hok (.int .i64 j) (by simp [datasL, datas]))
  have h_k := inR_i64 (hok (.int .i64 k) (by simp [datasL, datas]))
  have h_l := inR_i64 (hok (.int .i64 l) (by simp [datasL, datas]))
  clear hok hw
  exact addVAns_ok (K := fun v M => some (Res.fin v M))
def s_vec_Add : List AV → List Blk → (AV → List Blk → Ans) → Ans := fun xs bs K => match xs, bs with
  | [.v (.agg [.int .i64 a, .int .i64 b, .int .i64 c, .int .i64 d, .int .i64 e, .int .i64 f]), .v (.agg [.int .i64 g, .int .i64 h, .int .i64 i, .int .i64 j, .int .i64 k, .int .i64 l])], [] => K (rVecE (addV ⟨⟨a, b⟩, ⟨c, d⟩, ⟨e, f⟩⟩ ⟨⟨g, h⟩, ⟨i, j⟩, ⟨k, l⟩⟩)) []
  | _, _ => none
def T_vec_Add : Nat → List AV → List Blk → (AV → List Blk → Ans) → Ans := upd T_fringeref02_Both 26 s_vec_Add
theorem g_vec_Add : GOK Try.prog GT gbT T_vec_Add XT := by
  refine GOK.upd g_fringeref02_Both (fun args w => Try.call26 args w) fun xs bs K r h => ?_
  unfold s_vec_Add at h
  split at h
  · exact ⟨_, _, c_vec_Add _ _ _ _ _ _ _ _ _ _ _ _, h⟩
  · cases h


set_option maxRecDepth 100000 in
/-- track.Along -/
theorem w_track_Along (a b c d e f g h i j k l : Int) (K : AV → List Blk → Ans) : evFn Try.prog GT EQT (inl Try.prog GT EQT XT [34, 35, 50] T_vec_Add 120 2) XT noL 120 24 [.v (.agg [.int .i64 a, .int .i64 b, .int .i64 c, .int .i64 d, .int .i64 e, .int .i64 f]), .v (.agg [.int .i64 g, .int .i64 h, .int .i64 i, .int .i64 j, .int .i64 k, .int .i64 l])] [] (fun v M => K v (M.take ([] : List Blk).length)) = alongAns K ⟨⟨a, b⟩, ⟨c, d⟩, ⟨e, f⟩⟩ ⟨⟨g, h⟩, ⟨i, j⟩, ⟨k, l⟩⟩ := by
  kernel_rfl
theorem c_track_Along (a b c d e f g h i j k l : Int) : CallsA Try.prog GT gbT 24 [.v (.agg [.int .i64 a, .int .i64 b, .int .i64 c, .int .i64 d, .int .i64 e, .int .i64 f]), .v (.agg [.int .i64 g, .int .i64 h, .int .i64 i, .int .i64 j, .int .i64 k, .int .i64 l])] [] (rSpanE (alongS ⟨⟨a, b⟩, ⟨c, d⟩, ⟨e, f⟩⟩ ⟨⟨g, h⟩, ⟨i, j⟩, ⟨k, l⟩⟩)) [] := by
  refine CallsA.ofOk fun hok => ?_
  have hw := w_track_Along a b c d e f g h i j k l (fun v M => some (Res.fin v M))
  refine CallsA.ofEv (Γ := (inl Try.prog GT EQT XT [34, 35, 50] T_vec_Add 120 2)) (X := XT) (Λ := noL) (EQ := EQT) (n := 120) (g_vec_Add.inl hEQT hmT (fun f hf => by simp only [List.mem_cons, List.not_mem_nil, or_false] at hf; rcases hf with rfl | rfl | rfl <;> first | exact (fun args w => Try.call34 args w) | exact (fun args w => Try.call35 args w) | exact (fun args w => Try.call50 args w)) 120 2) hEQT hmT (fun _ _ _ _ => noL_ok _) (hw.trans ?_)
  have h_a := inR_i64 (hok (.int .i64 a) (by simp [datasL, datas]))
  have h_b := inR_i64 (hok (.int .i64 b) (by simp [datasL, datas]))
  have h_c := inR_i64 (hok (.int .i64 c) (by simp [datasL, datas]))
  have h_d := inR_i64 (hok (.int .i64 d) (by simp [datasL, datas]))
  have h_e := inR_i64 (hok (.int .i64 e) (by simp [datasL, datas]))
  have h_f := inR_i64 (hok (.int .i64 f) (by simp [datasL, datas]))
  have h_g := inR_i64 (hok (.int .i64 g) (by simp [datasL, datas]))
  have h_h := inR_i64 (hok (.int .i64 h) (by simp [datasL, datas]))
  have h_i := inR_i64 (hok (.int .i64 i) (by simp [datasL, datas]))
  have h_j := inR_i64 (hok (.int .i64 j) (by simp [datasL, datas]))
  have h_k := inR_i64 (hok (.int .i64 k) (by simp [datasL, datas]))
  have h_l := inR_i64 (hok (.int .i64 l) (by simp [datasL, datas]))
  clear hok hw
  exact alongAns_ok (K := fun v M => some (Res.fin v M))
def s_track_Along : List AV → List Blk → (AV → List Blk → Ans) → Ans := fun xs bs K => match xs, bs with
  | [.v (.agg [.int .i64 a, .int .i64 b, .int .i64 c, .int .i64 d, .int .i64 e, .int .i64 f]), .v (.agg [.int .i64 g, .int .i64 h, .int .i64 i, .int .i64 j, .int .i64 k, .int .i64 l])], [] => K (rSpanE (alongS ⟨⟨a, b⟩, ⟨c, d⟩, ⟨e, f⟩⟩ ⟨⟨g, h⟩, ⟨i, j⟩, ⟨k, l⟩⟩)) []
  | _, _ => none
def T_track_Along : Nat → List AV → List Blk → (AV → List Blk → Ans) → Ans := upd T_vec_Add 24 s_track_Along
theorem g_track_Along : GOK Try.prog GT gbT T_track_Along XT := by
  refine GOK.upd g_vec_Add (fun args w => Try.call24 args w) fun xs bs K r h => ?_
  unfold s_track_Along at h
  split at h
  · exact ⟨_, _, c_track_Along _ _ _ _ _ _ _ _ _ _ _ _, h⟩
  · cases h


abbrev T_named (s : ByteArray) (i : Int) : TS := maskT [(0, .v (.c (.d (.str s)))), (24, aint .i64 (s.size : Int)), (25, aint .i64 i), (2, .any)] 50
abbrev B_named (s : ByteArray) (i : Int) : TS := maskT [(0, .v (.c (.d (.str s)))), (24, aint .i64 (s.size : Int)), (25, aint .i64 i), (2, abool false)] 50
def f_named (T : TS) (M : List Blk) (N : Nat) : LT := match tget T 0, tget T 24, tget T 25 with
  | .v (.c (.d (.str s))), .v (.c (.d (.int .i64 n))), .v (.c (.d (.int .i64 i))) =>
    bif i == 0 then .br (n == (s.size : Int) && decide ((s.size : Int) ≤ 1000)) (.br (restOk s 0 s.size) (.st (.exit 0) (maskT [] 50) M N) (.st .ret (maskT [(2, abool false)] 50) M N)) .no else .no
  | _, _, _ => .no
def L_named := LamG 4 50 f_named
set_option maxRecDepth 100000 in
theorem b_named (s : ByteArray) (i : Int) (M : List Blk) (N : Nat) : evCode Try.prog GT EQT T_track_Along XT noL 40 (loopB Try.prog 32 0) (T_named s i) M N (fun x T M N => some (.st x (forget [0, 24, 25, 2] T) M N)) =
    bif decide (i < (s.size : Int)) then (bif decide (0 ≤ i) && decide (i < (s.size : Int)) then nameStep (byteAt s i) (some (.st .ret (B_named s i) M N)) (some (.st .normal (T_named s (w64 (i + 1))) M N)) else none)
    else some (.st (.exit 0) (T_named s i) M N) := by kernel_rfl
theorem LL_named : ∀ fn c, Try.prog.funcs[32]? = some fn → fn.body = some c → LOK Try.prog GT gbT L_named (loopsIn c) := by
  refine LOK.ofF fun b hb => ?_
  have e : loopsF Try.prog 32 = [loopB Try.prog 32 0] := by kernel_rfl
  have k0 : loopKey (loopB Try.prog 32 0) = 4 := by kernel_rfl
  rw [e, List.mem_singleton] at hb
  subst hb
  unfold L_named
  rw [← k0]
  refine LOKb.lamG fun T M N x T' M' N' hl hr => ?_
  unfold f_named at hr
  split at hr
  · rename_i s n i h0 h1 h2
    simp only [cond_eq_ite, beq_iff_eq] at hr
    split at hr
    · rename_i hi
      subst hi
      obtain ⟨hc, hr2⟩ := Or.resolve_right hr (fun h => h.2.elim)
      simp only [Bool.and_eq_true, beq_iff_eq, decide_eq_true_eq] at hc
      obtain ⟨rfl, hs⟩ := hc
      have hless : Less (T_named s 0) T := less_of' hl (by simp only [List.mem_cons, List.not_mem_nil, or_false]; intro p hp; rcases hp with rfl | rfl | rfl | rfl; exact .inl h0; exact .inl h1; exact .inl h2; exact .inr rfl)
      have hh := name_rounds (c := loopB Try.prog 32 0) (M := M) (NN := N) g_track_Along hEQT hmT s hs (fun i => T_named s i) (maskT [] 50) (maskT [(2, abool false)] 50) (fun i => less_of (by kernel_rfl) (by simp)) (fun i => B_named s i) (fun i => less_of (by kernel_rfl) (by simp; kernel_rfl)) (fun i => (b_named s i M N)) s.size 0 (by omega) (by omega)
      rcases hr2 with ⟨hd, rfl, rfl, rfl, rfl⟩ | ⟨hd, rfl, rfl, rfl, rfl⟩
      · obtain ⟨k, hk⟩ := hh.1 hd
        exact ⟨by simp, k, hk.less hless⟩
      · obtain ⟨k, hk⟩ := hh.2 hd
        exact ⟨by simp, k, hk.less hless⟩
    · exact hr.elim
  · exact hr.elim

set_option maxRecDepth 100000 in
/-- track.named -/
theorem w_track_named (s : ByteArray) (K : AV → List Blk → Ans) : evFn Try.prog GT EQT T_track_Along XT L_named 60 32 [.v (.c (.d (.str s)))] [] (fun v M => K v (M.take ([] : List Blk).length)) = nameAns K s := by
  kernel_rfl
theorem c_track_named (s : ByteArray) : CallsA Try.prog GT gbT 32 [.v (.c (.d (.str s)))] [] (rB (namedB s)) [] := by
  refine CallsA.ofOk fun hok => ?_
  have hw := w_track_named s (fun v M => some (Res.fin v M))
  refine CallsA.ofEv (Γ := T_track_Along) (X := XT) (Λ := L_named) (EQ := EQT) (n := 60) g_track_Along hEQT hmT (LL_named) (hw.trans ?_)
  clear hok hw
  exact nameAns_ok (K := fun v M => some (Res.fin v M))
def s_track_named : List AV → List Blk → (AV → List Blk → Ans) → Ans := fun xs bs K => match xs, bs with
  | [.v (.c (.d (.str s)))], [] => K (rB (namedB s)) []
  | _, _ => none
def T_track_named : Nat → List AV → List Blk → (AV → List Blk → Ans) → Ans := upd T_track_Along 32 s_track_named
theorem g_track_named : GOK Try.prog GT gbT T_track_named XT := by
  refine GOK.upd g_track_Along (fun args w => Try.call32 args w) fun xs bs K r h => ?_
  unfold s_track_named at h
  split at h
  · exact ⟨_, _, c_track_named _, h⟩
  · cases h


abbrev T_Named (s : ByteArray) (i : Int) : TS := maskT [(0, .v (.c (.d (.str s)))), (3, aint .i64 i), (2, .any)] 56
abbrev B_Named (s : ByteArray) (i : Int) : TS := maskT [(0, .v (.c (.d (.str s)))), (3, aint .i64 i), (2, abool false)] 56
def f_Named (T : TS) (M : List Blk) (N : Nat) : LT := match tget T 0, tget T 3 with
  | .v (.c (.d (.str s))), .v (.c (.d (.int .i64 i))) =>
    bif i == 0 then .br (decide ((s.size : Int) ≤ 1000)) (.br (restOk s 0 s.size) (.st (.exit 0) (maskT [] 56) M N) (.st .ret (maskT [(2, abool false)] 56) M N)) .no else .no
  | _, _ => .no
def L_Named := LamG 4 56 f_Named
set_option maxRecDepth 100000 in
theorem b_Named (s : ByteArray) (i : Int) (M : List Blk) (N : Nat) : evCode Try.prog GT EQT T_track_named XT noL 40 (loopB Try.prog 33 0) (T_Named s i) M N (fun x T M N => some (.st x (forget [0, 3, 2] T) M N)) =
    bif decide (i < (s.size : Int)) then (bif decide (0 ≤ i) && decide (i < (s.size : Int)) then nameStepR (decide (0 ≤ i) && decide (i < (s.size : Int))) (byteAt s i) (some (.st .ret (B_Named s i) M N)) (some (.st .normal (T_Named s (w64 (i + 1))) M N)) else none)
    else some (.st (.exit 0) (T_Named s i) M N) := by kernel_rfl
theorem LL_Named : ∀ fn c, Try.prog.funcs[33]? = some fn → fn.body = some c → LOK Try.prog GT gbT L_Named (loopsIn c) := by
  refine LOK.ofF fun b hb => ?_
  have e : loopsF Try.prog 33 = [loopB Try.prog 33 0] := by kernel_rfl
  have k0 : loopKey (loopB Try.prog 33 0) = 4 := by kernel_rfl
  rw [e, List.mem_singleton] at hb
  subst hb
  unfold L_Named
  rw [← k0]
  refine LOKb.lamG fun T M N x T' M' N' hl hr => ?_
  unfold f_Named at hr
  split at hr
  · rename_i s i h0 h2
    simp only [cond_eq_ite, beq_iff_eq] at hr
    split at hr
    · rename_i hi
      subst hi
      obtain ⟨hs, hr2⟩ := Or.resolve_right hr (fun h => h.2.elim)
      simp only [decide_eq_true_eq] at hs
      have hless : Less (T_Named s 0) T := less_of' hl (by simp only [List.mem_cons, List.not_mem_nil, or_false]; intro p hp; rcases hp with rfl | rfl | rfl; exact .inl h0; exact .inl h2; exact .inr rfl)
      have hh := name_rounds (c := loopB Try.prog 33 0) (M := M) (NN := N) g_track_named hEQT hmT s hs (fun i => T_Named s i) (maskT [] 56) (maskT [(2, abool false)] 56) (fun i => less_of (by kernel_rfl) (by simp)) (fun i => B_Named s i) (fun i => less_of (by kernel_rfl) (by simp; kernel_rfl)) (fun i => (b_Named s i M N).trans (by rw [nameStepR_eq])) s.size 0 (by omega) (by omega)
      rcases hr2 with ⟨hd, rfl, rfl, rfl, rfl⟩ | ⟨hd, rfl, rfl, rfl, rfl⟩
      · obtain ⟨k, hk⟩ := hh.1 hd
        exact ⟨by simp, k, hk.less hless⟩
      · obtain ⟨k, hk⟩ := hh.2 hd
        exact ⟨by simp, k, hk.less hless⟩
    · exact hr.elim
  · exact hr.elim

set_option maxRecDepth 100000 in
/-- fringeref04.Named -/
theorem w_fringeref04_Named (s : ByteArray) (K : AV → List Blk → Ans) : evFn Try.prog GT EQT T_track_named XT L_Named 60 33 [.v (.c (.d (.str s)))] [] (fun v M => K v (M.take ([] : List Blk).length)) = nameAns' K s := by
  kernel_rfl
theorem c_fringeref04_Named (s : ByteArray) : CallsA Try.prog GT gbT 33 [.v (.c (.d (.str s)))] [] (rB (namedB s)) [] := by
  refine CallsA.ofOk fun hok => ?_
  have hw := w_fringeref04_Named s (fun v M => some (Res.fin v M))
  refine CallsA.ofEv (Γ := T_track_named) (X := XT) (Λ := L_Named) (EQ := EQT) (n := 60) g_track_named hEQT hmT (LL_Named) (hw.trans ?_)
  clear hok hw
  exact nameAns'_ok (K := fun v M => some (Res.fin v M))
def s_fringeref04_Named : List AV → List Blk → (AV → List Blk → Ans) → Ans := fun xs bs K => match xs, bs with
  | [.v (.c (.d (.str s)))], [] => K (rB (namedB s)) []
  | _, _ => none
def T_fringeref04_Named : Nat → List AV → List Blk → (AV → List Blk → Ans) → Ans := upd T_track_named 33 s_fringeref04_Named
theorem g_fringeref04_Named : GOK Try.prog GT gbT T_fringeref04_Named XT := by
  refine GOK.upd g_track_named (fun args w => Try.call33 args w) fun xs bs K r h => ?_
  unfold s_fringeref04_Named at h
  split at h
  · exact ⟨_, _, c_fringeref04_Named _, h⟩
  · cases h


set_option maxRecDepth 100000 in
/-- track.Check -/
theorem w_track_Check (nm : ByteArray) (ra dec : Int) (K : AV → List Blk → Ans) : evFn Try.prog GT EQT T_fringeref04_Named XT noL 60 13 [.v (.agg [.str nm, .int .i64 ra, .int .i64 dec])] [] (fun v M => K v (M.take ([] : List Blk).length)) = K (rI (checkSrc ⟨nm, ra, dec⟩)) [] := by
  simp only [checkSrc, pullK K]
  kernel_rfl
theorem c_track_Check (nm : ByteArray) (ra dec : Int) : CallsA Try.prog GT gbT 13 [.v (.agg [.str nm, .int .i64 ra, .int .i64 dec])] [] (rI (checkSrc ⟨nm, ra, dec⟩)) [] := by
  refine CallsA.ofOk fun hok => ?_
  have hw := w_track_Check nm ra dec (fun v M => some (Res.fin v M))
  refine CallsA.ofEv (Γ := T_fringeref04_Named) (X := XT) (Λ := noL) (EQ := EQT) (n := 60) g_fringeref04_Named hEQT hmT (fun _ _ _ _ => noL_ok _) (hw.trans ?_)
  rfl
def s_track_Check : List AV → List Blk → (AV → List Blk → Ans) → Ans := fun xs bs K => match xs, bs with
  | [.v (.agg [.str nm, .int .i64 ra, .int .i64 dec])], [] => K (rI (checkSrc ⟨nm, ra, dec⟩)) []
  | _, _ => none
def T_track_Check : Nat → List AV → List Blk → (AV → List Blk → Ans) → Ans := upd T_fringeref04_Named 13 s_track_Check
theorem g_track_Check : GOK Try.prog GT gbT T_track_Check XT := by
  refine GOK.upd g_fringeref04_Named (fun args w => Try.call13 args w) fun xs bs K r h => ?_
  unfold s_track_Check at h
  split at h
  · exact ⟨_, _, c_track_Check _ _ _, h⟩
  · cases h


set_option maxRecDepth 100000 in
/-- fringeref06.Check -/
theorem w_fringeref06_Check (nm : ByteArray) (ra dec : Int) (K : AV → List Blk → Ans) : evFn Try.prog GT EQT T_track_Check XT noL 60 14 [.v (.agg [.str nm, .int .i64 ra, .int .i64 dec])] [] (fun v M => K v (M.take ([] : List Blk).length)) = K (rI (checkSrc ⟨nm, ra, dec⟩)) [] := by
  simp only [checkSrc, pullK K]
  kernel_rfl
theorem c_fringeref06_Check (nm : ByteArray) (ra dec : Int) : CallsA Try.prog GT gbT 14 [.v (.agg [.str nm, .int .i64 ra, .int .i64 dec])] [] (rI (checkSrc ⟨nm, ra, dec⟩)) [] := by
  refine CallsA.ofOk fun hok => ?_
  have hw := w_fringeref06_Check nm ra dec (fun v M => some (Res.fin v M))
  refine CallsA.ofEv (Γ := T_track_Check) (X := XT) (Λ := noL) (EQ := EQT) (n := 60) g_track_Check hEQT hmT (fun _ _ _ _ => noL_ok _) (hw.trans ?_)
  rfl
def s_fringeref06_Check : List AV → List Blk → (AV → List Blk → Ans) → Ans := fun xs bs K => match xs, bs with
  | [.v (.agg [.str nm, .int .i64 ra, .int .i64 dec])], [] => K (rI (checkSrc ⟨nm, ra, dec⟩)) []
  | _, _ => none
def T_fringeref06_Check : Nat → List AV → List Blk → (AV → List Blk → Ans) → Ans := upd T_track_Check 14 s_fringeref06_Check
theorem g_fringeref06_Check : GOK Try.prog GT gbT T_fringeref06_Check XT := by
  refine GOK.upd g_track_Check (fun args w => Try.call14 args w) fun xs bs K r h => ?_
  unfold s_fringeref06_Check at h
  split at h
  · exact ⟨_, _, c_fringeref06_Check _ _ _, h⟩
  · cases h


set_option maxRecDepth 100000 in
/-- track.circle -/
theorem w_track_circle (h : Int) (K : AV → List Blk → Ans) : evFn Try.prog GT EQT T_fringeref06_Check XT noL 60 36 [.v (.c (.d (.int .i64 h)))] [] (fun v M => K v (M.take ([] : List Blk).length)) = K (rSpan2 (sinT h, cosT h)) [] := by
  kernel_rfl
theorem c_track_circle (h : Int) : CallsA Try.prog GT gbT 36 [.v (.c (.d (.int .i64 h)))] [] (rSpan2 (sinT h, cosT h)) [] := by
  refine CallsA.ofOk fun hok => ?_
  have hw := w_track_circle h (fun v M => some (Res.fin v M))
  refine CallsA.ofEv (Γ := T_fringeref06_Check) (X := XT) (Λ := noL) (EQ := EQT) (n := 60) g_fringeref06_Check hEQT hmT (fun _ _ _ _ => noL_ok _) (hw.trans ?_)
  rfl
def s_track_circle : List AV → List Blk → (AV → List Blk → Ans) → Ans := fun xs bs K => match xs, bs with
  | [.v (.c (.d (.int .i64 h)))], [] => K (rSpan2 (sinT h, cosT h)) []
  | _, _ => none
def T_track_circle : Nat → List AV → List Blk → (AV → List Blk → Ans) → Ans := upd T_fringeref06_Check 36 s_track_circle
theorem g_track_circle : GOK Try.prog GT gbT T_track_circle XT := by
  refine GOK.upd g_fringeref06_Check (fun args w => Try.call36 args w) fun xs bs K r h => ?_
  unfold s_track_circle at h
  split at h
  · exact ⟨_, _, c_track_circle _, h⟩
  · cases h


set_option maxRecDepth 100000 in
/-- track.direction -/
theorem w_track_direction (nm : ByteArray) (ra dec t : Int) (K : AV → List Blk → Ans) : evFn Try.prog GT EQT T_track_circle XT noL 60 29 [.v (.agg [.str nm, .int .i64 ra, .int .i64 dec]), .v (.c (.d (.int .i64 t)))] [] (fun v M => K v (M.take ([] : List Blk).length)) = dirAns K ra dec t := by
  kernel_rfl
theorem c_track_direction (nm : ByteArray) (ra dec t : Int) (hd : (dirOn ra dec t) = true) : CallsA Try.prog GT gbT 29 [.v (.agg [.str nm, .int .i64 ra, .int .i64 dec]), .v (.c (.d (.int .i64 t)))] [] (rDirE (dirS ra dec t, 0)) [] := by
  refine CallsA.ofOk fun hok => ?_
  have hw := w_track_direction nm ra dec t (fun v M => some (Res.fin v M))
  refine CallsA.ofEv (Γ := T_track_circle) (X := XT) (Λ := noL) (EQ := EQT) (n := 60) g_track_circle hEQT hmT (fun _ _ _ _ => noL_ok _) (hw.trans ?_)
  have h_ra := inR_i64 (hok (.int .i64 ra) (by simp [datasL, datas]))
  have h_dec := inR_i64 (hok (.int .i64 dec) (by simp [datasL, datas]))
  have h_t := inR_i64 (hok (.int .i64 t) (by simp [datasL, datas]))
  clear hok hw
  exact dirAns_ok (K := fun v M => some (Res.fin v M)) hd
def s_track_direction : List AV → List Blk → (AV → List Blk → Ans) → Ans := fun xs bs K => match xs, bs with
  | [.v (.agg [.str _, .int .i64 ra, .int .i64 dec]), .v (.c (.d (.int .i64 t)))], [] => bif dirOn ra dec t then K (rDirE (dirS ra dec t, 0)) [] else none
  | _, _ => none
def T_track_direction : Nat → List AV → List Blk → (AV → List Blk → Ans) → Ans := upd T_track_circle 29 s_track_direction
theorem g_track_direction : GOK Try.prog GT gbT T_track_direction XT := by
  refine GOK.upd g_track_circle (fun args w => Try.call29 args w) fun xs bs K r h => ?_
  unfold s_track_direction at h
  split at h
  · simp only [cond_eq_ite] at h
    split at h
    · exact ⟨_, _, c_track_direction _ _ _ _ ‹_›, h⟩
    · cases h
  · cases h


set_option maxRecDepth 100000 in
/-- track.At -/
theorem w_track_At (nm : ByteArray) (ra dec t : Int) (K : AV → List Blk → Ans) : evFn Try.prog GT EQT (inl Try.prog GT EQT XT [28] T_track_direction 60 1) XT noL 60 9 [.v (.agg [.str nm, .int .i64 ra, .int .i64 dec]), .v (.c (.d (.int .i64 t)))] [] (fun v M => K v (M.take ([] : List Blk).length)) = atAns K ⟨nm, ra, dec⟩ t := by
  kernel_rfl
theorem c_track_At (nm : ByteArray) (ra dec t : Int) : CallsA Try.prog GT gbT 9 [.v (.agg [.str nm, .int .i64 ra, .int .i64 dec]), .v (.c (.d (.int .i64 t)))] [] (rDirE (atS ⟨nm, ra, dec⟩ t)) [] := by
  refine CallsA.ofOk fun hok => ?_
  have hw := w_track_At nm ra dec t (fun v M => some (Res.fin v M))
  refine CallsA.ofEv (Γ := (inl Try.prog GT EQT XT [28] T_track_direction 60 1)) (X := XT) (Λ := noL) (EQ := EQT) (n := 60) (g_track_direction.inl hEQT hmT (fun f hf => by simp only [List.mem_cons, List.not_mem_nil, or_false] at hf; subst hf; exact (fun args w => Try.call28 args w)) 60 1) hEQT hmT (fun _ _ _ _ => noL_ok _) (hw.trans ?_)
  have h_ra := inR_i64 (hok (.int .i64 ra) (by simp [datasL, datas]))
  have h_dec := inR_i64 (hok (.int .i64 dec) (by simp [datasL, datas]))
  have h_t := inR_i64 (hok (.int .i64 t) (by simp [datasL, datas]))
  clear hok hw
  exact atAns_ok (K := fun v M => some (Res.fin v M))
def s_track_At : List AV → List Blk → (AV → List Blk → Ans) → Ans := fun xs bs K => match xs, bs with
  | [.v (.agg [.str nm, .int .i64 ra, .int .i64 dec]), .v (.c (.d (.int .i64 t)))], [] => K (rDirE (atS ⟨nm, ra, dec⟩ t)) []
  | _, _ => none
def T_track_At : Nat → List AV → List Blk → (AV → List Blk → Ans) → Ans := upd T_track_direction 9 s_track_At
theorem g_track_At : GOK Try.prog GT gbT T_track_At XT := by
  refine GOK.upd g_track_direction (fun args w => Try.call9 args w) fun xs bs K r h => ?_
  unfold s_track_At at h
  split at h
  · exact ⟨_, _, c_track_At _ _ _ _, h⟩
  · cases h


set_option maxRecDepth 100000 in
/-- track.Dot -/
theorem w_track_Dot (a b c d e f g h i j k l : Int) (K : AV → List Blk → Ans) : evFn Try.prog GT EQT (inl Try.prog GT EQT XT [34, 35, 50] T_track_At 120 2) XT noL 120 18 [.v (.agg [.int .i64 a, .int .i64 b, .int .i64 c, .int .i64 d, .int .i64 e, .int .i64 f]), .v (.agg [.int .i64 g, .int .i64 h, .int .i64 i, .int .i64 j, .int .i64 k, .int .i64 l])] [] (fun v M => K v (M.take ([] : List Blk).length)) = dotAns K ⟨⟨a, b⟩, ⟨c, d⟩, ⟨e, f⟩⟩ ⟨⟨g, h⟩, ⟨i, j⟩, ⟨k, l⟩⟩ := by
  kernel_rfl
theorem c_track_Dot (a b c d e f g h i j k l : Int) : CallsA Try.prog GT gbT 18 [.v (.agg [.int .i64 a, .int .i64 b, .int .i64 c, .int .i64 d, .int .i64 e, .int .i64 f]), .v (.agg [.int .i64 g, .int .i64 h, .int .i64 i, .int .i64 j, .int .i64 k, .int .i64 l])] [] (rSpanE (dotS ⟨⟨a, b⟩, ⟨c, d⟩, ⟨e, f⟩⟩ ⟨⟨g, h⟩, ⟨i, j⟩, ⟨k, l⟩⟩)) [] := by
  refine CallsA.ofOk fun hok => ?_
  have hw := w_track_Dot a b c d e f g h i j k l (fun v M => some (Res.fin v M))
  refine CallsA.ofEv (Γ := (inl Try.prog GT EQT XT [34, 35, 50] T_track_At 120 2)) (X := XT) (Λ := noL) (EQ := EQT) (n := 120) (g_track_At.inl hEQT hmT (fun f hf => by simp only [List.mem_cons, List.not_mem_nil, or_false] at hf; rcases hf with rfl | rfl | rfl <;> first | exact (fun args w => Try.call34 args w) | exact (fun args w => Try.call35 args w) | exact (fun args w => Try.call50 args w)) 120 2) hEQT hmT (fun _ _ _ _ => noL_ok _) (hw.trans ?_)
  have h_a := inR_i64 (hok (.int .i64 a) (by simp [datasL, datas]))
  have h_b := inR_i64 (hok (.int .i64 b) (by simp [datasL, datas]))
  have h_c := inR_i64 (hok (.int .i64 c) (by simp [datasL, datas]))
  have h_d := inR_i64 (hok (.int .i64 d) (by simp [datasL, datas]))
  have h_e := inR_i64 (hok (.int .i64 e) (by simp [datasL, datas]))
  have h_f := inR_i64 (hok (.int .i64 f) (by simp [datasL, datas]))
  have h_g := inR_i64 (hok (.int .i64 g) (by simp [datasL, datas]))
  have h_h := inR_i64 (hok (.int .i64 h) (by simp [datasL, datas]))
  have h_i := inR_i64 (hok (.int .i64 i) (by simp [datasL, datas]))
  have h_j := inR_i64 (hok (.int .i64 j) (by simp [datasL, datas]))
  have h_k := inR_i64 (hok (.int .i64 k) (by simp [datasL, datas]))
  have h_l := inR_i64 (hok (.int .i64 l) (by simp [datasL, datas]))
  clear hok hw
  exact dotAns_ok (K := fun v M => some (Res.fin v M))
def s_track_Dot : List AV → List Blk → (AV → List Blk → Ans) → Ans := fun xs bs K => match xs, bs with
  | [.v (.agg [.int .i64 a, .int .i64 b, .int .i64 c, .int .i64 d, .int .i64 e, .int .i64 f]), .v (.agg [.int .i64 g, .int .i64 h, .int .i64 i, .int .i64 j, .int .i64 k, .int .i64 l])], [] => K (rSpanE (dotS ⟨⟨a, b⟩, ⟨c, d⟩, ⟨e, f⟩⟩ ⟨⟨g, h⟩, ⟨i, j⟩, ⟨k, l⟩⟩)) []
  | _, _ => none
def T_track_Dot : Nat → List AV → List Blk → (AV → List Blk → Ans) → Ans := upd T_track_At 18 s_track_Dot
theorem g_track_Dot : GOK Try.prog GT gbT T_track_Dot XT := by
  refine GOK.upd g_track_At (fun args w => Try.call18 args w) fun xs bs K r h => ?_
  unfold s_track_Dot at h
  split at h
  · exact ⟨_, _, c_track_Dot _ _ _ _ _ _ _ _ _ _ _ _, h⟩
  · cases h


set_option maxRecDepth 100000 in
/-- track.Apart -/
theorem w_track_Apart (nm : ByteArray) (ra dec : Int) (nm2 : ByteArray) (ra2 dec2 : Int) (K : AV → List Blk → Ans) : evFn Try.prog GT EQT (inl Try.prog GT EQT XT [35, 50] T_track_Dot 120 2) XT noL 120 19 [.v (.agg [.str nm, .int .i64 ra, .int .i64 dec]), .v (.agg [.str nm2, .int .i64 ra2, .int .i64 dec2])] [] (fun v M => K v (M.take ([] : List Blk).length)) = apartAns K ⟨nm, ra, dec⟩ ⟨nm2, ra2, dec2⟩ := by
  kernel_rfl
theorem c_track_Apart (nm : ByteArray) (ra dec : Int) (nm2 : ByteArray) (ra2 dec2 : Int) : CallsA Try.prog GT gbT 19 [.v (.agg [.str nm, .int .i64 ra, .int .i64 dec]), .v (.agg [.str nm2, .int .i64 ra2, .int .i64 dec2])] [] (rSpanE (apartS ⟨nm, ra, dec⟩ ⟨nm2, ra2, dec2⟩)) [] := by
  refine CallsA.ofOk fun hok => ?_
  have hw := w_track_Apart nm ra dec nm2 ra2 dec2 (fun v M => some (Res.fin v M))
  refine CallsA.ofEv (Γ := (inl Try.prog GT EQT XT [35, 50] T_track_Dot 120 2)) (X := XT) (Λ := noL) (EQ := EQT) (n := 120) (g_track_Dot.inl hEQT hmT (fun f hf => by simp only [List.mem_cons, List.not_mem_nil, or_false] at hf; rcases hf with rfl | rfl <;> first | exact (fun args w => Try.call35 args w) | exact (fun args w => Try.call50 args w)) 120 2) hEQT hmT (fun _ _ _ _ => noL_ok _) (hw.trans ?_)
  have h_ra := inR_i64 (hok (.int .i64 ra) (by simp [datasL, datas]))
  have h_dec := inR_i64 (hok (.int .i64 dec) (by simp [datasL, datas]))
  have h_ra2 := inR_i64 (hok (.int .i64 ra2) (by simp [datasL, datas]))
  have h_dec2 := inR_i64 (hok (.int .i64 dec2) (by simp [datasL, datas]))
  clear hok hw
  exact apartAns_ok (K := fun v M => some (Res.fin v M))
def s_track_Apart : List AV → List Blk → (AV → List Blk → Ans) → Ans := fun xs bs K => match xs, bs with
  | [.v (.agg [.str nm, .int .i64 ra, .int .i64 dec]), .v (.agg [.str nm2, .int .i64 ra2, .int .i64 dec2])], [] => K (rSpanE (apartS ⟨nm, ra, dec⟩ ⟨nm2, ra2, dec2⟩)) []
  | _, _ => none
def T_track_Apart : Nat → List AV → List Blk → (AV → List Blk → Ans) → Ans := upd T_track_Dot 19 s_track_Apart
theorem g_track_Apart : GOK Try.prog GT gbT T_track_Apart XT := by
  refine GOK.upd g_track_Dot (fun args w => Try.call19 args w) fun xs bs K r h => ?_
  unfold s_track_Apart at h
  split at h
  · exact ⟨_, _, c_track_Apart _ _ _ _ _ _, h⟩
  · cases h


set_option maxRecDepth 100000 in
/-- fringelaw06.long -/
theorem w_fringelaw06_long (nm : ByteArray) (ra dec : Int) (K : AV → List Blk → Ans) : evFn Try.prog GT EQT T_track_Apart XT noL 60 8 [.v (.agg [.str nm, .int .i64 ra, .int .i64 dec])] [] (fun v M => K v (M.take ([] : List Blk).length)) = K (rB (decide (200 < (nm.size : Int)))) [] := by
  kernel_rfl
theorem c_fringelaw06_long (nm : ByteArray) (ra dec : Int) : CallsA Try.prog GT gbT 8 [.v (.agg [.str nm, .int .i64 ra, .int .i64 dec])] [] (rB (decide (200 < (nm.size : Int)))) [] := by
  refine CallsA.ofOk fun hok => ?_
  have hw := w_fringelaw06_long nm ra dec (fun v M => some (Res.fin v M))
  refine CallsA.ofEv (Γ := T_track_Apart) (X := XT) (Λ := noL) (EQ := EQT) (n := 60) g_track_Apart hEQT hmT (fun _ _ _ _ => noL_ok _) (hw.trans ?_)
  rfl
def s_fringelaw06_long : List AV → List Blk → (AV → List Blk → Ans) → Ans := fun xs bs K => match xs, bs with
  | [.v (.agg [.str nm, .int .i64 _, .int .i64 _])], [] => K (rB (decide (200 < (nm.size : Int)))) []
  | _, _ => none
def T_fringelaw06_long : Nat → List AV → List Blk → (AV → List Blk → Ans) → Ans := upd T_track_Apart 8 s_fringelaw06_long
theorem g_fringelaw06_long : GOK Try.prog GT gbT T_fringelaw06_long XT := by
  refine GOK.upd g_track_Apart (fun args w => Try.call8 args w) fun xs bs K r h => ?_
  unfold s_fringelaw06_long at h
  split at h
  · exact ⟨_, _, c_fringelaw06_long _ _ _, h⟩
  · cases h


end Go.Ev
