/-
  Contracts of functions: what each returns. No condition beyond those of the statements.
-/
import Derived.Test.YtglifoijcdfjaaaDoorPkCB
namespace Go.Ev
open Go Go.Proofs

set_option maxRecDepth 100000 in
/-- track.Along -/
theorem w_track_Along (a b c d e f g h i j k l : Int) (K : AV → List Blk → Ans) : evFn Tryd.prog GT EQT (inl Tryd.prog GT EQT XT [26, 27, 44] T_vec_Dot 120 2) XT noL 120 37 [.v (.agg [.int .i64 a, .int .i64 b, .int .i64 c, .int .i64 d, .int .i64 e, .int .i64 f]), .v (.agg [.int .i64 g, .int .i64 h, .int .i64 i, .int .i64 j, .int .i64 k, .int .i64 l])] [] (fun v M => K v (M.take ([] : List Blk).length)) = alongAns K ⟨⟨a, b⟩, ⟨c, d⟩, ⟨e, f⟩⟩ ⟨⟨g, h⟩, ⟨i, j⟩, ⟨k, l⟩⟩ := by
  kernel_rfl
set_option maxRecDepth 100000 in
theorem c_track_Along (a b c d e f g h i j k l : Int) : CallsA Tryd.prog GT gbT 37 [.v (.agg [.int .i64 a, .int .i64 b, .int .i64 c, .int .i64 d, .int .i64 e, .int .i64 f]), .v (.agg [.int .i64 g, .int .i64 h, .int .i64 i, .int .i64 j, .int .i64 k, .int .i64 l])] [] (rSpanE (alongS ⟨⟨a, b⟩, ⟨c, d⟩, ⟨e, f⟩⟩ ⟨⟨g, h⟩, ⟨i, j⟩, ⟨k, l⟩⟩)) [] := by
  refine CallsA.ofOk fun hok => ?_
  have hw := w_track_Along a b c d e f g h i j k l (fun v M => some (Res.fin v M))
  refine CallsA.ofEv (Γ := (inl Tryd.prog GT EQT XT [26, 27, 44] T_vec_Dot 120 2)) (X := XT) (Λ := noL) (EQ := EQT) (n := 120) (g_vec_Dot.inl hEQT hmT (fun f hf => by simp only [List.mem_cons, List.not_mem_nil, or_false] at hf; rcases hf with rfl | rfl | rfl <;> first | exact (fun args w => Tryd.call26 args w) | exact (fun args w => Tryd.call27 args w) | exact (fun args w => Tryd.call44 args w)) 120 2) hEQT hmT (fun _ _ _ _ => noL_ok _) (hw.trans ?_)
  have h_a := inR_i64 (hok (.int .i64 a) (by simp [datasL, datas]))
  have h_b := inR_i64 (hok (.int .i64 b) (by simp [datasL, datas]))
  have h_c := inR_i64 (hok (.int .i64 c) (by simp [datasL, datas]))
  have h_d := inR_i64 (hok (.int .i64 d) (by simp [datasL, datas]))
  have h_e := inR_i64 (hok (.int .i64 e) (by simp [datasL, datas]))
  have h_f := inR_i64 (hok (.int .i64 f) (by simp [datasL, datas]))
  have h_g := inR_i64 (hok (.int .i64 g) (by simp [datasL, datas]))
  have h_h := inR_i64 (hok (.int .i64 h) (by simp [datasL, datas]))
  have h_i := inR_i64 (hok (.int .i64 i) (by simp [datasL, datas]))
  have h_j := inR_i64 (hok (.int .i64 j) (by simp [datasL, datas]))
  have h_k := inR_i64 (hok (.int .i64 k) (by simp [datasL, datas]))
  have h_l := inR_i64 (hok (.int .i64 l) (by simp [datasL, datas]))
  clear hok hw
  exact alongAns_ok (K := fun v M => some (Res.fin v M))
def s_track_Along : List AV → List Blk → (AV → List Blk → Ans) → Ans := fun xs bs K => match xs, bs with
  | [.v (.agg [.int .i64 a, .int .i64 b, .int .i64 c, .int .i64 d, .int .i64 e, .int .i64 f]), .v (.agg [.int .i64 g, .int .i64 h, .int .i64 i, .int .i64 j, .int .i64 k, .int .i64 l])], [] => K (rSpanE (alongS ⟨⟨a, b⟩, ⟨c, d⟩, ⟨e, f⟩⟩ ⟨⟨g, h⟩, ⟨i, j⟩, ⟨k, l⟩⟩)) []
  | _, _ => none
def T_track_Along : Nat → List AV → List Blk → (AV → List Blk → Ans) → Ans := upd T_vec_Dot 37 s_track_Along
theorem g_track_Along : GOK Tryd.prog GT gbT T_track_Along XT := by
  refine GOK.upd g_vec_Dot (fun args w => Tryd.call37 args w) fun xs bs K r h => ?_
  unfold s_track_Along at h
  split at h
  · exact ⟨_, _, c_track_Along _ _ _ _ _ _ _ _ _ _ _ _, h⟩
  · cases h


abbrev T_named (s : ByteArray) (i : Int) : TS := maskT [(0, .v (.c (.d (.str s)))), (24, aint .i64 (s.size : Int)), (25, aint .i64 i), (2, .any)] 50
abbrev B_named (s : ByteArray) (i : Int) : TS := maskT [(0, .v (.c (.d (.str s)))), (24, aint .i64 (s.size : Int)), (25, aint .i64 i), (2, abool false)] 50
def f_named (T : TS) (M : List Blk) (N : Nat) : LT := match tget T 0, tget T 24, tget T 25 with
  | .v (.c (.d (.str s))), .v (.c (.d (.int .i64 n))), .v (.c (.d (.int .i64 i))) =>
    bif i == 0 then .br (n == (s.size : Int) && decide ((s.size : Int) ≤ 1000)) (.br (restOk s 0 s.size) (.st (.exit 0) (maskT [] 50) M N) (.st .ret (maskT [(2, abool false)] 50) M N)) .no else .no
  | _, _, _ => .no
def L_named := LamG 4 50 f_named
set_option maxRecDepth 100000 in
theorem b_named (s : ByteArray) (i : Int) (M : List Blk) (N : Nat) : evCode Tryd.prog GT EQT T_track_Along XT noL 40 (loopB Tryd.prog 69 0) (T_named s i) M N (fun x T M N => some (.st x (forget [0, 24, 25, 2] T) M N)) =
    bif decide (i < (s.size : Int)) then (bif decide (0 ≤ i) && decide (i < (s.size : Int)) then nameStep (byteAt s i) (some (.st .ret (B_named s i) M N)) (some (.st .normal (T_named s (w64 (i + 1))) M N)) else none)
    else some (.st (.exit 0) (T_named s i) M N) := by kernel_rfl
set_option maxRecDepth 100000 in
theorem LL_named : ∀ fn c, Tryd.prog.funcs[69]? = some fn → fn.body = some c → LOK Tryd.prog GT gbT L_named (loopsIn c) := by
  refine LOK.ofF fun b hb => ?_
  have e : loopsF Tryd.prog 69 = [loopB Tryd.prog 69 0] := by kernel_rfl
  have k0 : loopKey (loopB Tryd.prog 69 0) = 4 := by kernel_rfl
  rw [e, List.mem_singleton] at hb
  subst hb
  unfold L_named
  rw [← k0]
  refine LOKb.lamG fun T M N x T' M' N' hl hr => ?_
  unfold f_named at hr
  split at hr
  · rename_i s n i h0 h1 h2
    simp only [cond_eq_ite, beq_iff_eq] at hr
    split at hr
    · rename_i hi
      subst hi
      obtain ⟨hc, hr2⟩ := Or.resolve_right hr (fun h => h.2.elim)
      simp only [Bool.and_eq_true, beq_iff_eq, decide_eq_true_eq] at hc
      obtain ⟨rfl, hs⟩ := hc
      have hless : Less (T_named s 0) T := less_of' hl (by simp only [List.mem_cons, List.not_mem_nil, or_false]; intro p hp; rcases hp with rfl | rfl | rfl | rfl; exact .inl h0; exact .inl h1; exact .inl h2; exact .inr rfl)
      have hh := name_rounds (c := loopB Tryd.prog 69 0) (M := M) (NN := N) g_track_Along hEQT hmT s hs (fun i => T_named s i) (maskT [] 50) (maskT [(2, abool false)] 50) (fun i => less_of (by kernel_rfl) (by simp)) (fun i => B_named s i) (fun i => less_of (by kernel_rfl) (by simp; kernel_rfl)) (fun i => (b_named s i M N)) s.size 0 (by omega) (by omega)
      rcases hr2 with ⟨hd, rfl, rfl, rfl, rfl⟩ | ⟨hd, rfl, rfl, rfl, rfl⟩
      · obtain ⟨k, hk⟩ := hh.1 hd
        exact ⟨by simp, k, hk.less hless⟩
      · obtain ⟨k, hk⟩ := hh.2 hd
        exact ⟨by simp, k, hk.less hless⟩
    · exact hr.elim
  · exact hr.elim

set_option maxRecDepth 100000 in
/-- track.named -/
theorem w_track_named (s : ByteArray) (K : AV → List Blk → Ans) : evFn Tryd.prog GT EQT T_track_Along XT L_named 60 69 [.v (.c (.d (.str s)))] [] (fun v M => K v (M.take ([] : List Blk).length)) = nameAns K s := by
  kernel_rfl
set_option maxRecDepth 100000 in
theorem c_track_named (s : ByteArray) : CallsA Tryd.prog GT gbT 69 [.v (.c (.d (.str s)))] [] (rB (namedB s)) [] := by
  refine CallsA.ofOk fun hok => ?_
  have hw := w_track_named s (fun v M => some (Res.fin v M))
  refine CallsA.ofEv (Γ := T_track_Along) (X := XT) (Λ := L_named) (EQ := EQT) (n := 60) g_track_Along hEQT hmT (LL_named) (hw.trans ?_)
  clear hok hw
  exact nameAns_ok (K := fun v M => some (Res.fin v M))
def s_track_named : List AV → List Blk → (AV → List Blk → Ans) → Ans := fun xs bs K => match xs, bs with
  | [.v (.c (.d (.str s)))], [] => K (rB (namedB s)) []
  | _, _ => none
def T_track_named : Nat → List AV → List Blk → (AV → List Blk → Ans) → Ans := upd T_track_Along 69 s_track_named
theorem g_track_named : GOK Tryd.prog GT gbT T_track_named XT := by
  refine GOK.upd g_track_Along (fun args w => Tryd.call69 args w) fun xs bs K r h => ?_
  unfold s_track_named at h
  split at h
  · exact ⟨_, _, c_track_named _, h⟩
  · cases h


abbrev T_Named (s : ByteArray) (i : Int) : TS := maskT [(0, .v (.c (.d (.str s)))), (3, aint .i64 i), (2, .any)] 56
abbrev B_Named (s : ByteArray) (i : Int) : TS := maskT [(0, .v (.c (.d (.str s)))), (3, aint .i64 i), (2, abool false)] 56
def f_Named (T : TS) (M : List Blk) (N : Nat) : LT := match tget T 0, tget T 3 with
  | .v (.c (.d (.str s))), .v (.c (.d (.int .i64 i))) =>
    bif i == 0 then .br (decide ((s.size : Int) ≤ 1000)) (.br (restOk s 0 s.size) (.st (.exit 0) (maskT [] 56) M N) (.st .ret (maskT [(2, abool false)] 56) M N)) .no else .no
  | _, _ => .no
def L_Named := LamG 4 56 f_Named
set_option maxRecDepth 100000 in
theorem b_Named (s : ByteArray) (i : Int) (M : List Blk) (N : Nat) : evCode Tryd.prog GT EQT T_track_named XT noL 40 (loopB Tryd.prog 34 0) (T_Named s i) M N (fun x T M N => some (.st x (forget [0, 3, 2] T) M N)) =
    bif decide (i < (s.size : Int)) then (bif decide (0 ≤ i) && decide (i < (s.size : Int)) then nameStepR (decide (0 ≤ i) && decide (i < (s.size : Int))) (byteAt s i) (some (.st .ret (B_Named s i) M N)) (some (.st .normal (T_Named s (w64 (i + 1))) M N)) else none)
    else some (.st (.exit 0) (T_Named s i) M N) := by kernel_rfl
set_option maxRecDepth 100000 in
theorem LL_Named : ∀ fn c, Tryd.prog.funcs[34]? = some fn → fn.body = some c → LOK Tryd.prog GT gbT L_Named (loopsIn c) := by
  refine LOK.ofF fun b hb => ?_
  have e : loopsF Tryd.prog 34 = [loopB Tryd.prog 34 0] := by kernel_rfl
  have k0 : loopKey (loopB Tryd.prog 34 0) = 4 := by kernel_rfl
  rw [e, List.mem_singleton] at hb
  subst hb
  unfold L_Named
  rw [← k0]
  refine LOKb.lamG fun T M N x T' M' N' hl hr => ?_
  unfold f_Named at hr
  split at hr
  · rename_i s i h0 h2
    simp only [cond_eq_ite, beq_iff_eq] at hr
    split at hr
    · rename_i hi
      subst hi
      obtain ⟨hs, hr2⟩ := Or.resolve_right hr (fun h => h.2.elim)
      simp only [decide_eq_true_eq] at hs
      have hless : Less (T_Named s 0) T := less_of' hl (by simp only [List.mem_cons, List.not_mem_nil, or_false]; intro p hp; rcases hp with rfl | rfl | rfl; exact .inl h0; exact .inl h2; exact .inr rfl)
      have hh := name_rounds (c := loopB Tryd.prog 34 0) (M := M) (NN := N) g_track_named hEQT hmT s hs (fun i => T_Named s i) (maskT [] 56) (maskT [(2, abool false)] 56) (fun i => less_of (by kernel_rfl) (by simp)) (fun i => B_Named s i) (fun i => less_of (by kernel_rfl) (by simp; kernel_rfl)) (fun i => (b_Named s i M N).trans (by rw [nameStepR_eq])) s.size 0 (by omega) (by omega)
      rcases hr2 with ⟨hd, rfl, rfl, rfl, rfl⟩ | ⟨hd, rfl, rfl, rfl, rfl⟩
      · obtain ⟨k, hk⟩ := hh.1 hd
        exact ⟨by simp, k, hk.less hless⟩
      · obtain ⟨k, hk⟩ := hh.2 hd
        exact ⟨by simp, k, hk.less hless⟩
    · exact hr.elim
  · exact hr.elim

set_option maxRecDepth 100000 in
/-- fringeref04.Named -/
theorem w_fringeref04_Named (s : ByteArray) (K : AV → List Blk → Ans) : evFn Tryd.prog GT EQT T_track_named XT L_Named 60 34 [.v (.c (.d (.str s)))] [] (fun v M => K v (M.take ([] : List Blk).length)) = nameAns' K s := by
  kernel_rfl
set_option maxRecDepth 100000 in
theorem c_fringeref04_Named (s : ByteArray) : CallsA Tryd.prog GT gbT 34 [.v (.c (.d (.str s)))] [] (rB (namedB s)) [] := by
  refine CallsA.ofOk fun hok => ?_
  have hw := w_fringeref04_Named s (fun v M => some (Res.fin v M))
  refine CallsA.ofEv (Γ := T_track_named) (X := XT) (Λ := L_Named) (EQ := EQT) (n := 60) g_track_named hEQT hmT (LL_Named) (hw.trans ?_)
  clear hok hw
  exact nameAns'_ok (K := fun v M => some (Res.fin v M))
def s_fringeref04_Named : List AV → List Blk → (AV → List Blk → Ans) → Ans := fun xs bs K => match xs, bs with
  | [.v (.c (.d (.str s)))], [] => K (rB (namedB s)) []
  | _, _ => none
def T_fringeref04_Named : Nat → List AV → List Blk → (AV → List Blk → Ans) → Ans := upd T_track_named 34 s_fringeref04_Named
theorem g_fringeref04_Named : GOK Tryd.prog GT gbT T_fringeref04_Named XT := by
  refine GOK.upd g_track_named (fun args w => Tryd.call34 args w) fun xs bs K r h => ?_
  unfold s_fringeref04_Named at h
  split at h
  · exact ⟨_, _, c_fringeref04_Named _, h⟩
  · cases h


set_option maxRecDepth 100000 in
/-- track.Check -/
theorem w_track_Check (nm : ByteArray) (ra dec : Int) (K : AV → List Blk → Ans) : evFn Tryd.prog GT EQT T_fringeref04_Named XT noL 60 48 [.v (.agg [.str nm, .int .i64 ra, .int .i64 dec])] [] (fun v M => K v (M.take ([] : List Blk).length)) = K (rI (checkSrc ⟨nm, ra, dec⟩)) [] := by
  simp only [checkSrc, pullK K]
  kernel_rfl
set_option maxRecDepth 100000 in
theorem c_track_Check (nm : ByteArray) (ra dec : Int) : CallsA Tryd.prog GT gbT 48 [.v (.agg [.str nm, .int .i64 ra, .int .i64 dec])] [] (rI (checkSrc ⟨nm, ra, dec⟩)) [] := by
  refine CallsA.ofOk fun hok => ?_
  have hw := w_track_Check nm ra dec (fun v M => some (Res.fin v M))
  refine CallsA.ofEv (Γ := T_fringeref04_Named) (X := XT) (Λ := noL) (EQ := EQT) (n := 60) g_fringeref04_Named hEQT hmT (fun _ _ _ _ => noL_ok _) (hw.trans ?_)
  rfl
def s_track_Check : List AV → List Blk → (AV → List Blk → Ans) → Ans := fun xs bs K => match xs, bs with
  | [.v (.agg [.str nm, .int .i64 ra, .int .i64 dec])], [] => K (rI (checkSrc ⟨nm, ra, dec⟩)) []
  | _, _ => none
def T_track_Check : Nat → List AV → List Blk → (AV → List Blk → Ans) → Ans := upd T_fringeref04_Named 48 s_track_Check
theorem g_track_Check : GOK Tryd.prog GT gbT T_track_Check XT := by
  refine GOK.upd g_fringeref04_Named (fun args w => Tryd.call48 args w) fun xs bs K r h => ?_
  unfold s_track_Check at h
  split at h
  · exact ⟨_, _, c_track_Check _ _ _, h⟩
  · cases h


set_option maxRecDepth 100000 in
/-- fringeref06.Check -/
theorem w_fringeref06_Check (nm : ByteArray) (ra dec : Int) (K : AV → List Blk → Ans) : evFn Tryd.prog GT EQT T_track_Check XT noL 60 19 [.v (.agg [.str nm, .int .i64 ra, .int .i64 dec])] [] (fun v M => K v (M.take ([] : List Blk).length)) = K (rI (checkSrc ⟨nm, ra, dec⟩)) [] := by
  simp only [checkSrc, pullK K]
  kernel_rfl
set_option maxRecDepth 100000 in
theorem c_fringeref06_Check (nm : ByteArray) (ra dec : Int) : CallsA Tryd.prog GT gbT 19 [.v (.agg [.str nm, .int .i64 ra, .int .i64 dec])] [] (rI (checkSrc ⟨nm, ra, dec⟩)) [] := by
  refine CallsA.ofOk fun hok => ?_
  have hw := w_fringeref06_Check nm ra dec (fun v M => some (Res.fin v M))
  refine CallsA.ofEv (Γ := T_track_Check) (X := XT) (Λ := noL) (EQ := EQT) (n := 60) g_track_Check hEQT hmT (fun _ _ _ _ => noL_ok _) (hw.trans ?_)
  rfl
def s_fringeref06_Check : List AV → List Blk → (AV → List Blk → Ans) → Ans := fun xs bs K => match xs, bs with
  | [.v (.agg [.str nm, .int .i64 ra, .int .i64 dec])], [] => K (rI (checkSrc ⟨nm, ra, dec⟩)) []
  | _, _ => none
def T_fringeref06_Check : Nat → List AV → List Blk → (AV → List Blk → Ans) → Ans := upd T_track_Check 19 s_fringeref06_Check
theorem g_fringeref06_Check : GOK Tryd.prog GT gbT T_fringeref06_Check XT := by
  refine GOK.upd g_track_Check (fun args w => Tryd.call19 args w) fun xs bs K r h => ?_
  unfold s_fringeref06_Check at h
  split at h
  · exact ⟨_, _, c_fringeref06_Check _ _ _, h⟩
  · cases h


set_option maxRecDepth 100000 in
/-- track.circle -/
theorem w_track_circle (h : Int) (K : AV → List Blk → Ans) : evFn Tryd.prog GT EQT T_fringeref06_Check XT noL 60 70 [.v (.c (.d (.int .i64 h)))] [] (fun v M => K v (M.take ([] : List Blk).length)) = K (rSpan2 (sinT h, cosT h)) [] := by
  kernel_rfl
set_option maxRecDepth 100000 in
theorem c_track_circle (h : Int) : CallsA Tryd.prog GT gbT 70 [.v (.c (.d (.int .i64 h)))] [] (rSpan2 (sinT h, cosT h)) [] := by
  refine CallsA.ofOk fun hok => ?_
  have hw := w_track_circle h (fun v M => some (Res.fin v M))
  refine CallsA.ofEv (Γ := T_fringeref06_Check) (X := XT) (Λ := noL) (EQ := EQT) (n := 60) g_fringeref06_Check hEQT hmT (fun _ _ _ _ => noL_ok _) (hw.trans ?_)
  rfl
def s_track_circle : List AV → List Blk → (AV → List Blk → Ans) → Ans := fun xs bs K => match xs, bs with
  | [.v (.c (.d (.int .i64 h)))], [] => K (rSpan2 (sinT h, cosT h)) []
  | _, _ => none
def T_track_circle : Nat → List AV → List Blk → (AV → List Blk → Ans) → Ans := upd T_fringeref06_Check 70 s_track_circle
theorem g_track_circle : GOK Tryd.prog GT gbT T_track_circle XT := by
  refine GOK.upd g_fringeref06_Check (fun args w => Tryd.call70 args w) fun xs bs K r h => ?_
  unfold s_track_circle at h
  split at h
  · exact ⟨_, _, c_track_circle _, h⟩
  · cases h


set_option maxRecDepth 100000 in
/-- track.direction -/
theorem w_track_direction (nm : ByteArray) (ra dec t : Int) (K : AV → List Blk → Ans) : evFn Tryd.prog GT EQT T_track_circle XT noL 60 50 [.v (.agg [.str nm, .int .i64 ra, .int .i64 dec]), .v (.c (.d (.int .i64 t)))] [] (fun v M => K v (M.take ([] : List Blk).length)) = dirAns K ra dec t := by
  kernel_rfl
set_option maxRecDepth 100000 in
theorem c_track_direction (nm : ByteArray) (ra dec t : Int) (hd : (dirOn ra dec t) = true) : CallsA Tryd.prog GT gbT 50 [.v (.agg [.str nm, .int .i64 ra, .int .i64 dec]), .v (.c (.d (.int .i64 t)))] [] (rDirE (dirS ra dec t, 0)) [] := by
  refine CallsA.ofOk fun hok => ?_
  have hw := w_track_direction nm ra dec t (fun v M => some (Res.fin v M))
  refine CallsA.ofEv (Γ := T_track_circle) (X := XT) (Λ := noL) (EQ := EQT) (n := 60) g_track_circle hEQT hmT (fun _ _ _ _ => noL_ok _) (hw.trans ?_)
  have h_ra := inR_i64 (hok (.int .i64 ra) (by simp [datasL, datas]))
  have h_dec := inR_i64 (hok (.int .i64 dec) (by simp [datasL, datas]))
  have h_t := inR_i64 (hok (.int .i64 t) (by simp [datasL, datas]))
  clear hok hw
  exact dirAns_ok (K := fun v M => some (Res.fin v M)) hd
def s_track_direction : List AV → List Blk → (AV → List Blk → Ans) → Ans := fun xs bs K => match xs, bs with
  | [.v (.agg [.str _, .int .i64 ra, .int .i64 dec]), .v (.c (.d (.int .i64 t)))], [] => bif dirOn ra dec t then K (rDirE (dirS ra dec t, 0)) [] else none
  | _, _ => none
def T_track_direction : Nat → List AV → List Blk → (AV → List Blk → Ans) → Ans := upd T_track_circle 50 s_track_direction
theorem g_track_direction : GOK Tryd.prog GT gbT T_track_direction XT := by
  refine GOK.upd g_track_circle (fun args w => Tryd.call50 args w) fun xs bs K r h => ?_
  unfold s_track_direction at h
  split at h
  · simp only [cond_eq_ite] at h
    split at h
    · exact ⟨_, _, c_track_direction _ _ _ _ ‹_›, h⟩
    · cases h
  · cases h


set_option maxRecDepth 100000 in
/-- track.At -/
theorem w_track_At (nm : ByteArray) (ra dec t : Int) (K : AV → List Blk → Ans) : evFn Tryd.prog GT EQT (inl Tryd.prog GT EQT XT [49] T_track_direction 60 1) XT noL 60 30 [.v (.agg [.str nm, .int .i64 ra, .int .i64 dec]), .v (.c (.d (.int .i64 t)))] [] (fun v M => K v (M.take ([] : List Blk).length)) = atAns K ⟨nm, ra, dec⟩ t := by
  kernel_rfl
set_option maxRecDepth 100000 in
theorem c_track_At (nm : ByteArray) (ra dec t : Int) : CallsA Tryd.prog GT gbT 30 [.v (.agg [.str nm, .int .i64 ra, .int .i64 dec]), .v (.c (.d (.int .i64 t)))] [] (rDirE (atS ⟨nm, ra, dec⟩ t)) [] := by
  refine CallsA.ofOk fun hok => ?_
  have hw := w_track_At nm ra dec t (fun v M => some (Res.fin v M))
  refine CallsA.ofEv (Γ := (inl Tryd.prog GT EQT XT [49] T_track_direction 60 1)) (X := XT) (Λ := noL) (EQ := EQT) (n := 60) (g_track_direction.inl hEQT hmT (fun f hf => by simp only [List.mem_cons, List.not_mem_nil, or_false] at hf; subst hf; exact (fun args w => Tryd.call49 args w)) 60 1) hEQT hmT (fun _ _ _ _ => noL_ok _) (hw.trans ?_)
  have h_ra := inR_i64 (hok (.int .i64 ra) (by simp [datasL, datas]))
  have h_dec := inR_i64 (hok (.int .i64 dec) (by simp [datasL, datas]))
  have h_t := inR_i64 (hok (.int .i64 t) (by simp [datasL, datas]))
  clear hok hw
  exact atAns_ok (K := fun v M => some (Res.fin v M))
def s_track_At : List AV → List Blk → (AV → List Blk → Ans) → Ans := fun xs bs K => match xs, bs with
  | [.v (.agg [.str nm, .int .i64 ra, .int .i64 dec]), .v (.c (.d (.int .i64 t)))], [] => K (rDirE (atS ⟨nm, ra, dec⟩ t)) []
  | _, _ => none
def T_track_At : Nat → List AV → List Blk → (AV → List Blk → Ans) → Ans := upd T_track_direction 30 s_track_At
theorem g_track_At : GOK Tryd.prog GT gbT T_track_At XT := by
  refine GOK.upd g_track_direction (fun args w => Tryd.call30 args w) fun xs bs K r h => ?_
  unfold s_track_At at h
  split at h
  · exact ⟨_, _, c_track_At _ _ _ _, h⟩
  · cases h


set_option maxRecDepth 100000 in
/-- track.Dot -/
theorem w_track_Dot (a b c d e f g h i j k l : Int) (K : AV → List Blk → Ans) : evFn Tryd.prog GT EQT (inl Tryd.prog GT EQT XT [26, 27, 44] T_track_At 120 2) XT noL 120 11 [.v (.agg [.int .i64 a, .int .i64 b, .int .i64 c, .int .i64 d, .int .i64 e, .int .i64 f]), .v (.agg [.int .i64 g, .int .i64 h, .int .i64 i, .int .i64 j, .int .i64 k, .int .i64 l])] [] (fun v M => K v (M.take ([] : List Blk).length)) = dotAns K ⟨⟨a, b⟩, ⟨c, d⟩, ⟨e, f⟩⟩ ⟨⟨g, h⟩, ⟨i, j⟩, ⟨k, l⟩⟩ := by
  kernel_rfl
set_option maxRecDepth 100000 in
theorem c_track_Dot (a b c d e f g h i j k l : Int) : CallsA Tryd.prog GT gbT 11 [.v (.agg [.int .i64 a, .int .i64 b, .int .i64 c, .int .i64 d, .int .i64 e, .int .i64 f]), .v (.agg [.int .i64 g, .int .i64 h, .int .i64 i, .int .i64 j, .int .i64 k, .int .i64 l])] [] (rSpanE (dotS ⟨⟨a, b⟩, ⟨c, d⟩, ⟨e, f⟩⟩ ⟨⟨g, h⟩, ⟨i, j⟩, ⟨k, l⟩⟩)) [] := by
  refine CallsA.ofOk fun hok => ?_
  have hw := w_track_Dot a b c d e f g h i j k l (fun v M => some (Res.fin v M))
  refine CallsA.ofEv (Γ := (inl Tryd.prog GT EQT XT [26, 27, 44] T_track_At 120 2)) (X := XT) (Λ := noL) (EQ := EQT) (n := 120) (g_track_At.inl hEQT hmT (fun f hf => by simp only [List.mem_cons, List.not_mem_nil, or_false] at hf; rcases hf with rfl | rfl | rfl <;> first | exact (fun args w => Tryd.call26 args w) | exact (fun args w => Tryd.call27 args w) | exact (fun args w => Tryd.call44 args w)) 120 2) hEQT hmT (fun _ _ _ _ => noL_ok _) (hw.trans ?_)
  have h_a := inR_i64 (hok (.int .i64 a) (by simp [datasL, datas]))
  have h_b := inR_i64 (hok (.int .i64 b) (by simp [datasL, datas]))
  have h_c := inR_i64 (hok (.int .i64 c) (by simp [datasL, datas]))
  have h_d := inR_i64 (hok (.int .i64 d) (by simp [datasL, datas]))
  have h_e := inR_i64 (hok (.int .i64 e) (by simp [datasL, datas]))
  have h_f := inR_i64 (hok (.int .i64 f) (by simp [datasL, datas]))
  have h_g := inR_i64 (hok (.int .i64 g) (by simp [datasL, datas]))
  have h_h := inR_i64 (hok (.int .i64 h) (by simp [datasL, datas]))
  have h_i := inR_i64 (hok (.int .i64 i) (by simp [datasL, datas]))
  have h_j := inR_i64 (hok (.int .i64 j) (by simp [datasL, datas]))
  have h_k := inR_i64 (hok (.int .i64 k) (by simp [datasL, datas]))
  have h_l := inR_i64 (hok (.int .i64 l) (by simp [datasL, datas]))
  clear hok hw
  exact dotAns_ok (K := fun v M => some (Res.fin v M))
def s_track_Dot : List AV → List Blk → (AV → List Blk → Ans) → Ans := fun xs bs K => match xs, bs with
  | [.v (.agg [.int .i64 a, .int .i64 b, .int .i64 c, .int .i64 d, .int .i64 e, .int .i64 f]), .v (.agg [.int .i64 g, .int .i64 h, .int .i64 i, .int .i64 j, .int .i64 k, .int .i64 l])], [] => K (rSpanE (dotS ⟨⟨a, b⟩, ⟨c, d⟩, ⟨e, f⟩⟩ ⟨⟨g, h⟩, ⟨i, j⟩, ⟨k, l⟩⟩)) []
  | _, _ => none
def T_track_Dot : Nat → List AV → List Blk → (AV → List Blk → Ans) → Ans := upd T_track_At 11 s_track_Dot
theorem g_track_Dot : GOK Tryd.prog GT gbT T_track_Dot XT := by
  refine GOK.upd g_track_At (fun args w => Tryd.call11 args w) fun xs bs K r h => ?_
  unfold s_track_Dot at h
  split at h
  · exact ⟨_, _, c_track_Dot _ _ _ _ _ _ _ _ _ _ _ _, h⟩
  · cases h


set_option maxRecDepth 100000 in
/-- proj.circle -/
theorem w_proj_circle (h : Int) (K : AV → List Blk → Ans) : evFn Tryd.prog GT EQT T_track_Dot XT noL 60 31 [.v (.c (.d (.int .i64 h)))] [] (fun v M => K v (M.take ([] : List Blk).length)) = K (rSpan2 (sinT h, cosT h)) [] := by
  kernel_rfl
set_option maxRecDepth 100000 in
theorem c_proj_circle (h : Int) : CallsA Tryd.prog GT gbT 31 [.v (.c (.d (.int .i64 h)))] [] (rSpan2 (sinT h, cosT h)) [] := by
  refine CallsA.ofOk fun hok => ?_
  have hw := w_proj_circle h (fun v M => some (Res.fin v M))
  refine CallsA.ofEv (Γ := T_track_Dot) (X := XT) (Λ := noL) (EQ := EQT) (n := 60) g_track_Dot hEQT hmT (fun _ _ _ _ => noL_ok _) (hw.trans ?_)
  rfl
def s_proj_circle : List AV → List Blk → (AV → List Blk → Ans) → Ans := fun xs bs K => match xs, bs with
  | [.v (.c (.d (.int .i64 h)))], [] => K (rSpan2 (sinT h, cosT h)) []
  | _, _ => none
def T_proj_circle : Nat → List AV → List Blk → (AV → List Blk → Ans) → Ans := upd T_track_Dot 31 s_proj_circle
theorem g_proj_circle : GOK Tryd.prog GT gbT T_proj_circle XT := by
  refine GOK.upd g_track_Dot (fun args w => Tryd.call31 args w) fun xs bs K r h => ?_
  unfold s_proj_circle at h
  split at h
  · exact ⟨_, _, c_proj_circle _, h⟩
  · cases h


set_option maxRecDepth 100000 in
/-- proj.opposite -/
theorem w_proj_opposite (a1 a2 : Int) (K : AV → List Blk → Ans) : evFn Tryd.prog GT EQT T_proj_circle XT noL 60 33 [.v (.agg [.int .i64 a1, .int .i64 a2])] [] (fun v M => K v (M.take ([] : List Blk).length)) = K (rSpan (negRaw ⟨a1, a2⟩)) [] := by
  kernel_rfl
set_option maxRecDepth 100000 in
theorem c_proj_opposite (a1 a2 : Int) : CallsA Tryd.prog GT gbT 33 [.v (.agg [.int .i64 a1, .int .i64 a2])] [] (rSpan (negRaw ⟨a1, a2⟩)) [] := by
  refine CallsA.ofOk fun hok => ?_
  have hw := w_proj_opposite a1 a2 (fun v M => some (Res.fin v M))
  refine CallsA.ofEv (Γ := T_proj_circle) (X := XT) (Λ := noL) (EQ := EQT) (n := 60) g_proj_circle hEQT hmT (fun _ _ _ _ => noL_ok _) (hw.trans ?_)
  rfl
def s_proj_opposite : List AV → List Blk → (AV → List Blk → Ans) → Ans := fun xs bs K => match xs, bs with
  | [.v (.agg [.int .i64 a1, .int .i64 a2])], [] => K (rSpan (negRaw ⟨a1, a2⟩)) []
  | _, _ => none
def T_proj_opposite : Nat → List AV → List Blk → (AV → List Blk → Ans) → Ans := upd T_proj_circle 33 s_proj_opposite
theorem g_proj_opposite : GOK Tryd.prog GT gbT T_proj_opposite XT := by
  refine GOK.upd g_proj_circle (fun args w => Tryd.call33 args w) fun xs bs K r h => ?_
  unfold s_proj_opposite at h
  split at h
  · exact ⟨_, _, c_proj_opposite _ _, h⟩
  · cases h


set_option maxRecDepth 100000 in
/-- proj.Axes -/
theorem w_proj_Axes (s1 : ByteArray) (s2 : Int) (s3 : Int) (t : Int) (K : AV → List Blk → Ans) : evFn Tryd.prog GT EQT T_proj_opposite XT noL 120 17 [.v (.agg [.str s1, .int .i64 s2, .int .i64 s3]), .v (.c (.d (.int .i64 t)))] [] (fun v M => K v (M.take ([] : List Blk).length)) = axesAns K ⟨s1, s2, s3⟩ t := by
  kernel_rfl
set_option maxRecDepth 100000 in
theorem c_proj_Axes (s1 : ByteArray) (s2 : Int) (s3 : Int) (t : Int) : CallsA Tryd.prog GT gbT 17 [.v (.agg [.str s1, .int .i64 s2, .int .i64 s3]), .v (.c (.d (.int .i64 t)))] [] (rFrameE (axesV ⟨s1, s2, s3⟩ t)) [] := by
  refine CallsA.ofOk fun hok => ?_
  have hw := w_proj_Axes s1 s2 s3 t (fun v M => some (Res.fin v M))
  refine CallsA.ofEv (Γ := T_proj_opposite) (X := XT) (Λ := noL) (EQ := EQT) (n := 120) g_proj_opposite hEQT hmT (fun _ _ _ _ => noL_ok _) (hw.trans ?_)
  have h_s2 := inR_i64 (hok (.int .i64 s2) (by simp [datasL, datas]))
  have h_s3 := inR_i64 (hok (.int .i64 s3) (by simp [datasL, datas]))
  have h_t := inR_i64 (hok (.int .i64 t) (by simp [datasL, datas]))
  clear hok hw
  exact axesAns_ok (K := fun v M => some (Res.fin v M))
def s_proj_Axes : List AV → List Blk → (AV → List Blk → Ans) → Ans := fun xs bs K => match xs, bs with
  | [.v (.agg [.str s1, .int .i64 s2, .int .i64 s3]), .v (.c (.d (.int .i64 t)))], [] => K (rFrameE (axesV ⟨s1, s2, s3⟩ t)) []
  | _, _ => none
def T_proj_Axes : Nat → List AV → List Blk → (AV → List Blk → Ans) → Ans := upd T_proj_opposite 17 s_proj_Axes
theorem g_proj_Axes : GOK Tryd.prog GT gbT T_proj_Axes XT := by
  refine GOK.upd g_proj_opposite (fun args w => Tryd.call17 args w) fun xs bs K r h => ?_
  unfold s_proj_Axes at h
  split at h
  · exact ⟨_, _, c_proj_Axes _ _ _ _, h⟩
  · cases h


set_option maxRecDepth 100000 in
/-- proj.Project -/
theorem w_proj_Project (v1 : Int) (v2 : Int) (v3 : Int) (v4 : Int) (v5 : Int) (v6 : Int) (s1 : ByteArray) (s2 : Int) (s3 : Int) (t : Int) (K : AV → List Blk → Ans) : evFn Tryd.prog GT EQT (inl Tryd.prog GT EQT XT [23] T_proj_Axes 150 2) XT noL 150 8 [.v (.agg [.int .i64 v1, .int .i64 v2, .int .i64 v3, .int .i64 v4, .int .i64 v5, .int .i64 v6]), .v (.agg [.str s1, .int .i64 s2, .int .i64 s3]), .v (.c (.d (.int .i64 t)))] [] (fun v M => K v (M.take ([] : List Blk).length)) = projAns K ⟨⟨v1, v2⟩, ⟨v3, v4⟩, ⟨v5, v6⟩⟩ ⟨s1, s2, s3⟩ t := by
  kernel_rfl
set_option maxRecDepth 100000 in
theorem c_proj_Project (v1 : Int) (v2 : Int) (v3 : Int) (v4 : Int) (v5 : Int) (v6 : Int) (s1 : ByteArray) (s2 : Int) (s3 : Int) (t : Int) : CallsA Tryd.prog GT gbT 8 [.v (.agg [.int .i64 v1, .int .i64 v2, .int .i64 v3, .int .i64 v4, .int .i64 v5, .int .i64 v6]), .v (.agg [.str s1, .int .i64 s2, .int .i64 s3]), .v (.c (.d (.int .i64 t)))] [] (rDirE (projV ⟨⟨v1, v2⟩, ⟨v3, v4⟩, ⟨v5, v6⟩⟩ ⟨s1, s2, s3⟩ t)) [] := by
  refine CallsA.ofOk fun hok => ?_
  have hw := w_proj_Project v1 v2 v3 v4 v5 v6 s1 s2 s3 t (fun v M => some (Res.fin v M))
  refine CallsA.ofEv (Γ := (inl Tryd.prog GT EQT XT [23] T_proj_Axes 150 2)) (X := XT) (Λ := noL) (EQ := EQT) (n := 150) (g_proj_Axes.inl hEQT hmT (fun f hf => by simp only [List.mem_cons, List.not_mem_nil, or_false] at hf; subst hf; exact (fun args w => Tryd.call23 args w)) 150 2) hEQT hmT (fun _ _ _ _ => noL_ok _) (hw.trans ?_)
  have h_v1 := inR_i64 (hok (.int .i64 v1) (by simp [datasL, datas]))
  have h_v2 := inR_i64 (hok (.int .i64 v2) (by simp [datasL, datas]))
  have h_v3 := inR_i64 (hok (.int .i64 v3) (by simp [datasL, datas]))
  have h_v4 := inR_i64 (hok (.int .i64 v4) (by simp [datasL, datas]))
  have h_v5 := inR_i64 (hok (.int .i64 v5) (by simp [datasL, datas]))
  have h_v6 := inR_i64 (hok (.int .i64 v6) (by simp [datasL, datas]))
  have h_s2 := inR_i64 (hok (.int .i64 s2) (by simp [datasL, datas]))
  have h_s3 := inR_i64 (hok (.int .i64 s3) (by simp [datasL, datas]))
  have h_t := inR_i64 (hok (.int .i64 t) (by simp [datasL, datas]))
  clear hok hw
  exact projAns_ok (K := fun v M => some (Res.fin v M))
def s_proj_Project : List AV → List Blk → (AV → List Blk → Ans) → Ans := fun xs bs K => match xs, bs with
  | [.v (.agg [.int .i64 v1, .int .i64 v2, .int .i64 v3, .int .i64 v4, .int .i64 v5, .int .i64 v6]), .v (.agg [.str s1, .int .i64 s2, .int .i64 s3]), .v (.c (.d (.int .i64 t)))], [] => K (rDirE (projV ⟨⟨v1, v2⟩, ⟨v3, v4⟩, ⟨v5, v6⟩⟩ ⟨s1, s2, s3⟩ t)) []
  | _, _ => none
def T_proj_Project : Nat → List AV → List Blk → (AV → List Blk → Ans) → Ans := upd T_proj_Axes 8 s_proj_Project
theorem g_proj_Project : GOK Tryd.prog GT gbT T_proj_Project XT := by
  refine GOK.upd g_proj_Axes (fun args w => Tryd.call8 args w) fun xs bs K r h => ?_
  unfold s_proj_Project at h
  split at h
  · exact ⟨_, _, c_proj_Project _ _ _ _ _ _ _ _ _ _, h⟩
  · cases h


set_option maxRecDepth 100000 in
/-- proj.Norm -/
theorem w_proj_Norm (v1 v2 v3 v4 v5 v6 : Int) (K : AV → List Blk → Ans) : evFn Tryd.prog GT EQT T_proj_Project XT noL 60 10 [.v (.agg [.int .i64 v1, .int .i64 v2, .int .i64 v3, .int .i64 v4, .int .i64 v5, .int .i64 v6])] [] (fun v M => K v (M.take ([] : List Blk).length)) = normAns K ⟨⟨v1, v2⟩, ⟨v3, v4⟩, ⟨v5, v6⟩⟩ := by
  kernel_rfl
set_option maxRecDepth 100000 in
theorem c_proj_Norm (v1 v2 v3 v4 v5 v6 : Int) : CallsA Tryd.prog GT gbT 10 [.v (.agg [.int .i64 v1, .int .i64 v2, .int .i64 v3, .int .i64 v4, .int .i64 v5, .int .i64 v6])] [] (rSpanE (normV ⟨⟨v1, v2⟩, ⟨v3, v4⟩, ⟨v5, v6⟩⟩)) [] := by
  refine CallsA.ofOk fun hok => ?_
  have hw := w_proj_Norm v1 v2 v3 v4 v5 v6 (fun v M => some (Res.fin v M))
  refine CallsA.ofEv (Γ := T_proj_Project) (X := XT) (Λ := noL) (EQ := EQT) (n := 60) g_proj_Project hEQT hmT (fun _ _ _ _ => noL_ok _) (hw.trans ?_)
  have h_v1 := inR_i64 (hok (.int .i64 v1) (by simp [datasL, datas]))
  have h_v2 := inR_i64 (hok (.int .i64 v2) (by simp [datasL, datas]))
  have h_v3 := inR_i64 (hok (.int .i64 v3) (by simp [datasL, datas]))
  have h_v4 := inR_i64 (hok (.int .i64 v4) (by simp [datasL, datas]))
  have h_v5 := inR_i64 (hok (.int .i64 v5) (by simp [datasL, datas]))
  have h_v6 := inR_i64 (hok (.int .i64 v6) (by simp [datasL, datas]))
  clear hok hw
  exact normAns_ok (K := fun v M => some (Res.fin v M))
def s_proj_Norm : List AV → List Blk → (AV → List Blk → Ans) → Ans := fun xs bs K => match xs, bs with
  | [.v (.agg [.int .i64 v1, .int .i64 v2, .int .i64 v3, .int .i64 v4, .int .i64 v5, .int .i64 v6])], [] => K (rSpanE (normV ⟨⟨v1, v2⟩, ⟨v3, v4⟩, ⟨v5, v6⟩⟩)) []
  | _, _ => none
def T_proj_Norm : Nat → List AV → List Blk → (AV → List Blk → Ans) → Ans := upd T_proj_Project 10 s_proj_Norm
theorem g_proj_Norm : GOK Tryd.prog GT gbT T_proj_Norm XT := by
  refine GOK.upd g_proj_Project (fun args w => Tryd.call10 args w) fun xs bs K r h => ?_
  unfold s_proj_Norm at h
  split at h
  · exact ⟨_, _, c_proj_Norm _ _ _ _ _ _, h⟩
  · cases h


set_option maxRecDepth 100000 in
/-- fringeref06.Tick -/
theorem w_fringeref06_Tick (t : Int) (K : AV → List Blk → Ans) : evFn Tryd.prog GT EQT T_proj_Norm XT noL 60 20 [.v (.c (.d (.int .i64 t)))] [] (fun v M => K v (M.take ([] : List Blk).length)) = K (rB (tickB t)) [] := by
  simp only [tickB, pullK K]
  kernel_rfl
set_option maxRecDepth 100000 in
theorem c_fringeref06_Tick (t : Int) : CallsA Tryd.prog GT gbT 20 [.v (.c (.d (.int .i64 t)))] [] (rB (tickB t)) [] := by
  refine CallsA.ofOk fun hok => ?_
  have hw := w_fringeref06_Tick t (fun v M => some (Res.fin v M))
  refine CallsA.ofEv (Γ := T_proj_Norm) (X := XT) (Λ := noL) (EQ := EQT) (n := 60) g_proj_Norm hEQT hmT (fun _ _ _ _ => noL_ok _) (hw.trans ?_)
  rfl
def s_fringeref06_Tick : List AV → List Blk → (AV → List Blk → Ans) → Ans := fun xs bs K => match xs, bs with
  | [.v (.c (.d (.int .i64 t)))], [] => K (rB (tickB t)) []
  | _, _ => none
def T_fringeref06_Tick : Nat → List AV → List Blk → (AV → List Blk → Ans) → Ans := upd T_proj_Norm 20 s_fringeref06_Tick
theorem g_fringeref06_Tick : GOK Tryd.prog GT gbT T_fringeref06_Tick XT := by
  refine GOK.upd g_proj_Norm (fun args w => Tryd.call20 args w) fun xs bs K r h => ?_
  unfold s_fringeref06_Tick at h
  split at h
  · exact ⟨_, _, c_fringeref06_Tick _, h⟩
  · cases h


set_option maxRecDepth 100000 in
/-- fringeref06.Common -/
theorem w_fringeref06_Common (a1 a2 b1 b2 : Int) (K : AV → List Blk → Ans) : evFn Tryd.prog GT EQT T_fringeref06_Tick XT noL 60 12 [.v (.agg [.int .i64 a1, .int .i64 a2]), .v (.agg [.int .i64 b1, .int .i64 b2])] [] (fun v M => K v (M.take ([] : List Blk).length)) = K (rB (commonB ⟨a1, a2⟩ ⟨b1, b2⟩)) [] := by
  simp only [commonB, pullK K]
  kernel_rfl
set_option maxRecDepth 100000 in
theorem c_fringeref06_Common (a1 a2 b1 b2 : Int) : CallsA Tryd.prog GT gbT 12 [.v (.agg [.int .i64 a1, .int .i64 a2]), .v (.agg [.int .i64 b1, .int .i64 b2])] [] (rB (commonB ⟨a1, a2⟩ ⟨b1, b2⟩)) [] := by
  refine CallsA.ofOk fun hok => ?_
  have hw := w_fringeref06_Common a1 a2 b1 b2 (fun v M => some (Res.fin v M))
  refine CallsA.ofEv (Γ := T_fringeref06_Tick) (X := XT) (Λ := noL) (EQ := EQT) (n := 60) g_fringeref06_Tick hEQT hmT (fun _ _ _ _ => noL_ok _) (hw.trans ?_)
  rfl
def s_fringeref06_Common : List AV → List Blk → (AV → List Blk → Ans) → Ans := fun xs bs K => match xs, bs with
  | [.v (.agg [.int .i64 a1, .int .i64 a2]), .v (.agg [.int .i64 b1, .int .i64 b2])], [] => K (rB (commonB ⟨a1, a2⟩ ⟨b1, b2⟩)) []
  | _, _ => none
def T_fringeref06_Common : Nat → List AV → List Blk → (AV → List Blk → Ans) → Ans := upd T_fringeref06_Tick 12 s_fringeref06_Common
theorem g_fringeref06_Common : GOK Tryd.prog GT gbT T_fringeref06_Common XT := by
  refine GOK.upd g_fringeref06_Tick (fun args w => Tryd.call12 args w) fun xs bs K r h => ?_
  unfold s_fringeref06_Common at h
  split at h
  · exact ⟨_, _, c_fringeref06_Common _ _ _ _, h⟩
  · cases h


set_option maxRecDepth 100000 in
/-- fringelaw08.of -/
theorem w_fringelaw08_of (n : Int) (K : AV → List Blk → Ans) : evFn Tryd.prog GT EQT T_fringeref06_Common XT noL 60 9 [.v (.c (.d (.int .i64 n)))] [] (fun v M => K v (M.take ([] : List Blk).length)) = K (rSpan ⟨w64 (1000000 * n), w64 (1000000 * n)⟩) [] := by
  kernel_rfl
set_option maxRecDepth 100000 in
theorem c_fringelaw08_of (n : Int) : CallsA Tryd.prog GT gbT 9 [.v (.c (.d (.int .i64 n)))] [] (rSpan ⟨w64 (1000000 * n), w64 (1000000 * n)⟩) [] := by
  refine CallsA.ofOk fun hok => ?_
  have hw := w_fringelaw08_of n (fun v M => some (Res.fin v M))
  refine CallsA.ofEv (Γ := T_fringeref06_Common) (X := XT) (Λ := noL) (EQ := EQT) (n := 60) g_fringeref06_Common hEQT hmT (fun _ _ _ _ => noL_ok _) (hw.trans ?_)
  rfl
def s_fringelaw08_of : List AV → List Blk → (AV → List Blk → Ans) → Ans := fun xs bs K => match xs, bs with
  | [.v (.c (.d (.int .i64 n)))], [] => K (rSpan ⟨w64 (1000000 * n), w64 (1000000 * n)⟩) []
  | _, _ => none
def T_fringelaw08_of : Nat → List AV → List Blk → (AV → List Blk → Ans) → Ans := upd T_fringeref06_Common 9 s_fringelaw08_of
theorem g_fringelaw08_of : GOK Tryd.prog GT gbT T_fringelaw08_of XT := by
  refine GOK.upd g_fringeref06_Common (fun args w => Tryd.call9 args w) fun xs bs K r h => ?_
  unfold s_fringelaw08_of at h
  split at h
  · exact ⟨_, _, c_fringelaw08_of _, h⟩
  · cases h


set_option maxRecDepth 100000 in
/-- fringelaw08.fit -/
theorem w_fringelaw08_fit (s1 : ByteArray) (s2 : Int) (s3 : Int) (t : Int) (K : AV → List Blk → Ans) : evFn Tryd.prog GT EQT T_fringelaw08_of XT noL 60 5 [.v (.agg [.str s1, .int .i64 s2, .int .i64 s3]), .v (.c (.d (.int .i64 t)))] [] (fun v M => K v (M.take ([] : List Blk).length)) = K (rB (fit8B ⟨s1, s2, s3⟩ t)) [] := by
  simp only [fit8B, pullK K]
  kernel_rfl
set_option maxRecDepth 100000 in
theorem c_fringelaw08_fit (s1 : ByteArray) (s2 : Int) (s3 : Int) (t : Int) : CallsA Tryd.prog GT gbT 5 [.v (.agg [.str s1, .int .i64 s2, .int .i64 s3]), .v (.c (.d (.int .i64 t)))] [] (rB (fit8B ⟨s1, s2, s3⟩ t)) [] := by
  refine CallsA.ofOk fun hok => ?_
  have hw := w_fringelaw08_fit s1 s2 s3 t (fun v M => some (Res.fin v M))
  refine CallsA.ofEv (Γ := T_fringelaw08_of) (X := XT) (Λ := noL) (EQ := EQT) (n := 60) g_fringelaw08_of hEQT hmT (fun _ _ _ _ => noL_ok _) (hw.trans ?_)
  rfl
def s_fringelaw08_fit : List AV → List Blk → (AV → List Blk → Ans) → Ans := fun xs bs K => match xs, bs with
  | [.v (.agg [.str s1, .int .i64 s2, .int .i64 s3]), .v (.c (.d (.int .i64 t)))], [] => K (rB (fit8B ⟨s1, s2, s3⟩ t)) []
  | _, _ => none
def T_fringelaw08_fit : Nat → List AV → List Blk → (AV → List Blk → Ans) → Ans := upd T_fringelaw08_of 5 s_fringelaw08_fit
theorem g_fringelaw08_fit : GOK Tryd.prog GT gbT T_fringelaw08_fit XT := by
  refine GOK.upd g_fringelaw08_of (fun args w => Tryd.call5 args w) fun xs bs K r h => ?_
  unfold s_fringelaw08_fit at h
  split at h
  · exact ⟨_, _, c_fringelaw08_fit _ _ _ _, h⟩
  · cases h


set_option maxRecDepth 100000 in
/-- fringelaw08.alive -/
theorem w_fringelaw08_alive (K : AV → List Blk → Ans) : evFn Tryd.prog GT EQT (inl Tryd.prog GT EQT XT [15, 18] T_fringelaw08_fit 150 2) XT noL 150 7 [] [] (fun v M => K v (M.take ([] : List Blk).length)) = K (rB true) [] := by
  kernel_rfl
set_option maxRecDepth 100000 in
theorem c_fringelaw08_alive : CallsA Tryd.prog GT gbT 7 [] [] (rB true) [] := by
  refine CallsA.ofOk fun hok => ?_
  have hw := w_fringelaw08_alive (fun v M => some (Res.fin v M))
  refine CallsA.ofEv (Γ := (inl Tryd.prog GT EQT XT [15, 18] T_fringelaw08_fit 150 2)) (X := XT) (Λ := noL) (EQ := EQT) (n := 150) (g_fringelaw08_fit.inl hEQT hmT (fun f hf => by simp only [List.mem_cons, List.not_mem_nil, or_false] at hf; rcases hf with rfl | rfl <;> first | exact (fun args w => Tryd.call15 args w) | exact (fun args w => Tryd.call18 args w)) 150 2) hEQT hmT (fun _ _ _ _ => noL_ok _) (hw.trans ?_)
  rfl
def s_fringelaw08_alive : List AV → List Blk → (AV → List Blk → Ans) → Ans := fun xs bs K => match xs, bs with
  | [], [] => K (rB true) []
  | _, _ => none
def T_fringelaw08_alive : Nat → List AV → List Blk → (AV → List Blk → Ans) → Ans := upd T_fringelaw08_fit 7 s_fringelaw08_alive
theorem g_fringelaw08_alive : GOK Tryd.prog GT gbT T_fringelaw08_alive XT := by
  refine GOK.upd g_fringelaw08_fit (fun args w => Tryd.call7 args w) fun xs bs K r h => ?_
  unfold s_fringelaw08_alive at h
  split at h
  · exact ⟨_, _, c_fringelaw08_alive, h⟩
  · cases h


set_option maxRecDepth 100000 in
/-- fringelaw08.ProjKeeps -/
theorem w_fringelaw08_ProjKeeps (v1 : Int) (v2 : Int) (v3 : Int) (v4 : Int) (v5 : Int) (v6 : Int) (s1 : ByteArray) (s2 : Int) (s3 : Int) (t : Int) (K : AV → List Blk → Ans) : evFn Tryd.prog GT EQT T_fringelaw08_alive XT noL 200 3 [.v (.agg [.int .i64 v1, .int .i64 v2, .int .i64 v3, .int .i64 v4, .int .i64 v5, .int .i64 v6]), .v (.agg [.str s1, .int .i64 s2, .int .i64 s3]), .v (.c (.d (.int .i64 t)))] [] (fun v M => K v (M.take ([] : List Blk).length)) = lawProjKeeps K ⟨⟨v1, v2⟩, ⟨v3, v4⟩, ⟨v5, v6⟩⟩ ⟨s1, s2, s3⟩ t := by
  kernel_rfl
set_option maxRecDepth 100000 in
theorem c_fringelaw08_ProjKeeps (v1 : Int) (v2 : Int) (v3 : Int) (v4 : Int) (v5 : Int) (v6 : Int) (s1 : ByteArray) (s2 : Int) (s3 : Int) (t : Int) : CallsA Tryd.prog GT gbT 3 [.v (.agg [.int .i64 v1, .int .i64 v2, .int .i64 v3, .int .i64 v4, .int .i64 v5, .int .i64 v6]), .v (.agg [.str s1, .int .i64 s2, .int .i64 s3]), .v (.c (.d (.int .i64 t)))] [] (rB true) [] := by
  refine CallsA.ofOk fun hok => ?_
  have hw := w_fringelaw08_ProjKeeps v1 v2 v3 v4 v5 v6 s1 s2 s3 t (fun v M => some (Res.fin v M))
  refine CallsA.ofEv (Γ := T_fringelaw08_alive) (X := XT) (Λ := noL) (EQ := EQT) (n := 200) g_fringelaw08_alive hEQT hmT (fun _ _ _ _ => noL_ok _) (hw.trans ?_)
  have h_v1 := inR_i64 (hok (.int .i64 v1) (by simp [datasL, datas]))
  have h_v2 := inR_i64 (hok (.int .i64 v2) (by simp [datasL, datas]))
  have h_v3 := inR_i64 (hok (.int .i64 v3) (by simp [datasL, datas]))
  have h_v4 := inR_i64 (hok (.int .i64 v4) (by simp [datasL, datas]))
  have h_v5 := inR_i64 (hok (.int .i64 v5) (by simp [datasL, datas]))
  have h_v6 := inR_i64 (hok (.int .i64 v6) (by simp [datasL, datas]))
  have h_s2 := inR_i64 (hok (.int .i64 s2) (by simp [datasL, datas]))
  have h_s3 := inR_i64 (hok (.int .i64 s3) (by simp [datasL, datas]))
  have h_t := inR_i64 (hok (.int .i64 t) (by simp [datasL, datas]))
  clear hok hw
  exact lawProjKeeps_ok (K := fun v M => some (Res.fin v M))

end Go.Ev
