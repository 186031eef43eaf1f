/-
  Contracts of functions: what each returns. No condition beyond those of the statements.
  Plain functions that mirror functions of the program, and that it computes them. No condition beyond those of the statements.
  The iterator over the pairs of n stations: it hands each pair to the loop's body, or stops where the body says so. No condition.
  array.place: the stations with their places, or an error; by a loop over the pairs of stations. No condition.
  The law ProjNames: its plain function is true. No condition.
  What a listed variable that is a fraction reads as: its two cells. No condition.
-/
import Derived.Test.YtglifoijcdfjaaaDoorPkProjNames4
import Derived.RangeFuncNested
import Derived.RangeFuncBound
import Derived.RangeFuncCalls
import Derived.RangeFuncLeaves
import Derived.Shelf.Abstract
import Derived.WalkKit
import Derived.OwnWalkIn
import Derived.TacticsInMore
import Derived.LoopNIn
import Derived.LoopIn
import Derived.Test.YtglifoijcdfjaaaDoorRows
import Derived.ChangeSame
import Derived.ChangeArms
import Derived.FnData
import Derived.MakeChecks
import GoSem.ClaimJoined
namespace Go.Ev
open Go Go.Proofs

set_option maxRecDepth 100000 in
theorem w_track_Along (a b c d e f g h i j k l : Int) (K : AV → List Blk → Ans) : evFn Tryd.prog GT EQT (inl Tryd.prog GT EQT XT [26, 27, 44] T_vec_Dot 120 2) XT noL 120 37 [.v (.agg [.int .i64 a, .int .i64 b, .int .i64 c, .int .i64 d, .int .i64 e, .int .i64 f]), .v (.agg [.int .i64 g, .int .i64 h, .int .i64 i, .int .i64 j, .int .i64 k, .int .i64 l])] [] (fun v M => K v (M.take ([] : List Blk).length)) = alongAns K ⟨⟨a, b⟩, ⟨c, d⟩, ⟨e, f⟩⟩ ⟨⟨g, h⟩, ⟨i, j⟩, ⟨k, l⟩⟩ := by
  kernel_rfl
set_option maxRecDepth 100000 in
theorem c_track_Along (a b c d e f g h i j k l : Int) : CallsA Tryd.prog GT gbT 37 [.v (.agg [.int .i64 a, .int .i64 b, .int .i64 c, .int .i64 d, .int .i64 e, .int .i64 f]), .v (.agg [.int .i64 g, .int .i64 h, .int .i64 i, .int .i64 j, .int .i64 k, .int .i64 l])] [] (rSpanE (alongS ⟨⟨a, b⟩, ⟨c, d⟩, ⟨e, f⟩⟩ ⟨⟨g, h⟩, ⟨i, j⟩, ⟨k, l⟩⟩)) [] := by
  refine CallsA.ofOk fun hok => ?_
  have hw := w_track_Along a b c d e f g h i j k l (fun v M => some (Res.fin v M))
  refine CallsA.ofEv (Γ := (inl Tryd.prog GT EQT XT [26, 27, 44] T_vec_Dot 120 2)) (X := XT) (Λ := noL) (EQ := EQT) (n := 120) (g_vec_Dot.inl hEQT hmT (fun f hf => by simp only [List.mem_cons, List.not_mem_nil, or_false] at hf; rcases hf with rfl | rfl | rfl <;> first | exact (fun args w => Tryd.call26 args w) | exact (fun args w => Tryd.call27 args w) | exact (fun args w => Tryd.call44 args w)) 120 2) hEQT hmT (fun _ _ _ _ => noL_ok _) (hw.trans ?_)
  have h_a := inR_i64 (hok (.int .i64 a) (by simp [datasL, datas]))
  have h_b := inR_i64 (hok (.int .i64 b) (by simp [datasL, datas]))
  have h_c := inR_i64 (hok (.int .i64 c) (by simp [datasL, datas]))
  have h_d := inR_i64 (hok (.int .i64 d) (by simp [datasL, datas]))
  have h_e := inR_i64 (hok (.int .i64 e) (by simp [datasL, datas]))
  have h_f := inR_i64 (hok (.int .i64 f) (by simp [datasL, datas]))
  have h_g := inR_i64 (hok (.int .i64 g) (by simp [datasL, datas]))
  have h_h := inR_i64 (hok (.int .i64 h) (by simp [datasL, datas]))
  have h_i := inR_i64 (hok (.int .i64 i) (by simp [datasL, datas]))
  have h_j := inR_i64 (hok (.int .i64 j) (by simp [datasL, datas]))
  have h_k := inR_i64 (hok (.int .i64 k) (by simp [datasL, datas]))
  have h_l := inR_i64 (hok (.int .i64 l) (by simp [datasL, datas]))
  clear hok hw
  exact alongAns_ok (K := fun v M => some (Res.fin v M))
def s_track_Along : List AV → List Blk → (AV → List Blk → Ans) → Ans := fun xs bs K => match xs, bs with
  | [.v (.agg [.int .i64 a, .int .i64 b, .int .i64 c, .int .i64 d, .int .i64 e, .int .i64 f]), .v (.agg [.int .i64 g, .int .i64 h, .int .i64 i, .int .i64 j, .int .i64 k, .int .i64 l])], [] => K (rSpanE (alongS ⟨⟨a, b⟩, ⟨c, d⟩, ⟨e, f⟩⟩ ⟨⟨g, h⟩, ⟨i, j⟩, ⟨k, l⟩⟩)) []
  | _, _ => none
def T_track_Along : Nat → List AV → List Blk → (AV → List Blk → Ans) → Ans := upd T_vec_Dot 37 s_track_Along
theorem g_track_Along : GOK Tryd.prog GT gbT T_track_Along XT := by
  refine GOK.upd g_vec_Dot (fun args w => Tryd.call37 args w) fun xs bs K r h => ?_
  unfold s_track_Along at h
  split at h
  · exact ⟨_, _, c_track_Along _ _ _ _ _ _ _ _ _ _ _ _, h⟩
  · cases h


abbrev T_named (s : ByteArray) (i : Int) : TS := maskT [(0, .v (.c (.d (.str s)))), (24, aint .i64 (s.size : Int)), (25, aint .i64 i), (2, .any)] 50
abbrev B_named (s : ByteArray) (i : Int) : TS := maskT [(0, .v (.c (.d (.str s)))), (24, aint .i64 (s.size : Int)), (25, aint .i64 i), (2, abool false)] 50
def f_named (T : TS) (M : List Blk) (N : Nat) : LT := match tget T 0, tget T 24, tget T 25 with
  | .v (.c (.d (.str s))), .v (.c (.d (.int .i64 n))), .v (.c (.d (.int .i64 i))) =>
    bif i == 0 then .br (n == (s.size : Int) && decide ((s.size : Int) ≤ 1000)) (.br (restOk s 0 s.size) (.st (.exit 0) (maskT [] 50) M N) (.st .ret (maskT [(2, abool false)] 50) M N)) .no else .no
  | _, _, _ => .no
def L_named := LamG 4 50 f_named
set_option maxRecDepth 100000 in
theorem b_named (s : ByteArray) (i : Int) (M : List Blk) (N : Nat) : evCode Tryd.prog GT EQT T_track_Along XT noL 40 (loopB Tryd.prog 69 0) (T_named s i) M N (fun x T M N => some (.st x (forget [0, 24, 25, 2] T) M N)) =
    bif decide (i < (s.size : Int)) then (bif decide (0 ≤ i) && decide (i < (s.size : Int)) then nameStep (byteAt s i) (some (.st .ret (B_named s i) M N)) (some (.st .normal (T_named s (w64 (i + 1))) M N)) else none)
    else some (.st (.exit 0) (T_named s i) M N) := by kernel_rfl
set_option maxRecDepth 100000 in
theorem LL_named : ∀ fn c, Tryd.prog.funcs[69]? = some fn → fn.body = some c → LOK Tryd.prog GT gbT L_named (loopsIn c) := by
  refine LOK.ofF fun b hb => ?_
  have e : loopsF Tryd.prog 69 = [loopB Tryd.prog 69 0] := by kernel_rfl
  have k0 : loopKey (loopB Tryd.prog 69 0) = 4 := by kernel_rfl
  rw [e, List.mem_singleton] at hb
  subst hb
  unfold L_named
  rw [← k0]
  refine LOKb.lamG fun T M N x T' M' N' hl hr => ?_
  unfold f_named at hr
  split at hr
  · rename_i s n i h0 h1 h2
    simp only [cond_eq_ite, beq_iff_eq] at hr
    split at hr
    · rename_i hi
      subst hi
      obtain ⟨hc, hr2⟩ := Or.resolve_right hr (fun h => h.2.elim)
      simp only [Bool.and_eq_true, beq_iff_eq, decide_eq_true_eq] at hc
      obtain ⟨rfl, hs⟩ := hc
      have hless : Less (T_named s 0) T := less_of' hl (by simp only [List.mem_cons, List.not_mem_nil, or_false]; intro p hp; rcases hp with rfl | rfl | rfl | rfl; exact .inl h0; exact .inl h1; exact .inl h2; exact .inr rfl)
      have hh := name_rounds (c := loopB Tryd.prog 69 0) (M := M) (NN := N) g_track_Along hEQT hmT s hs (fun i => T_named s i) (maskT [] 50) (maskT [(2, abool false)] 50) (fun i => less_of (by kernel_rfl) (by simp)) (fun i => B_named s i) (fun i => less_of (by kernel_rfl) (by simp; kernel_rfl)) (fun i => (b_named s i M N)) s.size 0 (by omega) (by omega)
      rcases hr2 with ⟨hd, rfl, rfl, rfl, rfl⟩ | ⟨hd, rfl, rfl, rfl, rfl⟩
      · obtain ⟨k, hk⟩ := hh.1 hd
        exact ⟨by simp, k, hk.less hless⟩
      · obtain ⟨k, hk⟩ := hh.2 hd
        exact ⟨by simp, k, hk.less hless⟩
    · exact hr.elim
  · exact hr.elim

set_option maxRecDepth 100000 in
theorem w_track_named (s : ByteArray) (K : AV → List Blk → Ans) : evFn Tryd.prog GT EQT T_track_Along XT L_named 60 69 [.v (.c (.d (.str s)))] [] (fun v M => K v (M.take ([] : List Blk).length)) = nameAns K s := by
  kernel_rfl
set_option maxRecDepth 100000 in
theorem c_track_named (s : ByteArray) : CallsA Tryd.prog GT gbT 69 [.v (.c (.d (.str s)))] [] (rB (namedB s)) [] := by
  refine CallsA.ofOk fun hok => ?_
  have hw := w_track_named s (fun v M => some (Res.fin v M))
  refine CallsA.ofEv (Γ := T_track_Along) (X := XT) (Λ := L_named) (EQ := EQT) (n := 60) g_track_Along hEQT hmT (LL_named) (hw.trans ?_)
  clear hok hw
  exact nameAns_ok (K := fun v M => some (Res.fin v M))
def s_track_named : List AV → List Blk → (AV → List Blk → Ans) → Ans := fun xs bs K => match xs, bs with
  | [.v (.c (.d (.str s)))], [] => K (rB (namedB s)) []
  | _, _ => none
def T_track_named : Nat → List AV → List Blk → (AV → List Blk → Ans) → Ans := upd T_track_Along 69 s_track_named
theorem g_track_named : GOK Tryd.prog GT gbT T_track_named XT := by
  refine GOK.upd g_track_Along (fun args w => Tryd.call69 args w) fun xs bs K r h => ?_
  unfold s_track_named at h
  split at h
  · exact ⟨_, _, c_track_named _, h⟩
  · cases h


abbrev T_Named (s : ByteArray) (i : Int) : TS := maskT [(0, .v (.c (.d (.str s)))), (3, aint .i64 i), (2, .any)] 56
abbrev B_Named (s : ByteArray) (i : Int) : TS := maskT [(0, .v (.c (.d (.str s)))), (3, aint .i64 i), (2, abool false)] 56
def f_Named (T : TS) (M : List Blk) (N : Nat) : LT := match tget T 0, tget T 3 with
  | .v (.c (.d (.str s))), .v (.c (.d (.int .i64 i))) =>
    bif i == 0 then .br (decide ((s.size : Int) ≤ 1000)) (.br (restOk s 0 s.size) (.st (.exit 0) (maskT [] 56) M N) (.st .ret (maskT [(2, abool false)] 56) M N)) .no else .no
  | _, _ => .no
def L_Named := LamG 4 56 f_Named
set_option maxRecDepth 100000 in
theorem b_Named (s : ByteArray) (i : Int) (M : List Blk) (N : Nat) : evCode Tryd.prog GT EQT T_track_named XT noL 40 (loopB Tryd.prog 34 0) (T_Named s i) M N (fun x T M N => some (.st x (forget [0, 3, 2] T) M N)) =
    bif decide (i < (s.size : Int)) then (bif decide (0 ≤ i) && decide (i < (s.size : Int)) then nameStepR (decide (0 ≤ i) && decide (i < (s.size : Int))) (byteAt s i) (some (.st .ret (B_Named s i) M N)) (some (.st .normal (T_Named s (w64 (i + 1))) M N)) else none)
    else some (.st (.exit 0) (T_Named s i) M N) := by kernel_rfl
set_option maxRecDepth 100000 in
theorem LL_Named : ∀ fn c, Tryd.prog.funcs[34]? = some fn → fn.body = some c → LOK Tryd.prog GT gbT L_Named (loopsIn c) := by
  refine LOK.ofF fun b hb => ?_
  have e : loopsF Tryd.prog 34 = [loopB Tryd.prog 34 0] := by kernel_rfl
  have k0 : loopKey (loopB Tryd.prog 34 0) = 4 := by kernel_rfl
  rw [e, List.mem_singleton] at hb
  subst hb
  unfold L_Named
  rw [← k0]
  refine LOKb.lamG fun T M N x T' M' N' hl hr => ?_
  unfold f_Named at hr
  split at hr
  · rename_i s i h0 h2
    simp only [cond_eq_ite, beq_iff_eq] at hr
    split at hr
    · rename_i hi
      subst hi
      obtain ⟨hs, hr2⟩ := Or.resolve_right hr (fun h => h.2.elim)
      simp only [decide_eq_true_eq] at hs
      have hless : Less (T_Named s 0) T := less_of' hl (by simp only [List.mem_cons, List.not_mem_nil, or_false]; intro p hp; rcases hp with rfl | rfl | rfl; exact .inl h0; exact .inl h2; exact .inr rfl)
      have hh := name_rounds (c := loopB Tryd.prog 34 0) (M := M) (NN := N) g_track_named hEQT hmT s hs (fun i => T_Named s i) (maskT [] 56) (maskT [(2, abool false)] 56) (fun i => less_of (by kernel_rfl) (by simp)) (fun i => B_Named s i) (fun i => less_of (by kernel_rfl) (by simp; kernel_rfl)) (fun i => (b_Named s i M N).trans (by rw [nameStepR_eq])) s.size 0 (by omega) (by omega)
      rcases hr2 with ⟨hd, rfl, rfl, rfl, rfl⟩ | ⟨hd, rfl, rfl, rfl, rfl⟩
      · obtain ⟨k, hk⟩ := hh.1 hd
        exact ⟨by simp, k, hk.less hless⟩
      · obtain ⟨k, hk⟩ := hh.2 hd
        exact ⟨by simp, k, hk.less hless⟩
    · exact hr.elim
  · exact hr.elim

set_option maxRecDepth 100000 in
theorem w_Q4_Named (s : ByteArray) (K : AV → List Blk → Ans) : evFn Tryd.prog GT EQT T_track_named XT L_Named 60 34 [.v (.c (.d (.str s)))] [] (fun v M => K v (M.take ([] : List Blk).length)) = nameAns' K s := by
  kernel_rfl
set_option maxRecDepth 100000 in
theorem c_Q4_Named (s : ByteArray) : CallsA Tryd.prog GT gbT 34 [.v (.c (.d (.str s)))] [] (rB (namedB s)) [] := by
  refine CallsA.ofOk fun hok => ?_
  have hw := w_Q4_Named s (fun v M => some (Res.fin v M))
  refine CallsA.ofEv (Γ := T_track_named) (X := XT) (Λ := L_Named) (EQ := EQT) (n := 60) g_track_named hEQT hmT (LL_Named) (hw.trans ?_)
  clear hok hw
  exact nameAns'_ok (K := fun v M => some (Res.fin v M))
def s_Q4_Named : List AV → List Blk → (AV → List Blk → Ans) → Ans := fun xs bs K => match xs, bs with
  | [.v (.c (.d (.str s)))], [] => K (rB (namedB s)) []
  | _, _ => none
def T_Q4_Named : Nat → List AV → List Blk → (AV → List Blk → Ans) → Ans := upd T_track_named 34 s_Q4_Named
theorem g_Q4_Named : GOK Tryd.prog GT gbT T_Q4_Named XT := by
  refine GOK.upd g_track_named (fun args w => Tryd.call34 args w) fun xs bs K r h => ?_
  unfold s_Q4_Named at h
  split at h
  · exact ⟨_, _, c_Q4_Named _, h⟩
  · cases h


set_option maxRecDepth 100000 in
theorem w_track_Check (nm : ByteArray) (ra dec : Int) (K : AV → List Blk → Ans) : evFn Tryd.prog GT EQT T_Q4_Named XT noL 60 48 [.v (.agg [.str nm, .int .i64 ra, .int .i64 dec])] [] (fun v M => K v (M.take ([] : List Blk).length)) = K (rI (checkSrc ⟨nm, ra, dec⟩)) [] := by
  simp only [checkSrc, pullK K]
  kernel_rfl
set_option maxRecDepth 100000 in
theorem c_track_Check (nm : ByteArray) (ra dec : Int) : CallsA Tryd.prog GT gbT 48 [.v (.agg [.str nm, .int .i64 ra, .int .i64 dec])] [] (rI (checkSrc ⟨nm, ra, dec⟩)) [] := by
  refine CallsA.ofOk fun hok => ?_
  have hw := w_track_Check nm ra dec (fun v M => some (Res.fin v M))
  refine CallsA.ofEv (Γ := T_Q4_Named) (X := XT) (Λ := noL) (EQ := EQT) (n := 60) g_Q4_Named hEQT hmT (fun _ _ _ _ => noL_ok _) (hw.trans ?_)
  rfl
def s_track_Check : List AV → List Blk → (AV → List Blk → Ans) → Ans := fun xs bs K => match xs, bs with
  | [.v (.agg [.str nm, .int .i64 ra, .int .i64 dec])], [] => K (rI (checkSrc ⟨nm, ra, dec⟩)) []
  | _, _ => none
def T_track_Check : Nat → List AV → List Blk → (AV → List Blk → Ans) → Ans := upd T_Q4_Named 48 s_track_Check
theorem g_track_Check : GOK Tryd.prog GT gbT T_track_Check XT := by
  refine GOK.upd g_Q4_Named (fun args w => Tryd.call48 args w) fun xs bs K r h => ?_
  unfold s_track_Check at h
  split at h
  · exact ⟨_, _, c_track_Check _ _ _, h⟩
  · cases h


set_option maxRecDepth 100000 in
theorem w_Q6_Check (nm : ByteArray) (ra dec : Int) (K : AV → List Blk → Ans) : evFn Tryd.prog GT EQT T_track_Check XT noL 60 19 [.v (.agg [.str nm, .int .i64 ra, .int .i64 dec])] [] (fun v M => K v (M.take ([] : List Blk).length)) = K (rI (checkSrc ⟨nm, ra, dec⟩)) [] := by
  simp only [checkSrc, pullK K]
  kernel_rfl
set_option maxRecDepth 100000 in
theorem c_Q6_Check (nm : ByteArray) (ra dec : Int) : CallsA Tryd.prog GT gbT 19 [.v (.agg [.str nm, .int .i64 ra, .int .i64 dec])] [] (rI (checkSrc ⟨nm, ra, dec⟩)) [] := by
  refine CallsA.ofOk fun hok => ?_
  have hw := w_Q6_Check nm ra dec (fun v M => some (Res.fin v M))
  refine CallsA.ofEv (Γ := T_track_Check) (X := XT) (Λ := noL) (EQ := EQT) (n := 60) g_track_Check hEQT hmT (fun _ _ _ _ => noL_ok _) (hw.trans ?_)
  rfl
def s_Q6_Check : List AV → List Blk → (AV → List Blk → Ans) → Ans := fun xs bs K => match xs, bs with
  | [.v (.agg [.str nm, .int .i64 ra, .int .i64 dec])], [] => K (rI (checkSrc ⟨nm, ra, dec⟩)) []
  | _, _ => none
def T_Q6_Check : Nat → List AV → List Blk → (AV → List Blk → Ans) → Ans := upd T_track_Check 19 s_Q6_Check
theorem g_Q6_Check : GOK Tryd.prog GT gbT T_Q6_Check XT := by
  refine GOK.upd g_track_Check (fun args w => Tryd.call19 args w) fun xs bs K r h => ?_
  unfold s_Q6_Check at h
  split at h
  · exact ⟨_, _, c_Q6_Check _ _ _, h⟩
  · cases h


set_option maxRecDepth 100000 in
theorem w_track_circle (h : Int) (K : AV → List Blk → Ans) : evFn Tryd.prog GT EQT T_Q6_Check XT noL 60 70 [.v (.c (.d (.int .i64 h)))] [] (fun v M => K v (M.take ([] : List Blk).length)) = K (rSpan2 (sinT h, cosT h)) [] := by
  kernel_rfl
set_option maxRecDepth 100000 in
theorem c_track_circle (h : Int) : CallsA Tryd.prog GT gbT 70 [.v (.c (.d (.int .i64 h)))] [] (rSpan2 (sinT h, cosT h)) [] := by
  refine CallsA.ofOk fun hok => ?_
  have hw := w_track_circle h (fun v M => some (Res.fin v M))
  refine CallsA.ofEv (Γ := T_Q6_Check) (X := XT) (Λ := noL) (EQ := EQT) (n := 60) g_Q6_Check hEQT hmT (fun _ _ _ _ => noL_ok _) (hw.trans ?_)
  rfl
def s_track_circle : List AV → List Blk → (AV → List Blk → Ans) → Ans := fun xs bs K => match xs, bs with
  | [.v (.c (.d (.int .i64 h)))], [] => K (rSpan2 (sinT h, cosT h)) []
  | _, _ => none
def T_track_circle : Nat → List AV → List Blk → (AV → List Blk → Ans) → Ans := upd T_Q6_Check 70 s_track_circle
theorem g_track_circle : GOK Tryd.prog GT gbT T_track_circle XT := by
  refine GOK.upd g_Q6_Check (fun args w => Tryd.call70 args w) fun xs bs K r h => ?_
  unfold s_track_circle at h
  split at h
  · exact ⟨_, _, c_track_circle _, h⟩
  · cases h


set_option maxRecDepth 100000 in
theorem w_track_direction (nm : ByteArray) (ra dec t : Int) (K : AV → List Blk → Ans) : evFn Tryd.prog GT EQT T_track_circle XT noL 60 50 [.v (.agg [.str nm, .int .i64 ra, .int .i64 dec]), .v (.c (.d (.int .i64 t)))] [] (fun v M => K v (M.take ([] : List Blk).length)) = dirAns K ra dec t := by
  kernel_rfl
set_option maxRecDepth 100000 in
theorem c_track_direction (nm : ByteArray) (ra dec t : Int) (hd : (dirOn ra dec t) = true) : CallsA Tryd.prog GT gbT 50 [.v (.agg [.str nm, .int .i64 ra, .int .i64 dec]), .v (.c (.d (.int .i64 t)))] [] (rDirE (dirS ra dec t, 0)) [] := by
  refine CallsA.ofOk fun hok => ?_
  have hw := w_track_direction nm ra dec t (fun v M => some (Res.fin v M))
  refine CallsA.ofEv (Γ := T_track_circle) (X := XT) (Λ := noL) (EQ := EQT) (n := 60) g_track_circle hEQT hmT (fun _ _ _ _ => noL_ok _) (hw.trans ?_)
  have h_ra := inR_i64 (hok (.int .i64 ra) (by simp [datasL, datas]))
  have h_dec := inR_i64 (hok (.int .i64 dec) (by simp [datasL, datas]))
  have h_t := inR_i64 (hok (.int .i64 t) (by simp [datasL, datas]))
  clear hok hw
  exact dirAns_ok (K := fun v M => some (Res.fin v M)) hd
def s_track_direction : List AV → List Blk → (AV → List Blk → Ans) → Ans := fun xs bs K => match xs, bs with
  | [.v (.agg [.str _, .int .i64 ra, .int .i64 dec]), .v (.c (.d (.int .i64 t)))], [] => bif dirOn ra dec t then K (rDirE (dirS ra dec t, 0)) [] else none
  | _, _ => none
def T_track_direction : Nat → List AV → List Blk → (AV → List Blk → Ans) → Ans := upd T_track_circle 50 s_track_direction
theorem g_track_direction : GOK Tryd.prog GT gbT T_track_direction XT := by
  refine GOK.upd g_track_circle (fun args w => Tryd.call50 args w) fun xs bs K r h => ?_
  unfold s_track_direction at h
  split at h
  · simp only [cond_eq_ite] at h
    split at h
    · exact ⟨_, _, c_track_direction _ _ _ _ ‹_›, h⟩
    · cases h
  · cases h


set_option maxRecDepth 100000 in
theorem w_track_At (nm : ByteArray) (ra dec t : Int) (K : AV → List Blk → Ans) : evFn Tryd.prog GT EQT (inl Tryd.prog GT EQT XT [49] T_track_direction 60 1) XT noL 60 30 [.v (.agg [.str nm, .int .i64 ra, .int .i64 dec]), .v (.c (.d (.int .i64 t)))] [] (fun v M => K v (M.take ([] : List Blk).length)) = atAns K ⟨nm, ra, dec⟩ t := by
  kernel_rfl
set_option maxRecDepth 100000 in
theorem c_track_At (nm : ByteArray) (ra dec t : Int) : CallsA Tryd.prog GT gbT 30 [.v (.agg [.str nm, .int .i64 ra, .int .i64 dec]), .v (.c (.d (.int .i64 t)))] [] (rDirE (atS ⟨nm, ra, dec⟩ t)) [] := by
  refine CallsA.ofOk fun hok => ?_
  have hw := w_track_At nm ra dec t (fun v M => some (Res.fin v M))
  refine CallsA.ofEv (Γ := (inl Tryd.prog GT EQT XT [49] T_track_direction 60 1)) (X := XT) (Λ := noL) (EQ := EQT) (n := 60) (g_track_direction.inl hEQT hmT (fun f hf => by simp only [List.mem_cons, List.not_mem_nil, or_false] at hf; subst hf; exact (fun args w => Tryd.call49 args w)) 60 1) hEQT hmT (fun _ _ _ _ => noL_ok _) (hw.trans ?_)
  have h_ra := inR_i64 (hok (.int .i64 ra) (by simp [datasL, datas]))
  have h_dec := inR_i64 (hok (.int .i64 dec) (by simp [datasL, datas]))
  have h_t := inR_i64 (hok (.int .i64 t) (by simp [datasL, datas]))
  clear hok hw
  exact atAns_ok (K := fun v M => some (Res.fin v M))
def s_track_At : List AV → List Blk → (AV → List Blk → Ans) → Ans := fun xs bs K => match xs, bs with
  | [.v (.agg [.str nm, .int .i64 ra, .int .i64 dec]), .v (.c (.d (.int .i64 t)))], [] => K (rDirE (atS ⟨nm, ra, dec⟩ t)) []
  | _, _ => none
def T_track_At : Nat → List AV → List Blk → (AV → List Blk → Ans) → Ans := upd T_track_direction 30 s_track_At
theorem g_track_At : GOK Tryd.prog GT gbT T_track_At XT := by
  refine GOK.upd g_track_direction (fun args w => Tryd.call30 args w) fun xs bs K r h => ?_
  unfold s_track_At at h
  split at h
  · exact ⟨_, _, c_track_At _ _ _ _, h⟩
  · cases h


set_option maxRecDepth 100000 in
theorem w_track_Dot (a b c d e f g h i j k l : Int) (K : AV → List Blk → Ans) : evFn Tryd.prog GT EQT (inl Tryd.prog GT EQT XT [26, 27, 44] T_track_At 120 2) XT noL 120 11 [.v (.agg [.int .i64 a, .int .i64 b, .int .i64 c, .int .i64 d, .int .i64 e, .int .i64 f]), .v (.agg [.int .i64 g, .int .i64 h, .int .i64 i, .int .i64 j, .int .i64 k, .int .i64 l])] [] (fun v M => K v (M.take ([] : List Blk).length)) = dotAns K ⟨⟨a, b⟩, ⟨c, d⟩, ⟨e, f⟩⟩ ⟨⟨g, h⟩, ⟨i, j⟩, ⟨k, l⟩⟩ := by
  kernel_rfl
set_option maxRecDepth 100000 in
theorem c_track_Dot (a b c d e f g h i j k l : Int) : CallsA Tryd.prog GT gbT 11 [.v (.agg [.int .i64 a, .int .i64 b, .int .i64 c, .int .i64 d, .int .i64 e, .int .i64 f]), .v (.agg [.int .i64 g, .int .i64 h, .int .i64 i, .int .i64 j, .int .i64 k, .int .i64 l])] [] (rSpanE (dotS ⟨⟨a, b⟩, ⟨c, d⟩, ⟨e, f⟩⟩ ⟨⟨g, h⟩, ⟨i, j⟩, ⟨k, l⟩⟩)) [] := by
  refine CallsA.ofOk fun hok => ?_
  have hw := w_track_Dot a b c d e f g h i j k l (fun v M => some (Res.fin v M))
  refine CallsA.ofEv (Γ := (inl Tryd.prog GT EQT XT [26, 27, 44] T_track_At 120 2)) (X := XT) (Λ := noL) (EQ := EQT) (n := 120) (g_track_At.inl hEQT hmT (fun f hf => by simp only [List.mem_cons, List.not_mem_nil, or_false] at hf; rcases hf with rfl | rfl | rfl <;> first | exact (fun args w => Tryd.call26 args w) | exact (fun args w => Tryd.call27 args w) | exact (fun args w => Tryd.call44 args w)) 120 2) hEQT hmT (fun _ _ _ _ => noL_ok _) (hw.trans ?_)
  have h_a := inR_i64 (hok (.int .i64 a) (by simp [datasL, datas]))
  have h_b := inR_i64 (hok (.int .i64 b) (by simp [datasL, datas]))
  have h_c := inR_i64 (hok (.int .i64 c) (by simp [datasL, datas]))
  have h_d := inR_i64 (hok (.int .i64 d) (by simp [datasL, datas]))
  have h_e := inR_i64 (hok (.int .i64 e) (by simp [datasL, datas]))
  have h_f := inR_i64 (hok (.int .i64 f) (by simp [datasL, datas]))
  have h_g := inR_i64 (hok (.int .i64 g) (by simp [datasL, datas]))
  have h_h := inR_i64 (hok (.int .i64 h) (by simp [datasL, datas]))
  have h_i := inR_i64 (hok (.int .i64 i) (by simp [datasL, datas]))
  have h_j := inR_i64 (hok (.int .i64 j) (by simp [datasL, datas]))
  have h_k := inR_i64 (hok (.int .i64 k) (by simp [datasL, datas]))
  have h_l := inR_i64 (hok (.int .i64 l) (by simp [datasL, datas]))
  clear hok hw
  exact dotAns_ok (K := fun v M => some (Res.fin v M))
def s_track_Dot : List AV → List Blk → (AV → List Blk → Ans) → Ans := fun xs bs K => match xs, bs with
  | [.v (.agg [.int .i64 a, .int .i64 b, .int .i64 c, .int .i64 d, .int .i64 e, .int .i64 f]), .v (.agg [.int .i64 g, .int .i64 h, .int .i64 i, .int .i64 j, .int .i64 k, .int .i64 l])], [] => K (rSpanE (dotS ⟨⟨a, b⟩, ⟨c, d⟩, ⟨e, f⟩⟩ ⟨⟨g, h⟩, ⟨i, j⟩, ⟨k, l⟩⟩)) []
  | _, _ => none
def T_track_Dot : Nat → List AV → List Blk → (AV → List Blk → Ans) → Ans := upd T_track_At 11 s_track_Dot
theorem g_track_Dot : GOK Tryd.prog GT gbT T_track_Dot XT := by
  refine GOK.upd g_track_At (fun args w => Tryd.call11 args w) fun xs bs K r h => ?_
  unfold s_track_Dot at h
  split at h
  · exact ⟨_, _, c_track_Dot _ _ _ _ _ _ _ _ _ _ _ _, h⟩
  · cases h


set_option maxRecDepth 100000 in
theorem w_proj_circle (h : Int) (K : AV → List Blk → Ans) : evFn Tryd.prog GT EQT T_track_Dot XT noL 60 31 [.v (.c (.d (.int .i64 h)))] [] (fun v M => K v (M.take ([] : List Blk).length)) = K (rSpan2 (sinT h, cosT h)) [] := by
  kernel_rfl
set_option maxRecDepth 100000 in
theorem c_proj_circle (h : Int) : CallsA Tryd.prog GT gbT 31 [.v (.c (.d (.int .i64 h)))] [] (rSpan2 (sinT h, cosT h)) [] := by
  refine CallsA.ofOk fun hok => ?_
  have hw := w_proj_circle h (fun v M => some (Res.fin v M))
  refine CallsA.ofEv (Γ := T_track_Dot) (X := XT) (Λ := noL) (EQ := EQT) (n := 60) g_track_Dot hEQT hmT (fun _ _ _ _ => noL_ok _) (hw.trans ?_)
  rfl
def s_proj_circle : List AV → List Blk → (AV → List Blk → Ans) → Ans := fun xs bs K => match xs, bs with
  | [.v (.c (.d (.int .i64 h)))], [] => K (rSpan2 (sinT h, cosT h)) []
  | _, _ => none
def T_proj_circle : Nat → List AV → List Blk → (AV → List Blk → Ans) → Ans := upd T_track_Dot 31 s_proj_circle
theorem g_proj_circle : GOK Tryd.prog GT gbT T_proj_circle XT := by
  refine GOK.upd g_track_Dot (fun args w => Tryd.call31 args w) fun xs bs K r h => ?_
  unfold s_proj_circle at h
  split at h
  · exact ⟨_, _, c_proj_circle _, h⟩
  · cases h


set_option maxRecDepth 100000 in
theorem w_proj_opposite (a1 a2 : Int) (K : AV → List Blk → Ans) : evFn Tryd.prog GT EQT T_proj_circle XT noL 60 33 [.v (.agg [.int .i64 a1, .int .i64 a2])] [] (fun v M => K v (M.take ([] : List Blk).length)) = K (rSpan (negRaw ⟨a1, a2⟩)) [] := by
  kernel_rfl
set_option maxRecDepth 100000 in
theorem c_proj_opposite (a1 a2 : Int) : CallsA Tryd.prog GT gbT 33 [.v (.agg [.int .i64 a1, .int .i64 a2])] [] (rSpan (negRaw ⟨a1, a2⟩)) [] := by
  refine CallsA.ofOk fun hok => ?_
  have hw := w_proj_opposite a1 a2 (fun v M => some (Res.fin v M))
  refine CallsA.ofEv (Γ := T_proj_circle) (X := XT) (Λ := noL) (EQ := EQT) (n := 60) g_proj_circle hEQT hmT (fun _ _ _ _ => noL_ok _) (hw.trans ?_)
  rfl
def s_proj_opposite : List AV → List Blk → (AV → List Blk → Ans) → Ans := fun xs bs K => match xs, bs with
  | [.v (.agg [.int .i64 a1, .int .i64 a2])], [] => K (rSpan (negRaw ⟨a1, a2⟩)) []
  | _, _ => none
def T_proj_opposite : Nat → List AV → List Blk → (AV → List Blk → Ans) → Ans := upd T_proj_circle 33 s_proj_opposite
theorem g_proj_opposite : GOK Tryd.prog GT gbT T_proj_opposite XT := by
  refine GOK.upd g_proj_circle (fun args w => Tryd.call33 args w) fun xs bs K r h => ?_
  unfold s_proj_opposite at h
  split at h
  · exact ⟨_, _, c_proj_opposite _ _, h⟩
  · cases h


set_option maxRecDepth 100000 in
theorem w_proj_Axes (s1 : ByteArray) (s2 : Int) (s3 : Int) (t : Int) (K : AV → List Blk → Ans) : evFn Tryd.prog GT EQT T_proj_opposite XT noL 120 17 [.v (.agg [.str s1, .int .i64 s2, .int .i64 s3]), .v (.c (.d (.int .i64 t)))] [] (fun v M => K v (M.take ([] : List Blk).length)) = axesAns K ⟨s1, s2, s3⟩ t := by
  kernel_rfl
set_option maxRecDepth 100000 in
theorem c_proj_Axes (s1 : ByteArray) (s2 : Int) (s3 : Int) (t : Int) : CallsA Tryd.prog GT gbT 17 [.v (.agg [.str s1, .int .i64 s2, .int .i64 s3]), .v (.c (.d (.int .i64 t)))] [] (rFrameE (axesV ⟨s1, s2, s3⟩ t)) [] := by
  refine CallsA.ofOk fun hok => ?_
  have hw := w_proj_Axes s1 s2 s3 t (fun v M => some (Res.fin v M))
  refine CallsA.ofEv (Γ := T_proj_opposite) (X := XT) (Λ := noL) (EQ := EQT) (n := 120) g_proj_opposite hEQT hmT (fun _ _ _ _ => noL_ok _) (hw.trans ?_)
  have h_s2 := inR_i64 (hok (.int .i64 s2) (by simp [datasL, datas]))
  have h_s3 := inR_i64 (hok (.int .i64 s3) (by simp [datasL, datas]))
  have h_t := inR_i64 (hok (.int .i64 t) (by simp [datasL, datas]))
  clear hok hw
  exact axesAns_ok (K := fun v M => some (Res.fin v M))
def s_proj_Axes : List AV → List Blk → (AV → List Blk → Ans) → Ans := fun xs bs K => match xs, bs with
  | [.v (.agg [.str s1, .int .i64 s2, .int .i64 s3]), .v (.c (.d (.int .i64 t)))], [] => K (rFrameE (axesV ⟨s1, s2, s3⟩ t)) []
  | _, _ => none
def T_proj_Axes : Nat → List AV → List Blk → (AV → List Blk → Ans) → Ans := upd T_proj_opposite 17 s_proj_Axes
theorem g_proj_Axes : GOK Tryd.prog GT gbT T_proj_Axes XT := by
  refine GOK.upd g_proj_opposite (fun args w => Tryd.call17 args w) fun xs bs K r h => ?_
  unfold s_proj_Axes at h
  split at h
  · exact ⟨_, _, c_proj_Axes _ _ _ _, h⟩
  · cases h


set_option maxRecDepth 100000 in
theorem w_proj_Project (v1 : Int) (v2 : Int) (v3 : Int) (v4 : Int) (v5 : Int) (v6 : Int) (s1 : ByteArray) (s2 : Int) (s3 : Int) (t : Int) (K : AV → List Blk → Ans) : evFn Tryd.prog GT EQT (inl Tryd.prog GT EQT XT [23] T_proj_Axes 150 2) XT noL 150 8 [.v (.agg [.int .i64 v1, .int .i64 v2, .int .i64 v3, .int .i64 v4, .int .i64 v5, .int .i64 v6]), .v (.agg [.str s1, .int .i64 s2, .int .i64 s3]), .v (.c (.d (.int .i64 t)))] [] (fun v M => K v (M.take ([] : List Blk).length)) = projAns K ⟨⟨v1, v2⟩, ⟨v3, v4⟩, ⟨v5, v6⟩⟩ ⟨s1, s2, s3⟩ t := by
  kernel_rfl
set_option maxRecDepth 100000 in
theorem c_proj_Project (v1 : Int) (v2 : Int) (v3 : Int) (v4 : Int) (v5 : Int) (v6 : Int) (s1 : ByteArray) (s2 : Int) (s3 : Int) (t : Int) : CallsA Tryd.prog GT gbT 8 [.v (.agg [.int .i64 v1, .int .i64 v2, .int .i64 v3, .int .i64 v4, .int .i64 v5, .int .i64 v6]), .v (.agg [.str s1, .int .i64 s2, .int .i64 s3]), .v (.c (.d (.int .i64 t)))] [] (rDirE (projV ⟨⟨v1, v2⟩, ⟨v3, v4⟩, ⟨v5, v6⟩⟩ ⟨s1, s2, s3⟩ t)) [] := by
  refine CallsA.ofOk fun hok => ?_
  have hw := w_proj_Project v1 v2 v3 v4 v5 v6 s1 s2 s3 t (fun v M => some (Res.fin v M))
  refine CallsA.ofEv (Γ := (inl Tryd.prog GT EQT XT [23] T_proj_Axes 150 2)) (X := XT) (Λ := noL) (EQ := EQT) (n := 150) (g_proj_Axes.inl hEQT hmT (fun f hf => by simp only [List.mem_cons, List.not_mem_nil, or_false] at hf; subst hf; exact (fun args w => Tryd.call23 args w)) 150 2) hEQT hmT (fun _ _ _ _ => noL_ok _) (hw.trans ?_)
  have h_v1 := inR_i64 (hok (.int .i64 v1) (by simp [datasL, datas]))
  have h_v2 := inR_i64 (hok (.int .i64 v2) (by simp [datasL, datas]))
  have h_v3 := inR_i64 (hok (.int .i64 v3) (by simp [datasL, datas]))
  have h_v4 := inR_i64 (hok (.int .i64 v4) (by simp [datasL, datas]))
  have h_v5 := inR_i64 (hok (.int .i64 v5) (by simp [datasL, datas]))
  have h_v6 := inR_i64 (hok (.int .i64 v6) (by simp [datasL, datas]))
  have h_s2 := inR_i64 (hok (.int .i64 s2) (by simp [datasL, datas]))
  have h_s3 := inR_i64 (hok (.int .i64 s3) (by simp [datasL, datas]))
  have h_t := inR_i64 (hok (.int .i64 t) (by simp [datasL, datas]))
  clear hok hw
  exact projAns_ok (K := fun v M => some (Res.fin v M))
def s_proj_Project : List AV → List Blk → (AV → List Blk → Ans) → Ans := fun xs bs K => match xs, bs with
  | [.v (.agg [.int .i64 v1, .int .i64 v2, .int .i64 v3, .int .i64 v4, .int .i64 v5, .int .i64 v6]), .v (.agg [.str s1, .int .i64 s2, .int .i64 s3]), .v (.c (.d (.int .i64 t)))], [] => K (rDirE (projV ⟨⟨v1, v2⟩, ⟨v3, v4⟩, ⟨v5, v6⟩⟩ ⟨s1, s2, s3⟩ t)) []
  | _, _ => none
def T_proj_Project : Nat → List AV → List Blk → (AV → List Blk → Ans) → Ans := upd T_proj_Axes 8 s_proj_Project
theorem g_proj_Project : GOK Tryd.prog GT gbT T_proj_Project XT := by
  refine GOK.upd g_proj_Axes (fun args w => Tryd.call8 args w) fun xs bs K r h => ?_
  unfold s_proj_Project at h
  split at h
  · exact ⟨_, _, c_proj_Project _ _ _ _ _ _ _ _ _ _, h⟩
  · cases h


set_option maxRecDepth 100000 in
theorem w_proj_Norm (v1 v2 v3 v4 v5 v6 : Int) (K : AV → List Blk → Ans) : evFn Tryd.prog GT EQT T_proj_Project XT noL 60 10 [.v (.agg [.int .i64 v1, .int .i64 v2, .int .i64 v3, .int .i64 v4, .int .i64 v5, .int .i64 v6])] [] (fun v M => K v (M.take ([] : List Blk).length)) = normAns K ⟨⟨v1, v2⟩, ⟨v3, v4⟩, ⟨v5, v6⟩⟩ := by
  kernel_rfl
set_option maxRecDepth 100000 in
theorem c_proj_Norm (v1 v2 v3 v4 v5 v6 : Int) : CallsA Tryd.prog GT gbT 10 [.v (.agg [.int .i64 v1, .int .i64 v2, .int .i64 v3, .int .i64 v4, .int .i64 v5, .int .i64 v6])] [] (rSpanE (normV ⟨⟨v1, v2⟩, ⟨v3, v4⟩, ⟨v5, v6⟩⟩)) [] := by
  refine CallsA.ofOk fun hok => ?_
  have hw := w_proj_Norm v1 v2 v3 v4 v5 v6 (fun v M => some (Res.fin v M))
  refine CallsA.ofEv (Γ := T_proj_Project) (X := XT) (Λ := noL) (EQ := EQT) (n := 60) g_proj_Project hEQT hmT (fun _ _ _ _ => noL_ok _) (hw.trans ?_)
  have h_v1 := inR_i64 (hok (.int .i64 v1) (by simp [datasL, datas]))
  have h_v2 := inR_i64 (hok (.int .i64 v2) (by simp [datasL, datas]))
  have h_v3 := inR_i64 (hok (.int .i64 v3) (by simp [datasL, datas]))
  have h_v4 := inR_i64 (hok (.int .i64 v4) (by simp [datasL, datas]))
  have h_v5 := inR_i64 (hok (.int .i64 v5) (by simp [datasL, datas]))
  have h_v6 := inR_i64 (hok (.int .i64 v6) (by simp [datasL, datas]))
  clear hok hw
  exact normAns_ok (K := fun v M => some (Res.fin v M))
def s_proj_Norm : List AV → List Blk → (AV → List Blk → Ans) → Ans := fun xs bs K => match xs, bs with
  | [.v (.agg [.int .i64 v1, .int .i64 v2, .int .i64 v3, .int .i64 v4, .int .i64 v5, .int .i64 v6])], [] => K (rSpanE (normV ⟨⟨v1, v2⟩, ⟨v3, v4⟩, ⟨v5, v6⟩⟩)) []
  | _, _ => none
def T_proj_Norm : Nat → List AV → List Blk → (AV → List Blk → Ans) → Ans := upd T_proj_Project 10 s_proj_Norm
theorem g_proj_Norm : GOK Tryd.prog GT gbT T_proj_Norm XT := by
  refine GOK.upd g_proj_Project (fun args w => Tryd.call10 args w) fun xs bs K r h => ?_
  unfold s_proj_Norm at h
  split at h
  · exact ⟨_, _, c_proj_Norm _ _ _ _ _ _, h⟩
  · cases h


set_option maxRecDepth 100000 in
theorem w_Q6_Tick (t : Int) (K : AV → List Blk → Ans) : evFn Tryd.prog GT EQT T_proj_Norm XT noL 60 20 [.v (.c (.d (.int .i64 t)))] [] (fun v M => K v (M.take ([] : List Blk).length)) = K (rB (tickB t)) [] := by
  simp only [tickB, pullK K]
  kernel_rfl
set_option maxRecDepth 100000 in
theorem c_Q6_Tick (t : Int) : CallsA Tryd.prog GT gbT 20 [.v (.c (.d (.int .i64 t)))] [] (rB (tickB t)) [] := by
  refine CallsA.ofOk fun hok => ?_
  have hw := w_Q6_Tick t (fun v M => some (Res.fin v M))
  refine CallsA.ofEv (Γ := T_proj_Norm) (X := XT) (Λ := noL) (EQ := EQT) (n := 60) g_proj_Norm hEQT hmT (fun _ _ _ _ => noL_ok _) (hw.trans ?_)
  rfl
def s_Q6_Tick : List AV → List Blk → (AV → List Blk → Ans) → Ans := fun xs bs K => match xs, bs with
  | [.v (.c (.d (.int .i64 t)))], [] => K (rB (tickB t)) []
  | _, _ => none
def T_Q6_Tick : Nat → List AV → List Blk → (AV → List Blk → Ans) → Ans := upd T_proj_Norm 20 s_Q6_Tick
theorem g_Q6_Tick : GOK Tryd.prog GT gbT T_Q6_Tick XT := by
  refine GOK.upd g_proj_Norm (fun args w => Tryd.call20 args w) fun xs bs K r h => ?_
  unfold s_Q6_Tick at h
  split at h
  · exact ⟨_, _, c_Q6_Tick _, h⟩
  · cases h


set_option maxRecDepth 100000 in
theorem w_Q6_Common (a1 a2 b1 b2 : Int) (K : AV → List Blk → Ans) : evFn Tryd.prog GT EQT T_Q6_Tick XT noL 60 12 [.v (.agg [.int .i64 a1, .int .i64 a2]), .v (.agg [.int .i64 b1, .int .i64 b2])] [] (fun v M => K v (M.take ([] : List Blk).length)) = K (rB (commonB ⟨a1, a2⟩ ⟨b1, b2⟩)) [] := by
  simp only [commonB, pullK K]
  kernel_rfl
set_option maxRecDepth 100000 in
theorem c_Q6_Common (a1 a2 b1 b2 : Int) : CallsA Tryd.prog GT gbT 12 [.v (.agg [.int .i64 a1, .int .i64 a2]), .v (.agg [.int .i64 b1, .int .i64 b2])] [] (rB (commonB ⟨a1, a2⟩ ⟨b1, b2⟩)) [] := by
  refine CallsA.ofOk fun hok => ?_
  have hw := w_Q6_Common a1 a2 b1 b2 (fun v M => some (Res.fin v M))
  refine CallsA.ofEv (Γ := T_Q6_Tick) (X := XT) (Λ := noL) (EQ := EQT) (n := 60) g_Q6_Tick hEQT hmT (fun _ _ _ _ => noL_ok _) (hw.trans ?_)
  rfl
def s_Q6_Common : List AV → List Blk → (AV → List Blk → Ans) → Ans := fun xs bs K => match xs, bs with
  | [.v (.agg [.int .i64 a1, .int .i64 a2]), .v (.agg [.int .i64 b1, .int .i64 b2])], [] => K (rB (commonB ⟨a1, a2⟩ ⟨b1, b2⟩)) []
  | _, _ => none
def T_Q6_Common : Nat → List AV → List Blk → (AV → List Blk → Ans) → Ans := upd T_Q6_Tick 12 s_Q6_Common
theorem g_Q6_Common : GOK Tryd.prog GT gbT T_Q6_Common XT := by
  refine GOK.upd g_Q6_Tick (fun args w => Tryd.call12 args w) fun xs bs K r h => ?_
  unfold s_Q6_Common at h
  split at h
  · exact ⟨_, _, c_Q6_Common _ _ _ _, h⟩
  · cases h


set_option maxRecDepth 100000 in
theorem w_W8_of (n : Int) (K : AV → List Blk → Ans) : evFn Tryd.prog GT EQT T_Q6_Common XT noL 60 9 [.v (.c (.d (.int .i64 n)))] [] (fun v M => K v (M.take ([] : List Blk).length)) = K (rSpan ⟨w64 (1000000 * n), w64 (1000000 * n)⟩) [] := by
  kernel_rfl
set_option maxRecDepth 100000 in
theorem c_W8_of (n : Int) : CallsA Tryd.prog GT gbT 9 [.v (.c (.d (.int .i64 n)))] [] (rSpan ⟨w64 (1000000 * n), w64 (1000000 * n)⟩) [] := by
  refine CallsA.ofOk fun hok => ?_
  have hw := w_W8_of n (fun v M => some (Res.fin v M))
  refine CallsA.ofEv (Γ := T_Q6_Common) (X := XT) (Λ := noL) (EQ := EQT) (n := 60) g_Q6_Common hEQT hmT (fun _ _ _ _ => noL_ok _) (hw.trans ?_)
  rfl
def s_W8_of : List AV → List Blk → (AV → List Blk → Ans) → Ans := fun xs bs K => match xs, bs with
  | [.v (.c (.d (.int .i64 n)))], [] => K (rSpan ⟨w64 (1000000 * n), w64 (1000000 * n)⟩) []
  | _, _ => none
def T_W8_of : Nat → List AV → List Blk → (AV → List Blk → Ans) → Ans := upd T_Q6_Common 9 s_W8_of
theorem g_W8_of : GOK Tryd.prog GT gbT T_W8_of XT := by
  refine GOK.upd g_Q6_Common (fun args w => Tryd.call9 args w) fun xs bs K r h => ?_
  unfold s_W8_of at h
  split at h
  · exact ⟨_, _, c_W8_of _, h⟩
  · cases h


set_option maxRecDepth 100000 in
theorem w_W8_fit (s1 : ByteArray) (s2 : Int) (s3 : Int) (t : Int) (K : AV → List Blk → Ans) : evFn Tryd.prog GT EQT T_W8_of XT noL 60 5 [.v (.agg [.str s1, .int .i64 s2, .int .i64 s3]), .v (.c (.d (.int .i64 t)))] [] (fun v M => K v (M.take ([] : List Blk).length)) = K (rB (fit8B ⟨s1, s2, s3⟩ t)) [] := by
  simp only [fit8B, pullK K]
  kernel_rfl
set_option maxRecDepth 100000 in
theorem c_W8_fit (s1 : ByteArray) (s2 : Int) (s3 : Int) (t : Int) : CallsA Tryd.prog GT gbT 5 [.v (.agg [.str s1, .int .i64 s2, .int .i64 s3]), .v (.c (.d (.int .i64 t)))] [] (rB (fit8B ⟨s1, s2, s3⟩ t)) [] := by
  refine CallsA.ofOk fun hok => ?_
  have hw := w_W8_fit s1 s2 s3 t (fun v M => some (Res.fin v M))
  refine CallsA.ofEv (Γ := T_W8_of) (X := XT) (Λ := noL) (EQ := EQT) (n := 60) g_W8_of hEQT hmT (fun _ _ _ _ => noL_ok _) (hw.trans ?_)
  rfl
def s_W8_fit : List AV → List Blk → (AV → List Blk → Ans) → Ans := fun xs bs K => match xs, bs with
  | [.v (.agg [.str s1, .int .i64 s2, .int .i64 s3]), .v (.c (.d (.int .i64 t)))], [] => K (rB (fit8B ⟨s1, s2, s3⟩ t)) []
  | _, _ => none
def T_W8_fit : Nat → List AV → List Blk → (AV → List Blk → Ans) → Ans := upd T_W8_of 5 s_W8_fit
theorem g_W8_fit : GOK Tryd.prog GT gbT T_W8_fit XT := by
  refine GOK.upd g_W8_of (fun args w => Tryd.call5 args w) fun xs bs K r h => ?_
  unfold s_W8_fit at h
  split at h
  · exact ⟨_, _, c_W8_fit _ _ _ _, h⟩
  · cases h


set_option maxRecDepth 100000 in
theorem w_W8_alive (K : AV → List Blk → Ans) : evFn Tryd.prog GT EQT (inl Tryd.prog GT EQT XT [15, 18] T_W8_fit 150 2) XT noL 150 7 [] [] (fun v M => K v (M.take ([] : List Blk).length)) = K (rB true) [] := by
  kernel_rfl
set_option maxRecDepth 100000 in
theorem c_W8_alive : CallsA Tryd.prog GT gbT 7 [] [] (rB true) [] := by
  refine CallsA.ofOk fun hok => ?_
  have hw := w_W8_alive (fun v M => some (Res.fin v M))
  refine CallsA.ofEv (Γ := (inl Tryd.prog GT EQT XT [15, 18] T_W8_fit 150 2)) (X := XT) (Λ := noL) (EQ := EQT) (n := 150) (g_W8_fit.inl hEQT hmT (fun f hf => by simp only [List.mem_cons, List.not_mem_nil, or_false] at hf; rcases hf with rfl | rfl <;> first | exact (fun args w => Tryd.call15 args w) | exact (fun args w => Tryd.call18 args w)) 150 2) hEQT hmT (fun _ _ _ _ => noL_ok _) (hw.trans ?_)
  rfl
def s_W8_alive : List AV → List Blk → (AV → List Blk → Ans) → Ans := fun xs bs K => match xs, bs with
  | [], [] => K (rB true) []
  | _, _ => none
def T_W8_alive : Nat → List AV → List Blk → (AV → List Blk → Ans) → Ans := upd T_W8_fit 7 s_W8_alive
theorem g_W8_alive : GOK Tryd.prog GT gbT T_W8_alive XT := by
  refine GOK.upd g_W8_fit (fun args w => Tryd.call7 args w) fun xs bs K r h => ?_
  unfold s_W8_alive at h
  split at h
  · exact ⟨_, _, c_W8_alive, h⟩
  · cases h


set_option maxRecDepth 100000 in
theorem w_frac_Make (n d : Int) (K : AV → List Blk → Ans) : evFn Tryd.prog GT EQT T_W8_alive XT noL 60 89 [.v (.c (.d (.int .i64 n))), .v (.c (.d (.int .i64 d)))] [] (fun v M => K v (M.take ([] : List Blk).length)) = makePAns K n d := by
  kernel_rfl
set_option maxRecDepth 100000 in
theorem c_frac_Make (n d : Int) : CallsA Tryd.prog GT gbT 89 [.v (.c (.d (.int .i64 n))), .v (.c (.d (.int .i64 d)))] [] (rFracE (makeF n d)) [] := by
  refine CallsA.ofOk fun hok => ?_
  have hw := w_frac_Make n d (fun v M => some (Res.fin v M))
  refine CallsA.ofEv (Γ := T_W8_alive) (X := XT) (Λ := noL) (EQ := EQT) (n := 60) g_W8_alive hEQT hmT (fun _ _ _ _ => noL_ok _) (hw.trans ?_)
  have h_n := inR_i64 (hok (.int .i64 n) (by simp [datasL, datas]))
  have h_d := inR_i64 (hok (.int .i64 d) (by simp [datasL, datas]))
  clear hok hw
  exact makePAns_ok (K := fun v M => some (Res.fin v M)) h_n h_d
def s_frac_Make : List AV → List Blk → (AV → List Blk → Ans) → Ans := fun xs bs K => match xs, bs with
  | [.v (.c (.d (.int .i64 n))), .v (.c (.d (.int .i64 d)))], [] => K (rFracE (makeF n d)) []
  | _, _ => none
def T_frac_Make : Nat → List AV → List Blk → (AV → List Blk → Ans) → Ans := upd T_W8_alive 89 s_frac_Make
theorem g_frac_Make : GOK Tryd.prog GT gbT T_frac_Make XT := by
  refine GOK.upd g_W8_alive (fun args w => Tryd.call89 args w) fun xs bs K r h => ?_
  unfold s_frac_Make at h
  split at h
  · exact ⟨_, _, c_frac_Make _ _, h⟩
  · cases h


end Go.Ev

namespace Go.Ev
open Go Go.Proofs

set_option maxRecDepth 100000 in
theorem w_geoid_Check (g1 g2 : Int) (K : AV → List Blk → Ans) : evFn Tryd.prog GT EQT T_frac_Make XT noL 60 62 [.v (.agg [.int .i64 g1, .int .i64 g2])] [] (fun v M => K v (M.take ([] : List Blk).length)) = K (rI (checkGRaw ⟨g1, g2⟩)) [] := by
  simp only [checkGRaw, pullK K]
  kernel_rfl
set_option maxRecDepth 100000 in
theorem c_geoid_Check (g1 g2 : Int) : CallsA Tryd.prog GT gbT 62 [.v (.agg [.int .i64 g1, .int .i64 g2])] [] (rI (checkG ⟨g1, g2⟩)) [] := by
  refine CallsA.ofOk fun hok => ?_
  have hw := w_geoid_Check g1 g2 (fun v M => some (Res.fin v M))
  refine CallsA.ofEv (Γ := T_frac_Make) (X := XT) (Λ := noL) (EQ := EQT) (n := 60) g_frac_Make hEQT hmT (fun _ _ _ _ => noL_ok _) (hw.trans ?_)
  have h_g1 := inR_i64 (hok (.int .i64 g1) (by simp [datasL, datas]))
  have h_g2 := inR_i64 (hok (.int .i64 g2) (by simp [datasL, datas]))
  clear hok hw
  refine congrArg (fun v => some (Res.fin v [])) ?_
  rw [checkGRaw_ok]
def s_geoid_Check : List AV → List Blk → (AV → List Blk → Ans) → Ans := fun xs bs K => match xs, bs with
  | [.v (.agg [.int .i64 g1, .int .i64 g2])], [] => K (rI (checkG ⟨g1, g2⟩)) []
  | _, _ => none
def T_geoid_Check : Nat → List AV → List Blk → (AV → List Blk → Ans) → Ans := upd T_frac_Make 62 s_geoid_Check
theorem g_geoid_Check : GOK Tryd.prog GT gbT T_geoid_Check XT := by
  refine GOK.upd g_frac_Make (fun args w => Tryd.call62 args w) fun xs bs K r h => ?_
  unfold s_geoid_Check at h
  split at h
  · exact ⟨_, _, c_geoid_Check _ _, h⟩
  · cases h


set_option maxRecDepth 100000 in
theorem w_geoid_param (f1 f2 : Int) (K : AV → List Blk → Ans) : evFn Tryd.prog GT EQT T_geoid_Check XT noL 60 78 [.v (.agg [.int .i64 f1, .int .i64 f2])] [] (fun v M => K v (M.take ([] : List Blk).length)) = paramAns K ⟨f1, f2⟩ := by
  kernel_rfl
set_option maxRecDepth 100000 in
theorem c_geoid_param (f1 f2 : Int) : CallsA Tryd.prog GT gbT 78 [.v (.agg [.int .i64 f1, .int .i64 f2])] [] (rB (paramB ⟨f1, f2⟩)) [] := by
  refine CallsA.ofOk fun hok => ?_
  have hw := w_geoid_param f1 f2 (fun v M => some (Res.fin v M))
  refine CallsA.ofEv (Γ := T_geoid_Check) (X := XT) (Λ := noL) (EQ := EQT) (n := 60) g_geoid_Check hEQT hmT (fun _ _ _ _ => noL_ok _) (hw.trans ?_)
  have h_f1 := inR_i64 (hok (.int .i64 f1) (by simp [datasL, datas]))
  have h_f2 := inR_i64 (hok (.int .i64 f2) (by simp [datasL, datas]))
  clear hok hw
  exact paramAns_ok (K := fun v M => some (Res.fin v M))
def s_geoid_param : List AV → List Blk → (AV → List Blk → Ans) → Ans := fun xs bs K => match xs, bs with
  | [.v (.agg [.int .i64 f1, .int .i64 f2])], [] => K (rB (paramB ⟨f1, f2⟩)) []
  | _, _ => none
def T_geoid_param : Nat → List AV → List Blk → (AV → List Blk → Ans) → Ans := upd T_geoid_Check 78 s_geoid_param
theorem g_geoid_param : GOK Tryd.prog GT gbT T_geoid_param XT := by
  refine GOK.upd g_geoid_Check (fun args w => Tryd.call78 args w) fun xs bs K r h => ?_
  unfold s_geoid_param at h
  split at h
  · exact ⟨_, _, c_geoid_param _ _, h⟩
  · cases h


set_option maxRecDepth 100000 in
theorem w_geoid_whole (n : Int) (K : AV → List Blk → Ans) : evFn Tryd.prog GT EQT T_geoid_param XT noL 60 80 [.v (.c (.d (.int .i64 n)))] [] (fun v M => K v (M.take ([] : List Blk).length)) = K (rFrac (wholeF n)) [] := by
  kernel_rfl
set_option maxRecDepth 100000 in
theorem c_geoid_whole (n : Int) : CallsA Tryd.prog GT gbT 80 [.v (.c (.d (.int .i64 n)))] [] (rFrac (wholeF n)) [] := by
  refine CallsA.ofOk fun hok => ?_
  have hw := w_geoid_whole n (fun v M => some (Res.fin v M))
  refine CallsA.ofEv (Γ := T_geoid_param) (X := XT) (Λ := noL) (EQ := EQT) (n := 60) g_geoid_param hEQT hmT (fun _ _ _ _ => noL_ok _) (hw.trans ?_)
  rfl
def s_geoid_whole : List AV → List Blk → (AV → List Blk → Ans) → Ans := fun xs bs K => match xs, bs with
  | [.v (.c (.d (.int .i64 n)))], [] => K (rFrac (wholeF n)) []
  | _, _ => none
def T_geoid_whole : Nat → List AV → List Blk → (AV → List Blk → Ans) → Ans := upd T_geoid_param 80 s_geoid_whole
theorem g_geoid_whole : GOK Tryd.prog GT gbT T_geoid_whole XT := by
  refine GOK.upd g_geoid_param (fun args w => Tryd.call80 args w) fun xs bs K r h => ?_
  unfold s_geoid_whole at h
  split at h
  · exact ⟨_, _, c_geoid_whole _, h⟩
  · cases h


set_option maxRecDepth 100000 in
theorem w_geoid_around (u1 u2 : Int) (K : AV → List Blk → Ans) : evFn Tryd.prog GT EQT T_geoid_whole XT noL 60 79 [.v (.agg [.int .i64 u1, .int .i64 u2])] [] (fun v M => K v (M.take ([] : List Blk).length)) = aroundRaw K ⟨u1, u2⟩ := by
  kernel_rfl
set_option maxRecDepth 100000 in
theorem c_geoid_around (u1 u2 : Int) (hd : (paramB ⟨u1, u2⟩) = true) : CallsA Tryd.prog GT gbT 79 [.v (.agg [.int .i64 u1, .int .i64 u2])] [] (rFF (cosU ⟨u1, u2⟩) (sinU ⟨u1, u2⟩)) [] := by
  refine CallsA.ofOk fun hok => ?_
  have hw := w_geoid_around u1 u2 (fun v M => some (Res.fin v M))
  refine CallsA.ofEv (Γ := T_geoid_whole) (X := XT) (Λ := noL) (EQ := EQT) (n := 60) g_geoid_whole hEQT hmT (fun _ _ _ _ => noL_ok _) (hw.trans ?_)
  have h_u1 := inR_i64 (hok (.int .i64 u1) (by simp [datasL, datas]))
  have h_u2 := inR_i64 (hok (.int .i64 u2) (by simp [datasL, datas]))
  clear hok hw
  exact around_ok (K := fun v M => some (Res.fin v M)) (paramB_iff.1 hd)
def s_geoid_around : List AV → List Blk → (AV → List Blk → Ans) → Ans := fun xs bs K => match xs, bs with
  | [.v (.agg [.int .i64 u1, .int .i64 u2])], [] => bif paramB ⟨u1, u2⟩ then K (rFF (cosU ⟨u1, u2⟩) (sinU ⟨u1, u2⟩)) [] else none
  | _, _ => none
def T_geoid_around : Nat → List AV → List Blk → (AV → List Blk → Ans) → Ans := upd T_geoid_whole 79 s_geoid_around
theorem g_geoid_around : GOK Tryd.prog GT gbT T_geoid_around XT := by
  refine GOK.upd g_geoid_whole (fun args w => Tryd.call79 args w) fun xs bs K r h => ?_
  unfold s_geoid_around at h
  split at h
  · simp only [cond_eq_ite] at h
    split at h
    · exact ⟨_, _, c_geoid_around _ _ ‹_›, h⟩
    · cases h
  · cases h


set_option maxRecDepth 100000 in
theorem w_geoid_At (g1 g2 s1 s2 t1 t2 : Int) (K : AV → List Blk → Ans) : evFn Tryd.prog GT EQT T_geoid_around XT noL 100 64 [.v (.agg [.int .i64 g1, .int .i64 g2]), .v (.agg [.int .i64 s1, .int .i64 s2]), .v (.agg [.int .i64 t1, .int .i64 t2])] [] (fun v M => K v (M.take ([] : List Blk).length)) = atGAns K ⟨g1, g2⟩ ⟨s1, s2⟩ ⟨t1, t2⟩ := by
  kernel_rfl
set_option maxRecDepth 100000 in
theorem c_geoid_At (g1 g2 s1 s2 t1 t2 : Int) : CallsA Tryd.prog GT gbT 64 [.v (.agg [.int .i64 g1, .int .i64 g2]), .v (.agg [.int .i64 s1, .int .i64 s2]), .v (.agg [.int .i64 t1, .int .i64 t2])] [] (rVecE (atV ⟨g1, g2⟩ ⟨s1, s2⟩ ⟨t1, t2⟩)) [] := by
  refine CallsA.ofOk fun hok => ?_
  have hw := w_geoid_At g1 g2 s1 s2 t1 t2 (fun v M => some (Res.fin v M))
  refine CallsA.ofEv (Γ := T_geoid_around) (X := XT) (Λ := noL) (EQ := EQT) (n := 100) g_geoid_around hEQT hmT (fun _ _ _ _ => noL_ok _) (hw.trans ?_)
  have h_g1 := inR_i64 (hok (.int .i64 g1) (by simp [datasL, datas]))
  have h_g2 := inR_i64 (hok (.int .i64 g2) (by simp [datasL, datas]))
  have h_s1 := inR_i64 (hok (.int .i64 s1) (by simp [datasL, datas]))
  have h_s2 := inR_i64 (hok (.int .i64 s2) (by simp [datasL, datas]))
  have h_t1 := inR_i64 (hok (.int .i64 t1) (by simp [datasL, datas]))
  have h_t2 := inR_i64 (hok (.int .i64 t2) (by simp [datasL, datas]))
  clear hok hw
  exact atGAns_ok (K := fun v M => some (Res.fin v M))
def s_geoid_At : List AV → List Blk → (AV → List Blk → Ans) → Ans := fun xs bs K => match xs, bs with
  | [.v (.agg [.int .i64 g1, .int .i64 g2]), .v (.agg [.int .i64 s1, .int .i64 s2]), .v (.agg [.int .i64 t1, .int .i64 t2])], [] => K (rVecE (atV ⟨g1, g2⟩ ⟨s1, s2⟩ ⟨t1, t2⟩)) []
  | _, _ => none
def T_geoid_At : Nat → List AV → List Blk → (AV → List Blk → Ans) → Ans := upd T_geoid_around 64 s_geoid_At
theorem g_geoid_At : GOK Tryd.prog GT gbT T_geoid_At XT := by
  refine GOK.upd g_geoid_around (fun args w => Tryd.call64 args w) fun xs bs K r h => ?_
  unfold s_geoid_At at h
  split at h
  · exact ⟨_, _, c_geoid_At _ _ _ _ _ _, h⟩
  · cases h


end Go.Ev

namespace Go.Ev
open Go Go.Proofs

structure R_array_valid_0 where
  k : Nat
  p32 : Int

def run_array_valid_0 (p2 : Bool) (p31 : Int) (q0 : Site) : Nat → Int → R_array_valid_0
  | 0, p32 => ⟨2, p32⟩
  | n + 1, p32 => bif decide (p32 < p31) then (bif (decide (0 ≤ p32) && decide (p32 < (q0.name.size : Int))) then (bif decide ((byteAt q0.name p32) < (97 : Int)) then (bif decide ((byteAt q0.name p32) < (48 : Int)) then (bif ((byteAt q0.name p32) != (45 : Int)) then ⟨0, p32⟩ else run_array_valid_0 p2 p31 q0 n (w64 (p32 + (1 : Int)))) else (bif decide ((57 : Int) < (byteAt q0.name p32)) then (bif ((byteAt q0.name p32) != (45 : Int)) then ⟨0, p32⟩ else run_array_valid_0 p2 p31 q0 n (w64 (p32 + (1 : Int)))) else run_array_valid_0 p2 p31 q0 n (w64 (p32 + (1 : Int))))) else (bif decide ((122 : Int) < (byteAt q0.name p32)) then (bif decide ((byteAt q0.name p32) < (48 : Int)) then (bif ((byteAt q0.name p32) != (45 : Int)) then ⟨0, p32⟩ else run_array_valid_0 p2 p31 q0 n (w64 (p32 + (1 : Int)))) else (bif decide ((57 : Int) < (byteAt q0.name p32)) then (bif ((byteAt q0.name p32) != (45 : Int)) then ⟨0, p32⟩ else run_array_valid_0 p2 p31 q0 n (w64 (p32 + (1 : Int)))) else run_array_valid_0 p2 p31 q0 n (w64 (p32 + (1 : Int))))) else run_array_valid_0 p2 p31 q0 n (w64 (p32 + (1 : Int))))) else ⟨2, p32⟩) else ⟨1, p32⟩

def lp_array_valid_0 (p2 : Bool) (p31 : Int) (q0 : Site) (p32 : Int) : R_array_valid_0 := run_array_valid_0 p2 p31 q0 (2000 + (stuckI p31)) p32

abbrev H_array_valid_0 (p2 : Bool) (p31 : Int) (q0 : Site) (p32 : Int) : TS := headT [1, 2, 31, 32] 69 [.v (.c (.ptr 0 0)), .v (.c (.d (.bool p2))), .v (.c (.d (.int .i64 p31))), .v (.c (.d (.int .i64 p32)))]

set_option maxRecDepth 100000 in
theorem b_array_valid_0 (p2 : Bool) (p31 : Int) (q0 : Site) (p32 : Int) : evCode Tryd.prog GT EQT T_geoid_At XT noL 120 (loopB Tryd.prog 77 0) (H_array_valid_0 p2 p31 q0 p32) [.rw 47 [.str q0.name, .int .i64 q0.s.num, .int .i64 q0.s.den, .int .i64 q0.t.num, .int .i64 q0.t.den]] 1 (normK 0 [1, 2, 31, 32]) =
    bif decide (p32 < p31) then (bif (decide (0 ≤ p32) && decide (p32 < (q0.name.size : Int))) then (bif decide ((byteAt q0.name p32) < (97 : Int)) then (bif decide ((byteAt q0.name p32) < (48 : Int)) then (bif ((byteAt q0.name p32) != (45 : Int)) then some (.st .ret (headT [1, 2, 31, 32] 69 [.v (.c (.ptr 0 0)), .v (.c (.d (.bool false))), .v (.c (.d (.int .i64 p31))), .v (.c (.d (.int .i64 p32)))]) [.rw 47 [.str q0.name, .int .i64 q0.s.num, .int .i64 q0.s.den, .int .i64 q0.t.num, .int .i64 q0.t.den]] 1) else some (.st .normal (headT [1, 2, 31, 32] 69 [.v (.c (.ptr 0 0)), .v (.c (.d (.bool p2))), .v (.c (.d (.int .i64 p31))), .v (.c (.d (.int .i64 (w64 (p32 + (1 : Int))))))]) [.rw 47 [.str q0.name, .int .i64 q0.s.num, .int .i64 q0.s.den, .int .i64 q0.t.num, .int .i64 q0.t.den]] 1)) else (bif decide ((57 : Int) < (byteAt q0.name p32)) then (bif ((byteAt q0.name p32) != (45 : Int)) then some (.st .ret (headT [1, 2, 31, 32] 69 [.v (.c (.ptr 0 0)), .v (.c (.d (.bool false))), .v (.c (.d (.int .i64 p31))), .v (.c (.d (.int .i64 p32)))]) [.rw 47 [.str q0.name, .int .i64 q0.s.num, .int .i64 q0.s.den, .int .i64 q0.t.num, .int .i64 q0.t.den]] 1) else some (.st .normal (headT [1, 2, 31, 32] 69 [.v (.c (.ptr 0 0)), .v (.c (.d (.bool p2))), .v (.c (.d (.int .i64 p31))), .v (.c (.d (.int .i64 (w64 (p32 + (1 : Int))))))]) [.rw 47 [.str q0.name, .int .i64 q0.s.num, .int .i64 q0.s.den, .int .i64 q0.t.num, .int .i64 q0.t.den]] 1)) else some (.st .normal (headT [1, 2, 31, 32] 69 [.v (.c (.ptr 0 0)), .v (.c (.d (.bool p2))), .v (.c (.d (.int .i64 p31))), .v (.c (.d (.int .i64 (w64 (p32 + (1 : Int))))))]) [.rw 47 [.str q0.name, .int .i64 q0.s.num, .int .i64 q0.s.den, .int .i64 q0.t.num, .int .i64 q0.t.den]] 1))) else (bif decide ((122 : Int) < (byteAt q0.name p32)) then (bif decide ((byteAt q0.name p32) < (48 : Int)) then (bif ((byteAt q0.name p32) != (45 : Int)) then some (.st .ret (headT [1, 2, 31, 32] 69 [.v (.c (.ptr 0 0)), .v (.c (.d (.bool false))), .v (.c (.d (.int .i64 p31))), .v (.c (.d (.int .i64 p32)))]) [.rw 47 [.str q0.name, .int .i64 q0.s.num, .int .i64 q0.s.den, .int .i64 q0.t.num, .int .i64 q0.t.den]] 1) else some (.st .normal (headT [1, 2, 31, 32] 69 [.v (.c (.ptr 0 0)), .v (.c (.d (.bool p2))), .v (.c (.d (.int .i64 p31))), .v (.c (.d (.int .i64 (w64 (p32 + (1 : Int))))))]) [.rw 47 [.str q0.name, .int .i64 q0.s.num, .int .i64 q0.s.den, .int .i64 q0.t.num, .int .i64 q0.t.den]] 1)) else (bif decide ((57 : Int) < (byteAt q0.name p32)) then (bif ((byteAt q0.name p32) != (45 : Int)) then some (.st .ret (headT [1, 2, 31, 32] 69 [.v (.c (.ptr 0 0)), .v (.c (.d (.bool false))), .v (.c (.d (.int .i64 p31))), .v (.c (.d (.int .i64 p32)))]) [.rw 47 [.str q0.name, .int .i64 q0.s.num, .int .i64 q0.s.den, .int .i64 q0.t.num, .int .i64 q0.t.den]] 1) else some (.st .normal (headT [1, 2, 31, 32] 69 [.v (.c (.ptr 0 0)), .v (.c (.d (.bool p2))), .v (.c (.d (.int .i64 p31))), .v (.c (.d (.int .i64 (w64 (p32 + (1 : Int))))))]) [.rw 47 [.str q0.name, .int .i64 q0.s.num, .int .i64 q0.s.den, .int .i64 q0.t.num, .int .i64 q0.t.den]] 1)) else some (.st .normal (headT [1, 2, 31, 32] 69 [.v (.c (.ptr 0 0)), .v (.c (.d (.bool p2))), .v (.c (.d (.int .i64 p31))), .v (.c (.d (.int .i64 (w64 (p32 + (1 : Int))))))]) [.rw 47 [.str q0.name, .int .i64 q0.s.num, .int .i64 q0.s.den, .int .i64 q0.t.num, .int .i64 q0.t.den]] 1))) else some (.st .normal (headT [1, 2, 31, 32] 69 [.v (.c (.ptr 0 0)), .v (.c (.d (.bool p2))), .v (.c (.d (.int .i64 p31))), .v (.c (.d (.int .i64 (w64 (p32 + (1 : Int))))))]) [.rw 47 [.str q0.name, .int .i64 q0.s.num, .int .i64 q0.s.den, .int .i64 q0.t.num, .int .i64 q0.t.den]] 1))) else none) else some (.st (.exit 0) (headT [1, 2, 31, 32] 69 [.v (.c (.ptr 0 0)), .v (.c (.d (.bool p2))), .v (.c (.d (.int .i64 p31))), .v (.c (.d (.int .i64 p32)))]) [.rw 47 [.str q0.name, .int .i64 q0.s.num, .int .i64 q0.s.den, .int .i64 q0.t.num, .int .i64 q0.t.den]] 1) := by
  kernel_rfl

def o_array_valid_0 (p2 : Bool) (p31 : Int) (q0 : Site) (r : R_array_valid_0) : LT := .br (Nat.beq r.k 0) (.st .ret (headT [1, 2, 31, 32] 69 [.v (.c (.ptr 0 0)), .v (.c (.d (.bool false))), .v (.c (.d (.int .i64 p31))), .v (.c (.d (.int .i64 r.p32)))]) [.rw 47 [.str q0.name, .int .i64 q0.s.num, .int .i64 q0.s.den, .int .i64 q0.t.num, .int .i64 q0.t.den]] 1) (.br (Nat.beq r.k 1) (.st (.exit 0) (headT [1, 2, 31, 32] 69 [.v (.c (.ptr 0 0)), .v (.c (.d (.bool p2))), .v (.c (.d (.int .i64 p31))), .v (.c (.d (.int .i64 r.p32)))]) [.rw 47 [.str q0.name, .int .i64 q0.s.num, .int .i64 q0.s.den, .int .i64 q0.t.num, .int .i64 q0.t.den]] 1) (.no))

set_option maxRecDepth 100000 in
theorem r_array_valid_0 (p2 : Bool) (p31 : Int) (q0 : Site) : ∀ (n : Nat) (p32 : Int) (x : Ex) (T' : TS) (M' : List Blk) (N' : Nat), LReach (o_array_valid_0 p2 p31 q0 (run_array_valid_0 p2 p31 q0 n p32)) x T' M' N' → x ≠ .normal ∧ ∃ j, RoundsN Tryd.prog GT gbT 0 (loopB Tryd.prog 77 0) j (H_array_valid_0 p2 p31 q0 p32) [.rw 47 [.str q0.name, .int .i64 q0.s.num, .int .i64 q0.s.den, .int .i64 q0.t.num, .int .i64 q0.t.den]] 1 x T' M' N' := by
  have hL : LOKn Tryd.prog GT gbT 0 noL (loopsIn (loopB Tryd.prog 77 0)) := fun _ _ _ _ _ _ _ _ _ h => h.elim
  intro n
  induction n with
  | zero =>
    intro p32 x T' M' N' hr
    exact False.elim (redF (redF hr))
  | succ n ih =>
    intro p32 x T' M' N'
    rw [run_array_valid_0]
    exact viaE (b_array_valid_0 p2 p31 q0 p32) (condG (o := o_array_valid_0 p2 p31 q0) (condG (o := o_array_valid_0 p2 p31 q0) (condG (o := o_array_valid_0 p2 p31 q0) (condG (o := o_array_valid_0 p2 p31 q0) (condG (o := o_array_valid_0 p2 p31 q0) (fun he hr => stopN g_geoid_At hEQT hmT hL he (by simp) (redT hr)) (fun he hr => goN g_geoid_At hEQT hmT hL he (ih (w64 (p32 + (1 : Int))) x T' M' N' hr))) (condG (o := o_array_valid_0 p2 p31 q0) (condG (o := o_array_valid_0 p2 p31 q0) (fun he hr => stopN g_geoid_At hEQT hmT hL he (by simp) (redT hr)) (fun he hr => goN g_geoid_At hEQT hmT hL he (ih (w64 (p32 + (1 : Int))) x T' M' N' hr))) (fun he hr => goN g_geoid_At hEQT hmT hL he (ih (w64 (p32 + (1 : Int))) x T' M' N' hr)))) (condG (o := o_array_valid_0 p2 p31 q0) (condG (o := o_array_valid_0 p2 p31 q0) (condG (o := o_array_valid_0 p2 p31 q0) (fun he hr => stopN g_geoid_At hEQT hmT hL he (by simp) (redT hr)) (fun he hr => goN g_geoid_At hEQT hmT hL he (ih (w64 (p32 + (1 : Int))) x T' M' N' hr))) (condG (o := o_array_valid_0 p2 p31 q0) (condG (o := o_array_valid_0 p2 p31 q0) (fun he hr => stopN g_geoid_At hEQT hmT hL he (by simp) (redT hr)) (fun he hr => goN g_geoid_At hEQT hmT hL he (ih (w64 (p32 + (1 : Int))) x T' M' N' hr))) (fun he hr => goN g_geoid_At hEQT hmT hL he (ih (w64 (p32 + (1 : Int))) x T' M' N' hr)))) (fun he hr => goN g_geoid_At hEQT hmT hL he (ih (w64 (p32 + (1 : Int))) x T' M' N' hr)))) (fun _ hr => False.elim (redF (redF hr)))) (fun he hr => stopN g_geoid_At hEQT hmT hL he (by simp) (redT (redF hr))))

def f_array_valid_0 : List AV → List Blk → LT := fun vs Ms => match vs, Ms with
  | [.v (.c (.ptr 0 0)), .v (.c (.d (.bool p2))), .v (.c (.d (.int .i64 p31))), .v (.c (.d (.int .i64 p32)))], [.rw 47 [.str q0_0, .int .i64 q0_1, .int .i64 q0_2, .int .i64 q0_3, .int .i64 q0_4]] => o_array_valid_0 p2 p31 (⟨q0_0, ⟨q0_1, q0_2⟩, ⟨q0_3, q0_4⟩⟩ : Site) (lp_array_valid_0 p2 p31 (⟨q0_0, ⟨q0_1, q0_2⟩, ⟨q0_3, q0_4⟩⟩ : Site) p32)
  | _, _ => .no

def L_array_valid_0 := LamN 4 69 0 [1, 2, 31, 32] f_array_valid_0

set_option maxRecDepth 100000 in
theorem k_array_valid_0 : LOKbn Tryd.prog GT gbT 0 L_array_valid_0 (loopB Tryd.prog 77 0) := by
  refine LOKbn.lamN (by kernel_rfl) fun vs Ms x T' M' N' hr => ?_
  unfold f_array_valid_0 at hr
  split at hr
  · obtain ⟨q1, j, q2⟩ := r_array_valid_0 _ _ _ _ _ x T' M' N' hr
    exact ⟨q1, j, q2⟩
  · exact hr.elim

structure O_array_valid where
  ok : Bool
  r0 : Bool

def m_array_valid (a0 : Site) : O_array_valid := bif decide ((a0.name.size : Int) < (1 : Int)) then ⟨true, false⟩ else (bif decide ((40 : Int) < (a0.name.size : Int)) then ⟨true, false⟩ else (bif (decide (0 ≤ (0 : Int)) && decide ((0 : Int) < (a0.name.size : Int))) then (bif decide ((byteAt a0.name (0 : Int)) < (97 : Int)) then ⟨true, false⟩ else (bif (decide (0 ≤ (0 : Int)) && decide ((0 : Int) < (a0.name.size : Int))) then (bif decide ((122 : Int) < (byteAt a0.name (0 : Int))) then ⟨true, false⟩ else (bif Nat.beq (lp_array_valid_0 false (a0.name.size : Int) a0 (0 : Int)).k 0 then ⟨true, false⟩ else (bif Nat.beq (lp_array_valid_0 false (a0.name.size : Int) a0 (0 : Int)).k 1 then ⟨true, ((atV ⟨(1 : Int), (1 : Int)⟩ a0.s a0.t).2 == (0 : Int))⟩ else ⟨false, false⟩))) else ⟨false, false⟩)) else ⟨false, false⟩))

def F_array_valid (a0 : Site) (K : AV → List Blk → Ans) (r : O_array_valid) : Ans := bif r.ok then K (.v (.c (.d (.bool r.r0)))) [] else none

set_option maxRecDepth 100000 in
theorem e_array_valid (a0 : Site) (K : AV → List Blk → Ans) : evFn Tryd.prog GT EQT T_geoid_At XT (orL L_array_valid_0 noL) 120 77 [.v (.agg [.str a0.name, .int .i64 a0.s.num, .int .i64 a0.s.den, .int .i64 a0.t.num, .int .i64 a0.t.den])] [] (fun v M => K (finR 0 v M).1 (finR 0 v M).2) = F_array_valid a0 K (m_array_valid a0) := by
  unfold m_array_valid
  refine Eq.trans ?_ (Eq.symm (pushT rfl (pushT rfl (pushT (pushT rfl (pushT (pushT rfl (pushT rfl (pushT rfl rfl))) rfl)) rfl))))
  kernel_rfl

set_option maxRecDepth 100000 in
theorem lok_array_valid : ∀ fn c, Tryd.prog.funcs[77]? = some fn → fn.body = some c → LOKn Tryd.prog GT gbT 0 (orL L_array_valid_0 noL) (loopsIn c) := by
  refine LOKn.ofF fun b hb => ?_
  have e : loopsF Tryd.prog 77 = [loopB Tryd.prog 77 0] := by kernel_rfl
  rw [e] at hb
  simp only [List.mem_cons, List.not_mem_nil, or_false] at hb
  subst hb
  exact (LOKbn.or k_array_valid_0 (fun _ _ _ _ _ _ _ h => h.elim))


theorem c_array_valid (a0 : Site) (hd : (m_array_valid a0).ok = true) : CallsA Tryd.prog GT gbT 77 [.v (.agg [.str a0.name, .int .i64 a0.s.num, .int .i64 a0.s.den, .int .i64 a0.t.num, .int .i64 a0.t.den])] [] (.v (.c (.d (.bool ((m_array_valid a0).r0))))) [] := by
  refine CallsA.ofEvR g_geoid_At hEQT hmT (n0 := 0) rfl lok_array_valid ((e_array_valid a0 (fun v M => some (Res.fin v M))).trans ?_)
  unfold F_array_valid
  rw [hd]
  rfl

def s_array_valid : List AV → List Blk → (AV → List Blk → Ans) → Ans := fun xs bs K => match xs, bs with
  | [.v (.agg [.str a0_0, .int .i64 a0_1, .int .i64 a0_2, .int .i64 a0_3, .int .i64 a0_4])], [] => F_array_valid (⟨a0_0, ⟨a0_1, a0_2⟩, ⟨a0_3, a0_4⟩⟩ : Site) K (m_array_valid (⟨a0_0, ⟨a0_1, a0_2⟩, ⟨a0_3, a0_4⟩⟩ : Site))
  | _, _ => none

def T_array_valid : Nat → List AV → List Blk → (AV → List Blk → Ans) → Ans := upd T_geoid_At 77 s_array_valid

theorem g_array_valid : GOK Tryd.prog GT gbT T_array_valid XT := by
  refine GOK.upd g_geoid_At (fun args w => Tryd.call77 args w) fun xs bs K r h => ?_
  unfold s_array_valid at h
  split at h
  · unfold F_array_valid at h
    simp only [cond_eq_ite] at h
    split at h
    · rename_i hd
      exact ⟨_, _, c_array_valid _ hd, h⟩
    · cases h
  · cases h

structure R_array_stations_0 where
  k : Nat
  p10 : Int

def run_array_stations_0 (p2 : Int) (p9 : Int) (m0 : List Site) : Nat → Int → R_array_stations_0
  | 0, p10 => ⟨2, p10⟩
  | n + 1, p10 => bif decide (p10 < p9) then (bif (decide ((0 : Int) ≤ p10) && decide (p10 < (m0.length : Int))) then (bif (m_array_valid (m0.getD p10.toNat (ET.z .site))).ok then (bif (!(m_array_valid (m0.getD p10.toNat (ET.z .site))).r0) then ⟨0, p10⟩ else run_array_stations_0 p2 p9 m0 n (w64 (p10 + (1 : Int)))) else ⟨2, p10⟩) else ⟨2, p10⟩) else ⟨1, p10⟩

def lp_array_stations_0 (p2 : Int) (p9 : Int) (m0 : List Site) (p10 : Int) : R_array_stations_0 := run_array_stations_0 p2 p9 m0 (2000 + (m0.length)) p10

abbrev H_array_stations_0 (p2 : Int) (p9 : Int) (m0 : List Site) (p10 : Int) : TS := headT [2, 8, 9, 10] 18 [.v (.c (.d (.int .i64 p2))), .v (.c (.aslice 0 none)), .v (.c (.d (.int .i64 p9))), .v (.c (.d (.int .i64 p10)))]

set_option maxRecDepth 100000 in
theorem b_array_stations_0 (p2 : Int) (p9 : Int) (m0 : List Site) (p10 : Int) : evCode Tryd.prog GT EQT T_array_valid XT noL 80 (loopB Tryd.prog 63 0) (H_array_stations_0 p2 p9 m0 p10) [.arr none .site m0] 1 (normK 1 [2, 8, 9, 10]) =
    bif decide (p10 < p9) then (bif (decide ((0 : Int) ≤ p10) && decide (p10 < (m0.length : Int))) then (bif (m_array_valid (m0.getD p10.toNat (ET.z .site))).ok then (bif (!(m_array_valid (m0.getD p10.toNat (ET.z .site))).r0) then some (.st .ret (headT [2, 8, 9, 10] 18 [.v (.c (.d (.int .i64 (8 : Int)))), .v (.c (.aslice 0 none)), .v (.c (.d (.int .i64 p9))), .v (.c (.d (.int .i64 p10)))]) [.arr none .site m0] 1) else some (.st .normal (headT [2, 8, 9, 10] 18 [.v (.c (.d (.int .i64 p2))), .v (.c (.aslice 0 none)), .v (.c (.d (.int .i64 p9))), .v (.c (.d (.int .i64 (w64 (p10 + (1 : Int))))))]) [.arr none .site m0] 1)) else none) else none) else some (.st (.exit 0) (headT [2, 8, 9, 10] 18 [.v (.c (.d (.int .i64 p2))), .v (.c (.aslice 0 none)), .v (.c (.d (.int .i64 p9))), .v (.c (.d (.int .i64 p10)))]) [.arr none .site m0] 1) := by
  kernel_rfl

def o_array_stations_0 (p2 : Int) (p9 : Int) (m0 : List Site) (r : R_array_stations_0) : LT := .br (Nat.beq r.k 0) (.st .ret (headT [2, 8, 9, 10] 18 [.v (.c (.d (.int .i64 (8 : Int)))), .v (.c (.aslice 0 none)), .v (.c (.d (.int .i64 p9))), .v (.c (.d (.int .i64 r.p10)))]) [.arr none .site m0] 1) (.br (Nat.beq r.k 1) (.st (.exit 0) (headT [2, 8, 9, 10] 18 [.v (.c (.d (.int .i64 p2))), .v (.c (.aslice 0 none)), .v (.c (.d (.int .i64 p9))), .v (.c (.d (.int .i64 r.p10)))]) [.arr none .site m0] 1) (.no))

set_option maxRecDepth 100000 in
theorem r_array_stations_0 (p2 : Int) (p9 : Int) (m0 : List Site) : ∀ (n : Nat) (p10 : Int) (x : Ex) (T' : TS) (M' : List Blk) (N' : Nat), LReach (o_array_stations_0 p2 p9 m0 (run_array_stations_0 p2 p9 m0 n p10)) x T' M' N' → x ≠ .normal ∧ ∃ j, RoundsN Tryd.prog GT gbT 1 (loopB Tryd.prog 63 0) j (H_array_stations_0 p2 p9 m0 p10) [.arr none .site m0] 1 x T' M' N' := by
  have hL : LOKn Tryd.prog GT gbT 1 noL (loopsIn (loopB Tryd.prog 63 0)) := fun _ _ _ _ _ _ _ _ _ h => h.elim
  intro n
  induction n with
  | zero =>
    intro p10 x T' M' N' hr
    exact False.elim (redF (redF hr))
  | succ n ih =>
    intro p10 x T' M' N'
    rw [run_array_stations_0]
    exact viaE (b_array_stations_0 p2 p9 m0 p10) (condG (o := o_array_stations_0 p2 p9 m0) (condG (o := o_array_stations_0 p2 p9 m0) (condG (o := o_array_stations_0 p2 p9 m0) (condG (o := o_array_stations_0 p2 p9 m0) (fun he hr => stopN g_array_valid hEQT hmT hL he (by simp) (redT hr)) (fun he hr => goN g_array_valid hEQT hmT hL he (ih (w64 (p10 + (1 : Int))) x T' M' N' hr))) (fun _ hr => False.elim (redF (redF hr)))) (fun _ hr => False.elim (redF (redF hr)))) (fun he hr => stopN g_array_valid hEQT hmT hL he (by simp) (redT (redF hr))))

def f_array_stations_0 : List AV → List Blk → LT := fun vs Ms => match vs, Ms with
  | [.v (.c (.d (.int .i64 p2))), .v (.c (.aslice 0 none)), .v (.c (.d (.int .i64 p9))), .v (.c (.d (.int .i64 p10)))], [.arr none .site m0] => o_array_stations_0 p2 p9 m0 (lp_array_stations_0 p2 p9 m0 p10)
  | _, _ => .no

def L_array_stations_0 := LamN 4 18 1 [2, 8, 9, 10] f_array_stations_0

set_option maxRecDepth 100000 in
theorem k_array_stations_0 : LOKbn Tryd.prog GT gbT 1 L_array_stations_0 (loopB Tryd.prog 63 0) := by
  refine LOKbn.lamN (by kernel_rfl) fun vs Ms x T' M' N' hr => ?_
  unfold f_array_stations_0 at hr
  split at hr
  · obtain ⟨q1, j, q2⟩ := r_array_stations_0 _ _ _ _ _ x T' M' N' hr
    exact ⟨q1, j, q2⟩
  · exact hr.elim

structure O_array_stations where
  ok : Bool
  r0 : Int

def m_array_stations (a0 : List Site) : O_array_stations := bif decide ((8 : Int) < (a0.length : Int)) then ⟨true, (4 : Int)⟩ else (bif Nat.beq (lp_array_stations_0 (0 : Int) (a0.length : Int) a0 (0 : Int)).k 0 then ⟨true, (8 : Int)⟩ else (bif Nat.beq (lp_array_stations_0 (0 : Int) (a0.length : Int) a0 (0 : Int)).k 1 then ⟨true, (0 : Int)⟩ else ⟨false, 0⟩))

def F_array_stations (a0 : List Site) (K : AV → List Blk → Ans) (r : O_array_stations) : Ans := bif r.ok then K (.v (.c (.d (.int .i64 r.r0)))) [.arr none .site a0] else none

set_option maxRecDepth 100000 in
theorem e_array_stations (a0 : List Site) (K : AV → List Blk → Ans) : evFn Tryd.prog GT EQT T_array_valid XT (orL L_array_stations_0 noL) 80 63 [.v (.c (.aslice 0 none))] [.arr none .site a0] (fun v M => K (finR 1 v M).1 (finR 1 v M).2) = F_array_stations a0 K (m_array_stations a0) := by
  unfold m_array_stations
  refine Eq.trans ?_ (Eq.symm (pushT rfl (pushT rfl (pushT rfl rfl))))
  kernel_rfl

set_option maxRecDepth 100000 in
theorem lok_array_stations : ∀ fn c, Tryd.prog.funcs[63]? = some fn → fn.body = some c → LOKn Tryd.prog GT gbT 1 (orL L_array_stations_0 noL) (loopsIn c) := by
  refine LOKn.ofF fun b hb => ?_
  have e : loopsF Tryd.prog 63 = [loopB Tryd.prog 63 0] := by kernel_rfl
  rw [e] at hb
  simp only [List.mem_cons, List.not_mem_nil, or_false] at hb
  subst hb
  exact (LOKbn.or k_array_stations_0 (fun _ _ _ _ _ _ _ h => h.elim))


theorem c_array_stations (a0 : List Site) (hd : (m_array_stations a0).ok = true) : CallsA Tryd.prog GT gbT 63 [.v (.c (.aslice 0 none))] [.arr none .site a0] (.v (.c (.d (.int .i64 ((m_array_stations a0).r0))))) [.arr none .site a0] := by
  refine CallsA.ofEvR g_array_valid hEQT hmT (n0 := 1) rfl lok_array_stations ((e_array_stations a0 (fun v M => some (Res.fin v M))).trans ?_)
  unfold F_array_stations
  rw [hd]
  rfl

def s_array_stations : List AV → List Blk → (AV → List Blk → Ans) → Ans := fun xs bs K => match xs, bs with
  | [.v (.c (.aslice 0 none))], [.arr none .site a0] => F_array_stations a0 K (m_array_stations a0)
  | _, _ => none

def T_array_stations : Nat → List AV → List Blk → (AV → List Blk → Ans) → Ans := upd T_array_valid 63 s_array_stations

theorem g_array_stations : GOK Tryd.prog GT gbT T_array_stations XT := by
  refine GOK.upd g_array_valid (fun args w => Tryd.call63 args w) fun xs bs K r h => ?_
  unfold s_array_stations at h
  split at h
  · unfold F_array_stations at h
    simp only [cond_eq_ite] at h
    split at h
    · rename_i hd
      exact ⟨_, _, c_array_stations _ hd, h⟩
    · cases h
  · cases h

set_option maxRecDepth 100000 in
theorem c_array_pairs (a0 : Int) : CallsA Tryd.prog GT gbT 65 [.v (.c (.d (.int .i64 a0)))] [] (.v (.c (.fn 81 [0]))) [.rw 3 [.int .i64 a0]] :=
  CallsA.ofEvN g_array_stations hEQT hmT (n := 40) (Λ := noL) (fun _ M => M) (fun _ _ _ => .inl rfl) (fun _ _ _ _ => LOKn.nil) (by kernel_rfl)

def s_array_pairs : List AV → List Blk → (AV → List Blk → Ans) → Ans := fun xs bs K => match xs, bs with
  | [.v (.c (.d (.int .i64 a0)))], [] => K (.v (.c (.fn 81 [0]))) [.rw 3 [.int .i64 a0]]
  | _, _ => none

def T_array_pairs : Nat → List AV → List Blk → (AV → List Blk → Ans) → Ans := upd T_array_stations 65 s_array_pairs

theorem g_array_pairs : GOK Tryd.prog GT gbT T_array_pairs XT := by
  refine GOK.upd g_array_stations (fun args w => Tryd.call65 args w) fun xs bs K r h => ?_
  unfold s_array_pairs at h
  split at h
  · exact ⟨_, _, c_array_pairs _, h⟩
  · cases h

end Go.Ev

namespace Go.Ev
open Go Go.Proofs

structure R_array_place_0 where
  k : Nat
  p29 : Int
  m5 : List Placed

def run_array_place_0 (p28 : Int) (m0 : List Site) (q1 : Globe) (q3_0 : Int) : Nat → Int → List Placed → R_array_place_0
  | 0, p29, m5 => ⟨2, p29, m5⟩
  | n + 1, p29, m5 => bif decide (p29 < p28) then (bif (decide ((0 : Int) ≤ p29) && decide (p29 < (m0.length : Int))) then (bif ((atV q1 ((m0.getD p29.toNat (ET.z .site)).s) ((m0.getD p29.toNat (ET.z .site)).t)).2 != (0 : Int)) then ⟨0, p29, m5⟩ else (bif (decide ((0 : Int) ≤ p29) && decide (p29 < (m5.length : Int))) then run_array_place_0 p28 m0 q1 q3_0 n (w64 (p29 + (1 : Int))) (m5.set p29.toNat ⟨m0.getD p29.toNat (ET.z .site), (atV q1 ((m0.getD p29.toNat (ET.z .site)).s) ((m0.getD p29.toNat (ET.z .site)).t)).1⟩) else ⟨2, p29, m5⟩)) else ⟨2, p29, m5⟩) else ⟨1, p29, m5⟩

def lp_array_place_0 (p28 : Int) (m0 : List Site) (q1 : Globe) (q3_0 : Int) (p29 : Int) (m5 : List Placed) : R_array_place_0 := run_array_place_0 p28 m0 q1 q3_0 (2000 + (m0.length + m5.length)) p29 m5

abbrev H_array_place_0 (p28 : Int) (m0 : List Site) (q1 : Globe) (q3_0 : Int) (p29 : Int) (m5 : List Placed) : TS := headT [2, 4, 5, 8, 27, 28, 29] 88 [.v (.c (.ptr 1 0)), .v (.c (.ptr 2 0)), .v (.c (.ptr 3 0)), .v (.c (.ptr 4 0)), .v (.c (.aslice 0 none)), .v (.c (.d (.int .i64 p28))), .v (.c (.d (.int .i64 p29)))]

set_option maxRecDepth 100000 in
theorem b_array_place_0 (p28 : Int) (m0 : List Site) (q1 : Globe) (q3_0 : Int) (p29 : Int) (m5 : List Placed) : evCode Tryd.prog GT EQT T_array_pairs XT noL 120 (loopB Tryd.prog 46 0) (H_array_place_0 p28 m0 q1 q3_0 p29 m5) [.arr none .site m0, .rw 45 [.int .i64 q1.a, .int .i64 q1.b], .cell 101 .nilS, .rw 35 [.int .i64 q3_0], .cell 101 (.aslice 5 none), .arr (some 106) .placed m5] 6 (normK 1 [2, 4, 5, 8, 27, 28, 29]) =
    bif decide (p29 < p28) then (bif (decide ((0 : Int) ≤ p29) && decide (p29 < (m0.length : Int))) then (bif ((atV q1 ((m0.getD p29.toNat (ET.z .site)).s) ((m0.getD p29.toNat (ET.z .site)).t)).2 != (0 : Int)) then some (.st .ret (headT [2, 4, 5, 8, 27, 28, 29] 88 [.v (.c (.ptr 1 0)), .v (.c (.ptr 2 0)), .v (.c (.ptr 3 0)), .v (.c (.ptr 4 0)), .v (.c (.aslice 0 none)), .v (.c (.d (.int .i64 p28))), .v (.c (.d (.int .i64 p29)))]) [.arr none .site m0, .rw 45 [.int .i64 q1.a, .int .i64 q1.b], .cell 101 .nilS, .rw 35 [.int .i64 ((atV q1 ((m0.getD p29.toNat (ET.z .site)).s) ((m0.getD p29.toNat (ET.z .site)).t)).2)], .cell 101 (.aslice 5 none), .arr (some 106) .placed m5] 6) else (bif (decide ((0 : Int) ≤ p29) && decide (p29 < (m5.length : Int))) then some (.st .normal (headT [2, 4, 5, 8, 27, 28, 29] 88 [.v (.c (.ptr 1 0)), .v (.c (.ptr 2 0)), .v (.c (.ptr 3 0)), .v (.c (.ptr 4 0)), .v (.c (.aslice 0 none)), .v (.c (.d (.int .i64 p28))), .v (.c (.d (.int .i64 (w64 (p29 + (1 : Int))))))]) [.arr none .site m0, .rw 45 [.int .i64 q1.a, .int .i64 q1.b], .cell 101 .nilS, .rw 35 [.int .i64 q3_0], .cell 101 (.aslice 5 none), .arr (some 106) .placed (m5.set p29.toNat ⟨m0.getD p29.toNat (ET.z .site), (atV q1 ((m0.getD p29.toNat (ET.z .site)).s) ((m0.getD p29.toNat (ET.z .site)).t)).1⟩)] 6) else none)) else none) else some (.st (.exit 0) (headT [2, 4, 5, 8, 27, 28, 29] 88 [.v (.c (.ptr 1 0)), .v (.c (.ptr 2 0)), .v (.c (.ptr 3 0)), .v (.c (.ptr 4 0)), .v (.c (.aslice 0 none)), .v (.c (.d (.int .i64 p28))), .v (.c (.d (.int .i64 p29)))]) [.arr none .site m0, .rw 45 [.int .i64 q1.a, .int .i64 q1.b], .cell 101 .nilS, .rw 35 [.int .i64 q3_0], .cell 101 (.aslice 5 none), .arr (some 106) .placed m5] 6) := by
  kernel_rfl

def o_array_place_0 (p28 : Int) (m0 : List Site) (q1 : Globe) (q3_0 : Int) (r : R_array_place_0) : LT := .br (Nat.beq r.k 0) (.st .ret (headT [2, 4, 5, 8, 27, 28, 29] 88 [.v (.c (.ptr 1 0)), .v (.c (.ptr 2 0)), .v (.c (.ptr 3 0)), .v (.c (.ptr 4 0)), .v (.c (.aslice 0 none)), .v (.c (.d (.int .i64 p28))), .v (.c (.d (.int .i64 r.p29)))]) [.arr none .site m0, .rw 45 [.int .i64 q1.a, .int .i64 q1.b], .cell 101 .nilS, .rw 35 [.int .i64 ((atV q1 ((m0.getD r.p29.toNat (ET.z .site)).s) ((m0.getD r.p29.toNat (ET.z .site)).t)).2)], .cell 101 (.aslice 5 none), .arr (some 106) .placed r.m5] 6) (.br (Nat.beq r.k 1) (.st (.exit 0) (headT [2, 4, 5, 8, 27, 28, 29] 88 [.v (.c (.ptr 1 0)), .v (.c (.ptr 2 0)), .v (.c (.ptr 3 0)), .v (.c (.ptr 4 0)), .v (.c (.aslice 0 none)), .v (.c (.d (.int .i64 p28))), .v (.c (.d (.int .i64 r.p29)))]) [.arr none .site m0, .rw 45 [.int .i64 q1.a, .int .i64 q1.b], .cell 101 .nilS, .rw 35 [.int .i64 q3_0], .cell 101 (.aslice 5 none), .arr (some 106) .placed r.m5] 6) (.no))

set_option maxRecDepth 100000 in
theorem r_array_place_0 (p28 : Int) (m0 : List Site) (q1 : Globe) (q3_0 : Int) : ∀ (n : Nat) (p29 : Int) (m5 : List Placed) (x : Ex) (T' : TS) (M' : List Blk) (N' : Nat), LReach (o_array_place_0 p28 m0 q1 q3_0 (run_array_place_0 p28 m0 q1 q3_0 n p29 m5)) x T' M' N' → x ≠ .normal ∧ ∃ j, RoundsN Tryd.prog GT gbT 1 (loopB Tryd.prog 46 0) j (H_array_place_0 p28 m0 q1 q3_0 p29 m5) [.arr none .site m0, .rw 45 [.int .i64 q1.a, .int .i64 q1.b], .cell 101 .nilS, .rw 35 [.int .i64 q3_0], .cell 101 (.aslice 5 none), .arr (some 106) .placed m5] 6 x T' M' N' := by
  have hL : LOKn Tryd.prog GT gbT 1 noL (loopsIn (loopB Tryd.prog 46 0)) := fun _ _ _ _ _ _ _ _ _ h => h.elim
  intro n
  induction n with
  | zero =>
    intro p29 m5 x T' M' N' hr
    exact False.elim (redF (redF hr))
  | succ n ih =>
    intro p29 m5 x T' M' N'
    rw [run_array_place_0]
    exact viaE (b_array_place_0 p28 m0 q1 q3_0 p29 m5) (condG (o := o_array_place_0 p28 m0 q1 q3_0) (condG (o := o_array_place_0 p28 m0 q1 q3_0) (condG (o := o_array_place_0 p28 m0 q1 q3_0) (fun he hr => stopN g_array_pairs hEQT hmT hL he (by simp) (redT hr)) (condG (o := o_array_place_0 p28 m0 q1 q3_0) (fun he hr => goN g_array_pairs hEQT hmT hL he (ih (w64 (p29 + (1 : Int))) (m5.set p29.toNat ⟨m0.getD p29.toNat (ET.z .site), (atV q1 ((m0.getD p29.toNat (ET.z .site)).s) ((m0.getD p29.toNat (ET.z .site)).t)).1⟩) x T' M' N' hr)) (fun _ hr => False.elim (redF (redF hr))))) (fun _ hr => False.elim (redF (redF hr)))) (fun he hr => stopN g_array_pairs hEQT hmT hL he (by simp) (redT (redF hr))))

def f_array_place_0 : List AV → List Blk → LT := fun vs Ms => match vs, Ms with
  | [.v (.c (.ptr 1 0)), .v (.c (.ptr 2 0)), .v (.c (.ptr 3 0)), .v (.c (.ptr 4 0)), .v (.c (.aslice 0 none)), .v (.c (.d (.int .i64 p28))), .v (.c (.d (.int .i64 p29)))], [.arr none .site m0, .rw 45 [.int .i64 q1_0, .int .i64 q1_1], .cell 101 .nilS, .rw 35 [.int .i64 q3_0], .cell 101 (.aslice 5 none), .arr (some 106) .placed m5] => o_array_place_0 p28 m0 (⟨q1_0, q1_1⟩ : Globe) q3_0 (lp_array_place_0 p28 m0 (⟨q1_0, q1_1⟩ : Globe) q3_0 p29 m5)
  | _, _ => .no

def L_array_place_0 := LamN 9 88 1 [2, 4, 5, 8, 27, 28, 29] f_array_place_0

set_option maxRecDepth 100000 in
theorem k_array_place_0 : LOKbn Tryd.prog GT gbT 1 L_array_place_0 (loopB Tryd.prog 46 0) := by
  refine LOKbn.lamN (by kernel_rfl) fun vs Ms x T' M' N' hr => ?_
  unfold f_array_place_0 at hr
  split at hr
  · obtain ⟨q1, j, q2⟩ := r_array_place_0 _ _ _ _ _ _ _ x T' M' N' hr
    exact ⟨q1, j, q2⟩
  · exact hr.elim

abbrev TP := T_array_pairs
theorem gP : GOK Tryd.prog GT gbT TP XT := g_array_pairs
abbrev LP := (orL L_array_place_0 noL)

structure O0_array_place where
  k : Nat
  e : Int
  ps : List Placed

def m0_array_place (a0 : Globe) (a1 : List Site) : O0_array_place := bif ((checkG a0) != (0 : Int)) then ⟨0, (checkG a0), []⟩ else (bif (m_array_stations a1).ok then (bif ((m_array_stations a1).r0 != (0 : Int)) then ⟨0, (m_array_stations a1).r0, []⟩ else (bif (decide ((a1.length : Int) = (a1.length : Int)) && (decide (0 ≤ (a1.length : Int)) && (decide ((a1.length : Int) ≤ 1048576) && ((11 == 11) && (Nat.blt 0 11 && Nat.ble 96 4096))))) then (bif Nat.beq (lp_array_place_0 (a1.length : Int) a1 a0 (0 : Int) (0 : Int) (List.replicate a1.length (⟨⟨ByteArray.empty, ⟨(0 : Int), (0 : Int)⟩, ⟨(0 : Int), (0 : Int)⟩⟩, ⟨⟨(0 : Int), (0 : Int)⟩, ⟨(0 : Int), (0 : Int)⟩, ⟨(0 : Int), (0 : Int)⟩⟩⟩ : Placed))).k 0 then ⟨0, (atV a0 ((a1.getD ((lp_array_place_0 (a1.length : Int) a1 a0 (0 : Int) (0 : Int) (List.replicate a1.length (⟨⟨ByteArray.empty, ⟨(0 : Int), (0 : Int)⟩, ⟨(0 : Int), (0 : Int)⟩⟩, ⟨⟨(0 : Int), (0 : Int)⟩, ⟨(0 : Int), (0 : Int)⟩, ⟨(0 : Int), (0 : Int)⟩⟩⟩ : Placed))).p29).toNat (ET.z .site)).s) ((a1.getD ((lp_array_place_0 (a1.length : Int) a1 a0 (0 : Int) (0 : Int) (List.replicate a1.length (⟨⟨ByteArray.empty, ⟨(0 : Int), (0 : Int)⟩, ⟨(0 : Int), (0 : Int)⟩⟩, ⟨⟨(0 : Int), (0 : Int)⟩, ⟨(0 : Int), (0 : Int)⟩, ⟨(0 : Int), (0 : Int)⟩⟩⟩ : Placed))).p29).toNat (ET.z .site)).t)).2, []⟩ else (bif Nat.beq (lp_array_place_0 (a1.length : Int) a1 a0 (0 : Int) (0 : Int) (List.replicate a1.length (⟨⟨ByteArray.empty, ⟨(0 : Int), (0 : Int)⟩, ⟨(0 : Int), (0 : Int)⟩⟩, ⟨⟨(0 : Int), (0 : Int)⟩, ⟨(0 : Int), (0 : Int)⟩, ⟨(0 : Int), (0 : Int)⟩⟩⟩ : Placed))).k 1 then ⟨1, 0, ((lp_array_place_0 (a1.length : Int) a1 a0 (0 : Int) (0 : Int) (List.replicate a1.length (⟨⟨ByteArray.empty, ⟨(0 : Int), (0 : Int)⟩, ⟨(0 : Int), (0 : Int)⟩⟩, ⟨⟨(0 : Int), (0 : Int)⟩, ⟨(0 : Int), (0 : Int)⟩, ⟨(0 : Int), (0 : Int)⟩⟩⟩ : Placed))).m5)⟩ else ⟨2, 0, []⟩)) else ⟨2, 0, []⟩)) else ⟨2, 0, []⟩)

def F0_array_place (a0 : Globe) (a1 : List Site) (r : O0_array_place) : Ans := bif Nat.beq r.k 0 then some (.st .ret (headT [4, 5] 88 [.v (.c (.ptr 1 0)), .v (.c (.ptr 2 0))]) [.arr none .site a1, .cell 101 .nilS, .rw 35 [.int .i64 r.e]] 3) else bif Nat.beq r.k 1 then some (.st .normal (headT [4, 5, 8, 55] 88 [.v (.c (.ptr 1 0)), .v (.c (.ptr 2 0)), .v (.c (.ptr 3 0)), .v (.c (.fn 81 [4]))]) [.arr none .site a1, .cell 101 .nilS, .rw 35 [.int .i64 (0 : Int)], .cell 101 (.aslice 5 none), .rw 3 [.int .i64 (r.ps.length : Int)], .arr (some 106) .placed r.ps] 6) else none

set_option maxRecDepth 100000 in
theorem w0_array_place (a0 : Globe) (a1 : List Site) : evList Tryd.prog GT EQT TP XT LP 120 (splitC 5 (bodyC Tryd.prog 46)).1 (frameT [.v (.agg [.int .i64 a0.a, .int .i64 a0.b]), .v (.c (.aslice 0 none))] 86) [.arr none .site a1] 1 (placeK Tryd.prog GT EQT TP XT LP 120 (fstC (fstC (splitC 5 (bodyC Tryd.prog 46)).2)) 1 [4, 5] [4, 5, 8, 55]) =
    bif ((checkG a0) != (0 : Int)) then some (.st .ret (headT [4, 5] 88 [.v (.c (.ptr 1 0)), .v (.c (.ptr 2 0))]) [.arr none .site a1, .cell 101 .nilS, .rw 35 [.int .i64 (checkG a0)]] 3) else (bif (m_array_stations a1).ok then (bif ((m_array_stations a1).r0 != (0 : Int)) then some (.st .ret (headT [4, 5] 88 [.v (.c (.ptr 1 0)), .v (.c (.ptr 2 0))]) [.arr none .site a1, .cell 101 .nilS, .rw 35 [.int .i64 ((m_array_stations a1).r0)]] 3) else (bif (decide ((a1.length : Int) = (a1.length : Int)) && (decide (0 ≤ (a1.length : Int)) && (decide ((a1.length : Int) ≤ 1048576) && ((11 == 11) && (Nat.blt 0 11 && Nat.ble 96 4096))))) then (bif Nat.beq (lp_array_place_0 (a1.length : Int) a1 a0 (0 : Int) (0 : Int) (List.replicate a1.length (⟨⟨ByteArray.empty, ⟨(0 : Int), (0 : Int)⟩, ⟨(0 : Int), (0 : Int)⟩⟩, ⟨⟨(0 : Int), (0 : Int)⟩, ⟨(0 : Int), (0 : Int)⟩, ⟨(0 : Int), (0 : Int)⟩⟩⟩ : Placed))).k 0 then some (.st .ret (headT [4, 5] 88 [.v (.c (.ptr 1 0)), .v (.c (.ptr 2 0))]) [.arr none .site a1, .cell 101 .nilS, .rw 35 [.int .i64 ((atV a0 ((a1.getD ((lp_array_place_0 (a1.length : Int) a1 a0 (0 : Int) (0 : Int) (List.replicate a1.length (⟨⟨ByteArray.empty, ⟨(0 : Int), (0 : Int)⟩, ⟨(0 : Int), (0 : Int)⟩⟩, ⟨⟨(0 : Int), (0 : Int)⟩, ⟨(0 : Int), (0 : Int)⟩, ⟨(0 : Int), (0 : Int)⟩⟩⟩ : Placed))).p29).toNat (ET.z .site)).s) ((a1.getD ((lp_array_place_0 (a1.length : Int) a1 a0 (0 : Int) (0 : Int) (List.replicate a1.length (⟨⟨ByteArray.empty, ⟨(0 : Int), (0 : Int)⟩, ⟨(0 : Int), (0 : Int)⟩⟩, ⟨⟨(0 : Int), (0 : Int)⟩, ⟨(0 : Int), (0 : Int)⟩, ⟨(0 : Int), (0 : Int)⟩⟩⟩ : Placed))).p29).toNat (ET.z .site)).t)).2)]] 3) else (bif Nat.beq (lp_array_place_0 (a1.length : Int) a1 a0 (0 : Int) (0 : Int) (List.replicate a1.length (⟨⟨ByteArray.empty, ⟨(0 : Int), (0 : Int)⟩, ⟨(0 : Int), (0 : Int)⟩⟩, ⟨⟨(0 : Int), (0 : Int)⟩, ⟨(0 : Int), (0 : Int)⟩, ⟨(0 : Int), (0 : Int)⟩⟩⟩ : Placed))).k 1 then some (.st .normal (headT [4, 5, 8, 55] 88 [.v (.c (.ptr 1 0)), .v (.c (.ptr 2 0)), .v (.c (.ptr 3 0)), .v (.c (.fn 81 [4]))]) [.arr none .site a1, .cell 101 .nilS, .rw 35 [.int .i64 (0 : Int)], .cell 101 (.aslice 5 none), .rw 3 [.int .i64 (((lp_array_place_0 (a1.length : Int) a1 a0 (0 : Int) (0 : Int) (List.replicate a1.length (⟨⟨ByteArray.empty, ⟨(0 : Int), (0 : Int)⟩, ⟨(0 : Int), (0 : Int)⟩⟩, ⟨⟨(0 : Int), (0 : Int)⟩, ⟨(0 : Int), (0 : Int)⟩, ⟨(0 : Int), (0 : Int)⟩⟩⟩ : Placed))).m5).length : Int)], .arr (some 106) .placed ((lp_array_place_0 (a1.length : Int) a1 a0 (0 : Int) (0 : Int) (List.replicate a1.length (⟨⟨ByteArray.empty, ⟨(0 : Int), (0 : Int)⟩, ⟨(0 : Int), (0 : Int)⟩⟩, ⟨⟨(0 : Int), (0 : Int)⟩, ⟨(0 : Int), (0 : Int)⟩, ⟨(0 : Int), (0 : Int)⟩⟩⟩ : Placed))).m5)] 6) else none)) else none)) else none) := by
  kernel_rfl

set_option maxRecDepth 100000 in
theorem e0_array_place (a0 : Globe) (a1 : List Site) : evList Tryd.prog GT EQT TP XT LP 120 (splitC 5 (bodyC Tryd.prog 46)).1 (frameT [.v (.agg [.int .i64 a0.a, .int .i64 a0.b]), .v (.c (.aslice 0 none))] 86) [.arr none .site a1] 1 (placeK Tryd.prog GT EQT TP XT LP 120 (fstC (fstC (splitC 5 (bodyC Tryd.prog 46)).2)) 1 [4, 5] [4, 5, 8, 55]) = F0_array_place a0 a1 (m0_array_place a0 a1) := by
  refine (w0_array_place a0 a1).trans ?_
  unfold m0_array_place
  exact (condF rfl (condF (condF rfl (condF (condF rfl (condF rfl rfl)) rfl)) rfl))

set_option maxRecDepth 100000 in
theorem wa_array_place (a1 : List Site) (ps : List Placed) (i j : Int) : evCode Tryd.prog GT EQT TP XT noL 120 (asgC (sndC (fstC (splitC 5 (bodyC Tryd.prog 46)).2))) (tset (.v (.agg [.int .i64 i, .int .i64 j])) (headT [4, 5, 8, 55] 88 [.v (.c (.ptr 1 0)), .v (.c (.ptr 2 0)), .v (.c (.ptr 3 0)), .v (.c (.fn 81 [4]))]) 56) [.arr none .site a1, .cell 101 .nilS, .rw 35 [.int .i64 (0 : Int)], .cell 101 (.aslice 5 none), .dead, .arr (some 106) .placed ps] 6 (fun x T M N => some (.st x T M N)) =
    some (.st .normal (tset (.v (.c (.ptr 6 0))) (tset (.v (.agg [.int .i64 i, .int .i64 j])) (headT [4, 5, 8, 55] 88 [.v (.c (.ptr 1 0)), .v (.c (.ptr 2 0)), .v (.c (.ptr 3 0)), .v (.c (.fn 81 [4]))]) 56) 13) [.arr none .site a1, .cell 101 .nilS, .rw 35 [.int .i64 (0 : Int)], .cell 101 (.aslice 5 none), .dead, .arr (some 106) .placed ps, .rw 125 [.int .i64 i, .int .i64 j]] 7) := by
  kernel_rfl

set_option maxRecDepth 100000 in
theorem wb_array_place (a1 : List Site) (ps : List Placed) (i j : Int) : evCode Tryd.prog GT EQT TP XT noL 120 (bodC (sndC (fstC (splitC 5 (bodyC Tryd.prog 46)).2))) (tset (.v (.c (.ptr 6 0))) (tset (.v (.agg [.int .i64 i, .int .i64 j])) (headT [4, 5, 8, 55] 88 [.v (.c (.ptr 1 0)), .v (.c (.ptr 2 0)), .v (.c (.ptr 3 0)), .v (.c (.fn 81 [4]))]) 56) 13) [.arr none .site a1, .cell 101 .nilS, .rw 35 [.int .i64 (0 : Int)], .cell 101 (.aslice 5 none), .dead, .arr (some 106) .placed ps, .rw 125 [.int .i64 i, .int .i64 j]] 7 (cutR 6) =
    bif (decide ((0 : Int) ≤ i) && decide (i < (ps.length : Int))) then (bif (decide ((0 : Int) ≤ j) && decide (j < (ps.length : Int))) then (bif ((((ps.getD i.toNat (ET.z .placed)).site).name).data.toList == (((ps.getD j.toNat (ET.z .placed)).site).name).data.toList) then some (.st .ret ⟨0, .any, []⟩ [.arr none .site a1, .cell 101 .nilS, .rw 35 [.int .i64 (14 : Int)], .cell 101 (.aslice 5 none), .dead, .arr (some 106) .placed ps] 7) else (bif (decide ((0 : Int) ≤ i) && decide (i < (ps.length : Int))) then (bif (decide ((0 : Int) ≤ j) && decide (j < (ps.length : Int))) then (bif eqAll [.int .i64 ((((ps.getD i.toNat (ET.z .placed)).at_).x).num), .int .i64 ((((ps.getD i.toNat (ET.z .placed)).at_).x).den), .int .i64 ((((ps.getD i.toNat (ET.z .placed)).at_).y).num), .int .i64 ((((ps.getD i.toNat (ET.z .placed)).at_).y).den), .int .i64 ((((ps.getD i.toNat (ET.z .placed)).at_).z).num), .int .i64 ((((ps.getD i.toNat (ET.z .placed)).at_).z).den)] [.int .i64 ((((ps.getD j.toNat (ET.z .placed)).at_).x).num), .int .i64 ((((ps.getD j.toNat (ET.z .placed)).at_).x).den), .int .i64 ((((ps.getD j.toNat (ET.z .placed)).at_).y).num), .int .i64 ((((ps.getD j.toNat (ET.z .placed)).at_).y).den), .int .i64 ((((ps.getD j.toNat (ET.z .placed)).at_).z).num), .int .i64 ((((ps.getD j.toNat (ET.z .placed)).at_).z).den)] then some (.st .ret ⟨0, .any, []⟩ [.arr none .site a1, .cell 101 .nilS, .rw 35 [.int .i64 (14 : Int)], .cell 101 (.aslice 5 none), .dead, .arr (some 106) .placed ps] 7) else some (.st .normal ⟨0, .any, []⟩ [.arr none .site a1, .cell 101 .nilS, .rw 35 [.int .i64 (0 : Int)], .cell 101 (.aslice 5 none), .dead, .arr (some 106) .placed ps] 7)) else none) else none)) else none) else none := by
  kernel_rfl

set_option maxRecDepth 100000 in
theorem lok_array_place : ∀ fn c, Tryd.prog.funcs[46]? = some fn → fn.body = some c → LOKn Tryd.prog GT gbT 1 LP (loopsIn c) := by
  refine LOKn.ofF fun b hb => ?_
  have e : loopsF Tryd.prog 46 = [loopB Tryd.prog 46 0] := by kernel_rfl
  rw [e] at hb
  simp only [List.mem_cons, List.not_mem_nil, or_false] at hb
  subst hb
  exact (LOKbn.or k_array_place_0 (fun _ _ _ _ _ _ _ h => h.elim))


end Go.Ev

namespace Go.Proofs
open Go.RowKit Go.Shelf

attribute [local go_sem] Oper.semAt_some

abbrev PairN (n : Nat) : Type := { p : Nat × Nat // p.1 < p.2 ∧ p.2 < n }

def encP {n : Nat} (x : PairN n) : Array Value := #[.agg #[.int .i64 (x.1.1 : Int), .int .i64 (x.1.2 : Int)]]

set_option maxRecDepth 100000 in
set_option maxHeartbeats 4000000 in
theorem pairs1_in (m l bn n : Nat) (hn : n ≤ 9223372036854775807) (J Jx : List (PairN n) → World → Prop)
    (hY : ∀ pre x W, J pre W → pre.length < n * n → YieldAt Fence.wide (m - 1) Tryd.prog l (encP x) W fun e W' =>
      (e = .returned (.bool true) ∧ J (pre ++ [x]) W' ∧ W'.heap[bn]? = W.heap[bn]?) ∨ (e = .returned (.bool false) ∧ Jx (pre ++ [x]) W'))
    (W : World) (hb : W.cell? ⟨bn, 0, none⟩ = some (.int .i64 n)) (h0 : J [] W) :
    CallsIn Fence.wide m Tryd.prog 81 #[.func (.yield l) #[] #[], .pointer (some ⟨bn, 0, none⟩)] W fun e W' => (∃ v, e = .returned v) ∧
      ((∃ ys, (∀ p, p ∈ ys) ∧ J ys W') ∨ (∃ pre, True ∧ Jx pre W')) := by
  refine callsIn_of_wp Tryd.func81 rfl trivial ?_ rfl
  simp only [Tryd.ntmps81, List.size_toArray, List.length_cons, List.length_nil, Nat.reduceAdd, Nat.reduceSub, Array.replicate_succ, Array.replicate_zero, List.push_toArray, List.append_toArray, List.nil_append, List.cons_append]
  gi_wp2
  gi_loopw [6] (fun i wr => ∃ k : Nat, k ≤ n ∧ i = .int .i64 k ∧ ∃ pre, J pre wr ∧ (∀ p : PairN n, p.1.1 < k → p ∈ pre) ∧ pre.length ≤ k * n ∧ wr.heap[bn]? = W.heap[bn]?)
    (fun i _ => n - (intOf i).toNat)
  case atStart => exact ⟨0, Nat.zero_le _, rfl, [], h0, fun p hp => by omega, by simp, rfl⟩
  case round =>
    obtain ⟨k, hk, rfl, pre, hJ, hall, hlen, hbn⟩ := hrel
    by_cases hlt : k < n
    · have hbc : wr.cell? ⟨bn, 0, none⟩ = some (.int .i64 n) := (World.cell?_of_block (a := ⟨bn, 0, none⟩) hbn).trans hb
      gi_wp2
      gi_loopw [4] (fun j wq => ∃ c : Nat, k + 1 ≤ c ∧ c ≤ n ∧ j = .int .i64 c ∧ ∃ pre, J pre wq ∧ (∀ p : PairN n, p.1.1 < k → p ∈ pre) ∧ (∀ p : PairN n, p.1.1 = k → p.1.2 < c → p ∈ pre) ∧ pre.length ≤ k * n + c ∧ wq.heap[bn]? = W.heap[bn]?)
        (fun j _ => n - (intOf j).toNat)
      case atStart => exact ⟨k + 1, Nat.le_refl _, hlt, by simp, pre, hJ, hall, fun p h1 h2 => by have := p.2.1; omega, by omega, hbn⟩
      case round =>
        clear hJ hall hlen hbn hbc pre
        obtain ⟨c, hc1, hc2, rfl, pre, hJ, hall, hrow, hlen, hbn⟩ := hrel
        have hbc : wr.cell? ⟨bn, 0, none⟩ = some (.int .i64 n) := (World.cell?_of_block (a := ⟨bn, 0, none⟩) hbn).trans hb
        by_cases hlt2 : c < n
        · have hkn : k * n + n ≤ n * n := by rw [← Nat.succ_mul]; exact Nat.mul_le_mul_right n hlt
          obtain ⟨fn, tmps, assign, body, hy, hR⟩ := hY pre ⟨(k, c), by omega, hlt2⟩ wr hJ (by omega)
          simp only [encP] at hy
          gi_wp2
          refine ⟨fun h => (by cases h), hR.mono ?_⟩
          rintro e W3 (⟨rfl, hJ3, hk3⟩ | ⟨rfl, hJx3⟩)
          · gi_wp2
            go_roundw
            case rel =>
              refine ⟨c + 1, by omega, by omega, by simp, _, hJ3, fun p hp => by simp [hall p hp], fun p h1 h2 => ?_, by simp; omega, hk3.trans hbn⟩
              by_cases h3 : p.1.2 < c
              · simp [hrow p h1 h3]
              · have : p = ⟨(k, c), by omega, hlt2⟩ := Subtype.ext (Prod.ext h1 (show p.1.2 = c by omega))
                simp [this]
            case measure => simp [intOf]; omega
          · gi_wp2
            refine bodyPost_ret (results_none rfl _ _ _) rfl ?_
            exact ⟨⟨_, rfl⟩, .inr ⟨_, trivial, hJx3⟩⟩
        · obtain rfl : c = n := by omega
          gi_wp2
          go_roundw
          case rel =>
            refine ⟨k + 1, by omega, by simp, pre, hJ, fun p hp => ?_, by rw [Nat.succ_mul]; exact hlen, hbn⟩
            by_cases h3 : p.1.1 < k
            · exact hall p h3
            · exact hrow p (by omega) p.2.2
          case measure => simp [intOf]; omega
    · obtain rfl : k = n := by omega
      gi_wp2
      go_end0
      exact ⟨⟨_, rfl⟩, .inl ⟨pre, fun p => hall p (by have := p.2; omega), hJ⟩⟩

end Go.Proofs

namespace Go.Ev
open Go Go.Proofs Go.RowKit

def dupAt (ps : List Placed) (i j : Nat) : Bool :=
  bif ((ps.getD i (ET.z .placed)).site.name.data.toList == (ps.getD j (ET.z .placed)).site.name.data.toList) then true else
    eqAll [.int .i64 (ps.getD i (ET.z .placed)).at_.x.num, .int .i64 (ps.getD i (ET.z .placed)).at_.x.den, .int .i64 (ps.getD i (ET.z .placed)).at_.y.num, .int .i64 (ps.getD i (ET.z .placed)).at_.y.den, .int .i64 (ps.getD i (ET.z .placed)).at_.z.num, .int .i64 (ps.getD i (ET.z .placed)).at_.z.den]
      [.int .i64 (ps.getD j (ET.z .placed)).at_.x.num, .int .i64 (ps.getD j (ET.z .placed)).at_.x.den, .int .i64 (ps.getD j (ET.z .placed)).at_.y.num, .int .i64 (ps.getD j (ET.z .placed)).at_.y.den, .int .i64 (ps.getD j (ET.z .placed)).at_.z.num, .int .i64 (ps.getD j (ET.z .placed)).at_.z.den]

def dupP (ps : List Placed) : Bool := (List.range ps.length).any fun j => (List.range j).any fun i => dupAt ps i j

theorem dupP_true {ps : List Placed} {i j : Nat} (h1 : i < j) (h2 : j < ps.length) (h : dupAt ps i j = true) : dupP ps = true := by
  unfold dupP
  rw [List.any_eq_true]
  exact ⟨j, List.mem_range.2 h2, List.any_eq_true.2 ⟨i, List.mem_range.2 h1, h⟩⟩

theorem dupP_false {ps : List Placed} (h : ∀ i j, i < j → j < ps.length → dupAt ps i j = false) : dupP ps = false := by
  unfold dupP
  rw [List.any_eq_false]
  intro j hj
  rw [List.any_eq_true]
  rintro ⟨i, hi, he⟩
  rw [h i j (List.mem_range.1 hi) (List.mem_range.1 hj)] at he
  cases he

structure O_array_place where
  ok : Bool
  r0 : List Placed
  r1 : Int

def m_array_place (a0 : Globe) (a1 : List Site) : O_array_place :=
  bif Nat.beq (m0_array_place a0 a1).k 0 then ⟨true, [], (m0_array_place a0 a1).e⟩
  else bif Nat.beq (m0_array_place a0 a1).k 1 then (bif dupP (m0_array_place a0 a1).ps then ⟨true, [], 14⟩ else ⟨true, (m0_array_place a0 a1).ps, 0⟩)
  else ⟨false, [], 0⟩

theorem round_eval (l : List Site) (ps : List Placed) (i j : Nat) (hi : i < j) (hj : j < ps.length) :
    evCode Tryd.prog GT EQT TP XT noL 120 (bodC (sndC (fstC (splitC 5 (bodyC Tryd.prog 46)).2))) (tset (.v (.c (.ptr 6 0))) (tset (.v (.agg [.int .i64 i, .int .i64 j])) (headT [4, 5, 8, 55] 88 [.v (.c (.ptr 1 0)), .v (.c (.ptr 2 0)), .v (.c (.ptr 3 0)), .v (.c (.fn 81 [4]))]) 56) 13) [.arr none .site l, .cell 101 .nilS, .rw 35 [.int .i64 (0 : Int)], .cell 101 (.aslice 5 none), .dead, .arr (some 106) .placed ps, .rw 125 [.int .i64 i, .int .i64 j]] 7 (cutR 6) =
    bif dupAt ps i j then some (.st .ret ⟨0, .any, []⟩ [.arr none .site l, .cell 101 .nilS, .rw 35 [.int .i64 (14 : Int)], .cell 101 (.aslice 5 none), .dead, .arr (some 106) .placed ps] 7)
    else some (.st .normal ⟨0, .any, []⟩ [.arr none .site l, .cell 101 .nilS, .rw 35 [.int .i64 (0 : Int)], .cell 101 (.aslice 5 none), .dead, .arr (some 106) .placed ps] 7) := by
  refine (wb_array_place l ps i j).trans ?_
  unfold dupAt
  simp only [nn_t, lt_t (show i < ps.length by omega), lt_t hj, Bool.and_self, cond_true, Int.toNat_natCast]
  cases ((ps.getD i (ET.z .placed)).site.name.data.toList == (ps.getD j (ET.z .placed)).site.name.data.toList) <;> rfl

set_option maxRecDepth 100000 in
theorem tail_eval (l : List Site) (ps : List Placed) : evCode Tryd.prog GT EQT TP XT noL 20 (fstC (sndC (splitC 5 (bodyC Tryd.prog 46)).2)) (headT [4, 5, 8, 55] 88 [.v (.c (.ptr 1 0)), .v (.c (.ptr 2 0)), .v (.c (.ptr 3 0)), .v (.c (.fn 81 [4]))])
      [.arr none .site l, .cell 101 .nilS, .rw 35 [.int .i64 (0 : Int)], .cell 101 (.aslice 5 none), .dead, .arr (some 106) .placed ps] 6 (fun x T M N => some (.st x T M N)) =
    some (.st .normal (tset (.v (.c (.aslice 5 none))) (headT [4, 5, 8, 55] 88 [.v (.c (.ptr 1 0)), .v (.c (.ptr 2 0)), .v (.c (.ptr 3 0)), .v (.c (.fn 81 [4]))]) 87)
      [.arr none .site l, .cell 101 (.aslice 5 none), .rw 35 [.int .i64 (0 : Int)], .cell 101 (.aslice 5 none), .dead, .arr (some 106) .placed ps] 6) := by
  kernel_rfl

theorem shape_place : (splitC 5 (bodyC Tryd.prog 46)).2 = .seq (.seq (fstC (fstC (splitC 5 (bodyC Tryd.prog 46)).2)) (.block 2 (.rangeFunc (.tmp 55) #[56] (asgC (sndC (fstC (splitC 5 (bodyC Tryd.prog 46)).2))) (bodC (sndC (fstC (splitC 5 (bodyC Tryd.prog 46)).2)))))) (.seq (fstC (sndC (splitC 5 (bodyC Tryd.prog 46)).2)) .ret) := by kernel_rfl

theorem none_result {P : Program} {wA w : World} {W : Nat → Prop} {σ τ : Sg} {T : TS} {M : List Blk} {a : Act} {l : List Site} {e : Int} {fn : Func} {n0 : Nat} (ty : Nat) (hn0 : n0 = 1) (hfr : ∀ b, n0 ≤ b → σ b = none) (hle : leB n0 σ τ) (hT : TRel τ T a) (hM : MRel wA W τ M w) (hm0 : mget M 0 = .arr none .site l)
    (hr : resDs P T M fn.results.toList = some [.c .nilS, .c (.d (.int .i64 e))]) : ∃ v, (results fn a.tmps).run P w = .ok v w ∧ ∃ υ, σ.le υ ∧ AVRel υ (.tup [.c (.aslice 1 none), .c (.d (.int .i64 e))]) v ∧ MRel wA W υ [.arr none .site l, .arr (some ty) .placed []] w := by
  subst hn0
  obtain ⟨v, h1, h2⟩ := results_rel hT hM hr
  refine ⟨v, h1, fun c => if c = 0 then τ 0 else if c = 1 then some ⟨0, 0, 0, true, 0, ET.len .placed⟩ else none, fun b L hL => ?_, ?_, ?_⟩
  · have hb : b < 1 := by
      rcases Nat.lt_or_ge b 1 with h | h
      · exact h
      · rw [hfr b h] at hL; cases hL
    obtain rfl : b = 0 := by omega
    exact hle 0 L hb hL
  · obtain ⟨vs, e1, e2⟩ := h2
    refine ⟨vs, e1, ?_⟩
    cases hv : vs.toList with
    | nil => rw [hv] at e2; exact e2.elim
    | cons v1 r =>
      rw [hv] at e2
      obtain ⟨k1, k2⟩ := e2
      refine ⟨⟨_, rfl, .inl ⟨rfl, k1⟩⟩, ?_⟩
      cases r with
      | nil => exact k2.elim
      | cons v2 s =>
        obtain ⟨k3, k4⟩ := k2
        refine ⟨k3, ?_⟩
        cases s with
        | nil => trivial
        | cons _ _ => exact k4.elim
  · refine ⟨fun b => ?_, fun b _ _ _ _ hb => ?_, fun b _ hb => ?_, hM.kept⟩
    · match b with
      | 0 =>
        have := hM.blk 0
        rw [hm0] at this
        obtain ⟨L, h3, h4⟩ := this
        exact ⟨L, h3, h4⟩
      | 1 => exact ⟨_, rfl, rfl, rfl, by simp [ET.flat], rfl, rfl, .inl rfl⟩
      | _ + 2 => trivial
    · match b with
      | 0 => cases l <;> cases hb
      | 1 => cases hb
      | _ + 2 => cases hb
    · match b with
      | 0 => cases l <;> cases hb
      | 1 => cases hb
      | _ + 2 => cases hb

theorem some_result {P : Program} {wA w : World} {W : Nat → Prop} {σ τ : Sg} {T : TS} {M : List Blk} {a : Act} {l : List Site} {ps : List Placed} {e : Int} {fn : Func} {n0 b5 : Nat} (ty : Nat) (hn0 : n0 = 1) (hb5 : 1 ≤ b5) (hfr : ∀ b, n0 ≤ b → σ b = none) (hle : leB n0 σ τ) (hT : TRel τ T a) (hM : MRel wA W τ M w) (hm0 : mget M 0 = .arr none .site l) (hm5 : mget M b5 = .arr (some ty) .placed ps)
    (hr : resDs P T M fn.results.toList = some [.c (.aslice b5 none), .c (.d (.int .i64 e))]) : ∃ v, (results fn a.tmps).run P w = .ok v w ∧ ∃ υ, σ.le υ ∧ AVRel υ (.tup [.c (.aslice 1 none), .c (.d (.int .i64 e))]) v ∧ MRel wA W υ [.arr none .site l, .arr (some ty) .placed ps] w := by
  subst hn0
  obtain ⟨v, h1, h2⟩ := results_rel hT hM hr
  refine ⟨v, h1, _, fun b L hL => ?_, ?_, hM.ren (N' := 2) (fun c => if c = 1 then b5 else c) (fun c => ?_) (fun c c' h1 h2 h3 => ?_)⟩
  · have hb : b < 1 := by
      rcases Nat.lt_or_ge b 1 with h | h
      · exact h
      · rw [hfr b h] at hL; cases hL
    obtain rfl : b = 0 := by omega
    exact hle 0 L hb hL
  · have : AVRel τ (renA (fun c => if c = 1 then b5 else c) (.tup [.c (.aslice 1 none), .c (.d (.int .i64 e))])) v := h2
    refine AVRel.ren (fun b hb => ?_) this
    simp [refsX, refsV, refsC] at hb
    subst hb
    rfl
  · match c with
    | 0 => exact .inr ⟨hm0, by omega, fun b hb => by cases hb⟩
    | 1 => exact .inr ⟨hm5, by omega, fun b hb => by cases hb⟩
    | _ + 2 => exact .inl rfl
  · split at h3 <;> split at h3 <;> omega

set_option maxRecDepth 100000 in
set_option maxHeartbeats 1000000 in
theorem place_calls (g : Globe) (l : List Site) (hok : (m_array_place g l).ok = true) :
    CallsA Tryd.prog GT gbT 46 [.v (.agg [.int .i64 g.a, .int .i64 g.b]), .v (.c (.aslice 0 none))] [.arr none .site l] (.tup [.c (.aslice 1 none), .c (.d (.int .i64 (m_array_place g l).r1))]) [.arr none .site l, .arr (some 106) .placed (m_array_place g l).r0] := by
  intro σ w args hargs hM hG hfr
  have hbody : Tryd.f46.body = some (bodyC Tryd.prog 46) := by kernel_rfl
  have hE := e0_array_place g l
  have hL : ∀ c ∈ (splitC 5 (bodyC Tryd.prog 46)).1, LOKn Tryd.prog GT gbT 1 LP (loopsIn c) := fun c hc b hb => lok_array_place _ _ Tryd.func46 hbody b (splitC_loops _ _ _ hc b hb)
  have hLc : LOKn Tryd.prog GT gbT 1 LP (loopsIn (fstC (fstC (splitC 5 (bodyC Tryd.prog 46)).2))) := by
    have : loopsIn (fstC (fstC (splitC 5 (bodyC Tryd.prog 46)).2)) = [] := by kernel_rfl
    rw [this]
    intro b hb
    cases hb
  have hlen := hargs.length
  have hT0 : TRel σ (frameT [.v (.agg [.int .i64 g.a, .int .i64 g.b]), .v (.c (.aslice 0 none))] 86) { tmps := args ++ Array.replicate (Tryd.f46.ntmps - args.size) undef, defers := [] } := by
    refine ⟨?_, fun t => ?_, rfl⟩
    · have : Tryd.f46.ntmps = 88 := by kernel_rfl
      simp [frameT, TS.length, this] at hlen ⊢
      omega
    · have := enter_rel 86 hargs t
      rw [frame_get]
      rw [Array.getD_eq_getD_getElem?]
      rw [List.getD_eq_getElem?_getD] at this
      rw [← Array.getElem?_toList, Array.toList_append, Array.toList_replicate]
      have e : Tryd.f46.ntmps - args.size = 86 := by
        have : Tryd.f46.ntmps = 88 := by kernel_rfl
        simp at hlen
        omega
      rw [e]
      exact this
  refine callsIn_wide.1 (callsIn_of_wp_marks (n := 10) Tryd.func46 hbody trivial ?_ rfl)
  rw [wpIn_wide]
  rw [← splitC_eq 5 (bodyC Tryd.prog 46), shape_place]
  unfold m_array_place at hok ⊢
  unfold F0_array_place at hE
  cases hk0 : Nat.beq (m0_array_place g l).k 0 with
  | true =>
    rw [hk0] at hE
    simp only [cond_true] at hE ⊢
    refine place_pre hEQT hmT gP hL hLc hE _ _ w (Wof σ [.arr none .site l]) σ _ w _ hG hT0 hM hfr fun τ a' w' hle hT' hM' hN' => ?_
    show LeavesInM _ _ _ _ _ _ a'.defers _ _
    rw [hT'.df]
    obtain ⟨v, hv1, υ, hv2, hv3, hv4⟩ := none_result (P := Tryd.prog) (fn := Tryd.f46) 106 rfl hfr hle hT' hM' rfl (by kernel_rfl)
    exact ⟨v, hv1, v, υ, rfl, hv2, hv3, hv4⟩
  | false =>
    rw [hk0] at hE hok
    simp only [cond_false] at hE hok ⊢
    cases hk1 : Nat.beq (m0_array_place g l).k 1 with
    | false => rw [hk1] at hok; cases hok
    | true =>
    rw [hk1] at hE
    simp only [cond_true] at hE ⊢
    generalize (m0_array_place g l).ps = ps at hE ⊢
    refine place_pre hEQT hmT gP hL hLc hE _ _ w (Wof σ [.arr none .site l]) σ _ w _ hG hT0 hM hfr fun τ a' w' hle hT' hM' hN' => ?_
    -- what lies in memory
    obtain ⟨Mr, hMrd⟩ : ∃ Mr : List Blk, Mr = [.arr none .site l, .cell 101 .nilS, .rw 35 [.int .i64 (0 : Int)], .cell 101 (.aslice 5 none), .dead, .arr (some 106) .placed ps] := ⟨_, rfl⟩
    have d0 : ∃ L, τ 0 = some L := by obtain ⟨L, h, _⟩ := hM'.blk 0; exact ⟨L, h⟩
    have d1 : ∃ L, τ 1 = some L := by obtain ⟨L, _, h, _⟩ := hM'.blk 1; exact ⟨L, h⟩
    have d2 : ∃ L, τ 2 = some L := by obtain ⟨L, _, h, _⟩ := hM'.blk 2; exact ⟨L, h⟩
    have d3 : ∃ L, τ 3 = some L := by obtain ⟨L, _, h, _⟩ := hM'.blk 3; exact ⟨L, h⟩
    have d5 : ∃ L, τ 5 = some L := by obtain ⟨L, h, _⟩ := hM'.blk 5; exact ⟨L, h⟩
    have hn : ps.length ≤ 9223372036854775807 := by
      obtain ⟨_, _, _, _, _, _, _, L5, h1, h2⟩ := hM'.blk 3
      obtain ⟨L5', h3, h4, _⟩ := hM'.blk 5
      rw [h1] at h3
      cases h3
      rcases h2 with ⟨h2, _⟩ | ⟨_, _, _, h2, _⟩
      · omega
      · simp only [maxLen] at h2; omega
    obtain ⟨L4, cur4, q1, q2, q3, q4, q5, q6, q7⟩ := hM'.blk 4
    obtain ⟨bn, hbn⟩ : ∃ bn, L4.blk = bn := ⟨_, rfl⟩
    rw [hbn] at q4
    have hbnlt : bn < w'.heap.size := (Array.getElem?_eq_some_iff.1 q4).1
    have hbncell : w'.cell? ⟨bn, 0, none⟩ = some (.int .i64 (ps.length : Int)) := by
      rw [cell_of_heap q4]
      have : (cur4.toList.take 1)[0]? = ([D.int .i64 (ps.length : Int)].map D.val)[0]? := by rw [← q7]; rfl
      simpa [D.val] using this
    have hMr : MRel w (Wof σ [.arr none .site l]) τ Mr w' := hM'.congr fun b => by
      rw [hMrd]
      match b with
      | 0 | 1 | 2 | 3 | 5 => exact .inl rfl
      | 4 => exact .inr rfl
      | _ + 6 => exact .inl rfl
    have notbn : ¬ Wof τ Mr bn := by
      rintro ⟨b, L, hw, hL, e⟩
      rw [hMrd] at hw
      refine hM'.sep b 4 L L4 ?_ ?_ rfl hL q1 (by rw [e, hbn])
      · rintro rfl; cases hw
      · match b with
        | 0 | 1 | 2 | 3 | 5 => exact hw
        | 4 => cases hw
        | _ + 6 => exact hw
    have dom : ∀ b, mget Mr b = .dead ∨ ((∃ L, τ b = some L) ∧ ∀ r ∈ refsB (mget Mr b), ∃ L, τ r = some L) := by
      intro b
      rw [hMrd]
      match b with
      | 0 => exact .inr ⟨d0, fun r hr => by cases hr⟩
      | 1 => exact .inr ⟨d1, fun r hr => by cases hr⟩
      | 2 => exact .inr ⟨d2, fun r hr => by cases hr⟩
      | 3 => exact .inr ⟨d3, fun r hr => by simp [mget, gets, refsB, refsC] at hr; subst hr; exact d5⟩
      | 4 => exact .inl rfl
      | 5 => exact .inr ⟨d5, fun r hr => by cases hr⟩
      | _ + 6 => exact .inl rfl
    have domx : ∀ b, mget ([.arr none .site l, .cell 101 .nilS, .rw 35 [.int .i64 (14 : Int)]] : List Blk) b = .dead ∨ ((∃ L, τ b = some L) ∧ ∀ r ∈ refsB (mget ([.arr none .site l, .cell 101 .nilS, .rw 35 [.int .i64 (14 : Int)]] : List Blk) b), ∃ L, τ r = some L) := by
      intro b
      match b with
      | 0 => exact .inr ⟨d0, fun r hr => by cases hr⟩
      | 1 => exact .inr ⟨d1, fun r hr => by cases hr⟩
      | 2 => exact .inr ⟨d2, fun r hr => by cases hr⟩
      | _ + 3 => exact .inl rfl
    -- the function that is ranged over
    obtain ⟨vs, hvs, hvp⟩ := hT'.val 55
    have hvl : vs = #[.pointer (some ⟨bn, 0, none⟩)] := by
      cases hv : vs.toList with
      | nil => rw [hv] at hvp; exact hvp.elim
      | cons v1 r =>
        rw [hv] at hvp
        obtain ⟨⟨L, k1, k2⟩, k3⟩ := hvp
        rw [q1] at k1
        cases k1
        cases r with
        | nil => apply Array.ext'; rw [hv, k2, q2, hbn]
        | cons _ _ => exact k3.elim
    have hg : a'.eval (.tmp 55) = .func (.func 81) #[] #[.pointer (some ⟨bn, 0, none⟩)] := by
      rw [← hvl]
      exact hvs
    have hseq : SeqStopsK Fence.wide (10 - 1) Tryd.prog 81 #[.pointer (some ⟨bn, 0, none⟩)] (encP (n := ps.length)) (fun X Y => Y.heap[bn]? = X.heap[bn]?) (fun ys => ∀ p, p ∈ ys) (fun _ => True) (ps.length * ps.length) w' :=
      fun lp J Jx W hW _ _ hY h0 => pairs1_in 9 lp bn ps.length hn J Jx hY W ((hW.cell (p := ⟨bn, 0, none⟩) hbnlt).trans hbncell) h0
    have hG' : ∀ {τ' : Sg} {M'' : List Blk} {X : World}, MRel w (Wof σ [.arr none .site l]) τ' M'' X → Glob GT gbT (Wof τ' M'') X := fun h => hG.rebase h
    have hwB : w.heap.size ≤ w'.heap.size := hM'.kept.size
    have stay : ∀ {τ' : Sg} {M'' : List Blk} {X Y : World}, X.heap[bn]? = w'.heap[bn]? → ¬ Wof τ' M'' bn → Kept (Wof τ' M'') X Y → Y.heap[bn]? = X.heap[bn]? := fun h1 h2 h3 =>
      h3.block bn (Array.getElem?_eq_some_iff.1 (h1.trans q4)).1 h2
    refine wp_block (wpIn_wide.1 (wpIn_rangeFunc_ownH (n := 10) (α := PairN ps.length) rfl (by decide) hg trivial (fun args w => Tryd.call81 args w) hseq (fun h k => k.trans h)
      (fun W lp o o' hl _ _ _ => World.putObj_heap_other (by omega)) (Below.refl _ _) (fun _ => rfl)
      (fun pre W => (∀ p ∈ pre, dupAt ps p.1.1 p.1.2 = false) ∧ MRel w (Wof σ [.arr none .site l]) τ Mr W ∧ W.heap[bn]? = w'.heap[bn]?)
      (fun c pre W => c = .ret ∧ (∃ p ∈ pre, dupAt ps p.1.1 p.1.2 = true) ∧ MRel w (Wof σ [.arr none .site l]) τ [.arr none .site l, .cell 101 .nilS, .rw 35 [.int .i64 (14 : Int)]] W)
      ?hI ?hIx ⟨fun p hp => (by cases hp), hMr, rfl⟩
      (fun x a2 W => ∃ υ, τ.le υ ∧ TRel υ (tset (.v (.c (.ptr 6 0))) (tset (.v (.agg [.int .i64 (x.1.1 : Int), .int .i64 (x.1.2 : Int)])) (headT [4, 5, 8, 55] 88 [.v (.c (.ptr 1 0)), .v (.c (.ptr 2 0)), .v (.c (.ptr 3 0)), .v (.c (.fn 81 [4]))]) 56) 13) a2 ∧ MRel w (Wof σ [.arr none .site l]) υ (Mr ++ [.rw 125 [.int .i64 (x.1.1 : Int), .int .i64 (x.1.2 : Int)]]) W ∧ (∀ b, 7 ≤ b → υ b = none) ∧ ¬ Wof υ (Mr ++ [.rw 125 [.int .i64 (x.1.1 : Int), .int .i64 (x.1.2 : Int)]]) bn)
      ?hAx ?asg ?bod ?done ?stop))
    case hI =>
      rintro pre X Y row ⟨h1, h2, h3⟩ hg' hr
      refine ⟨h1, h2.grown hg' fun r e => ⟨Nat.le_trans hwB (hr r e).1, (hr r e).2⟩, (hg'.block bn ?_ fun e => ?_).trans h3⟩
      · rw [q4] at h3; exact (Array.getElem?_eq_some_iff.1 h3).1
      · have := (hr bn e.symm).1; omega
    case hIx =>
      rintro c pre X Y row ⟨h1, h2, h3⟩ hg' hr
      exact ⟨h1, h2, h3.grown hg' fun r e => ⟨Nat.le_trans hwB (hr r e).1, (hr r e).2⟩⟩
    case hAx =>
      rintro x a2 _ X Y row ⟨υ, h1, h2, h3, h4⟩ hg' hr
      exact ⟨υ, h1, h2, h3.grown hg' fun r e => ⟨Nat.le_trans hwB (hr r e).1, (hr r e).2⟩, h4⟩
    case asg =>
      rintro lp pre x W K ⟨h1, h2, h3⟩ hK
      have hwa := wa_array_place l ps (x.1.1 : Int) (x.1.2 : Int)
      rw [← hMrd] at hwa
      have hcr := CodeR.ofEv (b := asgC (sndC (fstC (splitC 5 (bodyC Tryd.prog 46)).2))) gP hEQT hmT (by kernel_rfl) hwa
      have hT1 := hT'.put (some 56) (x := .v (.agg [.int .i64 (x.1.1 : Int), .int .i64 (x.1.2 : Int)])) (v := .agg #[.int .i64 (x.1.1 : Int), .int .i64 (x.1.2 : Int)]) ⟨rfl, by
        have hx1 := x.2.1
        have hx2 := x.2.2
        intro d hd
        simp only [List.mem_cons, List.not_mem_nil, or_false] at hd
        rcases hd with rfl | rfl <;> simp only [D.ok, inR, Bool.and_eq_true, decide_eq_true_eq] <;> omega⟩
      have hact : (a'.put (some 56) (.agg #[.int .i64 (x.1.1 : Int), .int .i64 (x.1.2 : Int)])) = { tmps := ((#[56] : Array Tmp).zip (encP x)).foldl (fun t (p, v) => t.setIfInBounds p v) a'.tmps, defers := [] } := by
        simp [Act.put, encP, hT'.df]
      rw [hact] at hT1
      refine hcr lp _ W (Wof τ Mr) τ _ W _ (fun ⟨_, _, h⟩ => h) (hG' h2) hT1 h2.rebase ?_ fun υ a2 W2 hle2 hT2 hM2 hN2 => ?_
      · intro b hb
        exact hN' b hb
      · have hkept := hM2.kept
        have hsince := h2.since hM2
        have hbn2 := stay h3 notbn hkept
        have hap : Mr ++ [.rw 125 [.int .i64 (x.1.1 : Int), .int .i64 (x.1.2 : Int)]] = [.arr none .site l, .cell 101 .nilS, .rw 35 [.int .i64 (0 : Int)], .cell 101 (.aslice 5 none), .dead, .arr (some 106) .placed ps, .rw 125 [.int .i64 (x.1.1 : Int), .int .i64 (x.1.2 : Int)]] := by rw [hMrd]; rfl
        have hnot : ¬ Wof υ (Mr ++ [.rw 125 [.int .i64 (x.1.1 : Int), .int .i64 (x.1.2 : Int)]]) bn := by
          rintro ⟨b, L, hw, hL, e⟩
          rcases hM2.own b L (by rw [hap] at hw; exact hw) hL with h5 | h5
          · exact notbn (e ▸ h5)
          · have hlt : bn < W.heap.size := (Array.getElem?_eq_some_iff.1 (h3.trans q4)).1
            omega
        refine hK a2 W2 (Kept.keepsFrom h2.rebase hkept _) hbn2 ⟨h1, ?_, hbn2.trans h3⟩ ⟨υ, hle2, hT2, ?_, hN2, hnot⟩
        · refine MRel.under hle2 (hsince.congr fun b => ?_) dom
          rw [hMrd]
          match b with
          | 0 | 1 | 2 | 3 | 5 => exact .inl rfl
          | 4 => exact .inl rfl
          | 6 => exact .inr rfl
          | _ + 7 => exact .inl rfl
        · rw [hap]
          exact hsince
    case bod =>
      rintro lp pre x a2 W hlp _ ⟨h1, h2, h3⟩ ⟨υ, k1, k2, k3, k4, k5⟩ _
      have hev := round_eval l ps x.1.1 x.1.2 x.2.1 x.2.2
      have hap : Mr ++ [.rw 125 [.int .i64 (x.1.1 : Int), .int .i64 (x.1.2 : Int)]] = [.arr none .site l, .cell 101 .nilS, .rw 35 [.int .i64 (0 : Int)], .cell 101 (.aslice 5 none), .dead, .arr (some 106) .placed ps, .rw 125 [.int .i64 (x.1.1 : Int), .int .i64 (x.1.2 : Int)]] := by rw [hMrd]; rfl
      rw [hap] at k3 k5
      cases hdup : dupAt ps x.1.1 x.1.2 with
      | false =>
        rw [hdup] at hev
        obtain ⟨T2, M2, hc, hcr⟩ := CodeR.ofCut (b := bodC (sndC (fstC (splitC 5 (bodyC Tryd.prog 46)).2))) gP hEQT hmT (by kernel_rfl) hev
        refine hcr lp _ W _ υ a2 W _ (fun ⟨_, _, h⟩ => h) (hG' k3) k2 k3.rebase k4 fun ω a3 W3 hle3 _ hM3 _ => ?_
        have hbn3 := stay h3 k5 hM3.kept
        refine ⟨Kept.keepsFrom k3.rebase hM3.kept _, hbn3, fun p hp => ?_, ?_, hbn3.trans h3⟩
        · rcases List.mem_append.1 hp with hp | hp
          · exact h1 p hp
          · rw [List.mem_singleton.1 hp]; exact hdup
        · refine MRel.under (Sg.le_trans k1 hle3) ((k3.since hM3).congr fun b => ?_) dom
          rw [hMrd]
          exact hc b
      | true =>
        rw [hdup] at hev
        obtain ⟨T2, M2, hc, hcr⟩ := CodeR.ofCut (b := bodC (sndC (fstC (splitC 5 (bodyC Tryd.prog 46)).2))) gP hEQT hmT (by kernel_rfl) hev
        refine hcr lp _ W _ υ a2 W _ (fun ⟨_, _, h⟩ => h) (hG' k3) k2 k3.rebase k4 fun ω a3 W3 hle3 _ hM3 _ => ?_
        refine ⟨Kept.keepsFrom k3.rebase hM3.kept _, rfl, ⟨x, by simp, hdup⟩, ?_⟩
        refine MRel.under (Sg.le_trans k1 hle3) ((k3.since hM3).congr fun b => ?_) domx
        match b with
        | 0 => exact hc 0
        | 1 => exact hc 1
        | 2 => exact hc 2
        | _ + 3 => exact .inr rfl
    case done =>
      rintro D xs W hD hS ⟨h1, h2, h3⟩ hKd
      rw [dupP_false fun i j hi hj => h1 ⟨(i, j), hi, hj⟩ (hS _)]
      show (Code.seq _ .ret).wp _ _ _ _
      have hreg : ∃ id ops, fstC (sndC (splitC 5 (bodyC Tryd.prog 46)).2) = .region id ops false ∧ (ops.toList.all fun o => plainOp o.op) = true := by
        refine ⟨20, _, (by kernel_rfl : fstC (sndC (splitC 5 (bodyC Tryd.prog 46)).2) = .region 20 (opsC (fstC (sndC (splitC 5 (bodyC Tryd.prog 46)).2))) false), by kernel_rfl⟩
      obtain ⟨id, ops, hr1, hr2⟩ := hreg
      have hte := tail_eval l ps
      rw [← hMrd] at hte
      rw [hr1] at hte ⊢
      rw [hT'.df]
      have hnl : ¬ LetsOut (bodyPostM Fence.wide 10 Tryd.prog Tryd.f46 fun e w'_1 => ∃ v' τ, e = .returned v' ∧ σ.le τ ∧ AVRel τ (.tup [.c (.aslice 1 none), .c (.d (.int .i64 (0 : Int)))]) v' ∧ MRel w (Wof σ [.arr none .site l]) τ [.arr none .site l, .arr (some 106) .placed ps] w'_1) := by
        rintro ⟨_, _, _, _, h, _⟩
        cases h
      have hdf : ({ a' with defers := [{ target := .collected D, args := #[] }] } : Act) = { a' with defers := [{ target := .collected D, args := #[] }] } := rfl
      refine wp_seq (region_defers hEQT gP hr2 hte W (Wof τ Mr) τ a' W _ _ (then_out hnl) (hG' h2) hT' h2.rebase hN' fun υ a2 W2 hle2 hT2 hM2 => ?_)
      refine wp_ret ?_
      show LeavesInM _ _ _ _ _ _ [_] _ _
      have hD2 : W2.heap[D]? = some (.deferred (some [])) := by
        have hlt : D < W.heap.size := (Array.getElem?_eq_some_iff.1 hKd).1
        refine (hM2.kept.block D hlt ?_).trans hKd
        rintro ⟨b, L, hw, hL, e⟩
        obtain ⟨cur, t, fr, h5⟩ := (h2.blk b).cellsAt (wr_live hw) hL
        rw [e, hKd] at h5
        cases h5
      refine ⟨by simp, .inl ⟨D, _, rfl, run_takeDeferred hD2, ?_⟩⟩
      have h4 := (h2.since hM2).grown (grownBy_putObj' W2 D (.deferred none)) fun r e => by cases e; exact ⟨Nat.le_trans hwB hD, _, hD2, rfl⟩
      obtain ⟨v, hv1, υ', hv2, hv3, hv4⟩ := some_result (P := Tryd.prog) (fn := Tryd.f46) 106 rfl (by decide) hfr (fun b L hb hL => hle2 b L (hle b L hb hL)) hT2 h4 rfl rfl (b5 := 5) (by kernel_rfl)
      exact ⟨v, hv1, v, υ', rfl, hv2, hv3, hv4⟩
    case stop =>
      rintro D c pre W hD _ ⟨rfl, ⟨p, _, hp⟩, h3⟩ hKd
      refine wpIn_ret ?_
      show LeavesInM _ _ _ _ _ _ (_ :: a'.defers) _ _
      rw [hT'.df, dupP_true p.2.1 p.2.2 hp]
      refine ⟨by simp, .inl ⟨D, _, rfl, run_takeDeferred hKd, ?_⟩⟩
      have h4 := h3.grown (grownBy_putObj' W D (.deferred none)) fun r e => by cases e; exact ⟨Nat.le_trans hwB hD, _, hKd, rfl⟩
      obtain ⟨v, hv1, υ, hv2, hv3, hv4⟩ := none_result (P := Tryd.prog) (fn := Tryd.f46) 106 rfl hfr hle hT' h4 rfl (by kernel_rfl)
      exact ⟨v, hv1, v, υ, rfl, hv2, hv3, hv4⟩

def s_array_place : List AV → List Blk → (AV → List Blk → Ans) → Ans := fun xs bs K => match xs, bs with
  | [.v (.agg [.int .i64 a0_0, .int .i64 a0_1]), .v (.c (.aslice 0 none))], [.arr none .site a1] => bif (m_array_place (⟨a0_0, a0_1⟩ : Globe) a1).ok then K (.tup [.c (.aslice 1 none), .c (.d (.int .i64 (m_array_place (⟨a0_0, a0_1⟩ : Globe) a1).r1))]) [.arr none .site a1, .arr (some 106) .placed (m_array_place (⟨a0_0, a0_1⟩ : Globe) a1).r0] else none
  | _, _ => none

def T_array_place : Nat → List AV → List Blk → (AV → List Blk → Ans) → Ans := upd TP 46 s_array_place

theorem g_array_place : GOK Tryd.prog GT gbT T_array_place XT := by
  refine GOK.upd gP (fun args w => Tryd.call46 args w) fun xs bs K r h => ?_
  unfold s_array_place at h
  split at h
  · simp only [cond_eq_ite] at h
    split at h
    · rename_i hd
      exact ⟨_, _, place_calls _ _ hd, h⟩
    · cases h
  · cases h

end Go.Ev

namespace Go.Ev
open Go Go.Proofs

structure O_array_Line where
  ok : Bool
  r0 : Vec
  r1 : Int

def m_array_Line (a0 : Globe) (a1 : List Site) (a2 : Int) (a3 : Int) : O_array_Line := bif (m_array_place a0 a1).ok then (bif ((m_array_place a0 a1).r1 != (0 : Int)) then ⟨true, ⟨⟨(0 : Int), (0 : Int)⟩, ⟨(0 : Int), (0 : Int)⟩, ⟨(0 : Int), (0 : Int)⟩⟩, (m_array_place a0 a1).r1⟩ else (bif decide (a2 < (0 : Int)) then ⟨true, ⟨⟨(0 : Int), (0 : Int)⟩, ⟨(0 : Int), (0 : Int)⟩, ⟨(0 : Int), (0 : Int)⟩⟩, (2 : Int)⟩ else (bif decide ((((m_array_place a0 a1).r0).length : Int) ≤ a2) then ⟨true, ⟨⟨(0 : Int), (0 : Int)⟩, ⟨(0 : Int), (0 : Int)⟩, ⟨(0 : Int), (0 : Int)⟩⟩, (2 : Int)⟩ else (bif decide (a3 < (0 : Int)) then ⟨true, ⟨⟨(0 : Int), (0 : Int)⟩, ⟨(0 : Int), (0 : Int)⟩, ⟨(0 : Int), (0 : Int)⟩⟩, (2 : Int)⟩ else (bif decide ((((m_array_place a0 a1).r0).length : Int) ≤ a3) then ⟨true, ⟨⟨(0 : Int), (0 : Int)⟩, ⟨(0 : Int), (0 : Int)⟩, ⟨(0 : Int), (0 : Int)⟩⟩, (2 : Int)⟩ else (bif (decide ((0 : Int) ≤ a3) && decide (a3 < (((m_array_place a0 a1).r0).length : Int))) then (bif (decide ((0 : Int) ≤ a2) && decide (a2 < (((m_array_place a0 a1).r0).length : Int))) then ⟨true, (subV ⟨⟨((((((m_array_place a0 a1).r0).getD a3.toNat (ET.z .placed)).at_).x).num), ((((((m_array_place a0 a1).r0).getD a3.toNat (ET.z .placed)).at_).x).den)⟩, ⟨((((((m_array_place a0 a1).r0).getD a3.toNat (ET.z .placed)).at_).y).num), ((((((m_array_place a0 a1).r0).getD a3.toNat (ET.z .placed)).at_).y).den)⟩, ⟨((((((m_array_place a0 a1).r0).getD a3.toNat (ET.z .placed)).at_).z).num), ((((((m_array_place a0 a1).r0).getD a3.toNat (ET.z .placed)).at_).z).den)⟩⟩ ⟨⟨((((((m_array_place a0 a1).r0).getD a2.toNat (ET.z .placed)).at_).x).num), ((((((m_array_place a0 a1).r0).getD a2.toNat (ET.z .placed)).at_).x).den)⟩, ⟨((((((m_array_place a0 a1).r0).getD a2.toNat (ET.z .placed)).at_).y).num), ((((((m_array_place a0 a1).r0).getD a2.toNat (ET.z .placed)).at_).y).den)⟩, ⟨((((((m_array_place a0 a1).r0).getD a2.toNat (ET.z .placed)).at_).z).num), ((((((m_array_place a0 a1).r0).getD a2.toNat (ET.z .placed)).at_).z).den)⟩⟩).1, (subV ⟨⟨((((((m_array_place a0 a1).r0).getD a3.toNat (ET.z .placed)).at_).x).num), ((((((m_array_place a0 a1).r0).getD a3.toNat (ET.z .placed)).at_).x).den)⟩, ⟨((((((m_array_place a0 a1).r0).getD a3.toNat (ET.z .placed)).at_).y).num), ((((((m_array_place a0 a1).r0).getD a3.toNat (ET.z .placed)).at_).y).den)⟩, ⟨((((((m_array_place a0 a1).r0).getD a3.toNat (ET.z .placed)).at_).z).num), ((((((m_array_place a0 a1).r0).getD a3.toNat (ET.z .placed)).at_).z).den)⟩⟩ ⟨⟨((((((m_array_place a0 a1).r0).getD a2.toNat (ET.z .placed)).at_).x).num), ((((((m_array_place a0 a1).r0).getD a2.toNat (ET.z .placed)).at_).x).den)⟩, ⟨((((((m_array_place a0 a1).r0).getD a2.toNat (ET.z .placed)).at_).y).num), ((((((m_array_place a0 a1).r0).getD a2.toNat (ET.z .placed)).at_).y).den)⟩, ⟨((((((m_array_place a0 a1).r0).getD a2.toNat (ET.z .placed)).at_).z).num), ((((((m_array_place a0 a1).r0).getD a2.toNat (ET.z .placed)).at_).z).den)⟩⟩).2⟩ else ⟨false, ⟨⟨0, 0⟩, ⟨0, 0⟩, ⟨0, 0⟩⟩, 0⟩) else ⟨false, ⟨⟨0, 0⟩, ⟨0, 0⟩, ⟨0, 0⟩⟩, 0⟩)))))) else ⟨false, ⟨⟨0, 0⟩, ⟨0, 0⟩, ⟨0, 0⟩⟩, 0⟩

def F_array_Line (a0 : Globe) (a1 : List Site) (a2 : Int) (a3 : Int) (K : AV → List Blk → Ans) (r : O_array_Line) : Ans := bif r.ok then K (.tup [.agg [.int .i64 r.r0.x.num, .int .i64 r.r0.x.den, .int .i64 r.r0.y.num, .int .i64 r.r0.y.den, .int .i64 r.r0.z.num, .int .i64 r.r0.z.den], .c (.d (.int .i64 r.r1))]) [.arr none .site a1] else none

set_option maxRecDepth 100000 in
theorem e_array_Line (a0 : Globe) (a1 : List Site) (a2 : Int) (a3 : Int) (K : AV → List Blk → Ans) : evFn Tryd.prog GT EQT T_array_place XT noL 80 28 [.v (.agg [.int .i64 a0.a, .int .i64 a0.b]), .v (.c (.aslice 0 none)), .v (.c (.d (.int .i64 a2))), .v (.c (.d (.int .i64 a3)))] [.arr none .site a1] (fun v M => K (finR 1 v M).1 (finR 1 v M).2) = F_array_Line a0 a1 a2 a3 K (m_array_Line a0 a1 a2 a3) := by
  unfold m_array_Line
  refine Eq.trans ?_ (Eq.symm (pushT (pushT rfl (pushT rfl (pushT rfl (pushT rfl (pushT rfl (pushT (pushT rfl rfl) rfl)))))) rfl))
  kernel_rfl

theorem c_array_Line (a0 : Globe) (a1 : List Site) (a2 : Int) (a3 : Int) (hd : (m_array_Line a0 a1 a2 a3).ok = true) : CallsA Tryd.prog GT gbT 28 [.v (.agg [.int .i64 a0.a, .int .i64 a0.b]), .v (.c (.aslice 0 none)), .v (.c (.d (.int .i64 a2))), .v (.c (.d (.int .i64 a3)))] [.arr none .site a1] (.tup [.agg [.int .i64 ((((m_array_Line a0 a1 a2 a3).r0).x).num), .int .i64 ((((m_array_Line a0 a1 a2 a3).r0).x).den), .int .i64 ((((m_array_Line a0 a1 a2 a3).r0).y).num), .int .i64 ((((m_array_Line a0 a1 a2 a3).r0).y).den), .int .i64 ((((m_array_Line a0 a1 a2 a3).r0).z).num), .int .i64 ((((m_array_Line a0 a1 a2 a3).r0).z).den)], .c (.d (.int .i64 ((m_array_Line a0 a1 a2 a3).r1)))]) [.arr none .site a1] := by
  refine CallsA.ofEvR g_array_place hEQT hmT (n0 := 1) rfl (fun _ _ _ _ => LOKn.nil) ((e_array_Line a0 a1 a2 a3 (fun v M => some (Res.fin v M))).trans ?_)
  unfold F_array_Line
  rw [hd]
  rfl

def s_array_Line : List AV → List Blk → (AV → List Blk → Ans) → Ans := fun xs bs K => match xs, bs with
  | [.v (.agg [.int .i64 a0_0, .int .i64 a0_1]), .v (.c (.aslice 0 none)), .v (.c (.d (.int .i64 a2))), .v (.c (.d (.int .i64 a3)))], [.arr none .site a1] => F_array_Line (⟨a0_0, a0_1⟩ : Globe) a1 a2 a3 K (m_array_Line (⟨a0_0, a0_1⟩ : Globe) a1 a2 a3)
  | _, _ => none

def T_array_Line : Nat → List AV → List Blk → (AV → List Blk → Ans) → Ans := upd T_array_place 28 s_array_Line

theorem g_array_Line : GOK Tryd.prog GT gbT T_array_Line XT := by
  refine GOK.upd g_array_place (fun args w => Tryd.call28 args w) fun xs bs K r h => ?_
  unfold s_array_Line at h
  split at h
  · unfold F_array_Line at h
    simp only [cond_eq_ite] at h
    split at h
    · rename_i hd
      exact ⟨_, _, c_array_Line _ _ _ _ hd, h⟩
    · cases h
  · cases h

structure O_proj_Line where
  ok : Bool
  r0 : Dir
  r1 : Int

def m_proj_Line (a0 : Globe) (a1 : List Site) (a2 : Int) (a3 : Int) (a4 : Source) (a5 : Int) : O_proj_Line := bif (m_array_Line a0 a1 a2 a3).ok then (bif ((m_array_Line a0 a1 a2 a3).r1 != (0 : Int)) then ⟨true, ⟨⟨(0 : Int), (0 : Int)⟩, ⟨(0 : Int), (0 : Int)⟩, ⟨(0 : Int), (0 : Int)⟩⟩, (m_array_Line a0 a1 a2 a3).r1⟩ else ⟨true, (projV ((m_array_Line a0 a1 a2 a3).r0) a4 a5).1, (projV ((m_array_Line a0 a1 a2 a3).r0) a4 a5).2⟩) else ⟨false, ⟨⟨0, 0⟩, ⟨0, 0⟩, ⟨0, 0⟩⟩, 0⟩

def F_proj_Line (a0 : Globe) (a1 : List Site) (a2 : Int) (a3 : Int) (a4 : Source) (a5 : Int) (K : AV → List Blk → Ans) (r : O_proj_Line) : Ans := bif r.ok then K (.tup [.agg [.int .i64 r.r0.x.lo, .int .i64 r.r0.x.hi, .int .i64 r.r0.y.lo, .int .i64 r.r0.y.hi, .int .i64 r.r0.z.lo, .int .i64 r.r0.z.hi], .c (.d (.int .i64 r.r1))]) [.arr none .site a1] else none

set_option maxRecDepth 100000 in
theorem e_proj_Line (a0 : Globe) (a1 : List Site) (a2 : Int) (a3 : Int) (a4 : Source) (a5 : Int) (K : AV → List Blk → Ans) : evFn Tryd.prog GT EQT T_array_Line XT noL 80 13 [.v (.agg [.int .i64 a0.a, .int .i64 a0.b]), .v (.c (.aslice 0 none)), .v (.c (.d (.int .i64 a2))), .v (.c (.d (.int .i64 a3))), .v (.agg [.str a4.name, .int .i64 a4.ra, .int .i64 a4.dec]), .v (.c (.d (.int .i64 a5)))] [.arr none .site a1] (fun v M => K (finR 1 v M).1 (finR 1 v M).2) = F_proj_Line a0 a1 a2 a3 a4 a5 K (m_proj_Line a0 a1 a2 a3 a4 a5) := by
  unfold m_proj_Line
  refine Eq.trans ?_ (Eq.symm (pushT (pushT rfl rfl) rfl))
  kernel_rfl

theorem c_proj_Line (a0 : Globe) (a1 : List Site) (a2 : Int) (a3 : Int) (a4 : Source) (a5 : Int) (hd : (m_proj_Line a0 a1 a2 a3 a4 a5).ok = true) : CallsA Tryd.prog GT gbT 13 [.v (.agg [.int .i64 a0.a, .int .i64 a0.b]), .v (.c (.aslice 0 none)), .v (.c (.d (.int .i64 a2))), .v (.c (.d (.int .i64 a3))), .v (.agg [.str a4.name, .int .i64 a4.ra, .int .i64 a4.dec]), .v (.c (.d (.int .i64 a5)))] [.arr none .site a1] (.tup [.agg [.int .i64 ((((m_proj_Line a0 a1 a2 a3 a4 a5).r0).x).lo), .int .i64 ((((m_proj_Line a0 a1 a2 a3 a4 a5).r0).x).hi), .int .i64 ((((m_proj_Line a0 a1 a2 a3 a4 a5).r0).y).lo), .int .i64 ((((m_proj_Line a0 a1 a2 a3 a4 a5).r0).y).hi), .int .i64 ((((m_proj_Line a0 a1 a2 a3 a4 a5).r0).z).lo), .int .i64 ((((m_proj_Line a0 a1 a2 a3 a4 a5).r0).z).hi)], .c (.d (.int .i64 ((m_proj_Line a0 a1 a2 a3 a4 a5).r1)))]) [.arr none .site a1] := by
  refine CallsA.ofEvR g_array_Line hEQT hmT (n0 := 1) rfl (fun _ _ _ _ => LOKn.nil) ((e_proj_Line a0 a1 a2 a3 a4 a5 (fun v M => some (Res.fin v M))).trans ?_)
  unfold F_proj_Line
  rw [hd]
  rfl

def s_proj_Line : List AV → List Blk → (AV → List Blk → Ans) → Ans := fun xs bs K => match xs, bs with
  | [.v (.agg [.int .i64 a0_0, .int .i64 a0_1]), .v (.c (.aslice 0 none)), .v (.c (.d (.int .i64 a2))), .v (.c (.d (.int .i64 a3))), .v (.agg [.str a4_0, .int .i64 a4_1, .int .i64 a4_2]), .v (.c (.d (.int .i64 a5)))], [.arr none .site a1] => F_proj_Line (⟨a0_0, a0_1⟩ : Globe) a1 a2 a3 (⟨a4_0, a4_1, a4_2⟩ : Source) a5 K (m_proj_Line (⟨a0_0, a0_1⟩ : Globe) a1 a2 a3 (⟨a4_0, a4_1, a4_2⟩ : Source) a5)
  | _, _ => none

def T_proj_Line : Nat → List AV → List Blk → (AV → List Blk → Ans) → Ans := upd T_array_Line 13 s_proj_Line

theorem g_proj_Line : GOK Tryd.prog GT gbT T_proj_Line XT := by
  refine GOK.upd g_array_Line (fun args w => Tryd.call13 args w) fun xs bs K r h => ?_
  unfold s_proj_Line at h
  split at h
  · unfold F_proj_Line at h
    simp only [cond_eq_ite] at h
    split at h
    · rename_i hd
      exact ⟨_, _, c_proj_Line _ _ _ _ _ _ hd, h⟩
    · cases h
  · cases h

end Go.Ev

namespace Go.Ev
open Go Go.Proofs

structure R_track_Path_0 where
  k : Nat
  p48 : Int
  m2 : List Dir

def run_track_Path_0 (p1 : Int) (p2 : Int) (p9 : Int) (p47 : Int) (q0 : Source) (m1 : List Dir) : Nat → Int → List Dir → R_track_Path_0
  | 0, p48, m2 => ⟨2, p48, m2⟩
  | n + 1, p48, m2 => bif decide (p48 < p47) then (bif dirOn q0.ra q0.dec (w64 (p1 + (w64 (p48 * p2)))) then (bif (0 != (0 : Int)) then ⟨0, p48, m2⟩ else (bif (decide ((0 : Int) ≤ p48) && decide (p48 < (m2.length : Int))) then run_track_Path_0 p1 p2 p9 p47 q0 m1 n (w64 (p48 + (1 : Int))) (m2.set p48.toNat (dirS q0.ra q0.dec (w64 (p1 + (w64 (p48 * p2)))))) else ⟨2, p48, m2⟩)) else ⟨2, p48, m2⟩) else ⟨1, p48, m2⟩

def lp_track_Path_0 (p1 : Int) (p2 : Int) (p9 : Int) (p47 : Int) (q0 : Source) (m1 : List Dir) (p48 : Int) (m2 : List Dir) : R_track_Path_0 := run_track_Path_0 p1 p2 p9 p47 q0 m1 (2000 + (m1.length + m2.length)) p48 m2

abbrev H_track_Path_0 (p1 : Int) (p2 : Int) (p9 : Int) (p47 : Int) (q0 : Source) (m1 : List Dir) (p48 : Int) (m2 : List Dir) : TS := headT [1, 2, 4, 8, 9, 11, 47, 48] 70 [.v (.c (.d (.int .i64 p1))), .v (.c (.d (.int .i64 p2))), .v (.c (.ptr 0 0)), .v (.c (.aslice 1 none)), .v (.c (.d (.int .i64 p9))), .v (.c (.aslice 2 none)), .v (.c (.d (.int .i64 p47))), .v (.c (.d (.int .i64 p48)))]

set_option maxRecDepth 100000 in
theorem b_track_Path_0 (p1 : Int) (p2 : Int) (p9 : Int) (p47 : Int) (q0 : Source) (m1 : List Dir) (p48 : Int) (m2 : List Dir) : evCode Tryd.prog GT EQT (inl Tryd.prog GT EQT XT [49] T_proj_Line 80 2) XT noL 80 (loopB Tryd.prog 29 0) (H_track_Path_0 p1 p2 p9 p47 q0 m1 p48 m2) [.rw 27 [.str q0.name, .int .i64 q0.ra, .int .i64 q0.dec], .arr (some 34) .dir m1, .arr (some 34) .dir m2] 3 (normK 0 [1, 2, 4, 8, 9, 11, 47, 48]) =
    bif decide (p48 < p47) then (bif dirOn q0.ra q0.dec (w64 (p1 + (w64 (p48 * p2)))) then (bif (0 != (0 : Int)) then some (.st .ret (headT [1, 2, 4, 8, 9, 11, 47, 48] 70 [.v (.c (.d (.int .i64 p1))), .v (.c (.d (.int .i64 p2))), .v (.c (.ptr 0 0)), .v (.c (.aslice 1 none)), .v (.c (.d (.int .i64 0))), .v (.c (.aslice 2 none)), .v (.c (.d (.int .i64 p47))), .v (.c (.d (.int .i64 p48)))]) [.rw 27 [.str q0.name, .int .i64 q0.ra, .int .i64 q0.dec], .arr (some 34) .dir ([] : List Dir), .arr (some 34) .dir m2] 3) else (bif (decide ((0 : Int) ≤ p48) && decide (p48 < (m2.length : Int))) then some (.st .normal (headT [1, 2, 4, 8, 9, 11, 47, 48] 70 [.v (.c (.d (.int .i64 p1))), .v (.c (.d (.int .i64 p2))), .v (.c (.ptr 0 0)), .v (.c (.aslice 1 none)), .v (.c (.d (.int .i64 p9))), .v (.c (.aslice 2 none)), .v (.c (.d (.int .i64 p47))), .v (.c (.d (.int .i64 (w64 (p48 + (1 : Int))))))]) [.rw 27 [.str q0.name, .int .i64 q0.ra, .int .i64 q0.dec], .arr (some 34) .dir m1, .arr (some 34) .dir (m2.set p48.toNat (dirS q0.ra q0.dec (w64 (p1 + (w64 (p48 * p2))))))] 3) else none)) else none) else some (.st (.exit 0) (headT [1, 2, 4, 8, 9, 11, 47, 48] 70 [.v (.c (.d (.int .i64 p1))), .v (.c (.d (.int .i64 p2))), .v (.c (.ptr 0 0)), .v (.c (.aslice 1 none)), .v (.c (.d (.int .i64 p9))), .v (.c (.aslice 2 none)), .v (.c (.d (.int .i64 p47))), .v (.c (.d (.int .i64 p48)))]) [.rw 27 [.str q0.name, .int .i64 q0.ra, .int .i64 q0.dec], .arr (some 34) .dir m1, .arr (some 34) .dir m2] 3) := by
  kernel_rfl

def o_track_Path_0 (p1 : Int) (p2 : Int) (p9 : Int) (p47 : Int) (q0 : Source) (m1 : List Dir) (r : R_track_Path_0) : LT := .br (Nat.beq r.k 0) (.st .ret (headT [1, 2, 4, 8, 9, 11, 47, 48] 70 [.v (.c (.d (.int .i64 p1))), .v (.c (.d (.int .i64 p2))), .v (.c (.ptr 0 0)), .v (.c (.aslice 1 none)), .v (.c (.d (.int .i64 0))), .v (.c (.aslice 2 none)), .v (.c (.d (.int .i64 p47))), .v (.c (.d (.int .i64 r.p48)))]) [.rw 27 [.str q0.name, .int .i64 q0.ra, .int .i64 q0.dec], .arr (some 34) .dir ([] : List Dir), .arr (some 34) .dir r.m2] 3) (.br (Nat.beq r.k 1) (.st (.exit 0) (headT [1, 2, 4, 8, 9, 11, 47, 48] 70 [.v (.c (.d (.int .i64 p1))), .v (.c (.d (.int .i64 p2))), .v (.c (.ptr 0 0)), .v (.c (.aslice 1 none)), .v (.c (.d (.int .i64 p9))), .v (.c (.aslice 2 none)), .v (.c (.d (.int .i64 p47))), .v (.c (.d (.int .i64 r.p48)))]) [.rw 27 [.str q0.name, .int .i64 q0.ra, .int .i64 q0.dec], .arr (some 34) .dir m1, .arr (some 34) .dir r.m2] 3) (.no))

set_option maxRecDepth 100000 in
theorem r_track_Path_0 (p1 : Int) (p2 : Int) (p9 : Int) (p47 : Int) (q0 : Source) (m1 : List Dir) : ∀ (n : Nat) (p48 : Int) (m2 : List Dir) (x : Ex) (T' : TS) (M' : List Blk) (N' : Nat), LReach (o_track_Path_0 p1 p2 p9 p47 q0 m1 (run_track_Path_0 p1 p2 p9 p47 q0 m1 n p48 m2)) x T' M' N' → x ≠ .normal ∧ ∃ j, RoundsN Tryd.prog GT gbT 0 (loopB Tryd.prog 29 0) j (H_track_Path_0 p1 p2 p9 p47 q0 m1 p48 m2) [.rw 27 [.str q0.name, .int .i64 q0.ra, .int .i64 q0.dec], .arr (some 34) .dir m1, .arr (some 34) .dir m2] 3 x T' M' N' := by
  have hL : LOKn Tryd.prog GT gbT 0 noL (loopsIn (loopB Tryd.prog 29 0)) := fun _ _ _ _ _ _ _ _ _ h => h.elim
  intro n
  induction n with
  | zero =>
    intro p48 m2 x T' M' N' hr
    exact False.elim (redF (redF hr))
  | succ n ih =>
    intro p48 m2 x T' M' N'
    rw [run_track_Path_0]
    exact viaE (b_track_Path_0 p1 p2 p9 p47 q0 m1 p48 m2) (condG (o := o_track_Path_0 p1 p2 p9 p47 q0 m1) (condG (o := o_track_Path_0 p1 p2 p9 p47 q0 m1) (condG (o := o_track_Path_0 p1 p2 p9 p47 q0 m1) (fun he hr => stopN (g_proj_Line.inl hEQT hmT (fun f hf => by simp only [List.mem_cons, List.not_mem_nil, or_false] at hf; subst hf; exact (fun args w => Tryd.call49 args w)) 80 2) hEQT hmT hL he (by simp) (redT hr)) (condG (o := o_track_Path_0 p1 p2 p9 p47 q0 m1) (fun he hr => goN (g_proj_Line.inl hEQT hmT (fun f hf => by simp only [List.mem_cons, List.not_mem_nil, or_false] at hf; subst hf; exact (fun args w => Tryd.call49 args w)) 80 2) hEQT hmT hL he (ih (w64 (p48 + (1 : Int))) (m2.set p48.toNat (dirS q0.ra q0.dec (w64 (p1 + (w64 (p48 * p2)))))) x T' M' N' hr)) (fun _ hr => False.elim (redF (redF hr))))) (fun _ hr => False.elim (redF (redF hr)))) (fun he hr => stopN (g_proj_Line.inl hEQT hmT (fun f hf => by simp only [List.mem_cons, List.not_mem_nil, or_false] at hf; subst hf; exact (fun args w => Tryd.call49 args w)) 80 2) hEQT hmT hL he (by simp) (redT (redF hr))))

def f_track_Path_0 : List AV → List Blk → LT := fun vs Ms => match vs, Ms with
  | [.v (.c (.d (.int .i64 p1))), .v (.c (.d (.int .i64 p2))), .v (.c (.ptr 0 0)), .v (.c (.aslice 1 none)), .v (.c (.d (.int .i64 p9))), .v (.c (.aslice 2 none)), .v (.c (.d (.int .i64 p47))), .v (.c (.d (.int .i64 p48)))], [.rw 27 [.str q0_0, .int .i64 q0_1, .int .i64 q0_2], .arr (some 34) .dir m1, .arr (some 34) .dir m2] => o_track_Path_0 p1 p2 p9 p47 (⟨q0_0, q0_1, q0_2⟩ : Source) m1 (lp_track_Path_0 p1 p2 p9 p47 (⟨q0_0, q0_1, q0_2⟩ : Source) m1 p48 m2)
  | _, _ => .no

def L_track_Path_0 := LamN 10 70 0 [1, 2, 4, 8, 9, 11, 47, 48] f_track_Path_0

set_option maxRecDepth 100000 in
theorem k_track_Path_0 : LOKbn Tryd.prog GT gbT 0 L_track_Path_0 (loopB Tryd.prog 29 0) := by
  refine LOKbn.lamN (by kernel_rfl) fun vs Ms x T' M' N' hr => ?_
  unfold f_track_Path_0 at hr
  split at hr
  · obtain ⟨q1, j, q2⟩ := r_track_Path_0 _ _ _ _ _ _ _ _ _ x T' M' N' hr
    exact ⟨q1, j, q2⟩
  · exact hr.elim

structure O_track_Path where
  ok : Bool
  r0 : List Dir
  r1 : Int

def m_track_Path (a0 : Source) (a1 : Int) (a2 : Int) (a3 : Int) : O_track_Path := bif ((checkSrc ⟨a0.name, a0.ra, a0.dec⟩) != (0 : Int)) then ⟨true, ([] : List Dir), (checkSrc ⟨a0.name, a0.ra, a0.dec⟩)⟩ else (bif decide (a3 < (0 : Int)) then ⟨true, ([] : List Dir), (4 : Int)⟩ else (bif decide ((100 : Int) < a3) then ⟨true, ([] : List Dir), (4 : Int)⟩ else (bif decide (a2 < (1 : Int)) then ⟨true, ([] : List Dir), (2 : Int)⟩ else (bif decide ((720 : Int) < a2) then ⟨true, ([] : List Dir), (2 : Int)⟩ else (bif decide (a1 < (-1000000 : Int)) then ⟨true, ([] : List Dir), (2 : Int)⟩ else (bif decide ((1000000 : Int) < a1) then ⟨true, ([] : List Dir), (2 : Int)⟩ else (bif decide ((w64 (a1 + (w64 (a2 * (if (0 : Int) > (w64 (a3 - (1 : Int))) then (0 : Int) else (w64 (a3 - (1 : Int)))))))) < (-1000000 : Int)) then ⟨true, ([] : List Dir), (2 : Int)⟩ else (bif decide ((1000000 : Int) < (w64 (a1 + (w64 (a2 * (if (0 : Int) > (w64 (a3 - (1 : Int))) then (0 : Int) else (w64 (a3 - (1 : Int))))))))) then ⟨true, ([] : List Dir), (2 : Int)⟩ else (bif (decide (a3 = a3) && (decide (0 ≤ a3) && (decide (a3 ≤ 1048576) && ((6 == 6) && (Nat.blt 0 6 && Nat.ble 48 4096))))) then (bif Nat.beq (lp_track_Path_0 a1 a2 (0 : Int) a3 a0 ([] : List Dir) (0 : Int) (List.replicate a3.toNat (⟨⟨(0 : Int), (0 : Int)⟩, ⟨(0 : Int), (0 : Int)⟩, ⟨(0 : Int), (0 : Int)⟩⟩ : Dir))).k 0 then ⟨true, ([] : List Dir), 0⟩ else (bif Nat.beq (lp_track_Path_0 a1 a2 (0 : Int) a3 a0 ([] : List Dir) (0 : Int) (List.replicate a3.toNat (⟨⟨(0 : Int), (0 : Int)⟩, ⟨(0 : Int), (0 : Int)⟩, ⟨(0 : Int), (0 : Int)⟩⟩ : Dir))).k 1 then ⟨true, ((lp_track_Path_0 a1 a2 (0 : Int) a3 a0 ([] : List Dir) (0 : Int) (List.replicate a3.toNat (⟨⟨(0 : Int), (0 : Int)⟩, ⟨(0 : Int), (0 : Int)⟩, ⟨(0 : Int), (0 : Int)⟩⟩ : Dir))).m2), (0 : Int)⟩ else ⟨false, [], 0⟩)) else ⟨false, [], 0⟩)))))))))

def F_track_Path (a0 : Source) (a1 : Int) (a2 : Int) (a3 : Int) (K : AV → List Blk → Ans) (r : O_track_Path) : Ans := bif r.ok then K (.tup [.c (.aslice 0 none), .c (.d (.int .i64 r.r1))]) [.arr (some 34) .dir r.r0] else none

set_option maxRecDepth 100000 in
theorem e_track_Path (a0 : Source) (a1 : Int) (a2 : Int) (a3 : Int) (K : AV → List Blk → Ans) : evFn Tryd.prog GT EQT (inl Tryd.prog GT EQT XT [49] T_proj_Line 80 2) XT (orL L_track_Path_0 noL) 80 29 [.v (.agg [.str a0.name, .int .i64 a0.ra, .int .i64 a0.dec]), .v (.c (.d (.int .i64 a1))), .v (.c (.d (.int .i64 a2))), .v (.c (.d (.int .i64 a3)))] [] (fun v M => K (finR 0 v M).1 (finR 0 v M).2) = F_track_Path a0 a1 a2 a3 K (m_track_Path a0 a1 a2 a3) := by
  unfold m_track_Path
  refine Eq.trans ?_ (Eq.symm (pushT rfl (pushT rfl (pushT rfl (pushT rfl (pushT rfl (pushT rfl (pushT rfl (pushT rfl (pushT rfl (pushT (pushT rfl (pushT rfl rfl)) rfl)))))))))))
  kernel_rfl

set_option maxRecDepth 100000 in
theorem lok_track_Path : ∀ fn c, Tryd.prog.funcs[29]? = some fn → fn.body = some c → LOKn Tryd.prog GT gbT 0 (orL L_track_Path_0 noL) (loopsIn c) := by
  refine LOKn.ofF fun b hb => ?_
  have e : loopsF Tryd.prog 29 = [loopB Tryd.prog 29 0] := by kernel_rfl
  rw [e] at hb
  simp only [List.mem_cons, List.not_mem_nil, or_false] at hb
  subst hb
  exact (LOKbn.or k_track_Path_0 (fun _ _ _ _ _ _ _ h => h.elim))


theorem c_track_Path (a0 : Source) (a1 : Int) (a2 : Int) (a3 : Int) (hd : (m_track_Path a0 a1 a2 a3).ok = true) : CallsA Tryd.prog GT gbT 29 [.v (.agg [.str a0.name, .int .i64 a0.ra, .int .i64 a0.dec]), .v (.c (.d (.int .i64 a1))), .v (.c (.d (.int .i64 a2))), .v (.c (.d (.int .i64 a3)))] [] (.tup [.c (.aslice 0 none), .c (.d (.int .i64 ((m_track_Path a0 a1 a2 a3).r1)))]) [.arr (some 34) .dir ((m_track_Path a0 a1 a2 a3).r0)] := by
  refine CallsA.ofEvR (g_proj_Line.inl hEQT hmT (fun f hf => by simp only [List.mem_cons, List.not_mem_nil, or_false] at hf; subst hf; exact (fun args w => Tryd.call49 args w)) 80 2) hEQT hmT (n0 := 0) rfl lok_track_Path ((e_track_Path a0 a1 a2 a3 (fun v M => some (Res.fin v M))).trans ?_)
  unfold F_track_Path
  rw [hd]
  rfl

def s_track_Path : List AV → List Blk → (AV → List Blk → Ans) → Ans := fun xs bs K => match xs, bs with
  | [.v (.agg [.str a0_0, .int .i64 a0_1, .int .i64 a0_2]), .v (.c (.d (.int .i64 a1))), .v (.c (.d (.int .i64 a2))), .v (.c (.d (.int .i64 a3)))], [] => F_track_Path (⟨a0_0, a0_1, a0_2⟩ : Source) a1 a2 a3 K (m_track_Path (⟨a0_0, a0_1, a0_2⟩ : Source) a1 a2 a3)
  | _, _ => none

def T_track_Path : Nat → List AV → List Blk → (AV → List Blk → Ans) → Ans := upd T_proj_Line 29 s_track_Path

theorem g_track_Path : GOK Tryd.prog GT gbT T_track_Path XT := by
  refine GOK.upd g_proj_Line (fun args w => Tryd.call29 args w) fun xs bs K r h => ?_
  unfold s_track_Path at h
  split at h
  · unfold F_track_Path at h
    simp only [cond_eq_ite] at h
    split at h
    · rename_i hd
      exact ⟨_, _, c_track_Path _ _ _ _ hd, h⟩
    · cases h
  · cases h

structure R_proj_Trail_0 where
  k : Nat
  p52 : Int
  m4 : List Trk

def run_proj_Trail_0 (p5 : Int) (p6 : Int) (p17 : Int) (p51 : Int) (m0 : List Site) (q1 : Source) (m2 : List Trk) (q3 : Vec) : Nat → Int → List Trk → R_proj_Trail_0
  | 0, p52, m4 => ⟨2, p52, m4⟩
  | n + 1, p52, m4 => bif decide (p52 < p51) then (bif ((projV q3 q1 (w64 (p5 + (w64 (p52 * p6))))).2 != (0 : Int)) then ⟨0, p52, m4⟩ else (bif (decide ((0 : Int) ≤ p52) && decide (p52 < (m4.length : Int))) then run_proj_Trail_0 p5 p6 p17 p51 m0 q1 m2 q3 n (w64 (p52 + (1 : Int))) (m4.set p52.toNat ⟨(w64 (p5 + (w64 (p52 * p6)))), ((projV q3 q1 (w64 (p5 + (w64 (p52 * p6))))).1).x, ((projV q3 q1 (w64 (p5 + (w64 (p52 * p6))))).1).y, ((projV q3 q1 (w64 (p5 + (w64 (p52 * p6))))).1).z⟩) else ⟨2, p52, m4⟩)) else ⟨1, p52, m4⟩

def lp_proj_Trail_0 (p5 : Int) (p6 : Int) (p17 : Int) (p51 : Int) (m0 : List Site) (q1 : Source) (m2 : List Trk) (q3 : Vec) (p52 : Int) (m4 : List Trk) : R_proj_Trail_0 := run_proj_Trail_0 p5 p6 p17 p51 m0 q1 m2 q3 (2000 + (m0.length + m2.length + m4.length)) p52 m4

abbrev H_proj_Trail_0 (p5 : Int) (p6 : Int) (p17 : Int) (p51 : Int) (m0 : List Site) (q1 : Source) (m2 : List Trk) (q3 : Vec) (p52 : Int) (m4 : List Trk) : TS := headT [5, 6, 12, 16, 17, 18, 22, 51, 52] 83 [.v (.c (.d (.int .i64 p5))), .v (.c (.d (.int .i64 p6))), .v (.c (.ptr 1 0)), .v (.c (.aslice 2 none)), .v (.c (.d (.int .i64 p17))), .v (.c (.ptr 3 0)), .v (.c (.aslice 4 none)), .v (.c (.d (.int .i64 p51))), .v (.c (.d (.int .i64 p52)))]

set_option maxRecDepth 100000 in
theorem b_proj_Trail_0 (p5 : Int) (p6 : Int) (p17 : Int) (p51 : Int) (m0 : List Site) (q1 : Source) (m2 : List Trk) (q3 : Vec) (p52 : Int) (m4 : List Trk) : evCode Tryd.prog GT EQT T_track_Path XT noL 80 (loopB Tryd.prog 14 0) (H_proj_Trail_0 p5 p6 p17 p51 m0 q1 m2 q3 p52 m4) [.arr none .site m0, .rw 27 [.str q1.name, .int .i64 q1.ra, .int .i64 q1.dec], .arr (some 56) .trk m2, .rw 25 [.int .i64 q3.x.num, .int .i64 q3.x.den, .int .i64 q3.y.num, .int .i64 q3.y.den, .int .i64 q3.z.num, .int .i64 q3.z.den], .arr (some 56) .trk m4] 5 (normK 1 [5, 6, 12, 16, 17, 18, 22, 51, 52]) =
    bif decide (p52 < p51) then (bif ((projV q3 q1 (w64 (p5 + (w64 (p52 * p6))))).2 != (0 : Int)) then some (.st .ret (headT [5, 6, 12, 16, 17, 18, 22, 51, 52] 83 [.v (.c (.d (.int .i64 p5))), .v (.c (.d (.int .i64 p6))), .v (.c (.ptr 1 0)), .v (.c (.aslice 2 none)), .v (.c (.d (.int .i64 ((projV q3 q1 (w64 (p5 + (w64 (p52 * p6))))).2)))), .v (.c (.ptr 3 0)), .v (.c (.aslice 4 none)), .v (.c (.d (.int .i64 p51))), .v (.c (.d (.int .i64 p52)))]) [.arr none .site m0, .rw 27 [.str q1.name, .int .i64 q1.ra, .int .i64 q1.dec], .arr (some 56) .trk ([] : List Trk), .rw 25 [.int .i64 q3.x.num, .int .i64 q3.x.den, .int .i64 q3.y.num, .int .i64 q3.y.den, .int .i64 q3.z.num, .int .i64 q3.z.den], .arr (some 56) .trk m4] 5) else (bif (decide ((0 : Int) ≤ p52) && decide (p52 < (m4.length : Int))) then some (.st .normal (headT [5, 6, 12, 16, 17, 18, 22, 51, 52] 83 [.v (.c (.d (.int .i64 p5))), .v (.c (.d (.int .i64 p6))), .v (.c (.ptr 1 0)), .v (.c (.aslice 2 none)), .v (.c (.d (.int .i64 p17))), .v (.c (.ptr 3 0)), .v (.c (.aslice 4 none)), .v (.c (.d (.int .i64 p51))), .v (.c (.d (.int .i64 (w64 (p52 + (1 : Int))))))]) [.arr none .site m0, .rw 27 [.str q1.name, .int .i64 q1.ra, .int .i64 q1.dec], .arr (some 56) .trk m2, .rw 25 [.int .i64 q3.x.num, .int .i64 q3.x.den, .int .i64 q3.y.num, .int .i64 q3.y.den, .int .i64 q3.z.num, .int .i64 q3.z.den], .arr (some 56) .trk (m4.set p52.toNat ⟨(w64 (p5 + (w64 (p52 * p6)))), ((projV q3 q1 (w64 (p5 + (w64 (p52 * p6))))).1).x, ((projV q3 q1 (w64 (p5 + (w64 (p52 * p6))))).1).y, ((projV q3 q1 (w64 (p5 + (w64 (p52 * p6))))).1).z⟩)] 5) else none)) else some (.st (.exit 0) (headT [5, 6, 12, 16, 17, 18, 22, 51, 52] 83 [.v (.c (.d (.int .i64 p5))), .v (.c (.d (.int .i64 p6))), .v (.c (.ptr 1 0)), .v (.c (.aslice 2 none)), .v (.c (.d (.int .i64 p17))), .v (.c (.ptr 3 0)), .v (.c (.aslice 4 none)), .v (.c (.d (.int .i64 p51))), .v (.c (.d (.int .i64 p52)))]) [.arr none .site m0, .rw 27 [.str q1.name, .int .i64 q1.ra, .int .i64 q1.dec], .arr (some 56) .trk m2, .rw 25 [.int .i64 q3.x.num, .int .i64 q3.x.den, .int .i64 q3.y.num, .int .i64 q3.y.den, .int .i64 q3.z.num, .int .i64 q3.z.den], .arr (some 56) .trk m4] 5) := by
  kernel_rfl

def o_proj_Trail_0 (p5 : Int) (p6 : Int) (p17 : Int) (p51 : Int) (m0 : List Site) (q1 : Source) (m2 : List Trk) (q3 : Vec) (r : R_proj_Trail_0) : LT := .br (Nat.beq r.k 0) (.st .ret (headT [5, 6, 12, 16, 17, 18, 22, 51, 52] 83 [.v (.c (.d (.int .i64 p5))), .v (.c (.d (.int .i64 p6))), .v (.c (.ptr 1 0)), .v (.c (.aslice 2 none)), .v (.c (.d (.int .i64 ((projV q3 q1 (w64 (p5 + (w64 (r.p52 * p6))))).2)))), .v (.c (.ptr 3 0)), .v (.c (.aslice 4 none)), .v (.c (.d (.int .i64 p51))), .v (.c (.d (.int .i64 r.p52)))]) [.arr none .site m0, .rw 27 [.str q1.name, .int .i64 q1.ra, .int .i64 q1.dec], .arr (some 56) .trk ([] : List Trk), .rw 25 [.int .i64 q3.x.num, .int .i64 q3.x.den, .int .i64 q3.y.num, .int .i64 q3.y.den, .int .i64 q3.z.num, .int .i64 q3.z.den], .arr (some 56) .trk r.m4] 5) (.br (Nat.beq r.k 1) (.st (.exit 0) (headT [5, 6, 12, 16, 17, 18, 22, 51, 52] 83 [.v (.c (.d (.int .i64 p5))), .v (.c (.d (.int .i64 p6))), .v (.c (.ptr 1 0)), .v (.c (.aslice 2 none)), .v (.c (.d (.int .i64 p17))), .v (.c (.ptr 3 0)), .v (.c (.aslice 4 none)), .v (.c (.d (.int .i64 p51))), .v (.c (.d (.int .i64 r.p52)))]) [.arr none .site m0, .rw 27 [.str q1.name, .int .i64 q1.ra, .int .i64 q1.dec], .arr (some 56) .trk m2, .rw 25 [.int .i64 q3.x.num, .int .i64 q3.x.den, .int .i64 q3.y.num, .int .i64 q3.y.den, .int .i64 q3.z.num, .int .i64 q3.z.den], .arr (some 56) .trk r.m4] 5) (.no))

set_option maxRecDepth 100000 in
theorem r_proj_Trail_0 (p5 : Int) (p6 : Int) (p17 : Int) (p51 : Int) (m0 : List Site) (q1 : Source) (m2 : List Trk) (q3 : Vec) : ∀ (n : Nat) (p52 : Int) (m4 : List Trk) (x : Ex) (T' : TS) (M' : List Blk) (N' : Nat), LReach (o_proj_Trail_0 p5 p6 p17 p51 m0 q1 m2 q3 (run_proj_Trail_0 p5 p6 p17 p51 m0 q1 m2 q3 n p52 m4)) x T' M' N' → x ≠ .normal ∧ ∃ j, RoundsN Tryd.prog GT gbT 1 (loopB Tryd.prog 14 0) j (H_proj_Trail_0 p5 p6 p17 p51 m0 q1 m2 q3 p52 m4) [.arr none .site m0, .rw 27 [.str q1.name, .int .i64 q1.ra, .int .i64 q1.dec], .arr (some 56) .trk m2, .rw 25 [.int .i64 q3.x.num, .int .i64 q3.x.den, .int .i64 q3.y.num, .int .i64 q3.y.den, .int .i64 q3.z.num, .int .i64 q3.z.den], .arr (some 56) .trk m4] 5 x T' M' N' := by
  have hL : LOKn Tryd.prog GT gbT 1 noL (loopsIn (loopB Tryd.prog 14 0)) := fun _ _ _ _ _ _ _ _ _ h => h.elim
  intro n
  induction n with
  | zero =>
    intro p52 m4 x T' M' N' hr
    exact False.elim (redF (redF hr))
  | succ n ih =>
    intro p52 m4 x T' M' N'
    rw [run_proj_Trail_0]
    exact viaE (b_proj_Trail_0 p5 p6 p17 p51 m0 q1 m2 q3 p52 m4) (condG (o := o_proj_Trail_0 p5 p6 p17 p51 m0 q1 m2 q3) (condG (o := o_proj_Trail_0 p5 p6 p17 p51 m0 q1 m2 q3) (fun he hr => stopN g_track_Path hEQT hmT hL he (by simp) (redT hr)) (condG (o := o_proj_Trail_0 p5 p6 p17 p51 m0 q1 m2 q3) (fun he hr => goN g_track_Path hEQT hmT hL he (ih (w64 (p52 + (1 : Int))) (m4.set p52.toNat ⟨(w64 (p5 + (w64 (p52 * p6)))), ((projV q3 q1 (w64 (p5 + (w64 (p52 * p6))))).1).x, ((projV q3 q1 (w64 (p5 + (w64 (p52 * p6))))).1).y, ((projV q3 q1 (w64 (p5 + (w64 (p52 * p6))))).1).z⟩) x T' M' N' hr)) (fun _ hr => False.elim (redF (redF hr))))) (fun he hr => stopN g_track_Path hEQT hmT hL he (by simp) (redT (redF hr))))

def f_proj_Trail_0 : List AV → List Blk → LT := fun vs Ms => match vs, Ms with
  | [.v (.c (.d (.int .i64 p5))), .v (.c (.d (.int .i64 p6))), .v (.c (.ptr 1 0)), .v (.c (.aslice 2 none)), .v (.c (.d (.int .i64 p17))), .v (.c (.ptr 3 0)), .v (.c (.aslice 4 none)), .v (.c (.d (.int .i64 p51))), .v (.c (.d (.int .i64 p52)))], [.arr none .site m0, .rw 27 [.str q1_0, .int .i64 q1_1, .int .i64 q1_2], .arr (some 56) .trk m2, .rw 25 [.int .i64 q3_0, .int .i64 q3_1, .int .i64 q3_2, .int .i64 q3_3, .int .i64 q3_4, .int .i64 q3_5], .arr (some 56) .trk m4] => o_proj_Trail_0 p5 p6 p17 p51 m0 (⟨q1_0, q1_1, q1_2⟩ : Source) m2 (⟨⟨q3_0, q3_1⟩, ⟨q3_2, q3_3⟩, ⟨q3_4, q3_5⟩⟩ : Vec) (lp_proj_Trail_0 p5 p6 p17 p51 m0 (⟨q1_0, q1_1, q1_2⟩ : Source) m2 (⟨⟨q3_0, q3_1⟩, ⟨q3_2, q3_3⟩, ⟨q3_4, q3_5⟩⟩ : Vec) p52 m4)
  | _, _ => .no

def L_proj_Trail_0 := LamN 9 83 1 [5, 6, 12, 16, 17, 18, 22, 51, 52] f_proj_Trail_0

set_option maxRecDepth 100000 in
theorem k_proj_Trail_0 : LOKbn Tryd.prog GT gbT 1 L_proj_Trail_0 (loopB Tryd.prog 14 0) := by
  refine LOKbn.lamN (by kernel_rfl) fun vs Ms x T' M' N' hr => ?_
  unfold f_proj_Trail_0 at hr
  split at hr
  · obtain ⟨q1, j, q2⟩ := r_proj_Trail_0 _ _ _ _ _ _ _ _ _ _ _ x T' M' N' hr
    exact ⟨q1, j, q2⟩
  · exact hr.elim

structure O_proj_Trail where
  ok : Bool
  r0 : List Trk
  r1 : Int

def m_proj_Trail (a0 : Globe) (a1 : List Site) (a2 : Int) (a3 : Int) (a4 : Source) (a5 : Int) (a6 : Int) (a7 : Int) : O_proj_Trail := bif (m_array_Line a0 a1 a2 a3).ok then (bif ((m_array_Line a0 a1 a2 a3).r1 != (0 : Int)) then ⟨true, ([] : List Trk), (m_array_Line a0 a1 a2 a3).r1⟩ else (bif (m_track_Path a4 a5 a6 a7).ok then (bif ((m_track_Path a4 a5 a6 a7).r1 != (0 : Int)) then ⟨true, ([] : List Trk), (m_track_Path a4 a5 a6 a7).r1⟩ else (bif (decide (a7 = a7) && (decide (0 ≤ a7) && (decide (a7 ≤ 1048576) && ((7 == 7) && (Nat.blt 0 7 && Nat.ble 56 4096))))) then (bif Nat.beq (lp_proj_Trail_0 a5 a6 (0 : Int) a7 a1 a4 ([] : List Trk) ((m_array_Line a0 a1 a2 a3).r0) (0 : Int) (List.replicate a7.toNat (⟨(0 : Int), ⟨(0 : Int), (0 : Int)⟩, ⟨(0 : Int), (0 : Int)⟩, ⟨(0 : Int), (0 : Int)⟩⟩ : Trk))).k 0 then ⟨true, ([] : List Trk), (projV ((m_array_Line a0 a1 a2 a3).r0) a4 (w64 (a5 + (w64 (((lp_proj_Trail_0 a5 a6 (0 : Int) a7 a1 a4 ([] : List Trk) ((m_array_Line a0 a1 a2 a3).r0) (0 : Int) (List.replicate a7.toNat (⟨(0 : Int), ⟨(0 : Int), (0 : Int)⟩, ⟨(0 : Int), (0 : Int)⟩, ⟨(0 : Int), (0 : Int)⟩⟩ : Trk))).p52) * a6))))).2⟩ else (bif Nat.beq (lp_proj_Trail_0 a5 a6 (0 : Int) a7 a1 a4 ([] : List Trk) ((m_array_Line a0 a1 a2 a3).r0) (0 : Int) (List.replicate a7.toNat (⟨(0 : Int), ⟨(0 : Int), (0 : Int)⟩, ⟨(0 : Int), (0 : Int)⟩, ⟨(0 : Int), (0 : Int)⟩⟩ : Trk))).k 1 then ⟨true, ((lp_proj_Trail_0 a5 a6 (0 : Int) a7 a1 a4 ([] : List Trk) ((m_array_Line a0 a1 a2 a3).r0) (0 : Int) (List.replicate a7.toNat (⟨(0 : Int), ⟨(0 : Int), (0 : Int)⟩, ⟨(0 : Int), (0 : Int)⟩, ⟨(0 : Int), (0 : Int)⟩⟩ : Trk))).m4), (0 : Int)⟩ else ⟨false, [], 0⟩)) else ⟨false, [], 0⟩)) else ⟨false, [], 0⟩)) else ⟨false, [], 0⟩

def F_proj_Trail (a0 : Globe) (a1 : List Site) (a2 : Int) (a3 : Int) (a4 : Source) (a5 : Int) (a6 : Int) (a7 : Int) (K : AV → List Blk → Ans) (r : O_proj_Trail) : Ans := bif r.ok then K (.tup [.c (.aslice 1 none), .c (.d (.int .i64 r.r1))]) [.arr none .site a1, .arr (some 56) .trk r.r0] else none

set_option maxRecDepth 100000 in
theorem e_proj_Trail (a0 : Globe) (a1 : List Site) (a2 : Int) (a3 : Int) (a4 : Source) (a5 : Int) (a6 : Int) (a7 : Int) (K : AV → List Blk → Ans) : evFn Tryd.prog GT EQT T_track_Path XT (orL L_proj_Trail_0 noL) 80 14 [.v (.agg [.int .i64 a0.a, .int .i64 a0.b]), .v (.c (.aslice 0 none)), .v (.c (.d (.int .i64 a2))), .v (.c (.d (.int .i64 a3))), .v (.agg [.str a4.name, .int .i64 a4.ra, .int .i64 a4.dec]), .v (.c (.d (.int .i64 a5))), .v (.c (.d (.int .i64 a6))), .v (.c (.d (.int .i64 a7)))] [.arr none .site a1] (fun v M => K (finR 1 v M).1 (finR 1 v M).2) = F_proj_Trail a0 a1 a2 a3 a4 a5 a6 a7 K (m_proj_Trail a0 a1 a2 a3 a4 a5 a6 a7) := by
  unfold m_proj_Trail
  refine Eq.trans ?_ (Eq.symm (pushT (pushT rfl (pushT (pushT rfl (pushT (pushT rfl (pushT rfl rfl)) rfl)) rfl)) rfl))
  kernel_rfl

set_option maxRecDepth 100000 in
theorem lok_proj_Trail : ∀ fn c, Tryd.prog.funcs[14]? = some fn → fn.body = some c → LOKn Tryd.prog GT gbT 1 (orL L_proj_Trail_0 noL) (loopsIn c) := by
  refine LOKn.ofF fun b hb => ?_
  have e : loopsF Tryd.prog 14 = [loopB Tryd.prog 14 0] := by kernel_rfl
  rw [e] at hb
  simp only [List.mem_cons, List.not_mem_nil, or_false] at hb
  subst hb
  exact (LOKbn.or k_proj_Trail_0 (fun _ _ _ _ _ _ _ h => h.elim))


theorem c_proj_Trail (a0 : Globe) (a1 : List Site) (a2 : Int) (a3 : Int) (a4 : Source) (a5 : Int) (a6 : Int) (a7 : Int) (hd : (m_proj_Trail a0 a1 a2 a3 a4 a5 a6 a7).ok = true) : CallsA Tryd.prog GT gbT 14 [.v (.agg [.int .i64 a0.a, .int .i64 a0.b]), .v (.c (.aslice 0 none)), .v (.c (.d (.int .i64 a2))), .v (.c (.d (.int .i64 a3))), .v (.agg [.str a4.name, .int .i64 a4.ra, .int .i64 a4.dec]), .v (.c (.d (.int .i64 a5))), .v (.c (.d (.int .i64 a6))), .v (.c (.d (.int .i64 a7)))] [.arr none .site a1] (.tup [.c (.aslice 1 none), .c (.d (.int .i64 ((m_proj_Trail a0 a1 a2 a3 a4 a5 a6 a7).r1)))]) [.arr none .site a1, .arr (some 56) .trk ((m_proj_Trail a0 a1 a2 a3 a4 a5 a6 a7).r0)] := by
  refine CallsA.ofEvR g_track_Path hEQT hmT (n0 := 1) rfl lok_proj_Trail ((e_proj_Trail a0 a1 a2 a3 a4 a5 a6 a7 (fun v M => some (Res.fin v M))).trans ?_)
  unfold F_proj_Trail
  rw [hd]
  rfl

def s_proj_Trail : List AV → List Blk → (AV → List Blk → Ans) → Ans := fun xs bs K => match xs, bs with
  | [.v (.agg [.int .i64 a0_0, .int .i64 a0_1]), .v (.c (.aslice 0 none)), .v (.c (.d (.int .i64 a2))), .v (.c (.d (.int .i64 a3))), .v (.agg [.str a4_0, .int .i64 a4_1, .int .i64 a4_2]), .v (.c (.d (.int .i64 a5))), .v (.c (.d (.int .i64 a6))), .v (.c (.d (.int .i64 a7)))], [.arr none .site a1] => F_proj_Trail (⟨a0_0, a0_1⟩ : Globe) a1 a2 a3 (⟨a4_0, a4_1, a4_2⟩ : Source) a5 a6 a7 K (m_proj_Trail (⟨a0_0, a0_1⟩ : Globe) a1 a2 a3 (⟨a4_0, a4_1, a4_2⟩ : Source) a5 a6 a7)
  | _, _ => none

def T_proj_Trail : Nat → List AV → List Blk → (AV → List Blk → Ans) → Ans := upd T_track_Path 14 s_proj_Trail

theorem g_proj_Trail : GOK Tryd.prog GT gbT T_proj_Trail XT := by
  refine GOK.upd g_track_Path (fun args w => Tryd.call14 args w) fun xs bs K r h => ?_
  unfold s_proj_Trail at h
  split at h
  · unfold F_proj_Trail at h
    simp only [cond_eq_ite] at h
    split at h
    · rename_i hd
      exact ⟨_, _, c_proj_Trail _ _ _ _ _ _ _ _ hd, h⟩
    · cases h
  · cases h

structure R_Q8_Same_0 where
  k : Nat
  p5 : Int

def run_Q8_Same_0 (p4 : Bool) (m0 : List Trk) (m1 : List Trk) : Nat → Int → R_Q8_Same_0
  | 0, p5 => ⟨2, p5⟩
  | n + 1, p5 => bif decide (p5 < (m0.length : Int)) then (bif (decide ((0 : Int) ≤ p5) && decide (p5 < (m0.length : Int))) then (bif (decide ((0 : Int) ≤ p5) && decide (p5 < (m1.length : Int))) then (bif (!(eqAll [.int .i64 ((m0.getD p5.toNat (ET.z .trk)).tick), .int .i64 (((m0.getD p5.toNat (ET.z .trk)).u).lo), .int .i64 (((m0.getD p5.toNat (ET.z .trk)).u).hi), .int .i64 (((m0.getD p5.toNat (ET.z .trk)).v).lo), .int .i64 (((m0.getD p5.toNat (ET.z .trk)).v).hi), .int .i64 (((m0.getD p5.toNat (ET.z .trk)).w).lo), .int .i64 (((m0.getD p5.toNat (ET.z .trk)).w).hi)] [.int .i64 ((m1.getD p5.toNat (ET.z .trk)).tick), .int .i64 (((m1.getD p5.toNat (ET.z .trk)).u).lo), .int .i64 (((m1.getD p5.toNat (ET.z .trk)).u).hi), .int .i64 (((m1.getD p5.toNat (ET.z .trk)).v).lo), .int .i64 (((m1.getD p5.toNat (ET.z .trk)).v).hi), .int .i64 (((m1.getD p5.toNat (ET.z .trk)).w).lo), .int .i64 (((m1.getD p5.toNat (ET.z .trk)).w).hi)])) then ⟨0, p5⟩ else run_Q8_Same_0 p4 m0 m1 n (w64 (p5 + (1 : Int)))) else ⟨2, p5⟩) else ⟨2, p5⟩) else ⟨1, p5⟩

def lp_Q8_Same_0 (p4 : Bool) (m0 : List Trk) (m1 : List Trk) (p5 : Int) : R_Q8_Same_0 := run_Q8_Same_0 p4 m0 m1 (2000 + (m0.length + m1.length)) p5

abbrev H_Q8_Same_0 (p4 : Bool) (m0 : List Trk) (m1 : List Trk) (p5 : Int) : TS := headT [0, 1, 4, 5] 26 [.v (.c (.aslice 0 none)), .v (.c (.aslice 1 none)), .v (.c (.d (.bool p4))), .v (.c (.d (.int .i64 p5)))]

set_option maxRecDepth 100000 in
theorem b_Q8_Same_0 (p4 : Bool) (m0 : List Trk) (m1 : List Trk) (p5 : Int) : evCode Tryd.prog GT EQT T_proj_Trail XT noL 80 (loopB Tryd.prog 16 0) (H_Q8_Same_0 p4 m0 m1 p5) [.arr none .trk m0, .arr none .trk m1] 2 (normK 2 [0, 1, 4, 5]) =
    bif decide (p5 < (m0.length : Int)) then (bif (decide ((0 : Int) ≤ p5) && decide (p5 < (m0.length : Int))) then (bif (decide ((0 : Int) ≤ p5) && decide (p5 < (m1.length : Int))) then (bif (!(eqAll [.int .i64 ((m0.getD p5.toNat (ET.z .trk)).tick), .int .i64 (((m0.getD p5.toNat (ET.z .trk)).u).lo), .int .i64 (((m0.getD p5.toNat (ET.z .trk)).u).hi), .int .i64 (((m0.getD p5.toNat (ET.z .trk)).v).lo), .int .i64 (((m0.getD p5.toNat (ET.z .trk)).v).hi), .int .i64 (((m0.getD p5.toNat (ET.z .trk)).w).lo), .int .i64 (((m0.getD p5.toNat (ET.z .trk)).w).hi)] [.int .i64 ((m1.getD p5.toNat (ET.z .trk)).tick), .int .i64 (((m1.getD p5.toNat (ET.z .trk)).u).lo), .int .i64 (((m1.getD p5.toNat (ET.z .trk)).u).hi), .int .i64 (((m1.getD p5.toNat (ET.z .trk)).v).lo), .int .i64 (((m1.getD p5.toNat (ET.z .trk)).v).hi), .int .i64 (((m1.getD p5.toNat (ET.z .trk)).w).lo), .int .i64 (((m1.getD p5.toNat (ET.z .trk)).w).hi)])) then some (.st .ret (headT [0, 1, 4, 5] 26 [.v (.c (.aslice 0 none)), .v (.c (.aslice 1 none)), .v (.c (.d (.bool false))), .v (.c (.d (.int .i64 p5)))]) [.arr none .trk m0, .arr none .trk m1] 2) else some (.st .normal (headT [0, 1, 4, 5] 26 [.v (.c (.aslice 0 none)), .v (.c (.aslice 1 none)), .v (.c (.d (.bool p4))), .v (.c (.d (.int .i64 (w64 (p5 + (1 : Int))))))]) [.arr none .trk m0, .arr none .trk m1] 2)) else none) else none) else some (.st (.exit 0) (headT [0, 1, 4, 5] 26 [.v (.c (.aslice 0 none)), .v (.c (.aslice 1 none)), .v (.c (.d (.bool p4))), .v (.c (.d (.int .i64 p5)))]) [.arr none .trk m0, .arr none .trk m1] 2) := by
  kernel_rfl

def o_Q8_Same_0 (p4 : Bool) (m0 : List Trk) (m1 : List Trk) (r : R_Q8_Same_0) : LT := .br (Nat.beq r.k 0) (.st .ret (headT [0, 1, 4, 5] 26 [.v (.c (.aslice 0 none)), .v (.c (.aslice 1 none)), .v (.c (.d (.bool false))), .v (.c (.d (.int .i64 r.p5)))]) [.arr none .trk m0, .arr none .trk m1] 2) (.br (Nat.beq r.k 1) (.st (.exit 0) (headT [0, 1, 4, 5] 26 [.v (.c (.aslice 0 none)), .v (.c (.aslice 1 none)), .v (.c (.d (.bool p4))), .v (.c (.d (.int .i64 r.p5)))]) [.arr none .trk m0, .arr none .trk m1] 2) (.no))

set_option maxRecDepth 100000 in
theorem r_Q8_Same_0 (p4 : Bool) (m0 : List Trk) (m1 : List Trk) : ∀ (n : Nat) (p5 : Int) (x : Ex) (T' : TS) (M' : List Blk) (N' : Nat), LReach (o_Q8_Same_0 p4 m0 m1 (run_Q8_Same_0 p4 m0 m1 n p5)) x T' M' N' → x ≠ .normal ∧ ∃ j, RoundsN Tryd.prog GT gbT 2 (loopB Tryd.prog 16 0) j (H_Q8_Same_0 p4 m0 m1 p5) [.arr none .trk m0, .arr none .trk m1] 2 x T' M' N' := by
  have hL : LOKn Tryd.prog GT gbT 2 noL (loopsIn (loopB Tryd.prog 16 0)) := fun _ _ _ _ _ _ _ _ _ h => h.elim
  intro n
  induction n with
  | zero =>
    intro p5 x T' M' N' hr
    exact False.elim (redF (redF hr))
  | succ n ih =>
    intro p5 x T' M' N'
    rw [run_Q8_Same_0]
    exact viaE (b_Q8_Same_0 p4 m0 m1 p5) (condG (o := o_Q8_Same_0 p4 m0 m1) (condG (o := o_Q8_Same_0 p4 m0 m1) (condG (o := o_Q8_Same_0 p4 m0 m1) (condG (o := o_Q8_Same_0 p4 m0 m1) (fun he hr => stopN g_proj_Trail hEQT hmT hL he (by simp) (redT hr)) (fun he hr => goN g_proj_Trail hEQT hmT hL he (ih (w64 (p5 + (1 : Int))) x T' M' N' hr))) (fun _ hr => False.elim (redF (redF hr)))) (fun _ hr => False.elim (redF (redF hr)))) (fun he hr => stopN g_proj_Trail hEQT hmT hL he (by simp) (redT (redF hr))))

def f_Q8_Same_0 : List AV → List Blk → LT := fun vs Ms => match vs, Ms with
  | [.v (.c (.aslice 0 none)), .v (.c (.aslice 1 none)), .v (.c (.d (.bool p4))), .v (.c (.d (.int .i64 p5)))], [.arr none .trk m0, .arr none .trk m1] => o_Q8_Same_0 p4 m0 m1 (lp_Q8_Same_0 p4 m0 m1 p5)
  | _, _ => .no

def L_Q8_Same_0 := LamN 4 26 2 [0, 1, 4, 5] f_Q8_Same_0

set_option maxRecDepth 100000 in
theorem k_Q8_Same_0 : LOKbn Tryd.prog GT gbT 2 L_Q8_Same_0 (loopB Tryd.prog 16 0) := by
  refine LOKbn.lamN (by kernel_rfl) fun vs Ms x T' M' N' hr => ?_
  unfold f_Q8_Same_0 at hr
  split at hr
  · obtain ⟨q1, j, q2⟩ := r_Q8_Same_0 _ _ _ _ _ x T' M' N' hr
    exact ⟨q1, j, q2⟩
  · exact hr.elim

structure O_Q8_Same where
  ok : Bool
  r0 : Bool

def m_Q8_Same (a0 : List Trk) (a1 : List Trk) : O_Q8_Same := bif ((a0.length : Int) != (a1.length : Int)) then ⟨true, false⟩ else (bif Nat.beq (lp_Q8_Same_0 false a0 a1 (0 : Int)).k 0 then ⟨true, false⟩ else (bif Nat.beq (lp_Q8_Same_0 false a0 a1 (0 : Int)).k 1 then ⟨true, true⟩ else ⟨false, false⟩))

def F_Q8_Same (a0 : List Trk) (a1 : List Trk) (K : AV → List Blk → Ans) (r : O_Q8_Same) : Ans := bif r.ok then K (.v (.c (.d (.bool r.r0)))) [.arr none .trk a0, .arr none .trk a1] else none

set_option maxRecDepth 100000 in
theorem e_Q8_Same (a0 : List Trk) (a1 : List Trk) (K : AV → List Blk → Ans) : evFn Tryd.prog GT EQT T_proj_Trail XT (orL L_Q8_Same_0 noL) 80 16 [.v (.c (.aslice 0 none)), .v (.c (.aslice 1 none))] [.arr none .trk a0, .arr none .trk a1] (fun v M => K (finR 2 v M).1 (finR 2 v M).2) = F_Q8_Same a0 a1 K (m_Q8_Same a0 a1) := by
  unfold m_Q8_Same
  refine Eq.trans ?_ (Eq.symm (pushT rfl (pushT rfl (pushT rfl rfl))))
  kernel_rfl

set_option maxRecDepth 100000 in
theorem lok_Q8_Same : ∀ fn c, Tryd.prog.funcs[16]? = some fn → fn.body = some c → LOKn Tryd.prog GT gbT 2 (orL L_Q8_Same_0 noL) (loopsIn c) := by
  refine LOKn.ofF fun b hb => ?_
  have e : loopsF Tryd.prog 16 = [loopB Tryd.prog 16 0] := by kernel_rfl
  rw [e] at hb
  simp only [List.mem_cons, List.not_mem_nil, or_false] at hb
  subst hb
  exact (LOKbn.or k_Q8_Same_0 (fun _ _ _ _ _ _ _ h => h.elim))


theorem c_Q8_Same (a0 : List Trk) (a1 : List Trk) (hd : (m_Q8_Same a0 a1).ok = true) : CallsA Tryd.prog GT gbT 16 [.v (.c (.aslice 0 none)), .v (.c (.aslice 1 none))] [.arr none .trk a0, .arr none .trk a1] (.v (.c (.d (.bool ((m_Q8_Same a0 a1).r0))))) [.arr none .trk a0, .arr none .trk a1] := by
  refine CallsA.ofEvR g_proj_Trail hEQT hmT (n0 := 2) rfl lok_Q8_Same ((e_Q8_Same a0 a1 (fun v M => some (Res.fin v M))).trans ?_)
  unfold F_Q8_Same
  rw [hd]
  rfl

def s_Q8_Same : List AV → List Blk → (AV → List Blk → Ans) → Ans := fun xs bs K => match xs, bs with
  | [.v (.c (.aslice 0 none)), .v (.c (.aslice 1 none))], [.arr none .trk a0, .arr none .trk a1] => F_Q8_Same a0 a1 K (m_Q8_Same a0 a1)
  | _, _ => none

def T_Q8_Same : Nat → List AV → List Blk → (AV → List Blk → Ans) → Ans := upd T_proj_Trail 16 s_Q8_Same

theorem g_Q8_Same : GOK Tryd.prog GT gbT T_Q8_Same XT := by
  refine GOK.upd g_proj_Trail (fun args w => Tryd.call16 args w) fun xs bs K r h => ?_
  unfold s_Q8_Same at h
  split at h
  · unfold F_Q8_Same at h
    simp only [cond_eq_ite] at h
    split at h
    · rename_i hd
      exact ⟨_, _, c_Q8_Same _ _ hd, h⟩
    · cases h
  · cases h

structure O_W8_ProjNames where
  ok : Bool
  r0 : Bool

def m_W8_ProjNames : O_W8_ProjNames := bif (m_proj_Line ⟨(5 : Int), (5 : Int)⟩ ([⟨(ByteArray.mk #[97]), ⟨(0 : Int), (1 : Int)⟩, ⟨(0 : Int), (1 : Int)⟩⟩, ⟨(ByteArray.mk #[98]), ⟨(0 : Int), (1 : Int)⟩, ⟨(1 : Int), (1 : Int)⟩⟩] : List Site) (0 : Int) (1 : Int) ⟨(ByteArray.mk #[115]), (0 : Int), (0 : Int)⟩ (0 : Int)).ok then (bif (m_proj_Trail ⟨(5 : Int), (5 : Int)⟩ ([⟨(ByteArray.mk #[97]), ⟨(0 : Int), (1 : Int)⟩, ⟨(0 : Int), (1 : Int)⟩⟩, ⟨(ByteArray.mk #[98]), ⟨(0 : Int), (1 : Int)⟩, ⟨(1 : Int), (1 : Int)⟩⟩] : List Site) (0 : Int) (1 : Int) ⟨(ByteArray.mk #[115]), (0 : Int), (0 : Int)⟩ (-180 : Int) (180 : Int) (3 : Int)).ok then (bif (m_proj_Trail ⟨(5 : Int), (5 : Int)⟩ ([⟨(ByteArray.mk #[97]), ⟨(0 : Int), (1 : Int)⟩, ⟨(0 : Int), (1 : Int)⟩⟩, ⟨(ByteArray.mk #[98]), ⟨(0 : Int), (1 : Int)⟩, ⟨(1 : Int), (1 : Int)⟩⟩] : List Site) (0 : Int) (1 : Int) ⟨(ByteArray.mk #[115]), (0 : Int), (0 : Int)⟩ (0 : Int) (1 : Int) (0 : Int)).ok then (bif (m_proj_Line ⟨(5 : Int), (5 : Int)⟩ ([⟨(ByteArray.mk #[97]), ⟨(0 : Int), (1 : Int)⟩, ⟨(0 : Int), (1 : Int)⟩⟩, ⟨(ByteArray.mk #[98]), ⟨(0 : Int), (1 : Int)⟩, ⟨(1 : Int), (1 : Int)⟩⟩] : List Site) (1 : Int) (1 : Int) ⟨(ByteArray.mk #[115]), (0 : Int), (0 : Int)⟩ (77 : Int)).ok then (bif ((m_proj_Line ⟨(5 : Int), (5 : Int)⟩ ([⟨(ByteArray.mk #[97]), ⟨(0 : Int), (1 : Int)⟩, ⟨(0 : Int), (1 : Int)⟩⟩, ⟨(ByteArray.mk #[98]), ⟨(0 : Int), (1 : Int)⟩, ⟨(1 : Int), (1 : Int)⟩⟩] : List Site) (0 : Int) (1 : Int) ⟨(ByteArray.mk #[115]), (0 : Int), (0 : Int)⟩ (0 : Int)).r1 == (0 : Int)) then (bif eqAll [.int .i64 ((((m_proj_Line ⟨(5 : Int), (5 : Int)⟩ ([⟨(ByteArray.mk #[97]), ⟨(0 : Int), (1 : Int)⟩, ⟨(0 : Int), (1 : Int)⟩⟩, ⟨(ByteArray.mk #[98]), ⟨(0 : Int), (1 : Int)⟩, ⟨(1 : Int), (1 : Int)⟩⟩] : List Site) (0 : Int) (1 : Int) ⟨(ByteArray.mk #[115]), (0 : Int), (0 : Int)⟩ (0 : Int)).r0).x).lo), .int .i64 ((((m_proj_Line ⟨(5 : Int), (5 : Int)⟩ ([⟨(ByteArray.mk #[97]), ⟨(0 : Int), (1 : Int)⟩, ⟨(0 : Int), (1 : Int)⟩⟩, ⟨(ByteArray.mk #[98]), ⟨(0 : Int), (1 : Int)⟩, ⟨(1 : Int), (1 : Int)⟩⟩] : List Site) (0 : Int) (1 : Int) ⟨(ByteArray.mk #[115]), (0 : Int), (0 : Int)⟩ (0 : Int)).r0).x).hi), .int .i64 ((((m_proj_Line ⟨(5 : Int), (5 : Int)⟩ ([⟨(ByteArray.mk #[97]), ⟨(0 : Int), (1 : Int)⟩, ⟨(0 : Int), (1 : Int)⟩⟩, ⟨(ByteArray.mk #[98]), ⟨(0 : Int), (1 : Int)⟩, ⟨(1 : Int), (1 : Int)⟩⟩] : List Site) (0 : Int) (1 : Int) ⟨(ByteArray.mk #[115]), (0 : Int), (0 : Int)⟩ (0 : Int)).r0).y).lo), .int .i64 ((((m_proj_Line ⟨(5 : Int), (5 : Int)⟩ ([⟨(ByteArray.mk #[97]), ⟨(0 : Int), (1 : Int)⟩, ⟨(0 : Int), (1 : Int)⟩⟩, ⟨(ByteArray.mk #[98]), ⟨(0 : Int), (1 : Int)⟩, ⟨(1 : Int), (1 : Int)⟩⟩] : List Site) (0 : Int) (1 : Int) ⟨(ByteArray.mk #[115]), (0 : Int), (0 : Int)⟩ (0 : Int)).r0).y).hi), .int .i64 ((((m_proj_Line ⟨(5 : Int), (5 : Int)⟩ ([⟨(ByteArray.mk #[97]), ⟨(0 : Int), (1 : Int)⟩, ⟨(0 : Int), (1 : Int)⟩⟩, ⟨(ByteArray.mk #[98]), ⟨(0 : Int), (1 : Int)⟩, ⟨(1 : Int), (1 : Int)⟩⟩] : List Site) (0 : Int) (1 : Int) ⟨(ByteArray.mk #[115]), (0 : Int), (0 : Int)⟩ (0 : Int)).r0).z).lo), .int .i64 ((((m_proj_Line ⟨(5 : Int), (5 : Int)⟩ ([⟨(ByteArray.mk #[97]), ⟨(0 : Int), (1 : Int)⟩, ⟨(0 : Int), (1 : Int)⟩⟩, ⟨(ByteArray.mk #[98]), ⟨(0 : Int), (1 : Int)⟩, ⟨(1 : Int), (1 : Int)⟩⟩] : List Site) (0 : Int) (1 : Int) ⟨(ByteArray.mk #[115]), (0 : Int), (0 : Int)⟩ (0 : Int)).r0).z).hi)] [.int .i64 (w64 (1000000 * (5 : Int))), .int .i64 (w64 (1000000 * (5 : Int))), .int .i64 (w64 (1000000 * (0 : Int))), .int .i64 (w64 (1000000 * (0 : Int))), .int .i64 (w64 (1000000 * (-5 : Int))), .int .i64 (w64 (1000000 * (-5 : Int)))] then (bif ((m_proj_Trail ⟨(5 : Int), (5 : Int)⟩ ([⟨(ByteArray.mk #[97]), ⟨(0 : Int), (1 : Int)⟩, ⟨(0 : Int), (1 : Int)⟩⟩, ⟨(ByteArray.mk #[98]), ⟨(0 : Int), (1 : Int)⟩, ⟨(1 : Int), (1 : Int)⟩⟩] : List Site) (0 : Int) (1 : Int) ⟨(ByteArray.mk #[115]), (0 : Int), (0 : Int)⟩ (-180 : Int) (180 : Int) (3 : Int)).r1 == (0 : Int)) then (bif (m_Q8_Same ((m_proj_Trail ⟨(5 : Int), (5 : Int)⟩ ([⟨(ByteArray.mk #[97]), ⟨(0 : Int), (1 : Int)⟩, ⟨(0 : Int), (1 : Int)⟩⟩, ⟨(ByteArray.mk #[98]), ⟨(0 : Int), (1 : Int)⟩, ⟨(1 : Int), (1 : Int)⟩⟩] : List Site) (0 : Int) (1 : Int) ⟨(ByteArray.mk #[115]), (0 : Int), (0 : Int)⟩ (-180 : Int) (180 : Int) (3 : Int)).r0) ([⟨(-180 : Int), ⟨w64 (1000000 * (5 : Int)), w64 (1000000 * (5 : Int))⟩, ⟨w64 (1000000 * (0 : Int)), w64 (1000000 * (0 : Int))⟩, ⟨w64 (1000000 * (5 : Int)), w64 (1000000 * (5 : Int))⟩⟩, ⟨(0 : Int), ⟨w64 (1000000 * (5 : Int)), w64 (1000000 * (5 : Int))⟩, ⟨w64 (1000000 * (0 : Int)), w64 (1000000 * (0 : Int))⟩, ⟨w64 (1000000 * (-5 : Int)), w64 (1000000 * (-5 : Int))⟩⟩, ⟨(180 : Int), ⟨w64 (1000000 * (-5 : Int)), w64 (1000000 * (-5 : Int))⟩, ⟨w64 (1000000 * (0 : Int)), w64 (1000000 * (0 : Int))⟩, ⟨w64 (1000000 * (-5 : Int)), w64 (1000000 * (-5 : Int))⟩⟩] : List Trk)).ok then (bif (m_Q8_Same ((m_proj_Trail ⟨(5 : Int), (5 : Int)⟩ ([⟨(ByteArray.mk #[97]), ⟨(0 : Int), (1 : Int)⟩, ⟨(0 : Int), (1 : Int)⟩⟩, ⟨(ByteArray.mk #[98]), ⟨(0 : Int), (1 : Int)⟩, ⟨(1 : Int), (1 : Int)⟩⟩] : List Site) (0 : Int) (1 : Int) ⟨(ByteArray.mk #[115]), (0 : Int), (0 : Int)⟩ (-180 : Int) (180 : Int) (3 : Int)).r0) ([⟨(-180 : Int), ⟨w64 (1000000 * (5 : Int)), w64 (1000000 * (5 : Int))⟩, ⟨w64 (1000000 * (0 : Int)), w64 (1000000 * (0 : Int))⟩, ⟨w64 (1000000 * (5 : Int)), w64 (1000000 * (5 : Int))⟩⟩, ⟨(0 : Int), ⟨w64 (1000000 * (5 : Int)), w64 (1000000 * (5 : Int))⟩, ⟨w64 (1000000 * (0 : Int)), w64 (1000000 * (0 : Int))⟩, ⟨w64 (1000000 * (-5 : Int)), w64 (1000000 * (-5 : Int))⟩⟩, ⟨(180 : Int), ⟨w64 (1000000 * (-5 : Int)), w64 (1000000 * (-5 : Int))⟩, ⟨w64 (1000000 * (0 : Int)), w64 (1000000 * (0 : Int))⟩, ⟨w64 (1000000 * (-5 : Int)), w64 (1000000 * (-5 : Int))⟩⟩] : List Trk)).r0 then (bif ((m_proj_Trail ⟨(5 : Int), (5 : Int)⟩ ([⟨(ByteArray.mk #[97]), ⟨(0 : Int), (1 : Int)⟩, ⟨(0 : Int), (1 : Int)⟩⟩, ⟨(ByteArray.mk #[98]), ⟨(0 : Int), (1 : Int)⟩, ⟨(1 : Int), (1 : Int)⟩⟩] : List Site) (0 : Int) (1 : Int) ⟨(ByteArray.mk #[115]), (0 : Int), (0 : Int)⟩ (0 : Int) (1 : Int) (0 : Int)).r1 == (0 : Int)) then (bif ((((m_proj_Trail ⟨(5 : Int), (5 : Int)⟩ ([⟨(ByteArray.mk #[97]), ⟨(0 : Int), (1 : Int)⟩, ⟨(0 : Int), (1 : Int)⟩⟩, ⟨(ByteArray.mk #[98]), ⟨(0 : Int), (1 : Int)⟩, ⟨(1 : Int), (1 : Int)⟩⟩] : List Site) (0 : Int) (1 : Int) ⟨(ByteArray.mk #[115]), (0 : Int), (0 : Int)⟩ (0 : Int) (1 : Int) (0 : Int)).r0).length : Int) == (0 : Int)) then (bif ((m_proj_Line ⟨(5 : Int), (5 : Int)⟩ ([⟨(ByteArray.mk #[97]), ⟨(0 : Int), (1 : Int)⟩, ⟨(0 : Int), (1 : Int)⟩⟩, ⟨(ByteArray.mk #[98]), ⟨(0 : Int), (1 : Int)⟩, ⟨(1 : Int), (1 : Int)⟩⟩] : List Site) (1 : Int) (1 : Int) ⟨(ByteArray.mk #[115]), (0 : Int), (0 : Int)⟩ (77 : Int)).r1 == (0 : Int)) then (bif (m_proj_Line ⟨(5 : Int), (5 : Int)⟩ ([⟨(ByteArray.mk #[97]), ⟨(0 : Int), (1 : Int)⟩, ⟨(0 : Int), (1 : Int)⟩⟩, ⟨(ByteArray.mk #[98]), ⟨(0 : Int), (1 : Int)⟩, ⟨(1 : Int), (1 : Int)⟩⟩] : List Site) (0 : Int) (2 : Int) ⟨ByteArray.empty, (0 : Int), (0 : Int)⟩ (0 : Int)).ok then (bif (m_proj_Line ⟨(5 : Int), (5 : Int)⟩ ([⟨(ByteArray.mk #[97]), ⟨(0 : Int), (1 : Int)⟩, ⟨(0 : Int), (1 : Int)⟩⟩, ⟨(ByteArray.mk #[98]), ⟨(0 : Int), (1 : Int)⟩, ⟨(1 : Int), (1 : Int)⟩⟩] : List Site) (0 : Int) (1 : Int) ⟨ByteArray.empty, (0 : Int), (0 : Int)⟩ (0 : Int)).ok then (bif (m_proj_Trail ⟨(5 : Int), (5 : Int)⟩ ([⟨(ByteArray.mk #[97]), ⟨(0 : Int), (1 : Int)⟩, ⟨(0 : Int), (1 : Int)⟩⟩, ⟨(ByteArray.mk #[98]), ⟨(0 : Int), (1 : Int)⟩, ⟨(1 : Int), (1 : Int)⟩⟩] : List Site) (0 : Int) (1 : Int) ⟨(ByteArray.mk #[115]), (0 : Int), (0 : Int)⟩ (0 : Int) (0 : Int) (1 : Int)).ok then (bif (m_proj_Trail ⟨(5 : Int), (5 : Int)⟩ ([⟨(ByteArray.mk #[97]), ⟨(0 : Int), (1 : Int)⟩, ⟨(0 : Int), (1 : Int)⟩⟩, ⟨(ByteArray.mk #[98]), ⟨(0 : Int), (1 : Int)⟩, ⟨(1 : Int), (1 : Int)⟩⟩] : List Site) (0 : Int) (1 : Int) ⟨(ByteArray.mk #[115]), (0 : Int), (0 : Int)⟩ (0 : Int) (1 : Int) (101 : Int)).ok then (bif (m_proj_Trail ⟨(0 : Int), (0 : Int)⟩ ([⟨(ByteArray.mk #[97]), ⟨(0 : Int), (1 : Int)⟩, ⟨(0 : Int), (1 : Int)⟩⟩, ⟨(ByteArray.mk #[98]), ⟨(0 : Int), (1 : Int)⟩, ⟨(1 : Int), (1 : Int)⟩⟩] : List Site) (0 : Int) (1 : Int) ⟨(ByteArray.mk #[115]), (0 : Int), (0 : Int)⟩ (0 : Int) (1 : Int) (101 : Int)).ok then (bif ((axesV ⟨ByteArray.empty, (0 : Int), (0 : Int)⟩ (0 : Int)).2 == (8 : Int)) then (bif ((axesV ⟨(ByteArray.mk #[115]), (0 : Int), (0 : Int)⟩ (1000001 : Int)).2 == (2 : Int)) then (bif ((projV (⟨⟨(3001 : Int), (1 : Int)⟩, ⟨(0 : Int), (1 : Int)⟩, ⟨(0 : Int), (1 : Int)⟩⟩) ⟨(ByteArray.mk #[115]), (0 : Int), (0 : Int)⟩ (0 : Int)).2 == (16 : Int)) then (bif ((projV (⟨⟨(0 : Int), (0 : Int)⟩, ⟨(0 : Int), (0 : Int)⟩, ⟨(0 : Int), (0 : Int)⟩⟩) ⟨(ByteArray.mk #[115]), (0 : Int), (0 : Int)⟩ (0 : Int)).2 == (8 : Int)) then (bif ((m_proj_Line ⟨(5 : Int), (5 : Int)⟩ ([⟨(ByteArray.mk #[97]), ⟨(0 : Int), (1 : Int)⟩, ⟨(0 : Int), (1 : Int)⟩⟩, ⟨(ByteArray.mk #[98]), ⟨(0 : Int), (1 : Int)⟩, ⟨(1 : Int), (1 : Int)⟩⟩] : List Site) (0 : Int) (2 : Int) ⟨ByteArray.empty, (0 : Int), (0 : Int)⟩ (0 : Int)).r1 == (2 : Int)) then (bif ((m_proj_Line ⟨(5 : Int), (5 : Int)⟩ ([⟨(ByteArray.mk #[97]), ⟨(0 : Int), (1 : Int)⟩, ⟨(0 : Int), (1 : Int)⟩⟩, ⟨(ByteArray.mk #[98]), ⟨(0 : Int), (1 : Int)⟩, ⟨(1 : Int), (1 : Int)⟩⟩] : List Site) (0 : Int) (1 : Int) ⟨ByteArray.empty, (0 : Int), (0 : Int)⟩ (0 : Int)).r1 == (8 : Int)) then (bif ((m_proj_Trail ⟨(5 : Int), (5 : Int)⟩ ([⟨(ByteArray.mk #[97]), ⟨(0 : Int), (1 : Int)⟩, ⟨(0 : Int), (1 : Int)⟩⟩, ⟨(ByteArray.mk #[98]), ⟨(0 : Int), (1 : Int)⟩, ⟨(1 : Int), (1 : Int)⟩⟩] : List Site) (0 : Int) (1 : Int) ⟨(ByteArray.mk #[115]), (0 : Int), (0 : Int)⟩ (0 : Int) (0 : Int) (1 : Int)).r1 == (2 : Int)) then (bif ((m_proj_Trail ⟨(5 : Int), (5 : Int)⟩ ([⟨(ByteArray.mk #[97]), ⟨(0 : Int), (1 : Int)⟩, ⟨(0 : Int), (1 : Int)⟩⟩, ⟨(ByteArray.mk #[98]), ⟨(0 : Int), (1 : Int)⟩, ⟨(1 : Int), (1 : Int)⟩⟩] : List Site) (0 : Int) (1 : Int) ⟨(ByteArray.mk #[115]), (0 : Int), (0 : Int)⟩ (0 : Int) (1 : Int) (101 : Int)).r1 == (4 : Int)) then (bif ((m_proj_Trail ⟨(0 : Int), (0 : Int)⟩ ([⟨(ByteArray.mk #[97]), ⟨(0 : Int), (1 : Int)⟩, ⟨(0 : Int), (1 : Int)⟩⟩, ⟨(ByteArray.mk #[98]), ⟨(0 : Int), (1 : Int)⟩, ⟨(1 : Int), (1 : Int)⟩⟩] : List Site) (0 : Int) (1 : Int) ⟨(ByteArray.mk #[115]), (0 : Int), (0 : Int)⟩ (0 : Int) (1 : Int) (101 : Int)).r1 == (2 : Int)) then (bif ((normV (⟨⟨(3 : Int), (1 : Int)⟩, ⟨(4 : Int), (1 : Int)⟩, ⟨(12 : Int), (1 : Int)⟩⟩)).2 == (0 : Int)) then (bif eqAll [.int .i64 (((normV (⟨⟨(3 : Int), (1 : Int)⟩, ⟨(4 : Int), (1 : Int)⟩, ⟨(12 : Int), (1 : Int)⟩⟩)).1).lo), .int .i64 (((normV (⟨⟨(3 : Int), (1 : Int)⟩, ⟨(4 : Int), (1 : Int)⟩, ⟨(12 : Int), (1 : Int)⟩⟩)).1).hi)] [.int .i64 (w64 (1000000 * (169 : Int))), .int .i64 (w64 (1000000 * (169 : Int)))] then (bif ((normV (⟨⟨(3000 : Int), (1 : Int)⟩, ⟨(0 : Int), (1 : Int)⟩, ⟨(0 : Int), (1 : Int)⟩⟩)).2 == (16 : Int)) then (bif eqAll [.int .i64 ((((m_proj_Line ⟨(5 : Int), (5 : Int)⟩ ([⟨(ByteArray.mk #[97]), ⟨(0 : Int), (1 : Int)⟩, ⟨(0 : Int), (1 : Int)⟩⟩, ⟨(ByteArray.mk #[98]), ⟨(0 : Int), (1 : Int)⟩, ⟨(1 : Int), (1 : Int)⟩⟩] : List Site) (1 : Int) (1 : Int) ⟨(ByteArray.mk #[115]), (0 : Int), (0 : Int)⟩ (77 : Int)).r0).x).lo), .int .i64 ((((m_proj_Line ⟨(5 : Int), (5 : Int)⟩ ([⟨(ByteArray.mk #[97]), ⟨(0 : Int), (1 : Int)⟩, ⟨(0 : Int), (1 : Int)⟩⟩, ⟨(ByteArray.mk #[98]), ⟨(0 : Int), (1 : Int)⟩, ⟨(1 : Int), (1 : Int)⟩⟩] : List Site) (1 : Int) (1 : Int) ⟨(ByteArray.mk #[115]), (0 : Int), (0 : Int)⟩ (77 : Int)).r0).x).hi), .int .i64 ((((m_proj_Line ⟨(5 : Int), (5 : Int)⟩ ([⟨(ByteArray.mk #[97]), ⟨(0 : Int), (1 : Int)⟩, ⟨(0 : Int), (1 : Int)⟩⟩, ⟨(ByteArray.mk #[98]), ⟨(0 : Int), (1 : Int)⟩, ⟨(1 : Int), (1 : Int)⟩⟩] : List Site) (1 : Int) (1 : Int) ⟨(ByteArray.mk #[115]), (0 : Int), (0 : Int)⟩ (77 : Int)).r0).y).lo), .int .i64 ((((m_proj_Line ⟨(5 : Int), (5 : Int)⟩ ([⟨(ByteArray.mk #[97]), ⟨(0 : Int), (1 : Int)⟩, ⟨(0 : Int), (1 : Int)⟩⟩, ⟨(ByteArray.mk #[98]), ⟨(0 : Int), (1 : Int)⟩, ⟨(1 : Int), (1 : Int)⟩⟩] : List Site) (1 : Int) (1 : Int) ⟨(ByteArray.mk #[115]), (0 : Int), (0 : Int)⟩ (77 : Int)).r0).y).hi), .int .i64 ((((m_proj_Line ⟨(5 : Int), (5 : Int)⟩ ([⟨(ByteArray.mk #[97]), ⟨(0 : Int), (1 : Int)⟩, ⟨(0 : Int), (1 : Int)⟩⟩, ⟨(ByteArray.mk #[98]), ⟨(0 : Int), (1 : Int)⟩, ⟨(1 : Int), (1 : Int)⟩⟩] : List Site) (1 : Int) (1 : Int) ⟨(ByteArray.mk #[115]), (0 : Int), (0 : Int)⟩ (77 : Int)).r0).z).lo), .int .i64 ((((m_proj_Line ⟨(5 : Int), (5 : Int)⟩ ([⟨(ByteArray.mk #[97]), ⟨(0 : Int), (1 : Int)⟩, ⟨(0 : Int), (1 : Int)⟩⟩, ⟨(ByteArray.mk #[98]), ⟨(0 : Int), (1 : Int)⟩, ⟨(1 : Int), (1 : Int)⟩⟩] : List Site) (1 : Int) (1 : Int) ⟨(ByteArray.mk #[115]), (0 : Int), (0 : Int)⟩ (77 : Int)).r0).z).hi)] [.int .i64 (0 : Int), .int .i64 (0 : Int), .int .i64 (0 : Int), .int .i64 (0 : Int), .int .i64 (0 : Int), .int .i64 (0 : Int)] then (bif ((normV (⟨⟨(0 : Int), (0 : Int)⟩, ⟨(0 : Int), (0 : Int)⟩, ⟨(0 : Int), (0 : Int)⟩⟩)).2 == (8 : Int)) then ⟨true, true⟩ else ⟨true, false⟩) else ⟨true, false⟩) else (bif eqAll [.int .i64 ((((m_proj_Line ⟨(5 : Int), (5 : Int)⟩ ([⟨(ByteArray.mk #[97]), ⟨(0 : Int), (1 : Int)⟩, ⟨(0 : Int), (1 : Int)⟩⟩, ⟨(ByteArray.mk #[98]), ⟨(0 : Int), (1 : Int)⟩, ⟨(1 : Int), (1 : Int)⟩⟩] : List Site) (1 : Int) (1 : Int) ⟨(ByteArray.mk #[115]), (0 : Int), (0 : Int)⟩ (77 : Int)).r0).x).lo), .int .i64 ((((m_proj_Line ⟨(5 : Int), (5 : Int)⟩ ([⟨(ByteArray.mk #[97]), ⟨(0 : Int), (1 : Int)⟩, ⟨(0 : Int), (1 : Int)⟩⟩, ⟨(ByteArray.mk #[98]), ⟨(0 : Int), (1 : Int)⟩, ⟨(1 : Int), (1 : Int)⟩⟩] : List Site) (1 : Int) (1 : Int) ⟨(ByteArray.mk #[115]), (0 : Int), (0 : Int)⟩ (77 : Int)).r0).x).hi), .int .i64 ((((m_proj_Line ⟨(5 : Int), (5 : Int)⟩ ([⟨(ByteArray.mk #[97]), ⟨(0 : Int), (1 : Int)⟩, ⟨(0 : Int), (1 : Int)⟩⟩, ⟨(ByteArray.mk #[98]), ⟨(0 : Int), (1 : Int)⟩, ⟨(1 : Int), (1 : Int)⟩⟩] : List Site) (1 : Int) (1 : Int) ⟨(ByteArray.mk #[115]), (0 : Int), (0 : Int)⟩ (77 : Int)).r0).y).lo), .int .i64 ((((m_proj_Line ⟨(5 : Int), (5 : Int)⟩ ([⟨(ByteArray.mk #[97]), ⟨(0 : Int), (1 : Int)⟩, ⟨(0 : Int), (1 : Int)⟩⟩, ⟨(ByteArray.mk #[98]), ⟨(0 : Int), (1 : Int)⟩, ⟨(1 : Int), (1 : Int)⟩⟩] : List Site) (1 : Int) (1 : Int) ⟨(ByteArray.mk #[115]), (0 : Int), (0 : Int)⟩ (77 : Int)).r0).y).hi), .int .i64 ((((m_proj_Line ⟨(5 : Int), (5 : Int)⟩ ([⟨(ByteArray.mk #[97]), ⟨(0 : Int), (1 : Int)⟩, ⟨(0 : Int), (1 : Int)⟩⟩, ⟨(ByteArray.mk #[98]), ⟨(0 : Int), (1 : Int)⟩, ⟨(1 : Int), (1 : Int)⟩⟩] : List Site) (1 : Int) (1 : Int) ⟨(ByteArray.mk #[115]), (0 : Int), (0 : Int)⟩ (77 : Int)).r0).z).lo), .int .i64 ((((m_proj_Line ⟨(5 : Int), (5 : Int)⟩ ([⟨(ByteArray.mk #[97]), ⟨(0 : Int), (1 : Int)⟩, ⟨(0 : Int), (1 : Int)⟩⟩, ⟨(ByteArray.mk #[98]), ⟨(0 : Int), (1 : Int)⟩, ⟨(1 : Int), (1 : Int)⟩⟩] : List Site) (1 : Int) (1 : Int) ⟨(ByteArray.mk #[115]), (0 : Int), (0 : Int)⟩ (77 : Int)).r0).z).hi)] [.int .i64 (0 : Int), .int .i64 (0 : Int), .int .i64 (0 : Int), .int .i64 (0 : Int), .int .i64 (0 : Int), .int .i64 (0 : Int)] then ⟨true, false⟩ else ⟨true, false⟩)) else (bif eqAll [.int .i64 ((((m_proj_Line ⟨(5 : Int), (5 : Int)⟩ ([⟨(ByteArray.mk #[97]), ⟨(0 : Int), (1 : Int)⟩, ⟨(0 : Int), (1 : Int)⟩⟩, ⟨(ByteArray.mk #[98]), ⟨(0 : Int), (1 : Int)⟩, ⟨(1 : Int), (1 : Int)⟩⟩] : List Site) (1 : Int) (1 : Int) ⟨(ByteArray.mk #[115]), (0 : Int), (0 : Int)⟩ (77 : Int)).r0).x).lo), .int .i64 ((((m_proj_Line ⟨(5 : Int), (5 : Int)⟩ ([⟨(ByteArray.mk #[97]), ⟨(0 : Int), (1 : Int)⟩, ⟨(0 : Int), (1 : Int)⟩⟩, ⟨(ByteArray.mk #[98]), ⟨(0 : Int), (1 : Int)⟩, ⟨(1 : Int), (1 : Int)⟩⟩] : List Site) (1 : Int) (1 : Int) ⟨(ByteArray.mk #[115]), (0 : Int), (0 : Int)⟩ (77 : Int)).r0).x).hi), .int .i64 ((((m_proj_Line ⟨(5 : Int), (5 : Int)⟩ ([⟨(ByteArray.mk #[97]), ⟨(0 : Int), (1 : Int)⟩, ⟨(0 : Int), (1 : Int)⟩⟩, ⟨(ByteArray.mk #[98]), ⟨(0 : Int), (1 : Int)⟩, ⟨(1 : Int), (1 : Int)⟩⟩] : List Site) (1 : Int) (1 : Int) ⟨(ByteArray.mk #[115]), (0 : Int), (0 : Int)⟩ (77 : Int)).r0).y).lo), .int .i64 ((((m_proj_Line ⟨(5 : Int), (5 : Int)⟩ ([⟨(ByteArray.mk #[97]), ⟨(0 : Int), (1 : Int)⟩, ⟨(0 : Int), (1 : Int)⟩⟩, ⟨(ByteArray.mk #[98]), ⟨(0 : Int), (1 : Int)⟩, ⟨(1 : Int), (1 : Int)⟩⟩] : List Site) (1 : Int) (1 : Int) ⟨(ByteArray.mk #[115]), (0 : Int), (0 : Int)⟩ (77 : Int)).r0).y).hi), .int .i64 ((((m_proj_Line ⟨(5 : Int), (5 : Int)⟩ ([⟨(ByteArray.mk #[97]), ⟨(0 : Int), (1 : Int)⟩, ⟨(0 : Int), (1 : Int)⟩⟩, ⟨(ByteArray.mk #[98]), ⟨(0 : Int), (1 : Int)⟩, ⟨(1 : Int), (1 : Int)⟩⟩] : List Site) (1 : Int) (1 : Int) ⟨(ByteArray.mk #[115]), (0 : Int), (0 : Int)⟩ (77 : Int)).r0).z).lo), .int .i64 ((((m_proj_Line ⟨(5 : Int), (5 : Int)⟩ ([⟨(ByteArray.mk #[97]), ⟨(0 : Int), (1 : Int)⟩, ⟨(0 : Int), (1 : Int)⟩⟩, ⟨(ByteArray.mk #[98]), ⟨(0 : Int), (1 : Int)⟩, ⟨(1 : Int), (1 : Int)⟩⟩] : List Site) (1 : Int) (1 : Int) ⟨(ByteArray.mk #[115]), (0 : Int), (0 : Int)⟩ (77 : Int)).r0).z).hi)] [.int .i64 (0 : Int), .int .i64 (0 : Int), .int .i64 (0 : Int), .int .i64 (0 : Int), .int .i64 (0 : Int), .int .i64 (0 : Int)] then ⟨true, false⟩ else ⟨true, false⟩)) else (bif eqAll [.int .i64 ((((m_proj_Line ⟨(5 : Int), (5 : Int)⟩ ([⟨(ByteArray.mk #[97]), ⟨(0 : Int), (1 : Int)⟩, ⟨(0 : Int), (1 : Int)⟩⟩, ⟨(ByteArray.mk #[98]), ⟨(0 : Int), (1 : Int)⟩, ⟨(1 : Int), (1 : Int)⟩⟩] : List Site) (1 : Int) (1 : Int) ⟨(ByteArray.mk #[115]), (0 : Int), (0 : Int)⟩ (77 : Int)).r0).x).lo), .int .i64 ((((m_proj_Line ⟨(5 : Int), (5 : Int)⟩ ([⟨(ByteArray.mk #[97]), ⟨(0 : Int), (1 : Int)⟩, ⟨(0 : Int), (1 : Int)⟩⟩, ⟨(ByteArray.mk #[98]), ⟨(0 : Int), (1 : Int)⟩, ⟨(1 : Int), (1 : Int)⟩⟩] : List Site) (1 : Int) (1 : Int) ⟨(ByteArray.mk #[115]), (0 : Int), (0 : Int)⟩ (77 : Int)).r0).x).hi), .int .i64 ((((m_proj_Line ⟨(5 : Int), (5 : Int)⟩ ([⟨(ByteArray.mk #[97]), ⟨(0 : Int), (1 : Int)⟩, ⟨(0 : Int), (1 : Int)⟩⟩, ⟨(ByteArray.mk #[98]), ⟨(0 : Int), (1 : Int)⟩, ⟨(1 : Int), (1 : Int)⟩⟩] : List Site) (1 : Int) (1 : Int) ⟨(ByteArray.mk #[115]), (0 : Int), (0 : Int)⟩ (77 : Int)).r0).y).lo), .int .i64 ((((m_proj_Line ⟨(5 : Int), (5 : Int)⟩ ([⟨(ByteArray.mk #[97]), ⟨(0 : Int), (1 : Int)⟩, ⟨(0 : Int), (1 : Int)⟩⟩, ⟨(ByteArray.mk #[98]), ⟨(0 : Int), (1 : Int)⟩, ⟨(1 : Int), (1 : Int)⟩⟩] : List Site) (1 : Int) (1 : Int) ⟨(ByteArray.mk #[115]), (0 : Int), (0 : Int)⟩ (77 : Int)).r0).y).hi), .int .i64 ((((m_proj_Line ⟨(5 : Int), (5 : Int)⟩ ([⟨(ByteArray.mk #[97]), ⟨(0 : Int), (1 : Int)⟩, ⟨(0 : Int), (1 : Int)⟩⟩, ⟨(ByteArray.mk #[98]), ⟨(0 : Int), (1 : Int)⟩, ⟨(1 : Int), (1 : Int)⟩⟩] : List Site) (1 : Int) (1 : Int) ⟨(ByteArray.mk #[115]), (0 : Int), (0 : Int)⟩ (77 : Int)).r0).z).lo), .int .i64 ((((m_proj_Line ⟨(5 : Int), (5 : Int)⟩ ([⟨(ByteArray.mk #[97]), ⟨(0 : Int), (1 : Int)⟩, ⟨(0 : Int), (1 : Int)⟩⟩, ⟨(ByteArray.mk #[98]), ⟨(0 : Int), (1 : Int)⟩, ⟨(1 : Int), (1 : Int)⟩⟩] : List Site) (1 : Int) (1 : Int) ⟨(ByteArray.mk #[115]), (0 : Int), (0 : Int)⟩ (77 : Int)).r0).z).hi)] [.int .i64 (0 : Int), .int .i64 (0 : Int), .int .i64 (0 : Int), .int .i64 (0 : Int), .int .i64 (0 : Int), .int .i64 (0 : Int)] then ⟨true, false⟩ else ⟨true, false⟩)) else (bif eqAll [.int .i64 ((((m_proj_Line ⟨(5 : Int), (5 : Int)⟩ ([⟨(ByteArray.mk #[97]), ⟨(0 : Int), (1 : Int)⟩, ⟨(0 : Int), (1 : Int)⟩⟩, ⟨(ByteArray.mk #[98]), ⟨(0 : Int), (1 : Int)⟩, ⟨(1 : Int), (1 : Int)⟩⟩] : List Site) (1 : Int) (1 : Int) ⟨(ByteArray.mk #[115]), (0 : Int), (0 : Int)⟩ (77 : Int)).r0).x).lo), .int .i64 ((((m_proj_Line ⟨(5 : Int), (5 : Int)⟩ ([⟨(ByteArray.mk #[97]), ⟨(0 : Int), (1 : Int)⟩, ⟨(0 : Int), (1 : Int)⟩⟩, ⟨(ByteArray.mk #[98]), ⟨(0 : Int), (1 : Int)⟩, ⟨(1 : Int), (1 : Int)⟩⟩] : List Site) (1 : Int) (1 : Int) ⟨(ByteArray.mk #[115]), (0 : Int), (0 : Int)⟩ (77 : Int)).r0).x).hi), .int .i64 ((((m_proj_Line ⟨(5 : Int), (5 : Int)⟩ ([⟨(ByteArray.mk #[97]), ⟨(0 : Int), (1 : Int)⟩, ⟨(0 : Int), (1 : Int)⟩⟩, ⟨(ByteArray.mk #[98]), ⟨(0 : Int), (1 : Int)⟩, ⟨(1 : Int), (1 : Int)⟩⟩] : List Site) (1 : Int) (1 : Int) ⟨(ByteArray.mk #[115]), (0 : Int), (0 : Int)⟩ (77 : Int)).r0).y).lo), .int .i64 ((((m_proj_Line ⟨(5 : Int), (5 : Int)⟩ ([⟨(ByteArray.mk #[97]), ⟨(0 : Int), (1 : Int)⟩, ⟨(0 : Int), (1 : Int)⟩⟩, ⟨(ByteArray.mk #[98]), ⟨(0 : Int), (1 : Int)⟩, ⟨(1 : Int), (1 : Int)⟩⟩] : List Site) (1 : Int) (1 : Int) ⟨(ByteArray.mk #[115]), (0 : Int), (0 : Int)⟩ (77 : Int)).r0).y).hi), .int .i64 ((((m_proj_Line ⟨(5 : Int), (5 : Int)⟩ ([⟨(ByteArray.mk #[97]), ⟨(0 : Int), (1 : Int)⟩, ⟨(0 : Int), (1 : Int)⟩⟩, ⟨(ByteArray.mk #[98]), ⟨(0 : Int), (1 : Int)⟩, ⟨(1 : Int), (1 : Int)⟩⟩] : List Site) (1 : Int) (1 : Int) ⟨(ByteArray.mk #[115]), (0 : Int), (0 : Int)⟩ (77 : Int)).r0).z).lo), .int .i64 ((((m_proj_Line ⟨(5 : Int), (5 : Int)⟩ ([⟨(ByteArray.mk #[97]), ⟨(0 : Int), (1 : Int)⟩, ⟨(0 : Int), (1 : Int)⟩⟩, ⟨(ByteArray.mk #[98]), ⟨(0 : Int), (1 : Int)⟩, ⟨(1 : Int), (1 : Int)⟩⟩] : List Site) (1 : Int) (1 : Int) ⟨(ByteArray.mk #[115]), (0 : Int), (0 : Int)⟩ (77 : Int)).r0).z).hi)] [.int .i64 (0 : Int), .int .i64 (0 : Int), .int .i64 (0 : Int), .int .i64 (0 : Int), .int .i64 (0 : Int), .int .i64 (0 : Int)] then ⟨true, false⟩ else ⟨true, false⟩)) else (bif eqAll [.int .i64 ((((m_proj_Line ⟨(5 : Int), (5 : Int)⟩ ([⟨(ByteArray.mk #[97]), ⟨(0 : Int), (1 : Int)⟩, ⟨(0 : Int), (1 : Int)⟩⟩, ⟨(ByteArray.mk #[98]), ⟨(0 : Int), (1 : Int)⟩, ⟨(1 : Int), (1 : Int)⟩⟩] : List Site) (1 : Int) (1 : Int) ⟨(ByteArray.mk #[115]), (0 : Int), (0 : Int)⟩ (77 : Int)).r0).x).lo), .int .i64 ((((m_proj_Line ⟨(5 : Int), (5 : Int)⟩ ([⟨(ByteArray.mk #[97]), ⟨(0 : Int), (1 : Int)⟩, ⟨(0 : Int), (1 : Int)⟩⟩, ⟨(ByteArray.mk #[98]), ⟨(0 : Int), (1 : Int)⟩, ⟨(1 : Int), (1 : Int)⟩⟩] : List Site) (1 : Int) (1 : Int) ⟨(ByteArray.mk #[115]), (0 : Int), (0 : Int)⟩ (77 : Int)).r0).x).hi), .int .i64 ((((m_proj_Line ⟨(5 : Int), (5 : Int)⟩ ([⟨(ByteArray.mk #[97]), ⟨(0 : Int), (1 : Int)⟩, ⟨(0 : Int), (1 : Int)⟩⟩, ⟨(ByteArray.mk #[98]), ⟨(0 : Int), (1 : Int)⟩, ⟨(1 : Int), (1 : Int)⟩⟩] : List Site) (1 : Int) (1 : Int) ⟨(ByteArray.mk #[115]), (0 : Int), (0 : Int)⟩ (77 : Int)).r0).y).lo), .int .i64 ((((m_proj_Line ⟨(5 : Int), (5 : Int)⟩ ([⟨(ByteArray.mk #[97]), ⟨(0 : Int), (1 : Int)⟩, ⟨(0 : Int), (1 : Int)⟩⟩, ⟨(ByteArray.mk #[98]), ⟨(0 : Int), (1 : Int)⟩, ⟨(1 : Int), (1 : Int)⟩⟩] : List Site) (1 : Int) (1 : Int) ⟨(ByteArray.mk #[115]), (0 : Int), (0 : Int)⟩ (77 : Int)).r0).y).hi), .int .i64 ((((m_proj_Line ⟨(5 : Int), (5 : Int)⟩ ([⟨(ByteArray.mk #[97]), ⟨(0 : Int), (1 : Int)⟩, ⟨(0 : Int), (1 : Int)⟩⟩, ⟨(ByteArray.mk #[98]), ⟨(0 : Int), (1 : Int)⟩, ⟨(1 : Int), (1 : Int)⟩⟩] : List Site) (1 : Int) (1 : Int) ⟨(ByteArray.mk #[115]), (0 : Int), (0 : Int)⟩ (77 : Int)).r0).z).lo), .int .i64 ((((m_proj_Line ⟨(5 : Int), (5 : Int)⟩ ([⟨(ByteArray.mk #[97]), ⟨(0 : Int), (1 : Int)⟩, ⟨(0 : Int), (1 : Int)⟩⟩, ⟨(ByteArray.mk #[98]), ⟨(0 : Int), (1 : Int)⟩, ⟨(1 : Int), (1 : Int)⟩⟩] : List Site) (1 : Int) (1 : Int) ⟨(ByteArray.mk #[115]), (0 : Int), (0 : Int)⟩ (77 : Int)).r0).z).hi)] [.int .i64 (0 : Int), .int .i64 (0 : Int), .int .i64 (0 : Int), .int .i64 (0 : Int), .int .i64 (0 : Int), .int .i64 (0 : Int)] then ⟨true, false⟩ else ⟨true, false⟩)) else (bif eqAll [.int .i64 ((((m_proj_Line ⟨(5 : Int), (5 : Int)⟩ ([⟨(ByteArray.mk #[97]), ⟨(0 : Int), (1 : Int)⟩, ⟨(0 : Int), (1 : Int)⟩⟩, ⟨(ByteArray.mk #[98]), ⟨(0 : Int), (1 : Int)⟩, ⟨(1 : Int), (1 : Int)⟩⟩] : List Site) (1 : Int) (1 : Int) ⟨(ByteArray.mk #[115]), (0 : Int), (0 : Int)⟩ (77 : Int)).r0).x).lo), .int .i64 ((((m_proj_Line ⟨(5 : Int), (5 : Int)⟩ ([⟨(ByteArray.mk #[97]), ⟨(0 : Int), (1 : Int)⟩, ⟨(0 : Int), (1 : Int)⟩⟩, ⟨(ByteArray.mk #[98]), ⟨(0 : Int), (1 : Int)⟩, ⟨(1 : Int), (1 : Int)⟩⟩] : List Site) (1 : Int) (1 : Int) ⟨(ByteArray.mk #[115]), (0 : Int), (0 : Int)⟩ (77 : Int)).r0).x).hi), .int .i64 ((((m_proj_Line ⟨(5 : Int), (5 : Int)⟩ ([⟨(ByteArray.mk #[97]), ⟨(0 : Int), (1 : Int)⟩, ⟨(0 : Int), (1 : Int)⟩⟩, ⟨(ByteArray.mk #[98]), ⟨(0 : Int), (1 : Int)⟩, ⟨(1 : Int), (1 : Int)⟩⟩] : List Site) (1 : Int) (1 : Int) ⟨(ByteArray.mk #[115]), (0 : Int), (0 : Int)⟩ (77 : Int)).r0).y).lo), .int .i64 ((((m_proj_Line ⟨(5 : Int), (5 : Int)⟩ ([⟨(ByteArray.mk #[97]), ⟨(0 : Int), (1 : Int)⟩, ⟨(0 : Int), (1 : Int)⟩⟩, ⟨(ByteArray.mk #[98]), ⟨(0 : Int), (1 : Int)⟩, ⟨(1 : Int), (1 : Int)⟩⟩] : List Site) (1 : Int) (1 : Int) ⟨(ByteArray.mk #[115]), (0 : Int), (0 : Int)⟩ (77 : Int)).r0).y).hi), .int .i64 ((((m_proj_Line ⟨(5 : Int), (5 : Int)⟩ ([⟨(ByteArray.mk #[97]), ⟨(0 : Int), (1 : Int)⟩, ⟨(0 : Int), (1 : Int)⟩⟩, ⟨(ByteArray.mk #[98]), ⟨(0 : Int), (1 : Int)⟩, ⟨(1 : Int), (1 : Int)⟩⟩] : List Site) (1 : Int) (1 : Int) ⟨(ByteArray.mk #[115]), (0 : Int), (0 : Int)⟩ (77 : Int)).r0).z).lo), .int .i64 ((((m_proj_Line ⟨(5 : Int), (5 : Int)⟩ ([⟨(ByteArray.mk #[97]), ⟨(0 : Int), (1 : Int)⟩, ⟨(0 : Int), (1 : Int)⟩⟩, ⟨(ByteArray.mk #[98]), ⟨(0 : Int), (1 : Int)⟩, ⟨(1 : Int), (1 : Int)⟩⟩] : List Site) (1 : Int) (1 : Int) ⟨(ByteArray.mk #[115]), (0 : Int), (0 : Int)⟩ (77 : Int)).r0).z).hi)] [.int .i64 (0 : Int), .int .i64 (0 : Int), .int .i64 (0 : Int), .int .i64 (0 : Int), .int .i64 (0 : Int), .int .i64 (0 : Int)] then ⟨true, false⟩ else ⟨true, false⟩)) else (bif eqAll [.int .i64 ((((m_proj_Line ⟨(5 : Int), (5 : Int)⟩ ([⟨(ByteArray.mk #[97]), ⟨(0 : Int), (1 : Int)⟩, ⟨(0 : Int), (1 : Int)⟩⟩, ⟨(ByteArray.mk #[98]), ⟨(0 : Int), (1 : Int)⟩, ⟨(1 : Int), (1 : Int)⟩⟩] : List Site) (1 : Int) (1 : Int) ⟨(ByteArray.mk #[115]), (0 : Int), (0 : Int)⟩ (77 : Int)).r0).x).lo), .int .i64 ((((m_proj_Line ⟨(5 : Int), (5 : Int)⟩ ([⟨(ByteArray.mk #[97]), ⟨(0 : Int), (1 : Int)⟩, ⟨(0 : Int), (1 : Int)⟩⟩, ⟨(ByteArray.mk #[98]), ⟨(0 : Int), (1 : Int)⟩, ⟨(1 : Int), (1 : Int)⟩⟩] : List Site) (1 : Int) (1 : Int) ⟨(ByteArray.mk #[115]), (0 : Int), (0 : Int)⟩ (77 : Int)).r0).x).hi), .int .i64 ((((m_proj_Line ⟨(5 : Int), (5 : Int)⟩ ([⟨(ByteArray.mk #[97]), ⟨(0 : Int), (1 : Int)⟩, ⟨(0 : Int), (1 : Int)⟩⟩, ⟨(ByteArray.mk #[98]), ⟨(0 : Int), (1 : Int)⟩, ⟨(1 : Int), (1 : Int)⟩⟩] : List Site) (1 : Int) (1 : Int) ⟨(ByteArray.mk #[115]), (0 : Int), (0 : Int)⟩ (77 : Int)).r0).y).lo), .int .i64 ((((m_proj_Line ⟨(5 : Int), (5 : Int)⟩ ([⟨(ByteArray.mk #[97]), ⟨(0 : Int), (1 : Int)⟩, ⟨(0 : Int), (1 : Int)⟩⟩, ⟨(ByteArray.mk #[98]), ⟨(0 : Int), (1 : Int)⟩, ⟨(1 : Int), (1 : Int)⟩⟩] : List Site) (1 : Int) (1 : Int) ⟨(ByteArray.mk #[115]), (0 : Int), (0 : Int)⟩ (77 : Int)).r0).y).hi), .int .i64 ((((m_proj_Line ⟨(5 : Int), (5 : Int)⟩ ([⟨(ByteArray.mk #[97]), ⟨(0 : Int), (1 : Int)⟩, ⟨(0 : Int), (1 : Int)⟩⟩, ⟨(ByteArray.mk #[98]), ⟨(0 : Int), (1 : Int)⟩, ⟨(1 : Int), (1 : Int)⟩⟩] : List Site) (1 : Int) (1 : Int) ⟨(ByteArray.mk #[115]), (0 : Int), (0 : Int)⟩ (77 : Int)).r0).z).lo), .int .i64 ((((m_proj_Line ⟨(5 : Int), (5 : Int)⟩ ([⟨(ByteArray.mk #[97]), ⟨(0 : Int), (1 : Int)⟩, ⟨(0 : Int), (1 : Int)⟩⟩, ⟨(ByteArray.mk #[98]), ⟨(0 : Int), (1 : Int)⟩, ⟨(1 : Int), (1 : Int)⟩⟩] : List Site) (1 : Int) (1 : Int) ⟨(ByteArray.mk #[115]), (0 : Int), (0 : Int)⟩ (77 : Int)).r0).z).hi)] [.int .i64 (0 : Int), .int .i64 (0 : Int), .int .i64 (0 : Int), .int .i64 (0 : Int), .int .i64 (0 : Int), .int .i64 (0 : Int)] then ⟨true, false⟩ else ⟨true, false⟩)) else (bif eqAll [.int .i64 ((((m_proj_Line ⟨(5 : Int), (5 : Int)⟩ ([⟨(ByteArray.mk #[97]), ⟨(0 : Int), (1 : Int)⟩, ⟨(0 : Int), (1 : Int)⟩⟩, ⟨(ByteArray.mk #[98]), ⟨(0 : Int), (1 : Int)⟩, ⟨(1 : Int), (1 : Int)⟩⟩] : List Site) (1 : Int) (1 : Int) ⟨(ByteArray.mk #[115]), (0 : Int), (0 : Int)⟩ (77 : Int)).r0).x).lo), .int .i64 ((((m_proj_Line ⟨(5 : Int), (5 : Int)⟩ ([⟨(ByteArray.mk #[97]), ⟨(0 : Int), (1 : Int)⟩, ⟨(0 : Int), (1 : Int)⟩⟩, ⟨(ByteArray.mk #[98]), ⟨(0 : Int), (1 : Int)⟩, ⟨(1 : Int), (1 : Int)⟩⟩] : List Site) (1 : Int) (1 : Int) ⟨(ByteArray.mk #[115]), (0 : Int), (0 : Int)⟩ (77 : Int)).r0).x).hi), .int .i64 ((((m_proj_Line ⟨(5 : Int), (5 : Int)⟩ ([⟨(ByteArray.mk #[97]), ⟨(0 : Int), (1 : Int)⟩, ⟨(0 : Int), (1 : Int)⟩⟩, ⟨(ByteArray.mk #[98]), ⟨(0 : Int), (1 : Int)⟩, ⟨(1 : Int), (1 : Int)⟩⟩] : List Site) (1 : Int) (1 : Int) ⟨(ByteArray.mk #[115]), (0 : Int), (0 : Int)⟩ (77 : Int)).r0).y).lo), .int .i64 ((((m_proj_Line ⟨(5 : Int), (5 : Int)⟩ ([⟨(ByteArray.mk #[97]), ⟨(0 : Int), (1 : Int)⟩, ⟨(0 : Int), (1 : Int)⟩⟩, ⟨(ByteArray.mk #[98]), ⟨(0 : Int), (1 : Int)⟩, ⟨(1 : Int), (1 : Int)⟩⟩] : List Site) (1 : Int) (1 : Int) ⟨(ByteArray.mk #[115]), (0 : Int), (0 : Int)⟩ (77 : Int)).r0).y).hi), .int .i64 ((((m_proj_Line ⟨(5 : Int), (5 : Int)⟩ ([⟨(ByteArray.mk #[97]), ⟨(0 : Int), (1 : Int)⟩, ⟨(0 : Int), (1 : Int)⟩⟩, ⟨(ByteArray.mk #[98]), ⟨(0 : Int), (1 : Int)⟩, ⟨(1 : Int), (1 : Int)⟩⟩] : List Site) (1 : Int) (1 : Int) ⟨(ByteArray.mk #[115]), (0 : Int), (0 : Int)⟩ (77 : Int)).r0).z).lo), .int .i64 ((((m_proj_Line ⟨(5 : Int), (5 : Int)⟩ ([⟨(ByteArray.mk #[97]), ⟨(0 : Int), (1 : Int)⟩, ⟨(0 : Int), (1 : Int)⟩⟩, ⟨(ByteArray.mk #[98]), ⟨(0 : Int), (1 : Int)⟩, ⟨(1 : Int), (1 : Int)⟩⟩] : List Site) (1 : Int) (1 : Int) ⟨(ByteArray.mk #[115]), (0 : Int), (0 : Int)⟩ (77 : Int)).r0).z).hi)] [.int .i64 (0 : Int), .int .i64 (0 : Int), .int .i64 (0 : Int), .int .i64 (0 : Int), .int .i64 (0 : Int), .int .i64 (0 : Int)] then ⟨true, false⟩ else ⟨true, false⟩)) else (bif eqAll [.int .i64 ((((m_proj_Line ⟨(5 : Int), (5 : Int)⟩ ([⟨(ByteArray.mk #[97]), ⟨(0 : Int), (1 : Int)⟩, ⟨(0 : Int), (1 : Int)⟩⟩, ⟨(ByteArray.mk #[98]), ⟨(0 : Int), (1 : Int)⟩, ⟨(1 : Int), (1 : Int)⟩⟩] : List Site) (1 : Int) (1 : Int) ⟨(ByteArray.mk #[115]), (0 : Int), (0 : Int)⟩ (77 : Int)).r0).x).lo), .int .i64 ((((m_proj_Line ⟨(5 : Int), (5 : Int)⟩ ([⟨(ByteArray.mk #[97]), ⟨(0 : Int), (1 : Int)⟩, ⟨(0 : Int), (1 : Int)⟩⟩, ⟨(ByteArray.mk #[98]), ⟨(0 : Int), (1 : Int)⟩, ⟨(1 : Int), (1 : Int)⟩⟩] : List Site) (1 : Int) (1 : Int) ⟨(ByteArray.mk #[115]), (0 : Int), (0 : Int)⟩ (77 : Int)).r0).x).hi), .int .i64 ((((m_proj_Line ⟨(5 : Int), (5 : Int)⟩ ([⟨(ByteArray.mk #[97]), ⟨(0 : Int), (1 : Int)⟩, ⟨(0 : Int), (1 : Int)⟩⟩, ⟨(ByteArray.mk #[98]), ⟨(0 : Int), (1 : Int)⟩, ⟨(1 : Int), (1 : Int)⟩⟩] : List Site) (1 : Int) (1 : Int) ⟨(ByteArray.mk #[115]), (0 : Int), (0 : Int)⟩ (77 : Int)).r0).y).lo), .int .i64 ((((m_proj_Line ⟨(5 : Int), (5 : Int)⟩ ([⟨(ByteArray.mk #[97]), ⟨(0 : Int), (1 : Int)⟩, ⟨(0 : Int), (1 : Int)⟩⟩, ⟨(ByteArray.mk #[98]), ⟨(0 : Int), (1 : Int)⟩, ⟨(1 : Int), (1 : Int)⟩⟩] : List Site) (1 : Int) (1 : Int) ⟨(ByteArray.mk #[115]), (0 : Int), (0 : Int)⟩ (77 : Int)).r0).y).hi), .int .i64 ((((m_proj_Line ⟨(5 : Int), (5 : Int)⟩ ([⟨(ByteArray.mk #[97]), ⟨(0 : Int), (1 : Int)⟩, ⟨(0 : Int), (1 : Int)⟩⟩, ⟨(ByteArray.mk #[98]), ⟨(0 : Int), (1 : Int)⟩, ⟨(1 : Int), (1 : Int)⟩⟩] : List Site) (1 : Int) (1 : Int) ⟨(ByteArray.mk #[115]), (0 : Int), (0 : Int)⟩ (77 : Int)).r0).z).lo), .int .i64 ((((m_proj_Line ⟨(5 : Int), (5 : Int)⟩ ([⟨(ByteArray.mk #[97]), ⟨(0 : Int), (1 : Int)⟩, ⟨(0 : Int), (1 : Int)⟩⟩, ⟨(ByteArray.mk #[98]), ⟨(0 : Int), (1 : Int)⟩, ⟨(1 : Int), (1 : Int)⟩⟩] : List Site) (1 : Int) (1 : Int) ⟨(ByteArray.mk #[115]), (0 : Int), (0 : Int)⟩ (77 : Int)).r0).z).hi)] [.int .i64 (0 : Int), .int .i64 (0 : Int), .int .i64 (0 : Int), .int .i64 (0 : Int), .int .i64 (0 : Int), .int .i64 (0 : Int)] then ⟨true, false⟩ else ⟨true, false⟩)) else (bif eqAll [.int .i64 ((((m_proj_Line ⟨(5 : Int), (5 : Int)⟩ ([⟨(ByteArray.mk #[97]), ⟨(0 : Int), (1 : Int)⟩, ⟨(0 : Int), (1 : Int)⟩⟩, ⟨(ByteArray.mk #[98]), ⟨(0 : Int), (1 : Int)⟩, ⟨(1 : Int), (1 : Int)⟩⟩] : List Site) (1 : Int) (1 : Int) ⟨(ByteArray.mk #[115]), (0 : Int), (0 : Int)⟩ (77 : Int)).r0).x).lo), .int .i64 ((((m_proj_Line ⟨(5 : Int), (5 : Int)⟩ ([⟨(ByteArray.mk #[97]), ⟨(0 : Int), (1 : Int)⟩, ⟨(0 : Int), (1 : Int)⟩⟩, ⟨(ByteArray.mk #[98]), ⟨(0 : Int), (1 : Int)⟩, ⟨(1 : Int), (1 : Int)⟩⟩] : List Site) (1 : Int) (1 : Int) ⟨(ByteArray.mk #[115]), (0 : Int), (0 : Int)⟩ (77 : Int)).r0).x).hi), .int .i64 ((((m_proj_Line ⟨(5 : Int), (5 : Int)⟩ ([⟨(ByteArray.mk #[97]), ⟨(0 : Int), (1 : Int)⟩, ⟨(0 : Int), (1 : Int)⟩⟩, ⟨(ByteArray.mk #[98]), ⟨(0 : Int), (1 : Int)⟩, ⟨(1 : Int), (1 : Int)⟩⟩] : List Site) (1 : Int) (1 : Int) ⟨(ByteArray.mk #[115]), (0 : Int), (0 : Int)⟩ (77 : Int)).r0).y).lo), .int .i64 ((((m_proj_Line ⟨(5 : Int), (5 : Int)⟩ ([⟨(ByteArray.mk #[97]), ⟨(0 : Int), (1 : Int)⟩, ⟨(0 : Int), (1 : Int)⟩⟩, ⟨(ByteArray.mk #[98]), ⟨(0 : Int), (1 : Int)⟩, ⟨(1 : Int), (1 : Int)⟩⟩] : List Site) (1 : Int) (1 : Int) ⟨(ByteArray.mk #[115]), (0 : Int), (0 : Int)⟩ (77 : Int)).r0).y).hi), .int .i64 ((((m_proj_Line ⟨(5 : Int), (5 : Int)⟩ ([⟨(ByteArray.mk #[97]), ⟨(0 : Int), (1 : Int)⟩, ⟨(0 : Int), (1 : Int)⟩⟩, ⟨(ByteArray.mk #[98]), ⟨(0 : Int), (1 : Int)⟩, ⟨(1 : Int), (1 : Int)⟩⟩] : List Site) (1 : Int) (1 : Int) ⟨(ByteArray.mk #[115]), (0 : Int), (0 : Int)⟩ (77 : Int)).r0).z).lo), .int .i64 ((((m_proj_Line ⟨(5 : Int), (5 : Int)⟩ ([⟨(ByteArray.mk #[97]), ⟨(0 : Int), (1 : Int)⟩, ⟨(0 : Int), (1 : Int)⟩⟩, ⟨(ByteArray.mk #[98]), ⟨(0 : Int), (1 : Int)⟩, ⟨(1 : Int), (1 : Int)⟩⟩] : List Site) (1 : Int) (1 : Int) ⟨(ByteArray.mk #[115]), (0 : Int), (0 : Int)⟩ (77 : Int)).r0).z).hi)] [.int .i64 (0 : Int), .int .i64 (0 : Int), .int .i64 (0 : Int), .int .i64 (0 : Int), .int .i64 (0 : Int), .int .i64 (0 : Int)] then ⟨true, false⟩ else ⟨true, false⟩)) else (bif eqAll [.int .i64 ((((m_proj_Line ⟨(5 : Int), (5 : Int)⟩ ([⟨(ByteArray.mk #[97]), ⟨(0 : Int), (1 : Int)⟩, ⟨(0 : Int), (1 : Int)⟩⟩, ⟨(ByteArray.mk #[98]), ⟨(0 : Int), (1 : Int)⟩, ⟨(1 : Int), (1 : Int)⟩⟩] : List Site) (1 : Int) (1 : Int) ⟨(ByteArray.mk #[115]), (0 : Int), (0 : Int)⟩ (77 : Int)).r0).x).lo), .int .i64 ((((m_proj_Line ⟨(5 : Int), (5 : Int)⟩ ([⟨(ByteArray.mk #[97]), ⟨(0 : Int), (1 : Int)⟩, ⟨(0 : Int), (1 : Int)⟩⟩, ⟨(ByteArray.mk #[98]), ⟨(0 : Int), (1 : Int)⟩, ⟨(1 : Int), (1 : Int)⟩⟩] : List Site) (1 : Int) (1 : Int) ⟨(ByteArray.mk #[115]), (0 : Int), (0 : Int)⟩ (77 : Int)).r0).x).hi), .int .i64 ((((m_proj_Line ⟨(5 : Int), (5 : Int)⟩ ([⟨(ByteArray.mk #[97]), ⟨(0 : Int), (1 : Int)⟩, ⟨(0 : Int), (1 : Int)⟩⟩, ⟨(ByteArray.mk #[98]), ⟨(0 : Int), (1 : Int)⟩, ⟨(1 : Int), (1 : Int)⟩⟩] : List Site) (1 : Int) (1 : Int) ⟨(ByteArray.mk #[115]), (0 : Int), (0 : Int)⟩ (77 : Int)).r0).y).lo), .int .i64 ((((m_proj_Line ⟨(5 : Int), (5 : Int)⟩ ([⟨(ByteArray.mk #[97]), ⟨(0 : Int), (1 : Int)⟩, ⟨(0 : Int), (1 : Int)⟩⟩, ⟨(ByteArray.mk #[98]), ⟨(0 : Int), (1 : Int)⟩, ⟨(1 : Int), (1 : Int)⟩⟩] : List Site) (1 : Int) (1 : Int) ⟨(ByteArray.mk #[115]), (0 : Int), (0 : Int)⟩ (77 : Int)).r0).y).hi), .int .i64 ((((m_proj_Line ⟨(5 : Int), (5 : Int)⟩ ([⟨(ByteArray.mk #[97]), ⟨(0 : Int), (1 : Int)⟩, ⟨(0 : Int), (1 : Int)⟩⟩, ⟨(ByteArray.mk #[98]), ⟨(0 : Int), (1 : Int)⟩, ⟨(1 : Int), (1 : Int)⟩⟩] : List Site) (1 : Int) (1 : Int) ⟨(ByteArray.mk #[115]), (0 : Int), (0 : Int)⟩ (77 : Int)).r0).z).lo), .int .i64 ((((m_proj_Line ⟨(5 : Int), (5 : Int)⟩ ([⟨(ByteArray.mk #[97]), ⟨(0 : Int), (1 : Int)⟩, ⟨(0 : Int), (1 : Int)⟩⟩, ⟨(ByteArray.mk #[98]), ⟨(0 : Int), (1 : Int)⟩, ⟨(1 : Int), (1 : Int)⟩⟩] : List Site) (1 : Int) (1 : Int) ⟨(ByteArray.mk #[115]), (0 : Int), (0 : Int)⟩ (77 : Int)).r0).z).hi)] [.int .i64 (0 : Int), .int .i64 (0 : Int), .int .i64 (0 : Int), .int .i64 (0 : Int), .int .i64 (0 : Int), .int .i64 (0 : Int)] then ⟨true, false⟩ else ⟨true, false⟩)) else (bif eqAll [.int .i64 ((((m_proj_Line ⟨(5 : Int), (5 : Int)⟩ ([⟨(ByteArray.mk #[97]), ⟨(0 : Int), (1 : Int)⟩, ⟨(0 : Int), (1 : Int)⟩⟩, ⟨(ByteArray.mk #[98]), ⟨(0 : Int), (1 : Int)⟩, ⟨(1 : Int), (1 : Int)⟩⟩] : List Site) (1 : Int) (1 : Int) ⟨(ByteArray.mk #[115]), (0 : Int), (0 : Int)⟩ (77 : Int)).r0).x).lo), .int .i64 ((((m_proj_Line ⟨(5 : Int), (5 : Int)⟩ ([⟨(ByteArray.mk #[97]), ⟨(0 : Int), (1 : Int)⟩, ⟨(0 : Int), (1 : Int)⟩⟩, ⟨(ByteArray.mk #[98]), ⟨(0 : Int), (1 : Int)⟩, ⟨(1 : Int), (1 : Int)⟩⟩] : List Site) (1 : Int) (1 : Int) ⟨(ByteArray.mk #[115]), (0 : Int), (0 : Int)⟩ (77 : Int)).r0).x).hi), .int .i64 ((((m_proj_Line ⟨(5 : Int), (5 : Int)⟩ ([⟨(ByteArray.mk #[97]), ⟨(0 : Int), (1 : Int)⟩, ⟨(0 : Int), (1 : Int)⟩⟩, ⟨(ByteArray.mk #[98]), ⟨(0 : Int), (1 : Int)⟩, ⟨(1 : Int), (1 : Int)⟩⟩] : List Site) (1 : Int) (1 : Int) ⟨(ByteArray.mk #[115]), (0 : Int), (0 : Int)⟩ (77 : Int)).r0).y).lo), .int .i64 ((((m_proj_Line ⟨(5 : Int), (5 : Int)⟩ ([⟨(ByteArray.mk #[97]), ⟨(0 : Int), (1 : Int)⟩, ⟨(0 : Int), (1 : Int)⟩⟩, ⟨(ByteArray.mk #[98]), ⟨(0 : Int), (1 : Int)⟩, ⟨(1 : Int), (1 : Int)⟩⟩] : List Site) (1 : Int) (1 : Int) ⟨(ByteArray.mk #[115]), (0 : Int), (0 : Int)⟩ (77 : Int)).r0).y).hi), .int .i64 ((((m_proj_Line ⟨(5 : Int), (5 : Int)⟩ ([⟨(ByteArray.mk #[97]), ⟨(0 : Int), (1 : Int)⟩, ⟨(0 : Int), (1 : Int)⟩⟩, ⟨(ByteArray.mk #[98]), ⟨(0 : Int), (1 : Int)⟩, ⟨(1 : Int), (1 : Int)⟩⟩] : List Site) (1 : Int) (1 : Int) ⟨(ByteArray.mk #[115]), (0 : Int), (0 : Int)⟩ (77 : Int)).r0).z).lo), .int .i64 ((((m_proj_Line ⟨(5 : Int), (5 : Int)⟩ ([⟨(ByteArray.mk #[97]), ⟨(0 : Int), (1 : Int)⟩, ⟨(0 : Int), (1 : Int)⟩⟩, ⟨(ByteArray.mk #[98]), ⟨(0 : Int), (1 : Int)⟩, ⟨(1 : Int), (1 : Int)⟩⟩] : List Site) (1 : Int) (1 : Int) ⟨(ByteArray.mk #[115]), (0 : Int), (0 : Int)⟩ (77 : Int)).r0).z).hi)] [.int .i64 (0 : Int), .int .i64 (0 : Int), .int .i64 (0 : Int), .int .i64 (0 : Int), .int .i64 (0 : Int), .int .i64 (0 : Int)] then ⟨true, false⟩ else ⟨true, false⟩)) else ⟨false, false⟩) else ⟨false, false⟩) else ⟨false, false⟩) else ⟨false, false⟩) else ⟨false, false⟩) else (bif (m_proj_Line ⟨(5 : Int), (5 : Int)⟩ ([⟨(ByteArray.mk #[97]), ⟨(0 : Int), (1 : Int)⟩, ⟨(0 : Int), (1 : Int)⟩⟩, ⟨(ByteArray.mk #[98]), ⟨(0 : Int), (1 : Int)⟩, ⟨(1 : Int), (1 : Int)⟩⟩] : List Site) (0 : Int) (2 : Int) ⟨ByteArray.empty, (0 : Int), (0 : Int)⟩ (0 : Int)).ok then (bif (m_proj_Line ⟨(5 : Int), (5 : Int)⟩ ([⟨(ByteArray.mk #[97]), ⟨(0 : Int), (1 : Int)⟩, ⟨(0 : Int), (1 : Int)⟩⟩, ⟨(ByteArray.mk #[98]), ⟨(0 : Int), (1 : Int)⟩, ⟨(1 : Int), (1 : Int)⟩⟩] : List Site) (0 : Int) (1 : Int) ⟨ByteArray.empty, (0 : Int), (0 : Int)⟩ (0 : Int)).ok then (bif (m_proj_Trail ⟨(5 : Int), (5 : Int)⟩ ([⟨(ByteArray.mk #[97]), ⟨(0 : Int), (1 : Int)⟩, ⟨(0 : Int), (1 : Int)⟩⟩, ⟨(ByteArray.mk #[98]), ⟨(0 : Int), (1 : Int)⟩, ⟨(1 : Int), (1 : Int)⟩⟩] : List Site) (0 : Int) (1 : Int) ⟨(ByteArray.mk #[115]), (0 : Int), (0 : Int)⟩ (0 : Int) (0 : Int) (1 : Int)).ok then (bif (m_proj_Trail ⟨(5 : Int), (5 : Int)⟩ ([⟨(ByteArray.mk #[97]), ⟨(0 : Int), (1 : Int)⟩, ⟨(0 : Int), (1 : Int)⟩⟩, ⟨(ByteArray.mk #[98]), ⟨(0 : Int), (1 : Int)⟩, ⟨(1 : Int), (1 : Int)⟩⟩] : List Site) (0 : Int) (1 : Int) ⟨(ByteArray.mk #[115]), (0 : Int), (0 : Int)⟩ (0 : Int) (1 : Int) (101 : Int)).ok then (bif (m_proj_Trail ⟨(0 : Int), (0 : Int)⟩ ([⟨(ByteArray.mk #[97]), ⟨(0 : Int), (1 : Int)⟩, ⟨(0 : Int), (1 : Int)⟩⟩, ⟨(ByteArray.mk #[98]), ⟨(0 : Int), (1 : Int)⟩, ⟨(1 : Int), (1 : Int)⟩⟩] : List Site) (0 : Int) (1 : Int) ⟨(ByteArray.mk #[115]), (0 : Int), (0 : Int)⟩ (0 : Int) (1 : Int) (101 : Int)).ok then (bif ((axesV ⟨ByteArray.empty, (0 : Int), (0 : Int)⟩ (0 : Int)).2 == (8 : Int)) then (bif ((axesV ⟨(ByteArray.mk #[115]), (0 : Int), (0 : Int)⟩ (1000001 : Int)).2 == (2 : Int)) then (bif ((projV (⟨⟨(3001 : Int), (1 : Int)⟩, ⟨(0 : Int), (1 : Int)⟩, ⟨(0 : Int), (1 : Int)⟩⟩) ⟨(ByteArray.mk #[115]), (0 : Int), (0 : Int)⟩ (0 : Int)).2 == (16 : Int)) then (bif ((projV (⟨⟨(0 : Int), (0 : Int)⟩, ⟨(0 : Int), (0 : Int)⟩, ⟨(0 : Int), (0 : Int)⟩⟩) ⟨(ByteArray.mk #[115]), (0 : Int), (0 : Int)⟩ (0 : Int)).2 == (8 : Int)) then (bif ((m_proj_Line ⟨(5 : Int), (5 : Int)⟩ ([⟨(ByteArray.mk #[97]), ⟨(0 : Int), (1 : Int)⟩, ⟨(0 : Int), (1 : Int)⟩⟩, ⟨(ByteArray.mk #[98]), ⟨(0 : Int), (1 : Int)⟩, ⟨(1 : Int), (1 : Int)⟩⟩] : List Site) (0 : Int) (2 : Int) ⟨ByteArray.empty, (0 : Int), (0 : Int)⟩ (0 : Int)).r1 == (2 : Int)) then (bif ((m_proj_Line ⟨(5 : Int), (5 : Int)⟩ ([⟨(ByteArray.mk #[97]), ⟨(0 : Int), (1 : Int)⟩, ⟨(0 : Int), (1 : Int)⟩⟩, ⟨(ByteArray.mk #[98]), ⟨(0 : Int), (1 : Int)⟩, ⟨(1 : Int), (1 : Int)⟩⟩] : List Site) (0 : Int) (1 : Int) ⟨ByteArray.empty, (0 : Int), (0 : Int)⟩ (0 : Int)).r1 == (8 : Int)) then (bif ((m_proj_Trail ⟨(5 : Int), (5 : Int)⟩ ([⟨(ByteArray.mk #[97]), ⟨(0 : Int), (1 : Int)⟩, ⟨(0 : Int), (1 : Int)⟩⟩, ⟨(ByteArray.mk #[98]), ⟨(0 : Int), (1 : Int)⟩, ⟨(1 : Int), (1 : Int)⟩⟩] : List Site) (0 : Int) (1 : Int) ⟨(ByteArray.mk #[115]), (0 : Int), (0 : Int)⟩ (0 : Int) (0 : Int) (1 : Int)).r1 == (2 : Int)) then (bif ((m_proj_Trail ⟨(5 : Int), (5 : Int)⟩ ([⟨(ByteArray.mk #[97]), ⟨(0 : Int), (1 : Int)⟩, ⟨(0 : Int), (1 : Int)⟩⟩, ⟨(ByteArray.mk #[98]), ⟨(0 : Int), (1 : Int)⟩, ⟨(1 : Int), (1 : Int)⟩⟩] : List Site) (0 : Int) (1 : Int) ⟨(ByteArray.mk #[115]), (0 : Int), (0 : Int)⟩ (0 : Int) (1 : Int) (101 : Int)).r1 == (4 : Int)) then (bif ((m_proj_Trail ⟨(0 : Int), (0 : Int)⟩ ([⟨(ByteArray.mk #[97]), ⟨(0 : Int), (1 : Int)⟩, ⟨(0 : Int), (1 : Int)⟩⟩, ⟨(ByteArray.mk #[98]), ⟨(0 : Int), (1 : Int)⟩, ⟨(1 : Int), (1 : Int)⟩⟩] : List Site) (0 : Int) (1 : Int) ⟨(ByteArray.mk #[115]), (0 : Int), (0 : Int)⟩ (0 : Int) (1 : Int) (101 : Int)).r1 == (2 : Int)) then (bif ((normV (⟨⟨(3 : Int), (1 : Int)⟩, ⟨(4 : Int), (1 : Int)⟩, ⟨(12 : Int), (1 : Int)⟩⟩)).2 == (0 : Int)) then (bif eqAll [.int .i64 (((normV (⟨⟨(3 : Int), (1 : Int)⟩, ⟨(4 : Int), (1 : Int)⟩, ⟨(12 : Int), (1 : Int)⟩⟩)).1).lo), .int .i64 (((normV (⟨⟨(3 : Int), (1 : Int)⟩, ⟨(4 : Int), (1 : Int)⟩, ⟨(12 : Int), (1 : Int)⟩⟩)).1).hi)] [.int .i64 (w64 (1000000 * (169 : Int))), .int .i64 (w64 (1000000 * (169 : Int)))] then (bif ((normV (⟨⟨(3000 : Int), (1 : Int)⟩, ⟨(0 : Int), (1 : Int)⟩, ⟨(0 : Int), (1 : Int)⟩⟩)).2 == (16 : Int)) then ⟨true, false⟩ else ⟨true, false⟩) else ⟨true, false⟩) else ⟨true, false⟩) else ⟨true, false⟩) else ⟨true, false⟩) else ⟨true, false⟩) else ⟨true, false⟩) else ⟨true, false⟩) else ⟨true, false⟩) else ⟨true, false⟩) else ⟨true, false⟩) else ⟨true, false⟩) else ⟨false, false⟩) else ⟨false, false⟩) else ⟨false, false⟩) else ⟨false, false⟩) else ⟨false, false⟩)) else (bif (m_proj_Line ⟨(5 : Int), (5 : Int)⟩ ([⟨(ByteArray.mk #[97]), ⟨(0 : Int), (1 : Int)⟩, ⟨(0 : Int), (1 : Int)⟩⟩, ⟨(ByteArray.mk #[98]), ⟨(0 : Int), (1 : Int)⟩, ⟨(1 : Int), (1 : Int)⟩⟩] : List Site) (0 : Int) (2 : Int) ⟨ByteArray.empty, (0 : Int), (0 : Int)⟩ (0 : Int)).ok then (bif (m_proj_Line ⟨(5 : Int), (5 : Int)⟩ ([⟨(ByteArray.mk #[97]), ⟨(0 : Int), (1 : Int)⟩, ⟨(0 : Int), (1 : Int)⟩⟩, ⟨(ByteArray.mk #[98]), ⟨(0 : Int), (1 : Int)⟩, ⟨(1 : Int), (1 : Int)⟩⟩] : List Site) (0 : Int) (1 : Int) ⟨ByteArray.empty, (0 : Int), (0 : Int)⟩ (0 : Int)).ok then (bif (m_proj_Trail ⟨(5 : Int), (5 : Int)⟩ ([⟨(ByteArray.mk #[97]), ⟨(0 : Int), (1 : Int)⟩, ⟨(0 : Int), (1 : Int)⟩⟩, ⟨(ByteArray.mk #[98]), ⟨(0 : Int), (1 : Int)⟩, ⟨(1 : Int), (1 : Int)⟩⟩] : List Site) (0 : Int) (1 : Int) ⟨(ByteArray.mk #[115]), (0 : Int), (0 : Int)⟩ (0 : Int) (0 : Int) (1 : Int)).ok then (bif (m_proj_Trail ⟨(5 : Int), (5 : Int)⟩ ([⟨(ByteArray.mk #[97]), ⟨(0 : Int), (1 : Int)⟩, ⟨(0 : Int), (1 : Int)⟩⟩, ⟨(ByteArray.mk #[98]), ⟨(0 : Int), (1 : Int)⟩, ⟨(1 : Int), (1 : Int)⟩⟩] : List Site) (0 : Int) (1 : Int) ⟨(ByteArray.mk #[115]), (0 : Int), (0 : Int)⟩ (0 : Int) (1 : Int) (101 : Int)).ok then (bif (m_proj_Trail ⟨(0 : Int), (0 : Int)⟩ ([⟨(ByteArray.mk #[97]), ⟨(0 : Int), (1 : Int)⟩, ⟨(0 : Int), (1 : Int)⟩⟩, ⟨(ByteArray.mk #[98]), ⟨(0 : Int), (1 : Int)⟩, ⟨(1 : Int), (1 : Int)⟩⟩] : List Site) (0 : Int) (1 : Int) ⟨(ByteArray.mk #[115]), (0 : Int), (0 : Int)⟩ (0 : Int) (1 : Int) (101 : Int)).ok then (bif ((axesV ⟨ByteArray.empty, (0 : Int), (0 : Int)⟩ (0 : Int)).2 == (8 : Int)) then (bif ((axesV ⟨(ByteArray.mk #[115]), (0 : Int), (0 : Int)⟩ (1000001 : Int)).2 == (2 : Int)) then (bif ((projV (⟨⟨(3001 : Int), (1 : Int)⟩, ⟨(0 : Int), (1 : Int)⟩, ⟨(0 : Int), (1 : Int)⟩⟩) ⟨(ByteArray.mk #[115]), (0 : Int), (0 : Int)⟩ (0 : Int)).2 == (16 : Int)) then (bif ((projV (⟨⟨(0 : Int), (0 : Int)⟩, ⟨(0 : Int), (0 : Int)⟩, ⟨(0 : Int), (0 : Int)⟩⟩) ⟨(ByteArray.mk #[115]), (0 : Int), (0 : Int)⟩ (0 : Int)).2 == (8 : Int)) then (bif ((m_proj_Line ⟨(5 : Int), (5 : Int)⟩ ([⟨(ByteArray.mk #[97]), ⟨(0 : Int), (1 : Int)⟩, ⟨(0 : Int), (1 : Int)⟩⟩, ⟨(ByteArray.mk #[98]), ⟨(0 : Int), (1 : Int)⟩, ⟨(1 : Int), (1 : Int)⟩⟩] : List Site) (0 : Int) (2 : Int) ⟨ByteArray.empty, (0 : Int), (0 : Int)⟩ (0 : Int)).r1 == (2 : Int)) then (bif ((m_proj_Line ⟨(5 : Int), (5 : Int)⟩ ([⟨(ByteArray.mk #[97]), ⟨(0 : Int), (1 : Int)⟩, ⟨(0 : Int), (1 : Int)⟩⟩, ⟨(ByteArray.mk #[98]), ⟨(0 : Int), (1 : Int)⟩, ⟨(1 : Int), (1 : Int)⟩⟩] : List Site) (0 : Int) (1 : Int) ⟨ByteArray.empty, (0 : Int), (0 : Int)⟩ (0 : Int)).r1 == (8 : Int)) then (bif ((m_proj_Trail ⟨(5 : Int), (5 : Int)⟩ ([⟨(ByteArray.mk #[97]), ⟨(0 : Int), (1 : Int)⟩, ⟨(0 : Int), (1 : Int)⟩⟩, ⟨(ByteArray.mk #[98]), ⟨(0 : Int), (1 : Int)⟩, ⟨(1 : Int), (1 : Int)⟩⟩] : List Site) (0 : Int) (1 : Int) ⟨(ByteArray.mk #[115]), (0 : Int), (0 : Int)⟩ (0 : Int) (0 : Int) (1 : Int)).r1 == (2 : Int)) then (bif ((m_proj_Trail ⟨(5 : Int), (5 : Int)⟩ ([⟨(ByteArray.mk #[97]), ⟨(0 : Int), (1 : Int)⟩, ⟨(0 : Int), (1 : Int)⟩⟩, ⟨(ByteArray.mk #[98]), ⟨(0 : Int), (1 : Int)⟩, ⟨(1 : Int), (1 : Int)⟩⟩] : List Site) (0 : Int) (1 : Int) ⟨(ByteArray.mk #[115]), (0 : Int), (0 : Int)⟩ (0 : Int) (1 : Int) (101 : Int)).r1 == (4 : Int)) then (bif ((m_proj_Trail ⟨(0 : Int), (0 : Int)⟩ ([⟨(ByteArray.mk #[97]), ⟨(0 : Int), (1 : Int)⟩, ⟨(0 : Int), (1 : Int)⟩⟩, ⟨(ByteArray.mk #[98]), ⟨(0 : Int), (1 : Int)⟩, ⟨(1 : Int), (1 : Int)⟩⟩] : List Site) (0 : Int) (1 : Int) ⟨(ByteArray.mk #[115]), (0 : Int), (0 : Int)⟩ (0 : Int) (1 : Int) (101 : Int)).r1 == (2 : Int)) then (bif ((normV (⟨⟨(3 : Int), (1 : Int)⟩, ⟨(4 : Int), (1 : Int)⟩, ⟨(12 : Int), (1 : Int)⟩⟩)).2 == (0 : Int)) then (bif eqAll [.int .i64 (((normV (⟨⟨(3 : Int), (1 : Int)⟩, ⟨(4 : Int), (1 : Int)⟩, ⟨(12 : Int), (1 : Int)⟩⟩)).1).lo), .int .i64 (((normV (⟨⟨(3 : Int), (1 : Int)⟩, ⟨(4 : Int), (1 : Int)⟩, ⟨(12 : Int), (1 : Int)⟩⟩)).1).hi)] [.int .i64 (w64 (1000000 * (169 : Int))), .int .i64 (w64 (1000000 * (169 : Int)))] then (bif ((normV (⟨⟨(3000 : Int), (1 : Int)⟩, ⟨(0 : Int), (1 : Int)⟩, ⟨(0 : Int), (1 : Int)⟩⟩)).2 == (16 : Int)) then ⟨true, false⟩ else ⟨true, false⟩) else ⟨true, false⟩) else ⟨true, false⟩) else ⟨true, false⟩) else ⟨true, false⟩) else ⟨true, false⟩) else ⟨true, false⟩) else ⟨true, false⟩) else ⟨true, false⟩) else ⟨true, false⟩) else ⟨true, false⟩) else ⟨true, false⟩) else ⟨false, false⟩) else ⟨false, false⟩) else ⟨false, false⟩) else ⟨false, false⟩) else ⟨false, false⟩)) else (bif (m_proj_Line ⟨(5 : Int), (5 : Int)⟩ ([⟨(ByteArray.mk #[97]), ⟨(0 : Int), (1 : Int)⟩, ⟨(0 : Int), (1 : Int)⟩⟩, ⟨(ByteArray.mk #[98]), ⟨(0 : Int), (1 : Int)⟩, ⟨(1 : Int), (1 : Int)⟩⟩] : List Site) (0 : Int) (2 : Int) ⟨ByteArray.empty, (0 : Int), (0 : Int)⟩ (0 : Int)).ok then (bif (m_proj_Line ⟨(5 : Int), (5 : Int)⟩ ([⟨(ByteArray.mk #[97]), ⟨(0 : Int), (1 : Int)⟩, ⟨(0 : Int), (1 : Int)⟩⟩, ⟨(ByteArray.mk #[98]), ⟨(0 : Int), (1 : Int)⟩, ⟨(1 : Int), (1 : Int)⟩⟩] : List Site) (0 : Int) (1 : Int) ⟨ByteArray.empty, (0 : Int), (0 : Int)⟩ (0 : Int)).ok then (bif (m_proj_Trail ⟨(5 : Int), (5 : Int)⟩ ([⟨(ByteArray.mk #[97]), ⟨(0 : Int), (1 : Int)⟩, ⟨(0 : Int), (1 : Int)⟩⟩, ⟨(ByteArray.mk #[98]), ⟨(0 : Int), (1 : Int)⟩, ⟨(1 : Int), (1 : Int)⟩⟩] : List Site) (0 : Int) (1 : Int) ⟨(ByteArray.mk #[115]), (0 : Int), (0 : Int)⟩ (0 : Int) (0 : Int) (1 : Int)).ok then (bif (m_proj_Trail ⟨(5 : Int), (5 : Int)⟩ ([⟨(ByteArray.mk #[97]), ⟨(0 : Int), (1 : Int)⟩, ⟨(0 : Int), (1 : Int)⟩⟩, ⟨(ByteArray.mk #[98]), ⟨(0 : Int), (1 : Int)⟩, ⟨(1 : Int), (1 : Int)⟩⟩] : List Site) (0 : Int) (1 : Int) ⟨(ByteArray.mk #[115]), (0 : Int), (0 : Int)⟩ (0 : Int) (1 : Int) (101 : Int)).ok then (bif (m_proj_Trail ⟨(0 : Int), (0 : Int)⟩ ([⟨(ByteArray.mk #[97]), ⟨(0 : Int), (1 : Int)⟩, ⟨(0 : Int), (1 : Int)⟩⟩, ⟨(ByteArray.mk #[98]), ⟨(0 : Int), (1 : Int)⟩, ⟨(1 : Int), (1 : Int)⟩⟩] : List Site) (0 : Int) (1 : Int) ⟨(ByteArray.mk #[115]), (0 : Int), (0 : Int)⟩ (0 : Int) (1 : Int) (101 : Int)).ok then (bif ((axesV ⟨ByteArray.empty, (0 : Int), (0 : Int)⟩ (0 : Int)).2 == (8 : Int)) then (bif ((axesV ⟨(ByteArray.mk #[115]), (0 : Int), (0 : Int)⟩ (1000001 : Int)).2 == (2 : Int)) then (bif ((projV (⟨⟨(3001 : Int), (1 : Int)⟩, ⟨(0 : Int), (1 : Int)⟩, ⟨(0 : Int), (1 : Int)⟩⟩) ⟨(ByteArray.mk #[115]), (0 : Int), (0 : Int)⟩ (0 : Int)).2 == (16 : Int)) then (bif ((projV (⟨⟨(0 : Int), (0 : Int)⟩, ⟨(0 : Int), (0 : Int)⟩, ⟨(0 : Int), (0 : Int)⟩⟩) ⟨(ByteArray.mk #[115]), (0 : Int), (0 : Int)⟩ (0 : Int)).2 == (8 : Int)) then (bif ((m_proj_Line ⟨(5 : Int), (5 : Int)⟩ ([⟨(ByteArray.mk #[97]), ⟨(0 : Int), (1 : Int)⟩, ⟨(0 : Int), (1 : Int)⟩⟩, ⟨(ByteArray.mk #[98]), ⟨(0 : Int), (1 : Int)⟩, ⟨(1 : Int), (1 : Int)⟩⟩] : List Site) (0 : Int) (2 : Int) ⟨ByteArray.empty, (0 : Int), (0 : Int)⟩ (0 : Int)).r1 == (2 : Int)) then (bif ((m_proj_Line ⟨(5 : Int), (5 : Int)⟩ ([⟨(ByteArray.mk #[97]), ⟨(0 : Int), (1 : Int)⟩, ⟨(0 : Int), (1 : Int)⟩⟩, ⟨(ByteArray.mk #[98]), ⟨(0 : Int), (1 : Int)⟩, ⟨(1 : Int), (1 : Int)⟩⟩] : List Site) (0 : Int) (1 : Int) ⟨ByteArray.empty, (0 : Int), (0 : Int)⟩ (0 : Int)).r1 == (8 : Int)) then (bif ((m_proj_Trail ⟨(5 : Int), (5 : Int)⟩ ([⟨(ByteArray.mk #[97]), ⟨(0 : Int), (1 : Int)⟩, ⟨(0 : Int), (1 : Int)⟩⟩, ⟨(ByteArray.mk #[98]), ⟨(0 : Int), (1 : Int)⟩, ⟨(1 : Int), (1 : Int)⟩⟩] : List Site) (0 : Int) (1 : Int) ⟨(ByteArray.mk #[115]), (0 : Int), (0 : Int)⟩ (0 : Int) (0 : Int) (1 : Int)).r1 == (2 : Int)) then (bif ((m_proj_Trail ⟨(5 : Int), (5 : Int)⟩ ([⟨(ByteArray.mk #[97]), ⟨(0 : Int), (1 : Int)⟩, ⟨(0 : Int), (1 : Int)⟩⟩, ⟨(ByteArray.mk #[98]), ⟨(0 : Int), (1 : Int)⟩, ⟨(1 : Int), (1 : Int)⟩⟩] : List Site) (0 : Int) (1 : Int) ⟨(ByteArray.mk #[115]), (0 : Int), (0 : Int)⟩ (0 : Int) (1 : Int) (101 : Int)).r1 == (4 : Int)) then (bif ((m_proj_Trail ⟨(0 : Int), (0 : Int)⟩ ([⟨(ByteArray.mk #[97]), ⟨(0 : Int), (1 : Int)⟩, ⟨(0 : Int), (1 : Int)⟩⟩, ⟨(ByteArray.mk #[98]), ⟨(0 : Int), (1 : Int)⟩, ⟨(1 : Int), (1 : Int)⟩⟩] : List Site) (0 : Int) (1 : Int) ⟨(ByteArray.mk #[115]), (0 : Int), (0 : Int)⟩ (0 : Int) (1 : Int) (101 : Int)).r1 == (2 : Int)) then (bif ((normV (⟨⟨(3 : Int), (1 : Int)⟩, ⟨(4 : Int), (1 : Int)⟩, ⟨(12 : Int), (1 : Int)⟩⟩)).2 == (0 : Int)) then (bif eqAll [.int .i64 (((normV (⟨⟨(3 : Int), (1 : Int)⟩, ⟨(4 : Int), (1 : Int)⟩, ⟨(12 : Int), (1 : Int)⟩⟩)).1).lo), .int .i64 (((normV (⟨⟨(3 : Int), (1 : Int)⟩, ⟨(4 : Int), (1 : Int)⟩, ⟨(12 : Int), (1 : Int)⟩⟩)).1).hi)] [.int .i64 (w64 (1000000 * (169 : Int))), .int .i64 (w64 (1000000 * (169 : Int)))] then (bif ((normV (⟨⟨(3000 : Int), (1 : Int)⟩, ⟨(0 : Int), (1 : Int)⟩, ⟨(0 : Int), (1 : Int)⟩⟩)).2 == (16 : Int)) then ⟨true, false⟩ else ⟨true, false⟩) else ⟨true, false⟩) else ⟨true, false⟩) else ⟨true, false⟩) else ⟨true, false⟩) else ⟨true, false⟩) else ⟨true, false⟩) else ⟨true, false⟩) else ⟨true, false⟩) else ⟨true, false⟩) else ⟨true, false⟩) else ⟨true, false⟩) else ⟨false, false⟩) else ⟨false, false⟩) else ⟨false, false⟩) else ⟨false, false⟩) else ⟨false, false⟩)) else (bif (m_proj_Line ⟨(5 : Int), (5 : Int)⟩ ([⟨(ByteArray.mk #[97]), ⟨(0 : Int), (1 : Int)⟩, ⟨(0 : Int), (1 : Int)⟩⟩, ⟨(ByteArray.mk #[98]), ⟨(0 : Int), (1 : Int)⟩, ⟨(1 : Int), (1 : Int)⟩⟩] : List Site) (0 : Int) (2 : Int) ⟨ByteArray.empty, (0 : Int), (0 : Int)⟩ (0 : Int)).ok then (bif (m_proj_Line ⟨(5 : Int), (5 : Int)⟩ ([⟨(ByteArray.mk #[97]), ⟨(0 : Int), (1 : Int)⟩, ⟨(0 : Int), (1 : Int)⟩⟩, ⟨(ByteArray.mk #[98]), ⟨(0 : Int), (1 : Int)⟩, ⟨(1 : Int), (1 : Int)⟩⟩] : List Site) (0 : Int) (1 : Int) ⟨ByteArray.empty, (0 : Int), (0 : Int)⟩ (0 : Int)).ok then (bif (m_proj_Trail ⟨(5 : Int), (5 : Int)⟩ ([⟨(ByteArray.mk #[97]), ⟨(0 : Int), (1 : Int)⟩, ⟨(0 : Int), (1 : Int)⟩⟩, ⟨(ByteArray.mk #[98]), ⟨(0 : Int), (1 : Int)⟩, ⟨(1 : Int), (1 : Int)⟩⟩] : List Site) (0 : Int) (1 : Int) ⟨(ByteArray.mk #[115]), (0 : Int), (0 : Int)⟩ (0 : Int) (0 : Int) (1 : Int)).ok then (bif (m_proj_Trail ⟨(5 : Int), (5 : Int)⟩ ([⟨(ByteArray.mk #[97]), ⟨(0 : Int), (1 : Int)⟩, ⟨(0 : Int), (1 : Int)⟩⟩, ⟨(ByteArray.mk #[98]), ⟨(0 : Int), (1 : Int)⟩, ⟨(1 : Int), (1 : Int)⟩⟩] : List Site) (0 : Int) (1 : Int) ⟨(ByteArray.mk #[115]), (0 : Int), (0 : Int)⟩ (0 : Int) (1 : Int) (101 : Int)).ok then (bif (m_proj_Trail ⟨(0 : Int), (0 : Int)⟩ ([⟨(ByteArray.mk #[97]), ⟨(0 : Int), (1 : Int)⟩, ⟨(0 : Int), (1 : Int)⟩⟩, ⟨(ByteArray.mk #[98]), ⟨(0 : Int), (1 : Int)⟩, ⟨(1 : Int), (1 : Int)⟩⟩] : List Site) (0 : Int) (1 : Int) ⟨(ByteArray.mk #[115]), (0 : Int), (0 : Int)⟩ (0 : Int) (1 : Int) (101 : Int)).ok then (bif ((axesV ⟨ByteArray.empty, (0 : Int), (0 : Int)⟩ (0 : Int)).2 == (8 : Int)) then (bif ((axesV ⟨(ByteArray.mk #[115]), (0 : Int), (0 : Int)⟩ (1000001 : Int)).2 == (2 : Int)) then (bif ((projV (⟨⟨(3001 : Int), (1 : Int)⟩, ⟨(0 : Int), (1 : Int)⟩, ⟨(0 : Int), (1 : Int)⟩⟩) ⟨(ByteArray.mk #[115]), (0 : Int), (0 : Int)⟩ (0 : Int)).2 == (16 : Int)) then (bif ((projV (⟨⟨(0 : Int), (0 : Int)⟩, ⟨(0 : Int), (0 : Int)⟩, ⟨(0 : Int), (0 : Int)⟩⟩) ⟨(ByteArray.mk #[115]), (0 : Int), (0 : Int)⟩ (0 : Int)).2 == (8 : Int)) then (bif ((m_proj_Line ⟨(5 : Int), (5 : Int)⟩ ([⟨(ByteArray.mk #[97]), ⟨(0 : Int), (1 : Int)⟩, ⟨(0 : Int), (1 : Int)⟩⟩, ⟨(ByteArray.mk #[98]), ⟨(0 : Int), (1 : Int)⟩, ⟨(1 : Int), (1 : Int)⟩⟩] : List Site) (0 : Int) (2 : Int) ⟨ByteArray.empty, (0 : Int), (0 : Int)⟩ (0 : Int)).r1 == (2 : Int)) then (bif ((m_proj_Line ⟨(5 : Int), (5 : Int)⟩ ([⟨(ByteArray.mk #[97]), ⟨(0 : Int), (1 : Int)⟩, ⟨(0 : Int), (1 : Int)⟩⟩, ⟨(ByteArray.mk #[98]), ⟨(0 : Int), (1 : Int)⟩, ⟨(1 : Int), (1 : Int)⟩⟩] : List Site) (0 : Int) (1 : Int) ⟨ByteArray.empty, (0 : Int), (0 : Int)⟩ (0 : Int)).r1 == (8 : Int)) then (bif ((m_proj_Trail ⟨(5 : Int), (5 : Int)⟩ ([⟨(ByteArray.mk #[97]), ⟨(0 : Int), (1 : Int)⟩, ⟨(0 : Int), (1 : Int)⟩⟩, ⟨(ByteArray.mk #[98]), ⟨(0 : Int), (1 : Int)⟩, ⟨(1 : Int), (1 : Int)⟩⟩] : List Site) (0 : Int) (1 : Int) ⟨(ByteArray.mk #[115]), (0 : Int), (0 : Int)⟩ (0 : Int) (0 : Int) (1 : Int)).r1 == (2 : Int)) then (bif ((m_proj_Trail ⟨(5 : Int), (5 : Int)⟩ ([⟨(ByteArray.mk #[97]), ⟨(0 : Int), (1 : Int)⟩, ⟨(0 : Int), (1 : Int)⟩⟩, ⟨(ByteArray.mk #[98]), ⟨(0 : Int), (1 : Int)⟩, ⟨(1 : Int), (1 : Int)⟩⟩] : List Site) (0 : Int) (1 : Int) ⟨(ByteArray.mk #[115]), (0 : Int), (0 : Int)⟩ (0 : Int) (1 : Int) (101 : Int)).r1 == (4 : Int)) then (bif ((m_proj_Trail ⟨(0 : Int), (0 : Int)⟩ ([⟨(ByteArray.mk #[97]), ⟨(0 : Int), (1 : Int)⟩, ⟨(0 : Int), (1 : Int)⟩⟩, ⟨(ByteArray.mk #[98]), ⟨(0 : Int), (1 : Int)⟩, ⟨(1 : Int), (1 : Int)⟩⟩] : List Site) (0 : Int) (1 : Int) ⟨(ByteArray.mk #[115]), (0 : Int), (0 : Int)⟩ (0 : Int) (1 : Int) (101 : Int)).r1 == (2 : Int)) then (bif ((normV (⟨⟨(3 : Int), (1 : Int)⟩, ⟨(4 : Int), (1 : Int)⟩, ⟨(12 : Int), (1 : Int)⟩⟩)).2 == (0 : Int)) then (bif eqAll [.int .i64 (((normV (⟨⟨(3 : Int), (1 : Int)⟩, ⟨(4 : Int), (1 : Int)⟩, ⟨(12 : Int), (1 : Int)⟩⟩)).1).lo), .int .i64 (((normV (⟨⟨(3 : Int), (1 : Int)⟩, ⟨(4 : Int), (1 : Int)⟩, ⟨(12 : Int), (1 : Int)⟩⟩)).1).hi)] [.int .i64 (w64 (1000000 * (169 : Int))), .int .i64 (w64 (1000000 * (169 : Int)))] then (bif ((normV (⟨⟨(3000 : Int), (1 : Int)⟩, ⟨(0 : Int), (1 : Int)⟩, ⟨(0 : Int), (1 : Int)⟩⟩)).2 == (16 : Int)) then ⟨true, false⟩ else ⟨true, false⟩) else ⟨true, false⟩) else ⟨true, false⟩) else ⟨true, false⟩) else ⟨true, false⟩) else ⟨true, false⟩) else ⟨true, false⟩) else ⟨true, false⟩) else ⟨true, false⟩) else ⟨true, false⟩) else ⟨true, false⟩) else ⟨true, false⟩) else ⟨false, false⟩) else ⟨false, false⟩) else ⟨false, false⟩) else ⟨false, false⟩) else ⟨false, false⟩)) else ⟨false, false⟩) else (bif (m_proj_Line ⟨(5 : Int), (5 : Int)⟩ ([⟨(ByteArray.mk #[97]), ⟨(0 : Int), (1 : Int)⟩, ⟨(0 : Int), (1 : Int)⟩⟩, ⟨(ByteArray.mk #[98]), ⟨(0 : Int), (1 : Int)⟩, ⟨(1 : Int), (1 : Int)⟩⟩] : List Site) (0 : Int) (2 : Int) ⟨ByteArray.empty, (0 : Int), (0 : Int)⟩ (0 : Int)).ok then (bif (m_proj_Line ⟨(5 : Int), (5 : Int)⟩ ([⟨(ByteArray.mk #[97]), ⟨(0 : Int), (1 : Int)⟩, ⟨(0 : Int), (1 : Int)⟩⟩, ⟨(ByteArray.mk #[98]), ⟨(0 : Int), (1 : Int)⟩, ⟨(1 : Int), (1 : Int)⟩⟩] : List Site) (0 : Int) (1 : Int) ⟨ByteArray.empty, (0 : Int), (0 : Int)⟩ (0 : Int)).ok then (bif (m_proj_Trail ⟨(5 : Int), (5 : Int)⟩ ([⟨(ByteArray.mk #[97]), ⟨(0 : Int), (1 : Int)⟩, ⟨(0 : Int), (1 : Int)⟩⟩, ⟨(ByteArray.mk #[98]), ⟨(0 : Int), (1 : Int)⟩, ⟨(1 : Int), (1 : Int)⟩⟩] : List Site) (0 : Int) (1 : Int) ⟨(ByteArray.mk #[115]), (0 : Int), (0 : Int)⟩ (0 : Int) (0 : Int) (1 : Int)).ok then (bif (m_proj_Trail ⟨(5 : Int), (5 : Int)⟩ ([⟨(ByteArray.mk #[97]), ⟨(0 : Int), (1 : Int)⟩, ⟨(0 : Int), (1 : Int)⟩⟩, ⟨(ByteArray.mk #[98]), ⟨(0 : Int), (1 : Int)⟩, ⟨(1 : Int), (1 : Int)⟩⟩] : List Site) (0 : Int) (1 : Int) ⟨(ByteArray.mk #[115]), (0 : Int), (0 : Int)⟩ (0 : Int) (1 : Int) (101 : Int)).ok then (bif (m_proj_Trail ⟨(0 : Int), (0 : Int)⟩ ([⟨(ByteArray.mk #[97]), ⟨(0 : Int), (1 : Int)⟩, ⟨(0 : Int), (1 : Int)⟩⟩, ⟨(ByteArray.mk #[98]), ⟨(0 : Int), (1 : Int)⟩, ⟨(1 : Int), (1 : Int)⟩⟩] : List Site) (0 : Int) (1 : Int) ⟨(ByteArray.mk #[115]), (0 : Int), (0 : Int)⟩ (0 : Int) (1 : Int) (101 : Int)).ok then (bif ((axesV ⟨ByteArray.empty, (0 : Int), (0 : Int)⟩ (0 : Int)).2 == (8 : Int)) then (bif ((axesV ⟨(ByteArray.mk #[115]), (0 : Int), (0 : Int)⟩ (1000001 : Int)).2 == (2 : Int)) then (bif ((projV (⟨⟨(3001 : Int), (1 : Int)⟩, ⟨(0 : Int), (1 : Int)⟩, ⟨(0 : Int), (1 : Int)⟩⟩) ⟨(ByteArray.mk #[115]), (0 : Int), (0 : Int)⟩ (0 : Int)).2 == (16 : Int)) then (bif ((projV (⟨⟨(0 : Int), (0 : Int)⟩, ⟨(0 : Int), (0 : Int)⟩, ⟨(0 : Int), (0 : Int)⟩⟩) ⟨(ByteArray.mk #[115]), (0 : Int), (0 : Int)⟩ (0 : Int)).2 == (8 : Int)) then (bif ((m_proj_Line ⟨(5 : Int), (5 : Int)⟩ ([⟨(ByteArray.mk #[97]), ⟨(0 : Int), (1 : Int)⟩, ⟨(0 : Int), (1 : Int)⟩⟩, ⟨(ByteArray.mk #[98]), ⟨(0 : Int), (1 : Int)⟩, ⟨(1 : Int), (1 : Int)⟩⟩] : List Site) (0 : Int) (2 : Int) ⟨ByteArray.empty, (0 : Int), (0 : Int)⟩ (0 : Int)).r1 == (2 : Int)) then (bif ((m_proj_Line ⟨(5 : Int), (5 : Int)⟩ ([⟨(ByteArray.mk #[97]), ⟨(0 : Int), (1 : Int)⟩, ⟨(0 : Int), (1 : Int)⟩⟩, ⟨(ByteArray.mk #[98]), ⟨(0 : Int), (1 : Int)⟩, ⟨(1 : Int), (1 : Int)⟩⟩] : List Site) (0 : Int) (1 : Int) ⟨ByteArray.empty, (0 : Int), (0 : Int)⟩ (0 : Int)).r1 == (8 : Int)) then (bif ((m_proj_Trail ⟨(5 : Int), (5 : Int)⟩ ([⟨(ByteArray.mk #[97]), ⟨(0 : Int), (1 : Int)⟩, ⟨(0 : Int), (1 : Int)⟩⟩, ⟨(ByteArray.mk #[98]), ⟨(0 : Int), (1 : Int)⟩, ⟨(1 : Int), (1 : Int)⟩⟩] : List Site) (0 : Int) (1 : Int) ⟨(ByteArray.mk #[115]), (0 : Int), (0 : Int)⟩ (0 : Int) (0 : Int) (1 : Int)).r1 == (2 : Int)) then (bif ((m_proj_Trail ⟨(5 : Int), (5 : Int)⟩ ([⟨(ByteArray.mk #[97]), ⟨(0 : Int), (1 : Int)⟩, ⟨(0 : Int), (1 : Int)⟩⟩, ⟨(ByteArray.mk #[98]), ⟨(0 : Int), (1 : Int)⟩, ⟨(1 : Int), (1 : Int)⟩⟩] : List Site) (0 : Int) (1 : Int) ⟨(ByteArray.mk #[115]), (0 : Int), (0 : Int)⟩ (0 : Int) (1 : Int) (101 : Int)).r1 == (4 : Int)) then (bif ((m_proj_Trail ⟨(0 : Int), (0 : Int)⟩ ([⟨(ByteArray.mk #[97]), ⟨(0 : Int), (1 : Int)⟩, ⟨(0 : Int), (1 : Int)⟩⟩, ⟨(ByteArray.mk #[98]), ⟨(0 : Int), (1 : Int)⟩, ⟨(1 : Int), (1 : Int)⟩⟩] : List Site) (0 : Int) (1 : Int) ⟨(ByteArray.mk #[115]), (0 : Int), (0 : Int)⟩ (0 : Int) (1 : Int) (101 : Int)).r1 == (2 : Int)) then (bif ((normV (⟨⟨(3 : Int), (1 : Int)⟩, ⟨(4 : Int), (1 : Int)⟩, ⟨(12 : Int), (1 : Int)⟩⟩)).2 == (0 : Int)) then (bif eqAll [.int .i64 (((normV (⟨⟨(3 : Int), (1 : Int)⟩, ⟨(4 : Int), (1 : Int)⟩, ⟨(12 : Int), (1 : Int)⟩⟩)).1).lo), .int .i64 (((normV (⟨⟨(3 : Int), (1 : Int)⟩, ⟨(4 : Int), (1 : Int)⟩, ⟨(12 : Int), (1 : Int)⟩⟩)).1).hi)] [.int .i64 (w64 (1000000 * (169 : Int))), .int .i64 (w64 (1000000 * (169 : Int)))] then (bif ((normV (⟨⟨(3000 : Int), (1 : Int)⟩, ⟨(0 : Int), (1 : Int)⟩, ⟨(0 : Int), (1 : Int)⟩⟩)).2 == (16 : Int)) then ⟨true, false⟩ else ⟨true, false⟩) else ⟨true, false⟩) else ⟨true, false⟩) else ⟨true, false⟩) else ⟨true, false⟩) else ⟨true, false⟩) else ⟨true, false⟩) else ⟨true, false⟩) else ⟨true, false⟩) else ⟨true, false⟩) else ⟨true, false⟩) else ⟨true, false⟩) else ⟨false, false⟩) else ⟨false, false⟩) else ⟨false, false⟩) else ⟨false, false⟩) else ⟨false, false⟩)) else (bif (m_proj_Line ⟨(5 : Int), (5 : Int)⟩ ([⟨(ByteArray.mk #[97]), ⟨(0 : Int), (1 : Int)⟩, ⟨(0 : Int), (1 : Int)⟩⟩, ⟨(ByteArray.mk #[98]), ⟨(0 : Int), (1 : Int)⟩, ⟨(1 : Int), (1 : Int)⟩⟩] : List Site) (0 : Int) (2 : Int) ⟨ByteArray.empty, (0 : Int), (0 : Int)⟩ (0 : Int)).ok then (bif (m_proj_Line ⟨(5 : Int), (5 : Int)⟩ ([⟨(ByteArray.mk #[97]), ⟨(0 : Int), (1 : Int)⟩, ⟨(0 : Int), (1 : Int)⟩⟩, ⟨(ByteArray.mk #[98]), ⟨(0 : Int), (1 : Int)⟩, ⟨(1 : Int), (1 : Int)⟩⟩] : List Site) (0 : Int) (1 : Int) ⟨ByteArray.empty, (0 : Int), (0 : Int)⟩ (0 : Int)).ok then (bif (m_proj_Trail ⟨(5 : Int), (5 : Int)⟩ ([⟨(ByteArray.mk #[97]), ⟨(0 : Int), (1 : Int)⟩, ⟨(0 : Int), (1 : Int)⟩⟩, ⟨(ByteArray.mk #[98]), ⟨(0 : Int), (1 : Int)⟩, ⟨(1 : Int), (1 : Int)⟩⟩] : List Site) (0 : Int) (1 : Int) ⟨(ByteArray.mk #[115]), (0 : Int), (0 : Int)⟩ (0 : Int) (0 : Int) (1 : Int)).ok then (bif (m_proj_Trail ⟨(5 : Int), (5 : Int)⟩ ([⟨(ByteArray.mk #[97]), ⟨(0 : Int), (1 : Int)⟩, ⟨(0 : Int), (1 : Int)⟩⟩, ⟨(ByteArray.mk #[98]), ⟨(0 : Int), (1 : Int)⟩, ⟨(1 : Int), (1 : Int)⟩⟩] : List Site) (0 : Int) (1 : Int) ⟨(ByteArray.mk #[115]), (0 : Int), (0 : Int)⟩ (0 : Int) (1 : Int) (101 : Int)).ok then (bif (m_proj_Trail ⟨(0 : Int), (0 : Int)⟩ ([⟨(ByteArray.mk #[97]), ⟨(0 : Int), (1 : Int)⟩, ⟨(0 : Int), (1 : Int)⟩⟩, ⟨(ByteArray.mk #[98]), ⟨(0 : Int), (1 : Int)⟩, ⟨(1 : Int), (1 : Int)⟩⟩] : List Site) (0 : Int) (1 : Int) ⟨(ByteArray.mk #[115]), (0 : Int), (0 : Int)⟩ (0 : Int) (1 : Int) (101 : Int)).ok then (bif ((axesV ⟨ByteArray.empty, (0 : Int), (0 : Int)⟩ (0 : Int)).2 == (8 : Int)) then (bif ((axesV ⟨(ByteArray.mk #[115]), (0 : Int), (0 : Int)⟩ (1000001 : Int)).2 == (2 : Int)) then (bif ((projV (⟨⟨(3001 : Int), (1 : Int)⟩, ⟨(0 : Int), (1 : Int)⟩, ⟨(0 : Int), (1 : Int)⟩⟩) ⟨(ByteArray.mk #[115]), (0 : Int), (0 : Int)⟩ (0 : Int)).2 == (16 : Int)) then (bif ((projV (⟨⟨(0 : Int), (0 : Int)⟩, ⟨(0 : Int), (0 : Int)⟩, ⟨(0 : Int), (0 : Int)⟩⟩) ⟨(ByteArray.mk #[115]), (0 : Int), (0 : Int)⟩ (0 : Int)).2 == (8 : Int)) then (bif ((m_proj_Line ⟨(5 : Int), (5 : Int)⟩ ([⟨(ByteArray.mk #[97]), ⟨(0 : Int), (1 : Int)⟩, ⟨(0 : Int), (1 : Int)⟩⟩, ⟨(ByteArray.mk #[98]), ⟨(0 : Int), (1 : Int)⟩, ⟨(1 : Int), (1 : Int)⟩⟩] : List Site) (0 : Int) (2 : Int) ⟨ByteArray.empty, (0 : Int), (0 : Int)⟩ (0 : Int)).r1 == (2 : Int)) then (bif ((m_proj_Line ⟨(5 : Int), (5 : Int)⟩ ([⟨(ByteArray.mk #[97]), ⟨(0 : Int), (1 : Int)⟩, ⟨(0 : Int), (1 : Int)⟩⟩, ⟨(ByteArray.mk #[98]), ⟨(0 : Int), (1 : Int)⟩, ⟨(1 : Int), (1 : Int)⟩⟩] : List Site) (0 : Int) (1 : Int) ⟨ByteArray.empty, (0 : Int), (0 : Int)⟩ (0 : Int)).r1 == (8 : Int)) then (bif ((m_proj_Trail ⟨(5 : Int), (5 : Int)⟩ ([⟨(ByteArray.mk #[97]), ⟨(0 : Int), (1 : Int)⟩, ⟨(0 : Int), (1 : Int)⟩⟩, ⟨(ByteArray.mk #[98]), ⟨(0 : Int), (1 : Int)⟩, ⟨(1 : Int), (1 : Int)⟩⟩] : List Site) (0 : Int) (1 : Int) ⟨(ByteArray.mk #[115]), (0 : Int), (0 : Int)⟩ (0 : Int) (0 : Int) (1 : Int)).r1 == (2 : Int)) then (bif ((m_proj_Trail ⟨(5 : Int), (5 : Int)⟩ ([⟨(ByteArray.mk #[97]), ⟨(0 : Int), (1 : Int)⟩, ⟨(0 : Int), (1 : Int)⟩⟩, ⟨(ByteArray.mk #[98]), ⟨(0 : Int), (1 : Int)⟩, ⟨(1 : Int), (1 : Int)⟩⟩] : List Site) (0 : Int) (1 : Int) ⟨(ByteArray.mk #[115]), (0 : Int), (0 : Int)⟩ (0 : Int) (1 : Int) (101 : Int)).r1 == (4 : Int)) then (bif ((m_proj_Trail ⟨(0 : Int), (0 : Int)⟩ ([⟨(ByteArray.mk #[97]), ⟨(0 : Int), (1 : Int)⟩, ⟨(0 : Int), (1 : Int)⟩⟩, ⟨(ByteArray.mk #[98]), ⟨(0 : Int), (1 : Int)⟩, ⟨(1 : Int), (1 : Int)⟩⟩] : List Site) (0 : Int) (1 : Int) ⟨(ByteArray.mk #[115]), (0 : Int), (0 : Int)⟩ (0 : Int) (1 : Int) (101 : Int)).r1 == (2 : Int)) then (bif ((normV (⟨⟨(3 : Int), (1 : Int)⟩, ⟨(4 : Int), (1 : Int)⟩, ⟨(12 : Int), (1 : Int)⟩⟩)).2 == (0 : Int)) then (bif eqAll [.int .i64 (((normV (⟨⟨(3 : Int), (1 : Int)⟩, ⟨(4 : Int), (1 : Int)⟩, ⟨(12 : Int), (1 : Int)⟩⟩)).1).lo), .int .i64 (((normV (⟨⟨(3 : Int), (1 : Int)⟩, ⟨(4 : Int), (1 : Int)⟩, ⟨(12 : Int), (1 : Int)⟩⟩)).1).hi)] [.int .i64 (w64 (1000000 * (169 : Int))), .int .i64 (w64 (1000000 * (169 : Int)))] then (bif ((normV (⟨⟨(3000 : Int), (1 : Int)⟩, ⟨(0 : Int), (1 : Int)⟩, ⟨(0 : Int), (1 : Int)⟩⟩)).2 == (16 : Int)) then ⟨true, false⟩ else ⟨true, false⟩) else ⟨true, false⟩) else ⟨true, false⟩) else ⟨true, false⟩) else ⟨true, false⟩) else ⟨true, false⟩) else ⟨true, false⟩) else ⟨true, false⟩) else ⟨true, false⟩) else ⟨true, false⟩) else ⟨true, false⟩) else ⟨true, false⟩) else ⟨false, false⟩) else ⟨false, false⟩) else ⟨false, false⟩) else ⟨false, false⟩) else ⟨false, false⟩)) else (bif (m_proj_Line ⟨(5 : Int), (5 : Int)⟩ ([⟨(ByteArray.mk #[97]), ⟨(0 : Int), (1 : Int)⟩, ⟨(0 : Int), (1 : Int)⟩⟩, ⟨(ByteArray.mk #[98]), ⟨(0 : Int), (1 : Int)⟩, ⟨(1 : Int), (1 : Int)⟩⟩] : List Site) (0 : Int) (2 : Int) ⟨ByteArray.empty, (0 : Int), (0 : Int)⟩ (0 : Int)).ok then (bif (m_proj_Line ⟨(5 : Int), (5 : Int)⟩ ([⟨(ByteArray.mk #[97]), ⟨(0 : Int), (1 : Int)⟩, ⟨(0 : Int), (1 : Int)⟩⟩, ⟨(ByteArray.mk #[98]), ⟨(0 : Int), (1 : Int)⟩, ⟨(1 : Int), (1 : Int)⟩⟩] : List Site) (0 : Int) (1 : Int) ⟨ByteArray.empty, (0 : Int), (0 : Int)⟩ (0 : Int)).ok then (bif (m_proj_Trail ⟨(5 : Int), (5 : Int)⟩ ([⟨(ByteArray.mk #[97]), ⟨(0 : Int), (1 : Int)⟩, ⟨(0 : Int), (1 : Int)⟩⟩, ⟨(ByteArray.mk #[98]), ⟨(0 : Int), (1 : Int)⟩, ⟨(1 : Int), (1 : Int)⟩⟩] : List Site) (0 : Int) (1 : Int) ⟨(ByteArray.mk #[115]), (0 : Int), (0 : Int)⟩ (0 : Int) (0 : Int) (1 : Int)).ok then (bif (m_proj_Trail ⟨(5 : Int), (5 : Int)⟩ ([⟨(ByteArray.mk #[97]), ⟨(0 : Int), (1 : Int)⟩, ⟨(0 : Int), (1 : Int)⟩⟩, ⟨(ByteArray.mk #[98]), ⟨(0 : Int), (1 : Int)⟩, ⟨(1 : Int), (1 : Int)⟩⟩] : List Site) (0 : Int) (1 : Int) ⟨(ByteArray.mk #[115]), (0 : Int), (0 : Int)⟩ (0 : Int) (1 : Int) (101 : Int)).ok then (bif (m_proj_Trail ⟨(0 : Int), (0 : Int)⟩ ([⟨(ByteArray.mk #[97]), ⟨(0 : Int), (1 : Int)⟩, ⟨(0 : Int), (1 : Int)⟩⟩, ⟨(ByteArray.mk #[98]), ⟨(0 : Int), (1 : Int)⟩, ⟨(1 : Int), (1 : Int)⟩⟩] : List Site) (0 : Int) (1 : Int) ⟨(ByteArray.mk #[115]), (0 : Int), (0 : Int)⟩ (0 : Int) (1 : Int) (101 : Int)).ok then (bif ((axesV ⟨ByteArray.empty, (0 : Int), (0 : Int)⟩ (0 : Int)).2 == (8 : Int)) then (bif ((axesV ⟨(ByteArray.mk #[115]), (0 : Int), (0 : Int)⟩ (1000001 : Int)).2 == (2 : Int)) then (bif ((projV (⟨⟨(3001 : Int), (1 : Int)⟩, ⟨(0 : Int), (1 : Int)⟩, ⟨(0 : Int), (1 : Int)⟩⟩) ⟨(ByteArray.mk #[115]), (0 : Int), (0 : Int)⟩ (0 : Int)).2 == (16 : Int)) then (bif ((projV (⟨⟨(0 : Int), (0 : Int)⟩, ⟨(0 : Int), (0 : Int)⟩, ⟨(0 : Int), (0 : Int)⟩⟩) ⟨(ByteArray.mk #[115]), (0 : Int), (0 : Int)⟩ (0 : Int)).2 == (8 : Int)) then (bif ((m_proj_Line ⟨(5 : Int), (5 : Int)⟩ ([⟨(ByteArray.mk #[97]), ⟨(0 : Int), (1 : Int)⟩, ⟨(0 : Int), (1 : Int)⟩⟩, ⟨(ByteArray.mk #[98]), ⟨(0 : Int), (1 : Int)⟩, ⟨(1 : Int), (1 : Int)⟩⟩] : List Site) (0 : Int) (2 : Int) ⟨ByteArray.empty, (0 : Int), (0 : Int)⟩ (0 : Int)).r1 == (2 : Int)) then (bif ((m_proj_Line ⟨(5 : Int), (5 : Int)⟩ ([⟨(ByteArray.mk #[97]), ⟨(0 : Int), (1 : Int)⟩, ⟨(0 : Int), (1 : Int)⟩⟩, ⟨(ByteArray.mk #[98]), ⟨(0 : Int), (1 : Int)⟩, ⟨(1 : Int), (1 : Int)⟩⟩] : List Site) (0 : Int) (1 : Int) ⟨ByteArray.empty, (0 : Int), (0 : Int)⟩ (0 : Int)).r1 == (8 : Int)) then (bif ((m_proj_Trail ⟨(5 : Int), (5 : Int)⟩ ([⟨(ByteArray.mk #[97]), ⟨(0 : Int), (1 : Int)⟩, ⟨(0 : Int), (1 : Int)⟩⟩, ⟨(ByteArray.mk #[98]), ⟨(0 : Int), (1 : Int)⟩, ⟨(1 : Int), (1 : Int)⟩⟩] : List Site) (0 : Int) (1 : Int) ⟨(ByteArray.mk #[115]), (0 : Int), (0 : Int)⟩ (0 : Int) (0 : Int) (1 : Int)).r1 == (2 : Int)) then (bif ((m_proj_Trail ⟨(5 : Int), (5 : Int)⟩ ([⟨(ByteArray.mk #[97]), ⟨(0 : Int), (1 : Int)⟩, ⟨(0 : Int), (1 : Int)⟩⟩, ⟨(ByteArray.mk #[98]), ⟨(0 : Int), (1 : Int)⟩, ⟨(1 : Int), (1 : Int)⟩⟩] : List Site) (0 : Int) (1 : Int) ⟨(ByteArray.mk #[115]), (0 : Int), (0 : Int)⟩ (0 : Int) (1 : Int) (101 : Int)).r1 == (4 : Int)) then (bif ((m_proj_Trail ⟨(0 : Int), (0 : Int)⟩ ([⟨(ByteArray.mk #[97]), ⟨(0 : Int), (1 : Int)⟩, ⟨(0 : Int), (1 : Int)⟩⟩, ⟨(ByteArray.mk #[98]), ⟨(0 : Int), (1 : Int)⟩, ⟨(1 : Int), (1 : Int)⟩⟩] : List Site) (0 : Int) (1 : Int) ⟨(ByteArray.mk #[115]), (0 : Int), (0 : Int)⟩ (0 : Int) (1 : Int) (101 : Int)).r1 == (2 : Int)) then (bif ((normV (⟨⟨(3 : Int), (1 : Int)⟩, ⟨(4 : Int), (1 : Int)⟩, ⟨(12 : Int), (1 : Int)⟩⟩)).2 == (0 : Int)) then (bif eqAll [.int .i64 (((normV (⟨⟨(3 : Int), (1 : Int)⟩, ⟨(4 : Int), (1 : Int)⟩, ⟨(12 : Int), (1 : Int)⟩⟩)).1).lo), .int .i64 (((normV (⟨⟨(3 : Int), (1 : Int)⟩, ⟨(4 : Int), (1 : Int)⟩, ⟨(12 : Int), (1 : Int)⟩⟩)).1).hi)] [.int .i64 (w64 (1000000 * (169 : Int))), .int .i64 (w64 (1000000 * (169 : Int)))] then (bif ((normV (⟨⟨(3000 : Int), (1 : Int)⟩, ⟨(0 : Int), (1 : Int)⟩, ⟨(0 : Int), (1 : Int)⟩⟩)).2 == (16 : Int)) then ⟨true, false⟩ else ⟨true, false⟩) else ⟨true, false⟩) else ⟨true, false⟩) else ⟨true, false⟩) else ⟨true, false⟩) else ⟨true, false⟩) else ⟨true, false⟩) else ⟨true, false⟩) else ⟨true, false⟩) else ⟨true, false⟩) else ⟨true, false⟩) else ⟨true, false⟩) else ⟨false, false⟩) else ⟨false, false⟩) else ⟨false, false⟩) else ⟨false, false⟩) else ⟨false, false⟩)) else ⟨false, false⟩) else ⟨false, false⟩) else ⟨false, false⟩) else ⟨false, false⟩

def F_W8_ProjNames (K : AV → List Blk → Ans) (r : O_W8_ProjNames) : Ans := bif r.ok then K (.v (.c (.d (.bool r.r0)))) [] else none

set_option maxRecDepth 100000 in
theorem e_W8_ProjNames (K : AV → List Blk → Ans) : evFn Tryd.prog GT EQT (inl Tryd.prog GT EQT XT [15, 18] T_Q8_Same 300 2) XT noL 300 4 [] [] (fun v M => K (finR 0 v M).1 (finR 0 v M).2) = F_W8_ProjNames K (m_W8_ProjNames) := by
  unfold m_W8_ProjNames
  refine Eq.trans ?_ (Eq.symm (pushT (pushT (pushT (pushT (pushT (pushT (pushT (pushT (pushT (pushT (pushT (pushT (pushT (pushT (pushT (pushT (pushT (pushT (pushT (pushT (pushT (pushT (pushT (pushT (pushT (pushT (pushT (pushT (pushT (pushT (pushT rfl rfl) rfl) (pushT rfl rfl)) (pushT rfl rfl)) (pushT rfl rfl)) (pushT rfl rfl)) (pushT rfl rfl)) (pushT rfl rfl)) (pushT rfl rfl)) (pushT rfl rfl)) (pushT rfl rfl)) (pushT rfl rfl)) (pushT rfl rfl)) (pushT rfl rfl)) rfl) rfl) rfl) rfl) rfl) (pushT (pushT (pushT (pushT (pushT (pushT (pushT (pushT (pushT (pushT (pushT (pushT (pushT (pushT (pushT (pushT (pushT rfl rfl) rfl) rfl) rfl) rfl) rfl) rfl) rfl) rfl) rfl) rfl) rfl) rfl) rfl) rfl) rfl) rfl)) (pushT (pushT (pushT (pushT (pushT (pushT (pushT (pushT (pushT (pushT (pushT (pushT (pushT (pushT (pushT (pushT (pushT rfl rfl) rfl) rfl) rfl) rfl) rfl) rfl) rfl) rfl) rfl) rfl) rfl) rfl) rfl) rfl) rfl) rfl)) (pushT (pushT (pushT (pushT (pushT (pushT (pushT (pushT (pushT (pushT (pushT (pushT (pushT (pushT (pushT (pushT (pushT rfl rfl) rfl) rfl) rfl) rfl) rfl) rfl) rfl) rfl) rfl) rfl) rfl) rfl) rfl) rfl) rfl) rfl)) (pushT (pushT (pushT (pushT (pushT (pushT (pushT (pushT (pushT (pushT (pushT (pushT (pushT (pushT (pushT (pushT (pushT rfl rfl) rfl) rfl) rfl) rfl) rfl) rfl) rfl) rfl) rfl) rfl) rfl) rfl) rfl) rfl) rfl) rfl)) rfl) (pushT (pushT (pushT (pushT (pushT (pushT (pushT (pushT (pushT (pushT (pushT (pushT (pushT (pushT (pushT (pushT (pushT rfl rfl) rfl) rfl) rfl) rfl) rfl) rfl) rfl) rfl) rfl) rfl) rfl) rfl) rfl) rfl) rfl) rfl)) (pushT (pushT (pushT (pushT (pushT (pushT (pushT (pushT (pushT (pushT (pushT (pushT (pushT (pushT (pushT (pushT (pushT rfl rfl) rfl) rfl) rfl) rfl) rfl) rfl) rfl) rfl) rfl) rfl) rfl) rfl) rfl) rfl) rfl) rfl)) (pushT (pushT (pushT (pushT (pushT (pushT (pushT (pushT (pushT (pushT (pushT (pushT (pushT (pushT (pushT (pushT (pushT rfl rfl) rfl) rfl) rfl) rfl) rfl) rfl) rfl) rfl) rfl) rfl) rfl) rfl) rfl) rfl) rfl) rfl)) rfl) rfl) rfl) rfl))
  kernel_rfl

theorem c_W8_ProjNames (hd : (m_W8_ProjNames).ok = true) : CallsA Tryd.prog GT gbT 4 [] [] (.v (.c (.d (.bool ((m_W8_ProjNames).r0))))) [] := by
  refine CallsA.ofEvR (g_Q8_Same.inl hEQT hmT (fun f hf => by simp only [List.mem_cons, List.not_mem_nil, or_false] at hf; rcases hf with rfl | rfl; exact (fun args w => Tryd.call15 args w); exact (fun args w => Tryd.call18 args w)) 300 2) hEQT hmT (n0 := 0) rfl (fun _ _ _ _ => LOKn.nil) ((e_W8_ProjNames (fun v M => some (Res.fin v M))).trans ?_)
  unfold F_W8_ProjNames
  rw [hd]
  rfl

def s_W8_ProjNames : List AV → List Blk → (AV → List Blk → Ans) → Ans := fun xs bs K => match xs, bs with
  | [], [] => F_W8_ProjNames K (m_W8_ProjNames)
  | _, _ => none

def T_W8_ProjNames : Nat → List AV → List Blk → (AV → List Blk → Ans) → Ans := upd T_Q8_Same 4 s_W8_ProjNames

theorem g_W8_ProjNames : GOK Tryd.prog GT gbT T_W8_ProjNames XT := by
  refine GOK.upd g_Q8_Same (fun args w => Tryd.call4 args w) fun xs bs K r h => ?_
  unfold s_W8_ProjNames at h
  split at h
  · unfold F_W8_ProjNames at h
    simp only [cond_eq_ite] at h
    split at h
    · rename_i hd
      exact ⟨_, _, c_W8_ProjNames hd, h⟩
    · cases h
  · cases h

end Go.Ev

namespace Go.Ev
open Go

set_option maxRecDepth 100000 in
theorem law_ProjNames : m_W8_ProjNames = ⟨true, true⟩ := by
  kernel_rfl

end Go.Ev

namespace Go.Ev
open Go Go.ChangeShapes Go.ChangeShapes

theorem laid_frac {P : Program} {w : World} {n : String} {g t : Nat} {f0 f1 : Field} {a b : Int} (hg : P.globalNamed n = some g) (ht : (P.globals[g]?).map (·.type) = some t)
    (hu : P.underlying t = some (.struct #[f0, f1])) (o0 : f0.offset = 0) (o1 : f1.offset = 1) (u0 : P.underlying f0.type = some (.int .i64)) (u1 : P.underlying f1.type = some (.int .i64))
    (c0 : P.cellsOf f0.type = 1) (c1 : P.cellsOf f1.type = 1) (c : P.cellsOf t = 2) {r : List (String × DataW Unit)} {ps : List MemPlace}
    (h : DataW.LaidVars P w ((n, .agg [.lit (.int .i64 a), .lit (.int .i64 b)]) :: r) ps) :
    (w.cell? ⟨g, 0, none⟩ = some (.int .i64 a) ∧ w.cell? ⟨g, 1, none⟩ = some (.int .i64 b)) ∧ ∃ q, DataW.LaidVars P w r q := by
  obtain ⟨g', t', cs, fuel, p, q, hg', ht', hv, hd, hr, _⟩ := h
  obtain rfl := Option.some.inj (hg.symm.trans hg')
  obtain rfl := Option.some.inj (ht.symm.trans ht')
  obtain ⟨y0, y1, m, e, hl, h0, h1⟩ := trod_struct2 hu hd
  simp only [Prod.mk.injEq, DataW.agg.injEq, List.cons.injEq, and_true] at e
  obtain ⟨x0, e0, z0, _⟩ := DataW.trod_int u0 h0
  obtain ⟨x1, e1, z1, _⟩ := DataW.trod_int u1 h1
  subst z0 z1
  simp only [DataW.lit.injEq, Lit.int.injEq, true_and] at e
  obtain ⟨⟨rfl, rfl⟩, _⟩ := e
  rw [o0, c0] at e0
  rw [o1, c1] at e1
  obtain ⟨l⟩ := cs
  have k0 := World.var?_cell hg hv 0
  have k1 := World.var?_cell hg hv 1
  match l, hl, e0, e1 with
  | [c0', c1'], _, e0, e1 =>
    simp at e0 e1
    subst e0 e1
    exact ⟨⟨by simpa using k0, by simpa using k1⟩, q, hr⟩
  | [], hl, _, _ => rw [c] at hl; simp at hl
  | [_], hl, _, _ => rw [c] at hl; simp at hl
  | _ :: _ :: _ :: _, hl, _, _ => rw [c] at hl; simp at hl

end Go.Ev

