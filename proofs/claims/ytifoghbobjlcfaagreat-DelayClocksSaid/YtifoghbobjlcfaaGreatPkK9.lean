/-
  Contracts of functions: what each returns. No condition beyond those of the statements.
  Plain functions that mirror functions of the program, and that it computes them. No condition beyond those of the statements.
  The iterator over the pairs of n stations: it hands each pair to the loop's body, or stops where the body says so. No condition.
-/
import Derived.Test.YtifoghbobjlcfaaGreatPkK8
import Derived.RangeFuncNested
import Derived.RangeFuncBound
import Derived.RangeFuncCalls
import Derived.RangeFuncLeaves
import Derived.Shelf.Abstract
import Derived.WalkKit
import Derived.OwnWalkIn
import Derived.TacticsInMore
import Derived.LoopNIn
import Derived.LoopIn
import Derived.Test.YtifoghbobjlcfaaGreatRows
set_option maxRecDepth 100000
namespace Go.Ev
open Go Go.Proofs
theorem w_Q5_Cosine (k n : Int) (K : AV → List Blk → Ans) : evFn Tryz.prog GT EQT T_Q5_quarter XT noL 60 146 [.v (.c (.d (.int .i64 k))), .v (.c (.d (.int .i64 n)))] [] (fun v M => K v (M.take ([] : List Blk).length)) = cosineAns K k n := by
  kernel_rfl
theorem c_Q5_Cosine (k n : Int) (hd : (cosineOn n) = true) : CallsA Tryz.prog GT gbT 146 [.v (.c (.d (.int .i64 k))), .v (.c (.d (.int .i64 n)))] [] (rSpan (turnR (4 * k + n) n)) [] := by
  refine CallsA.ofOk fun hok => ?_
  have hw := w_Q5_Cosine k n (fun v M => some (Res.fin v M))
  refine CallsA.ofEv (Γ := T_Q5_quarter) (X := XT) (Λ := noL) (EQ := EQT) (n := 60) g_Q5_quarter hEQT hmT (fun _ _ _ _ => noL_ok _) (hw.trans ?_)
  have h_k := inR_i64 (hok (.int .i64 k) (by simp [datasL, datas]))
  have h_n := inR_i64 (hok (.int .i64 n) (by simp [datasL, datas]))
  clear hok hw
  exact cosineAns_ok (K := fun v M => some (Res.fin v M)) hd
def s_Q5_Cosine : List AV → List Blk → (AV → List Blk → Ans) → Ans := fun xs bs K => match xs, bs with
  | [.v (.c (.d (.int .i64 k))), .v (.c (.d (.int .i64 n)))], [] => bif cosineOn n then K (rSpan (turnR (4 * k + n) n)) [] else none
  | _, _ => none
def T_Q5_Cosine : Nat → List AV → List Blk → (AV → List Blk → Ans) → Ans := upd T_Q5_quarter 146 s_Q5_Cosine
theorem g_Q5_Cosine : GOK Tryz.prog GT gbT T_Q5_Cosine XT := by
  refine GOK.upd g_Q5_quarter (fun args w => Tryz.call146 args w) fun xs bs K r h => ?_
  unfold s_Q5_Cosine at h
  split at h
  · simp only [cond_eq_ite] at h
    split at h
    · exact ⟨_, _, c_Q5_Cosine _ _ ‹_›, h⟩
    · cases h
  · cases h
theorem w_Q5_Cos (k n : Int) (K : AV → List Blk → Ans) : evFn Tryz.prog GT EQT T_Q5_Cosine XT noL 60 120 [.v (.c (.d (.int .i64 k))), .v (.c (.d (.int .i64 n)))] [] (fun v M => K v (M.take ([] : List Blk).length)) = cosRAns K k n := by
  kernel_rfl
theorem c_Q5_Cos (k n : Int) : CallsA Tryz.prog GT gbT 120 [.v (.c (.d (.int .i64 k))), .v (.c (.d (.int .i64 n)))] [] (rSpanE (cosR k n)) [] := by
  refine CallsA.ofOk fun hok => ?_
  have hw := w_Q5_Cos k n (fun v M => some (Res.fin v M))
  refine CallsA.ofEv (Γ := T_Q5_Cosine) (X := XT) (Λ := noL) (EQ := EQT) (n := 60) g_Q5_Cosine hEQT hmT (fun _ _ _ _ => noL_ok _) (hw.trans ?_)
  have h_k := inR_i64 (hok (.int .i64 k) (by simp [datasL, datas]))
  have h_n := inR_i64 (hok (.int .i64 n) (by simp [datasL, datas]))
  clear hok hw
  exact cosRAns_ok (K := fun v M => some (Res.fin v M))
def s_Q5_Cos : List AV → List Blk → (AV → List Blk → Ans) → Ans := fun xs bs K => match xs, bs with
  | [.v (.c (.d (.int .i64 k))), .v (.c (.d (.int .i64 n)))], [] => K (rSpanE (cosR k n)) []
  | _, _ => none
def T_Q5_Cos : Nat → List AV → List Blk → (AV → List Blk → Ans) → Ans := upd T_Q5_Cosine 120 s_Q5_Cos
theorem g_Q5_Cos : GOK Tryz.prog GT gbT T_Q5_Cos XT := by
  refine GOK.upd g_Q5_Cosine (fun args w => Tryz.call120 args w) fun xs bs K r h => ?_
  unfold s_Q5_Cos at h
  split at h
  · exact ⟨_, _, c_Q5_Cos _ _, h⟩
  · cases h
theorem w_Q5_Sin (k n : Int) (K : AV → List Blk → Ans) : evFn Tryz.prog GT EQT T_Q5_Cos XT noL 60 121 [.v (.c (.d (.int .i64 k))), .v (.c (.d (.int .i64 n)))] [] (fun v M => K v (M.take ([] : List Blk).length)) = sinRAns K k n := by
  kernel_rfl
theorem c_Q5_Sin (k n : Int) : CallsA Tryz.prog GT gbT 121 [.v (.c (.d (.int .i64 k))), .v (.c (.d (.int .i64 n)))] [] (rSpanE (sinR k n)) [] := by
  refine CallsA.ofOk fun hok => ?_
  have hw := w_Q5_Sin k n (fun v M => some (Res.fin v M))
  refine CallsA.ofEv (Γ := T_Q5_Cos) (X := XT) (Λ := noL) (EQ := EQT) (n := 60) g_Q5_Cos hEQT hmT (fun _ _ _ _ => noL_ok _) (hw.trans ?_)
  have h_k := inR_i64 (hok (.int .i64 k) (by simp [datasL, datas]))
  have h_n := inR_i64 (hok (.int .i64 n) (by simp [datasL, datas]))
  clear hok hw
  exact sinRAns_ok (K := fun v M => some (Res.fin v M))
def s_Q5_Sin : List AV → List Blk → (AV → List Blk → Ans) → Ans := fun xs bs K => match xs, bs with
  | [.v (.c (.d (.int .i64 k))), .v (.c (.d (.int .i64 n)))], [] => K (rSpanE (sinR k n)) []
  | _, _ => none
def T_Q5_Sin : Nat → List AV → List Blk → (AV → List Blk → Ans) → Ans := upd T_Q5_Cos 121 s_Q5_Sin
theorem g_Q5_Sin : GOK Tryz.prog GT gbT T_Q5_Sin XT := by
  refine GOK.upd g_Q5_Cos (fun args w => Tryz.call121 args w) fun xs bs K r h => ?_
  unfold s_Q5_Sin at h
  split at h
  · exact ⟨_, _, c_Q5_Sin _ _, h⟩
  · cases h
theorem w_proj_circle (h : Int) (K : AV → List Blk → Ans) : evFn Tryz.prog GT EQT T_Q5_Sin XT noL 60 107 [.v (.c (.d (.int .i64 h)))] [] (fun v M => K v (M.take ([] : List Blk).length)) = K (rSpan2 (sinT h, cosT h)) [] := by
  kernel_rfl
theorem c_proj_circle (h : Int) : CallsA Tryz.prog GT gbT 107 [.v (.c (.d (.int .i64 h)))] [] (rSpan2 (sinT h, cosT h)) [] := by
  refine CallsA.ofOk fun hok => ?_
  have hw := w_proj_circle h (fun v M => some (Res.fin v M))
  refine CallsA.ofEv (Γ := T_Q5_Sin) (X := XT) (Λ := noL) (EQ := EQT) (n := 60) g_Q5_Sin hEQT hmT (fun _ _ _ _ => noL_ok _) (hw.trans ?_)
  rfl
def s_proj_circle : List AV → List Blk → (AV → List Blk → Ans) → Ans := fun xs bs K => match xs, bs with
  | [.v (.c (.d (.int .i64 h)))], [] => K (rSpan2 (sinT h, cosT h)) []
  | _, _ => none
def T_proj_circle : Nat → List AV → List Blk → (AV → List Blk → Ans) → Ans := upd T_Q5_Sin 107 s_proj_circle
theorem g_proj_circle : GOK Tryz.prog GT gbT T_proj_circle XT := by
  refine GOK.upd g_Q5_Sin (fun args w => Tryz.call107 args w) fun xs bs K r h => ?_
  unfold s_proj_circle at h
  split at h
  · exact ⟨_, _, c_proj_circle _, h⟩
  · cases h
theorem w_proj_opposite (a1 a2 : Int) (K : AV → List Blk → Ans) : evFn Tryz.prog GT EQT T_proj_circle XT noL 60 108 [.v (.agg [.int .i64 a1, .int .i64 a2])] [] (fun v M => K v (M.take ([] : List Blk).length)) = K (rSpan (negRaw ⟨a1, a2⟩)) [] := by
  kernel_rfl
theorem c_proj_opposite (a1 a2 : Int) : CallsA Tryz.prog GT gbT 108 [.v (.agg [.int .i64 a1, .int .i64 a2])] [] (rSpan (negRaw ⟨a1, a2⟩)) [] := by
  refine CallsA.ofOk fun hok => ?_
  have hw := w_proj_opposite a1 a2 (fun v M => some (Res.fin v M))
  refine CallsA.ofEv (Γ := T_proj_circle) (X := XT) (Λ := noL) (EQ := EQT) (n := 60) g_proj_circle hEQT hmT (fun _ _ _ _ => noL_ok _) (hw.trans ?_)
  rfl
def s_proj_opposite : List AV → List Blk → (AV → List Blk → Ans) → Ans := fun xs bs K => match xs, bs with
  | [.v (.agg [.int .i64 a1, .int .i64 a2])], [] => K (rSpan (negRaw ⟨a1, a2⟩)) []
  | _, _ => none
def T_proj_opposite : Nat → List AV → List Blk → (AV → List Blk → Ans) → Ans := upd T_proj_circle 108 s_proj_opposite
theorem g_proj_opposite : GOK Tryz.prog GT gbT T_proj_opposite XT := by
  refine GOK.upd g_proj_circle (fun args w => Tryz.call108 args w) fun xs bs K r h => ?_
  unfold s_proj_opposite at h
  split at h
  · exact ⟨_, _, c_proj_opposite _ _, h⟩
  · cases h
theorem w_proj_Axes (s1 : ByteArray) (s2 : Int) (s3 : Int) (t : Int) (K : AV → List Blk → Ans) : evFn Tryz.prog GT EQT T_proj_opposite XT noL 120 79 [.v (.agg [.str s1, .int .i64 s2, .int .i64 s3]), .v (.c (.d (.int .i64 t)))] [] (fun v M => K v (M.take ([] : List Blk).length)) = axesAns K ⟨s1, s2, s3⟩ t := by
  kernel_rfl
theorem c_proj_Axes (s1 : ByteArray) (s2 : Int) (s3 : Int) (t : Int) : CallsA Tryz.prog GT gbT 79 [.v (.agg [.str s1, .int .i64 s2, .int .i64 s3]), .v (.c (.d (.int .i64 t)))] [] (rFrameE (axesV ⟨s1, s2, s3⟩ t)) [] := by
  refine CallsA.ofOk fun hok => ?_
  have hw := w_proj_Axes s1 s2 s3 t (fun v M => some (Res.fin v M))
  refine CallsA.ofEv (Γ := T_proj_opposite) (X := XT) (Λ := noL) (EQ := EQT) (n := 120) g_proj_opposite hEQT hmT (fun _ _ _ _ => noL_ok _) (hw.trans ?_)
  have h_s2 := inR_i64 (hok (.int .i64 s2) (by simp [datasL, datas]))
  have h_s3 := inR_i64 (hok (.int .i64 s3) (by simp [datasL, datas]))
  have h_t := inR_i64 (hok (.int .i64 t) (by simp [datasL, datas]))
  clear hok hw
  exact axesAns_ok (K := fun v M => some (Res.fin v M))
def s_proj_Axes : List AV → List Blk → (AV → List Blk → Ans) → Ans := fun xs bs K => match xs, bs with
  | [.v (.agg [.str s1, .int .i64 s2, .int .i64 s3]), .v (.c (.d (.int .i64 t)))], [] => K (rFrameE (axesV ⟨s1, s2, s3⟩ t)) []
  | _, _ => none
def T_proj_Axes : Nat → List AV → List Blk → (AV → List Blk → Ans) → Ans := upd T_proj_opposite 79 s_proj_Axes
theorem g_proj_Axes : GOK Tryz.prog GT gbT T_proj_Axes XT := by
  refine GOK.upd g_proj_opposite (fun args w => Tryz.call79 args w) fun xs bs K r h => ?_
  unfold s_proj_Axes at h
  split at h
  · exact ⟨_, _, c_proj_Axes _ _ _ _, h⟩
  · cases h
theorem w_proj_Project (v1 : Int) (v2 : Int) (v3 : Int) (v4 : Int) (v5 : Int) (v6 : Int) (s1 : ByteArray) (s2 : Int) (s3 : Int) (t : Int) (K : AV → List Blk → Ans) : evFn Tryz.prog GT EQT (inl Tryz.prog GT EQT XT [80] T_proj_Axes 150 2) XT noL 150 59 [.v (.agg [.int .i64 v1, .int .i64 v2, .int .i64 v3, .int .i64 v4, .int .i64 v5, .int .i64 v6]), .v (.agg [.str s1, .int .i64 s2, .int .i64 s3]), .v (.c (.d (.int .i64 t)))] [] (fun v M => K v (M.take ([] : List Blk).length)) = projAns K ⟨⟨v1, v2⟩, ⟨v3, v4⟩, ⟨v5, v6⟩⟩ ⟨s1, s2, s3⟩ t := by
  kernel_rfl
theorem c_proj_Project (v1 : Int) (v2 : Int) (v3 : Int) (v4 : Int) (v5 : Int) (v6 : Int) (s1 : ByteArray) (s2 : Int) (s3 : Int) (t : Int) : CallsA Tryz.prog GT gbT 59 [.v (.agg [.int .i64 v1, .int .i64 v2, .int .i64 v3, .int .i64 v4, .int .i64 v5, .int .i64 v6]), .v (.agg [.str s1, .int .i64 s2, .int .i64 s3]), .v (.c (.d (.int .i64 t)))] [] (rDirE (projV ⟨⟨v1, v2⟩, ⟨v3, v4⟩, ⟨v5, v6⟩⟩ ⟨s1, s2, s3⟩ t)) [] := by
  refine CallsA.ofOk fun hok => ?_
  have hw := w_proj_Project v1 v2 v3 v4 v5 v6 s1 s2 s3 t (fun v M => some (Res.fin v M))
  refine CallsA.ofEv (Γ := (inl Tryz.prog GT EQT XT [80] T_proj_Axes 150 2)) (X := XT) (Λ := noL) (EQ := EQT) (n := 150) (g_proj_Axes.inl hEQT hmT (fun f hf => by simp only [List.mem_cons, List.not_mem_nil, or_false] at hf; subst hf; exact (fun args w => Tryz.call80 args w)) 150 2) hEQT hmT (fun _ _ _ _ => noL_ok _) (hw.trans ?_)
  have h_v1 := inR_i64 (hok (.int .i64 v1) (by simp [datasL, datas]))
  have h_v2 := inR_i64 (hok (.int .i64 v2) (by simp [datasL, datas]))
  have h_v3 := inR_i64 (hok (.int .i64 v3) (by simp [datasL, datas]))
  have h_v4 := inR_i64 (hok (.int .i64 v4) (by simp [datasL, datas]))
  have h_v5 := inR_i64 (hok (.int .i64 v5) (by simp [datasL, datas]))
  have h_v6 := inR_i64 (hok (.int .i64 v6) (by simp [datasL, datas]))
  have h_s2 := inR_i64 (hok (.int .i64 s2) (by simp [datasL, datas]))
  have h_s3 := inR_i64 (hok (.int .i64 s3) (by simp [datasL, datas]))
  have h_t := inR_i64 (hok (.int .i64 t) (by simp [datasL, datas]))
  clear hok hw
  exact projAns_ok (K := fun v M => some (Res.fin v M))
def s_proj_Project : List AV → List Blk → (AV → List Blk → Ans) → Ans := fun xs bs K => match xs, bs with
  | [.v (.agg [.int .i64 v1, .int .i64 v2, .int .i64 v3, .int .i64 v4, .int .i64 v5, .int .i64 v6]), .v (.agg [.str s1, .int .i64 s2, .int .i64 s3]), .v (.c (.d (.int .i64 t)))], [] => K (rDirE (projV ⟨⟨v1, v2⟩, ⟨v3, v4⟩, ⟨v5, v6⟩⟩ ⟨s1, s2, s3⟩ t)) []
  | _, _ => none
def T_proj_Project : Nat → List AV → List Blk → (AV → List Blk → Ans) → Ans := upd T_proj_Axes 59 s_proj_Project
theorem g_proj_Project : GOK Tryz.prog GT gbT T_proj_Project XT := by
  refine GOK.upd g_proj_Axes (fun args w => Tryz.call59 args w) fun xs bs K r h => ?_
  unfold s_proj_Project at h
  split at h
  · exact ⟨_, _, c_proj_Project _ _ _ _ _ _ _ _ _ _, h⟩
  · cases h
theorem w_Q6_Tick (t : Int) (K : AV → List Blk → Ans) : evFn Tryz.prog GT EQT T_proj_Project XT noL 60 29 [.v (.c (.d (.int .i64 t)))] [] (fun v M => K v (M.take ([] : List Blk).length)) = K (rB (tickB t)) [] := by
  simp only [tickB, pullK K]
  kernel_rfl
theorem c_Q6_Tick (t : Int) : CallsA Tryz.prog GT gbT 29 [.v (.c (.d (.int .i64 t)))] [] (rB (tickB t)) [] := by
  refine CallsA.ofOk fun hok => ?_
  have hw := w_Q6_Tick t (fun v M => some (Res.fin v M))
  refine CallsA.ofEv (Γ := T_proj_Project) (X := XT) (Λ := noL) (EQ := EQT) (n := 60) g_proj_Project hEQT hmT (fun _ _ _ _ => noL_ok _) (hw.trans ?_)
  rfl
def s_Q6_Tick : List AV → List Blk → (AV → List Blk → Ans) → Ans := fun xs bs K => match xs, bs with
  | [.v (.c (.d (.int .i64 t)))], [] => K (rB (tickB t)) []
  | _, _ => none
def T_Q6_Tick : Nat → List AV → List Blk → (AV → List Blk → Ans) → Ans := upd T_proj_Project 29 s_Q6_Tick
theorem g_Q6_Tick : GOK Tryz.prog GT gbT T_Q6_Tick XT := by
  refine GOK.upd g_proj_Project (fun args w => Tryz.call29 args w) fun xs bs K r h => ?_
  unfold s_Q6_Tick at h
  split at h
  · exact ⟨_, _, c_Q6_Tick _, h⟩
  · cases h
theorem w_Q6_Common (a1 a2 b1 b2 : Int) (K : AV → List Blk → Ans) : evFn Tryz.prog GT EQT T_Q6_Tick XT noL 60 15 [.v (.agg [.int .i64 a1, .int .i64 a2]), .v (.agg [.int .i64 b1, .int .i64 b2])] [] (fun v M => K v (M.take ([] : List Blk).length)) = K (rB (commonB ⟨a1, a2⟩ ⟨b1, b2⟩)) [] := by
  simp only [commonB, pullK K]
  kernel_rfl
theorem c_Q6_Common (a1 a2 b1 b2 : Int) : CallsA Tryz.prog GT gbT 15 [.v (.agg [.int .i64 a1, .int .i64 a2]), .v (.agg [.int .i64 b1, .int .i64 b2])] [] (rB (commonB ⟨a1, a2⟩ ⟨b1, b2⟩)) [] := by
  refine CallsA.ofOk fun hok => ?_
  have hw := w_Q6_Common a1 a2 b1 b2 (fun v M => some (Res.fin v M))
  refine CallsA.ofEv (Γ := T_Q6_Tick) (X := XT) (Λ := noL) (EQ := EQT) (n := 60) g_Q6_Tick hEQT hmT (fun _ _ _ _ => noL_ok _) (hw.trans ?_)
  rfl
def s_Q6_Common : List AV → List Blk → (AV → List Blk → Ans) → Ans := fun xs bs K => match xs, bs with
  | [.v (.agg [.int .i64 a1, .int .i64 a2]), .v (.agg [.int .i64 b1, .int .i64 b2])], [] => K (rB (commonB ⟨a1, a2⟩ ⟨b1, b2⟩)) []
  | _, _ => none
def T_Q6_Common : Nat → List AV → List Blk → (AV → List Blk → Ans) → Ans := upd T_Q6_Tick 15 s_Q6_Common
theorem g_Q6_Common : GOK Tryz.prog GT gbT T_Q6_Common XT := by
  refine GOK.upd g_Q6_Tick (fun args w => Tryz.call15 args w) fun xs bs K r h => ?_
  unfold s_Q6_Common at h
  split at h
  · exact ⟨_, _, c_Q6_Common _ _ _ _, h⟩
  · cases h
theorem w_Q6_sines (k : Int) (K : AV → List Blk → Ans) : evFn Tryz.prog GT EQT T_Q6_Common XT noL 60 157 [.v (.c (.d (.int .i64 k)))] [] (fun v M => K v (M.take ([] : List Blk).length)) = K (rSpan2 ((cosR k 720).1, (sinR k 720).1)) [] := by
  kernel_rfl
theorem c_Q6_sines (k : Int) : CallsA Tryz.prog GT gbT 157 [.v (.c (.d (.int .i64 k)))] [] (rSpan2 (cosT k, sinT k)) [] := by
  refine CallsA.ofOk fun hok => ?_
  have hw := w_Q6_sines k (fun v M => some (Res.fin v M))
  refine CallsA.ofEv (Γ := T_Q6_Common) (X := XT) (Λ := noL) (EQ := EQT) (n := 60) g_Q6_Common hEQT hmT (fun _ _ _ _ => noL_ok _) (hw.trans ?_)
  have h_k := inR_i64 (hok (.int .i64 k) (by simp [datasL, datas]))
  clear hok hw
  refine congrArg (fun v => some (Res.fin v [])) ?_
  rw [cosR720, sinR720]
def s_Q6_sines : List AV → List Blk → (AV → List Blk → Ans) → Ans := fun xs bs K => match xs, bs with
  | [.v (.c (.d (.int .i64 k)))], [] => K (rSpan2 (cosT k, sinT k)) []
  | _, _ => none
def T_Q6_sines : Nat → List AV → List Blk → (AV → List Blk → Ans) → Ans := upd T_Q6_Common 157 s_Q6_sines
theorem g_Q6_sines : GOK Tryz.prog GT gbT T_Q6_sines XT := by
  refine GOK.upd g_Q6_Common (fun args w => Tryz.call157 args w) fun xs bs K r h => ?_
  unfold s_Q6_sines at h
  split at h
  · exact ⟨_, _, c_Q6_sines _, h⟩
  · cases h
theorem w_Q6_Direction (s1 : ByteArray) (s2 : Int) (s3 : Int) (t : Int) (K : AV → List Blk → Ans) : evFn Tryz.prog GT EQT T_Q6_sines XT noL 60 145 [.v (.agg [.str s1, .int .i64 s2, .int .i64 s3]), .v (.c (.d (.int .i64 t)))] [] (fun v M => K v (M.take ([] : List Blk).length)) = K (rDir (dirR s2 s3 t)) [] := by
  kernel_rfl
theorem c_Q6_Direction (s1 : ByteArray) (s2 : Int) (s3 : Int) (t : Int) : CallsA Tryz.prog GT gbT 145 [.v (.agg [.str s1, .int .i64 s2, .int .i64 s3]), .v (.c (.d (.int .i64 t)))] [] (rDir (dirR s2 s3 t)) [] := by
  refine CallsA.ofOk fun hok => ?_
  have hw := w_Q6_Direction s1 s2 s3 t (fun v M => some (Res.fin v M))
  refine CallsA.ofEv (Γ := T_Q6_sines) (X := XT) (Λ := noL) (EQ := EQT) (n := 60) g_Q6_sines hEQT hmT (fun _ _ _ _ => noL_ok _) (hw.trans ?_)
  rfl
def s_Q6_Direction : List AV → List Blk → (AV → List Blk → Ans) → Ans := fun xs bs K => match xs, bs with
  | [.v (.agg [.str _, .int .i64 s2, .int .i64 s3]), .v (.c (.d (.int .i64 t)))], [] => K (rDir (dirR s2 s3 t)) []
  | _, _ => none
def T_Q6_Direction : Nat → List AV → List Blk → (AV → List Blk → Ans) → Ans := upd T_Q6_sines 145 s_Q6_Direction
theorem g_Q6_Direction : GOK Tryz.prog GT gbT T_Q6_Direction XT := by
  refine GOK.upd g_Q6_sines (fun args w => Tryz.call145 args w) fun xs bs K r h => ?_
  unfold s_Q6_Direction at h
  split at h
  · exact ⟨_, _, c_Q6_Direction _ _ _ _, h⟩
  · cases h
theorem w_Q6_At (s1 : ByteArray) (s2 : Int) (s3 : Int) (t : Int) (K : AV → List Blk → Ans) : evFn Tryz.prog GT EQT T_Q6_Direction XT noL 60 119 [.v (.agg [.str s1, .int .i64 s2, .int .i64 s3]), .v (.c (.d (.int .i64 t)))] [] (fun v M => K v (M.take ([] : List Blk).length)) = at6Ref K ⟨s1, s2, s3⟩ t := by
  kernel_rfl
theorem c_Q6_At (s1 : ByteArray) (s2 : Int) (s3 : Int) (t : Int) : CallsA Tryz.prog GT gbT 119 [.v (.agg [.str s1, .int .i64 s2, .int .i64 s3]), .v (.c (.d (.int .i64 t)))] [] (rDirE (atS ⟨s1, s2, s3⟩ t)) [] := by
  refine CallsA.ofOk fun hok => ?_
  have hw := w_Q6_At s1 s2 s3 t (fun v M => some (Res.fin v M))
  refine CallsA.ofEv (Γ := T_Q6_Direction) (X := XT) (Λ := noL) (EQ := EQT) (n := 60) g_Q6_Direction hEQT hmT (fun _ _ _ _ => noL_ok _) (hw.trans ?_)
  have h_s2 := inR_i64 (hok (.int .i64 s2) (by simp [datasL, datas]))
  have h_s3 := inR_i64 (hok (.int .i64 s3) (by simp [datasL, datas]))
  have h_t := inR_i64 (hok (.int .i64 t) (by simp [datasL, datas]))
  clear hok hw
  exact at6Ref_ok (K := fun v M => some (Res.fin v M))
def s_Q6_At : List AV → List Blk → (AV → List Blk → Ans) → Ans := fun xs bs K => match xs, bs with
  | [.v (.agg [.str s1, .int .i64 s2, .int .i64 s3]), .v (.c (.d (.int .i64 t)))], [] => K (rDirE (atS ⟨s1, s2, s3⟩ t)) []
  | _, _ => none
def T_Q6_At : Nat → List AV → List Blk → (AV → List Blk → Ans) → Ans := upd T_Q6_Direction 119 s_Q6_At
theorem g_Q6_At : GOK Tryz.prog GT gbT T_Q6_At XT := by
  refine GOK.upd g_Q6_Direction (fun args w => Tryz.call119 args w) fun xs bs K r h => ?_
  unfold s_Q6_At at h
  split at h
  · exact ⟨_, _, c_Q6_At _ _ _ _, h⟩
  · cases h
theorem w_Q6_Valid (d1 d2 d3 d4 d5 d6 : Int) (K : AV → List Blk → Ans) : evFn Tryz.prog GT EQT T_Q6_At XT noL 60 122 [.v (.agg [.int .i64 d1, .int .i64 d2, .int .i64 d3, .int .i64 d4, .int .i64 d5, .int .i64 d6])] [] (fun v M => K v (M.take ([] : List Blk).length)) = dirOkRef K ⟨⟨d1, d2⟩, ⟨d3, d4⟩, ⟨d5, d6⟩⟩ := by
  kernel_rfl
theorem c_Q6_Valid (d1 d2 d3 d4 d5 d6 : Int) : CallsA Tryz.prog GT gbT 122 [.v (.agg [.int .i64 d1, .int .i64 d2, .int .i64 d3, .int .i64 d4, .int .i64 d5, .int .i64 d6])] [] (rB (dirOkB ⟨⟨d1, d2⟩, ⟨d3, d4⟩, ⟨d5, d6⟩⟩)) [] := by
  refine CallsA.ofOk fun hok => ?_
  have hw := w_Q6_Valid d1 d2 d3 d4 d5 d6 (fun v M => some (Res.fin v M))
  refine CallsA.ofEv (Γ := T_Q6_At) (X := XT) (Λ := noL) (EQ := EQT) (n := 60) g_Q6_At hEQT hmT (fun _ _ _ _ => noL_ok _) (hw.trans ?_)
  have h_d1 := inR_i64 (hok (.int .i64 d1) (by simp [datasL, datas]))
  have h_d2 := inR_i64 (hok (.int .i64 d2) (by simp [datasL, datas]))
  have h_d3 := inR_i64 (hok (.int .i64 d3) (by simp [datasL, datas]))
  have h_d4 := inR_i64 (hok (.int .i64 d4) (by simp [datasL, datas]))
  have h_d5 := inR_i64 (hok (.int .i64 d5) (by simp [datasL, datas]))
  have h_d6 := inR_i64 (hok (.int .i64 d6) (by simp [datasL, datas]))
  clear hok hw
  exact dirOkRef_ok (K := fun v M => some (Res.fin v M))
def s_Q6_Valid : List AV → List Blk → (AV → List Blk → Ans) → Ans := fun xs bs K => match xs, bs with
  | [.v (.agg [.int .i64 d1, .int .i64 d2, .int .i64 d3, .int .i64 d4, .int .i64 d5, .int .i64 d6])], [] => K (rB (dirOkB ⟨⟨d1, d2⟩, ⟨d3, d4⟩, ⟨d5, d6⟩⟩)) []
  | _, _ => none
def T_Q6_Valid : Nat → List AV → List Blk → (AV → List Blk → Ans) → Ans := upd T_Q6_At 122 s_Q6_Valid
theorem g_Q6_Valid : GOK Tryz.prog GT gbT T_Q6_Valid XT := by
  refine GOK.upd g_Q6_At (fun args w => Tryz.call122 args w) fun xs bs K r h => ?_
  unfold s_Q6_Valid at h
  split at h
  · exact ⟨_, _, c_Q6_Valid _ _ _ _ _ _, h⟩
  · cases h
theorem w_Q6_Dot (a1 a2 a3 a4 a5 a6 b1 b2 b3 b4 b5 b6 : Int) (K : AV → List Blk → Ans) : evFn Tryz.prog GT EQT T_Q6_Valid XT noL 100 125 [.v (.agg [.int .i64 a1, .int .i64 a2, .int .i64 a3, .int .i64 a4, .int .i64 a5, .int .i64 a6]), .v (.agg [.int .i64 b1, .int .i64 b2, .int .i64 b3, .int .i64 b4, .int .i64 b5, .int .i64 b6])] [] (fun v M => K v (M.take ([] : List Blk).length)) = dotRef6 K ⟨⟨a1, a2⟩, ⟨a3, a4⟩, ⟨a5, a6⟩⟩ ⟨⟨b1, b2⟩, ⟨b3, b4⟩, ⟨b5, b6⟩⟩ := by
  kernel_rfl
theorem c_Q6_Dot (a1 a2 a3 a4 a5 a6 b1 b2 b3 b4 b5 b6 : Int) : CallsA Tryz.prog GT gbT 125 [.v (.agg [.int .i64 a1, .int .i64 a2, .int .i64 a3, .int .i64 a4, .int .i64 a5, .int .i64 a6]), .v (.agg [.int .i64 b1, .int .i64 b2, .int .i64 b3, .int .i64 b4, .int .i64 b5, .int .i64 b6])] [] (rSpanE (dotS ⟨⟨a1, a2⟩, ⟨a3, a4⟩, ⟨a5, a6⟩⟩ ⟨⟨b1, b2⟩, ⟨b3, b4⟩, ⟨b5, b6⟩⟩)) [] := by
  refine CallsA.ofOk fun hok => ?_
  have hw := w_Q6_Dot a1 a2 a3 a4 a5 a6 b1 b2 b3 b4 b5 b6 (fun v M => some (Res.fin v M))
  refine CallsA.ofEv (Γ := T_Q6_Valid) (X := XT) (Λ := noL) (EQ := EQT) (n := 100) g_Q6_Valid hEQT hmT (fun _ _ _ _ => noL_ok _) (hw.trans ?_)
  have h_a1 := inR_i64 (hok (.int .i64 a1) (by simp [datasL, datas]))
  have h_a2 := inR_i64 (hok (.int .i64 a2) (by simp [datasL, datas]))
  have h_a3 := inR_i64 (hok (.int .i64 a3) (by simp [datasL, datas]))
  have h_a4 := inR_i64 (hok (.int .i64 a4) (by simp [datasL, datas]))
  have h_a5 := inR_i64 (hok (.int .i64 a5) (by simp [datasL, datas]))
  have h_a6 := inR_i64 (hok (.int .i64 a6) (by simp [datasL, datas]))
  have h_b1 := inR_i64 (hok (.int .i64 b1) (by simp [datasL, datas]))
  have h_b2 := inR_i64 (hok (.int .i64 b2) (by simp [datasL, datas]))
  have h_b3 := inR_i64 (hok (.int .i64 b3) (by simp [datasL, datas]))
  have h_b4 := inR_i64 (hok (.int .i64 b4) (by simp [datasL, datas]))
  have h_b5 := inR_i64 (hok (.int .i64 b5) (by simp [datasL, datas]))
  have h_b6 := inR_i64 (hok (.int .i64 b6) (by simp [datasL, datas]))
  clear hok hw
  exact dotRef6_ok (K := fun v M => some (Res.fin v M))
def s_Q6_Dot : List AV → List Blk → (AV → List Blk → Ans) → Ans := fun xs bs K => match xs, bs with
  | [.v (.agg [.int .i64 a1, .int .i64 a2, .int .i64 a3, .int .i64 a4, .int .i64 a5, .int .i64 a6]), .v (.agg [.int .i64 b1, .int .i64 b2, .int .i64 b3, .int .i64 b4, .int .i64 b5, .int .i64 b6])], [] => K (rSpanE (dotS ⟨⟨a1, a2⟩, ⟨a3, a4⟩, ⟨a5, a6⟩⟩ ⟨⟨b1, b2⟩, ⟨b3, b4⟩, ⟨b5, b6⟩⟩)) []
  | _, _ => none
def T_Q6_Dot : Nat → List AV → List Blk → (AV → List Blk → Ans) → Ans := upd T_Q6_Valid 125 s_Q6_Dot
theorem g_Q6_Dot : GOK Tryz.prog GT gbT T_Q6_Dot XT := by
  refine GOK.upd g_Q6_Valid (fun args w => Tryz.call125 args w) fun xs bs K r h => ?_
  unfold s_Q6_Dot at h
  split at h
  · exact ⟨_, _, c_Q6_Dot _ _ _ _ _ _ _ _ _ _ _ _, h⟩
  · cases h
theorem w_Q6_Enclosed (v1 v2 v3 v4 v5 v6 : Int) (K : AV → List Blk → Ans) : evFn Tryz.prog GT EQT T_Q6_Dot XT noL 60 124 [.v (.agg [.int .i64 v1, .int .i64 v2, .int .i64 v3, .int .i64 v4, .int .i64 v5, .int .i64 v6])] [] (fun v M => K v (M.take ([] : List Blk).length)) = encAns K (ofS ⟨v1, v2⟩) (ofS ⟨v3, v4⟩) (ofS ⟨v5, v6⟩) := by
  kernel_rfl
theorem c_Q6_Enclosed (v1 v2 v3 v4 v5 v6 : Int) : CallsA Tryz.prog GT gbT 124 [.v (.agg [.int .i64 v1, .int .i64 v2, .int .i64 v3, .int .i64 v4, .int .i64 v5, .int .i64 v6])] [] (rDirE (enclosedR ⟨⟨v1, v2⟩, ⟨v3, v4⟩, ⟨v5, v6⟩⟩)) [] := by
  refine CallsA.ofOk fun hok => ?_
  have hw := w_Q6_Enclosed v1 v2 v3 v4 v5 v6 (fun v M => some (Res.fin v M))
  refine CallsA.ofEv (Γ := T_Q6_Dot) (X := XT) (Λ := noL) (EQ := EQT) (n := 60) g_Q6_Dot hEQT hmT (fun _ _ _ _ => noL_ok _) (hw.trans ?_)
  have h_v1 := inR_i64 (hok (.int .i64 v1) (by simp [datasL, datas]))
  have h_v2 := inR_i64 (hok (.int .i64 v2) (by simp [datasL, datas]))
  have h_v3 := inR_i64 (hok (.int .i64 v3) (by simp [datasL, datas]))
  have h_v4 := inR_i64 (hok (.int .i64 v4) (by simp [datasL, datas]))
  have h_v5 := inR_i64 (hok (.int .i64 v5) (by simp [datasL, datas]))
  have h_v6 := inR_i64 (hok (.int .i64 v6) (by simp [datasL, datas]))
  clear hok hw
  exact encAns_ok (K := fun v M => some (Res.fin v M))
def s_Q6_Enclosed : List AV → List Blk → (AV → List Blk → Ans) → Ans := fun xs bs K => match xs, bs with
  | [.v (.agg [.int .i64 v1, .int .i64 v2, .int .i64 v3, .int .i64 v4, .int .i64 v5, .int .i64 v6])], [] => K (rDirE (enclosedR ⟨⟨v1, v2⟩, ⟨v3, v4⟩, ⟨v5, v6⟩⟩)) []
  | _, _ => none
def T_Q6_Enclosed : Nat → List AV → List Blk → (AV → List Blk → Ans) → Ans := upd T_Q6_Dot 124 s_Q6_Enclosed
theorem g_Q6_Enclosed : GOK Tryz.prog GT gbT T_Q6_Enclosed XT := by
  refine GOK.upd g_Q6_Dot (fun args w => Tryz.call124 args w) fun xs bs K r h => ?_
  unfold s_Q6_Enclosed at h
  split at h
  · exact ⟨_, _, c_Q6_Enclosed _ _ _ _ _ _, h⟩
  · cases h
theorem w_Q6_Along (d1 d2 d3 d4 d5 d6 v1 v2 v3 v4 v5 v6 : Int) (K : AV → List Blk → Ans) : evFn Tryz.prog GT EQT T_Q6_Enclosed XT noL 60 97 [.v (.agg [.int .i64 d1, .int .i64 d2, .int .i64 d3, .int .i64 d4, .int .i64 d5, .int .i64 d6]), .v (.agg [.int .i64 v1, .int .i64 v2, .int .i64 v3, .int .i64 v4, .int .i64 v5, .int .i64 v6])] [] (fun v M => K v (M.take ([] : List Blk).length)) = alongRef K ⟨⟨d1, d2⟩, ⟨d3, d4⟩, ⟨d5, d6⟩⟩ ⟨⟨v1, v2⟩, ⟨v3, v4⟩, ⟨v5, v6⟩⟩ := by
  kernel_rfl
theorem c_Q6_Along (d1 d2 d3 d4 d5 d6 v1 v2 v3 v4 v5 v6 : Int) : CallsA Tryz.prog GT gbT 97 [.v (.agg [.int .i64 d1, .int .i64 d2, .int .i64 d3, .int .i64 d4, .int .i64 d5, .int .i64 d6]), .v (.agg [.int .i64 v1, .int .i64 v2, .int .i64 v3, .int .i64 v4, .int .i64 v5, .int .i64 v6])] [] (rSpanE (alongS ⟨⟨d1, d2⟩, ⟨d3, d4⟩, ⟨d5, d6⟩⟩ ⟨⟨v1, v2⟩, ⟨v3, v4⟩, ⟨v5, v6⟩⟩)) [] := by
  refine CallsA.ofOk fun hok => ?_
  have hw := w_Q6_Along d1 d2 d3 d4 d5 d6 v1 v2 v3 v4 v5 v6 (fun v M => some (Res.fin v M))
  refine CallsA.ofEv (Γ := T_Q6_Enclosed) (X := XT) (Λ := noL) (EQ := EQT) (n := 60) g_Q6_Enclosed hEQT hmT (fun _ _ _ _ => noL_ok _) (hw.trans ?_)
  have h_d1 := inR_i64 (hok (.int .i64 d1) (by simp [datasL, datas]))
  have h_d2 := inR_i64 (hok (.int .i64 d2) (by simp [datasL, datas]))
  have h_d3 := inR_i64 (hok (.int .i64 d3) (by simp [datasL, datas]))
  have h_d4 := inR_i64 (hok (.int .i64 d4) (by simp [datasL, datas]))
  have h_d5 := inR_i64 (hok (.int .i64 d5) (by simp [datasL, datas]))
  have h_d6 := inR_i64 (hok (.int .i64 d6) (by simp [datasL, datas]))
  have h_v1 := inR_i64 (hok (.int .i64 v1) (by simp [datasL, datas]))
  have h_v2 := inR_i64 (hok (.int .i64 v2) (by simp [datasL, datas]))
  have h_v3 := inR_i64 (hok (.int .i64 v3) (by simp [datasL, datas]))
  have h_v4 := inR_i64 (hok (.int .i64 v4) (by simp [datasL, datas]))
  have h_v5 := inR_i64 (hok (.int .i64 v5) (by simp [datasL, datas]))
  have h_v6 := inR_i64 (hok (.int .i64 v6) (by simp [datasL, datas]))
  clear hok hw
  exact alongRef_ok (K := fun v M => some (Res.fin v M))
def s_Q6_Along : List AV → List Blk → (AV → List Blk → Ans) → Ans := fun xs bs K => match xs, bs with
  | [.v (.agg [.int .i64 d1, .int .i64 d2, .int .i64 d3, .int .i64 d4, .int .i64 d5, .int .i64 d6]), .v (.agg [.int .i64 v1, .int .i64 v2, .int .i64 v3, .int .i64 v4, .int .i64 v5, .int .i64 v6])], [] => K (rSpanE (alongS ⟨⟨d1, d2⟩, ⟨d3, d4⟩, ⟨d5, d6⟩⟩ ⟨⟨v1, v2⟩, ⟨v3, v4⟩, ⟨v5, v6⟩⟩)) []
  | _, _ => none
def T_Q6_Along : Nat → List AV → List Blk → (AV → List Blk → Ans) → Ans := upd T_Q6_Enclosed 97 s_Q6_Along
theorem g_Q6_Along : GOK Tryz.prog GT gbT T_Q6_Along XT := by
  refine GOK.upd g_Q6_Enclosed (fun args w => Tryz.call97 args w) fun xs bs K r h => ?_
  unfold s_Q6_Along at h
  split at h
  · exact ⟨_, _, c_Q6_Along _ _ _ _ _ _ _ _ _ _ _ _, h⟩
  · cases h
theorem w_Q8_Axes (s1 : ByteArray) (s2 : Int) (s3 : Int) (t : Int) (K : AV → List Blk → Ans) : evFn Tryz.prog GT EQT T_Q6_Along XT noL 100 96 [.v (.agg [.str s1, .int .i64 s2, .int .i64 s3]), .v (.c (.d (.int .i64 t)))] [] (fun v M => K v (M.take ([] : List Blk).length)) = axesRef K ⟨s1, s2, s3⟩ t := by
  kernel_rfl
theorem c_Q8_Axes (s1 : ByteArray) (s2 : Int) (s3 : Int) (t : Int) : CallsA Tryz.prog GT gbT 96 [.v (.agg [.str s1, .int .i64 s2, .int .i64 s3]), .v (.c (.d (.int .i64 t)))] [] (rFrameE (axesV ⟨s1, s2, s3⟩ t)) [] := by
  refine CallsA.ofOk fun hok => ?_
  have hw := w_Q8_Axes s1 s2 s3 t (fun v M => some (Res.fin v M))
  refine CallsA.ofEv (Γ := T_Q6_Along) (X := XT) (Λ := noL) (EQ := EQT) (n := 100) g_Q6_Along hEQT hmT (fun _ _ _ _ => noL_ok _) (hw.trans ?_)
  have h_s2 := inR_i64 (hok (.int .i64 s2) (by simp [datasL, datas]))
  have h_s3 := inR_i64 (hok (.int .i64 s3) (by simp [datasL, datas]))
  have h_t := inR_i64 (hok (.int .i64 t) (by simp [datasL, datas]))
  clear hok hw
  exact axesRef_ok (K := fun v M => some (Res.fin v M))
def s_Q8_Axes : List AV → List Blk → (AV → List Blk → Ans) → Ans := fun xs bs K => match xs, bs with
  | [.v (.agg [.str s1, .int .i64 s2, .int .i64 s3]), .v (.c (.d (.int .i64 t)))], [] => K (rFrameE (axesV ⟨s1, s2, s3⟩ t)) []
  | _, _ => none
def T_Q8_Axes : Nat → List AV → List Blk → (AV → List Blk → Ans) → Ans := upd T_Q6_Along 96 s_Q8_Axes
theorem g_Q8_Axes : GOK Tryz.prog GT gbT T_Q8_Axes XT := by
  refine GOK.upd g_Q6_Along (fun args w => Tryz.call96 args w) fun xs bs K r h => ?_
  unfold s_Q8_Axes at h
  split at h
  · exact ⟨_, _, c_Q8_Axes _ _ _ _, h⟩
  · cases h
theorem w_Q8_Project (v1 : Int) (v2 : Int) (v3 : Int) (v4 : Int) (v5 : Int) (v6 : Int) (s1 : ByteArray) (s2 : Int) (s3 : Int) (t : Int) (K : AV → List Blk → Ans) : evFn Tryz.prog GT EQT T_Q8_Axes XT noL 100 75 [.v (.agg [.int .i64 v1, .int .i64 v2, .int .i64 v3, .int .i64 v4, .int .i64 v5, .int .i64 v6]), .v (.agg [.str s1, .int .i64 s2, .int .i64 s3]), .v (.c (.d (.int .i64 t)))] [] (fun v M => K v (M.take ([] : List Blk).length)) = projRef K ⟨⟨v1, v2⟩, ⟨v3, v4⟩, ⟨v5, v6⟩⟩ ⟨s1, s2, s3⟩ t := by
  kernel_rfl
theorem c_Q8_Project (v1 : Int) (v2 : Int) (v3 : Int) (v4 : Int) (v5 : Int) (v6 : Int) (s1 : ByteArray) (s2 : Int) (s3 : Int) (t : Int) : CallsA Tryz.prog GT gbT 75 [.v (.agg [.int .i64 v1, .int .i64 v2, .int .i64 v3, .int .i64 v4, .int .i64 v5, .int .i64 v6]), .v (.agg [.str s1, .int .i64 s2, .int .i64 s3]), .v (.c (.d (.int .i64 t)))] [] (rDirE (projV ⟨⟨v1, v2⟩, ⟨v3, v4⟩, ⟨v5, v6⟩⟩ ⟨s1, s2, s3⟩ t)) [] := by
  refine CallsA.ofOk fun hok => ?_
  have hw := w_Q8_Project v1 v2 v3 v4 v5 v6 s1 s2 s3 t (fun v M => some (Res.fin v M))
  refine CallsA.ofEv (Γ := T_Q8_Axes) (X := XT) (Λ := noL) (EQ := EQT) (n := 100) g_Q8_Axes hEQT hmT (fun _ _ _ _ => noL_ok _) (hw.trans ?_)
  have h_v1 := inR_i64 (hok (.int .i64 v1) (by simp [datasL, datas]))
  have h_v2 := inR_i64 (hok (.int .i64 v2) (by simp [datasL, datas]))
  have h_v3 := inR_i64 (hok (.int .i64 v3) (by simp [datasL, datas]))
  have h_v4 := inR_i64 (hok (.int .i64 v4) (by simp [datasL, datas]))
  have h_v5 := inR_i64 (hok (.int .i64 v5) (by simp [datasL, datas]))
  have h_v6 := inR_i64 (hok (.int .i64 v6) (by simp [datasL, datas]))
  have h_s2 := inR_i64 (hok (.int .i64 s2) (by simp [datasL, datas]))
  have h_s3 := inR_i64 (hok (.int .i64 s3) (by simp [datasL, datas]))
  have h_t := inR_i64 (hok (.int .i64 t) (by simp [datasL, datas]))
  clear hok hw
  exact projRef_ok (K := fun v M => some (Res.fin v M))
def s_Q8_Project : List AV → List Blk → (AV → List Blk → Ans) → Ans := fun xs bs K => match xs, bs with
  | [.v (.agg [.int .i64 v1, .int .i64 v2, .int .i64 v3, .int .i64 v4, .int .i64 v5, .int .i64 v6]), .v (.agg [.str s1, .int .i64 s2, .int .i64 s3]), .v (.c (.d (.int .i64 t)))], [] => K (rDirE (projV ⟨⟨v1, v2⟩, ⟨v3, v4⟩, ⟨v5, v6⟩⟩ ⟨s1, s2, s3⟩ t)) []
  | _, _ => none
def T_Q8_Project : Nat → List AV → List Blk → (AV → List Blk → Ans) → Ans := upd T_Q8_Axes 75 s_Q8_Project
theorem g_Q8_Project : GOK Tryz.prog GT gbT T_Q8_Project XT := by
  refine GOK.upd g_Q8_Axes (fun args w => Tryz.call75 args w) fun xs bs K r h => ?_
  unfold s_Q8_Project at h
  split at h
  · exact ⟨_, _, c_Q8_Project _ _ _ _ _ _ _ _ _ _, h⟩
  · cases h
theorem w_Q1_Of (n : Int) (K : AV → List Blk → Ans) : evFn Tryz.prog GT EQT T_Q8_Project XT noL 60 40 [.v (.c (.d (.int .i64 n)))] [] (fun v M => K v (M.take ([] : List Blk).length)) = K (rFrac ⟨n, 1⟩) [] := by
  kernel_rfl
theorem c_Q1_Of (n : Int) : CallsA Tryz.prog GT gbT 40 [.v (.c (.d (.int .i64 n)))] [] (rFrac ⟨n, 1⟩) [] := by
  refine CallsA.ofOk fun hok => ?_
  have hw := w_Q1_Of n (fun v M => some (Res.fin v M))
  refine CallsA.ofEv (Γ := T_Q8_Project) (X := XT) (Λ := noL) (EQ := EQT) (n := 60) g_Q8_Project hEQT hmT (fun _ _ _ _ => noL_ok _) (hw.trans ?_)
  rfl
def s_Q1_Of : List AV → List Blk → (AV → List Blk → Ans) → Ans := fun xs bs K => match xs, bs with
  | [.v (.c (.d (.int .i64 n)))], [] => K (rFrac ⟨n, 1⟩) []
  | _, _ => none
def T_Q1_Of : Nat → List AV → List Blk → (AV → List Blk → Ans) → Ans := upd T_Q8_Project 40 s_Q1_Of
theorem g_Q1_Of : GOK Tryz.prog GT gbT T_Q1_Of XT := by
  refine GOK.upd g_Q8_Project (fun args w => Tryz.call40 args w) fun xs bs K r h => ?_
  unfold s_Q1_Of at h
  split at h
  · exact ⟨_, _, c_Q1_Of _, h⟩
  · cases h
theorem w_Q2_Pair (t1 t2 : Int) (K : AV → List Blk → Ans) : evFn Tryz.prog GT EQT T_Q1_Of XT noL 100 155 [.v (.agg [.int .i64 t1, .int .i64 t2])] [] (fun v M => K v (M.take ([] : List Blk).length)) = K (rPair (pairR ⟨t1, t2⟩)) [] := by
  simp only [pairR, pullK K]
  kernel_rfl
theorem c_Q2_Pair (t1 t2 : Int) : CallsA Tryz.prog GT gbT 155 [.v (.agg [.int .i64 t1, .int .i64 t2])] [] (rPair (pairR ⟨t1, t2⟩)) [] := by
  refine CallsA.ofOk fun hok => ?_
  have hw := w_Q2_Pair t1 t2 (fun v M => some (Res.fin v M))
  refine CallsA.ofEv (Γ := T_Q1_Of) (X := XT) (Λ := noL) (EQ := EQT) (n := 100) g_Q1_Of hEQT hmT (fun _ _ _ _ => noL_ok _) (hw.trans ?_)
  rfl
def s_Q2_Pair : List AV → List Blk → (AV → List Blk → Ans) → Ans := fun xs bs K => match xs, bs with
  | [.v (.agg [.int .i64 t1, .int .i64 t2])], [] => K (rPair (pairR ⟨t1, t2⟩)) []
  | _, _ => none
def T_Q2_Pair : Nat → List AV → List Blk → (AV → List Blk → Ans) → Ans := upd T_Q1_Of 155 s_Q2_Pair
theorem g_Q2_Pair : GOK Tryz.prog GT gbT T_Q2_Pair XT := by
  refine GOK.upd g_Q1_Of (fun args w => Tryz.call155 args w) fun xs bs K r h => ?_
  unfold s_Q2_Pair at h
  split at h
  · exact ⟨_, _, c_Q2_Pair _ _, h⟩
  · cases h
end Go.Ev

namespace Go.Ev
open Go Go.Proofs
theorem w_frac_Make (n d : Int) (K : AV → List Blk → Ans) : evFn Tryz.prog GT EQT T_Q2_Pair XT noL 60 147 [.v (.c (.d (.int .i64 n))), .v (.c (.d (.int .i64 d)))] [] (fun v M => K v (M.take ([] : List Blk).length)) = makePAns K n d := by
  kernel_rfl
theorem c_frac_Make (n d : Int) : CallsA Tryz.prog GT gbT 147 [.v (.c (.d (.int .i64 n))), .v (.c (.d (.int .i64 d)))] [] (rFracE (makeF n d)) [] := by
  refine CallsA.ofOk fun hok => ?_
  have hw := w_frac_Make n d (fun v M => some (Res.fin v M))
  refine CallsA.ofEv (Γ := T_Q2_Pair) (X := XT) (Λ := noL) (EQ := EQT) (n := 60) g_Q2_Pair hEQT hmT (fun _ _ _ _ => noL_ok _) (hw.trans ?_)
  have h_n := inR_i64 (hok (.int .i64 n) (by simp [datasL, datas]))
  have h_d := inR_i64 (hok (.int .i64 d) (by simp [datasL, datas]))
  clear hok hw
  exact makePAns_ok (K := fun v M => some (Res.fin v M)) h_n h_d
def s_frac_Make : List AV → List Blk → (AV → List Blk → Ans) → Ans := fun xs bs K => match xs, bs with
  | [.v (.c (.d (.int .i64 n))), .v (.c (.d (.int .i64 d)))], [] => K (rFracE (makeF n d)) []
  | _, _ => none
def T_frac_Make : Nat → List AV → List Blk → (AV → List Blk → Ans) → Ans := upd T_Q2_Pair 147 s_frac_Make
theorem g_frac_Make : GOK Tryz.prog GT gbT T_frac_Make XT := by
  refine GOK.upd g_Q2_Pair (fun args w => Tryz.call147 args w) fun xs bs K r h => ?_
  unfold s_frac_Make at h
  split at h
  · exact ⟨_, _, c_frac_Make _ _, h⟩
  · cases h
theorem w_frac_compare (a b c d : Int) (K : AV → List Blk → Ans) : evFn Tryz.prog GT EQT T_frac_Make XT noL 60 115 [.v (.c (.d (.int .u64 a))), .v (.c (.d (.int .u64 b))), .v (.c (.d (.int .u64 c))), .v (.c (.d (.int .u64 d)))] [] (fun v M => K v (M.take ([] : List Blk).length)) = K (rI (compareRaw a b c d)) [] := by
  kernel_rfl
theorem c_frac_compare (a b c d : Int) : CallsA Tryz.prog GT gbT 115 [.v (.c (.d (.int .u64 a))), .v (.c (.d (.int .u64 b))), .v (.c (.d (.int .u64 c))), .v (.c (.d (.int .u64 d)))] [] (rI (compareI a b c d)) [] := by
  refine CallsA.ofOk fun hok => ?_
  have hw := w_frac_compare a b c d (fun v M => some (Res.fin v M))
  refine CallsA.ofEv (Γ := T_frac_Make) (X := XT) (Λ := noL) (EQ := EQT) (n := 60) g_frac_Make hEQT hmT (fun _ _ _ _ => noL_ok _) (hw.trans ?_)
  have h_a := inR_u64 (hok (.int .u64 a) (by simp [datasL, datas]))
  have h_b := inR_u64 (hok (.int .u64 b) (by simp [datasL, datas]))
  have h_c := inR_u64 (hok (.int .u64 c) (by simp [datasL, datas]))
  have h_d := inR_u64 (hok (.int .u64 d) (by simp [datasL, datas]))
  clear hok hw
  refine congrArg (fun v => some (Res.fin v [])) ?_
  rw [compareRaw_ok]
def s_frac_compare : List AV → List Blk → (AV → List Blk → Ans) → Ans := fun xs bs K => match xs, bs with
  | [.v (.c (.d (.int .u64 a))), .v (.c (.d (.int .u64 b))), .v (.c (.d (.int .u64 c))), .v (.c (.d (.int .u64 d)))], [] => K (rI (compareI a b c d)) []
  | _, _ => none
def T_frac_compare : Nat → List AV → List Blk → (AV → List Blk → Ans) → Ans := upd T_frac_Make 115 s_frac_compare
theorem g_frac_compare : GOK Tryz.prog GT gbT T_frac_compare XT := by
  refine GOK.upd g_frac_Make (fun args w => Tryz.call115 args w) fun xs bs K r h => ?_
  unfold s_frac_compare at h
  split at h
  · exact ⟨_, _, c_frac_compare _ _ _ _, h⟩
  · cases h
theorem w_frac_order (a1 a2 b1 b2 : Int) (K : AV → List Blk → Ans) : evFn Tryz.prog GT EQT T_frac_compare XT noL 60 88 [.v (.agg [.int .i64 a1, .int .i64 a2]), .v (.agg [.int .i64 b1, .int .i64 b2])] [] (fun v M => K v (M.take ([] : List Blk).length)) = orderAns K ⟨a1, a2⟩ ⟨b1, b2⟩ := by
  kernel_rfl
theorem c_frac_order (a1 a2 b1 b2 : Int) (hd : (fracOkB ⟨a1, a2⟩ && fracOkB ⟨b1, b2⟩) = true) : CallsA Tryz.prog GT gbT 88 [.v (.agg [.int .i64 a1, .int .i64 a2]), .v (.agg [.int .i64 b1, .int .i64 b2])] [] (rI (orderI ⟨a1, a2⟩ ⟨b1, b2⟩)) [] := by
  refine CallsA.ofOk fun hok => ?_
  have hw := w_frac_order a1 a2 b1 b2 (fun v M => some (Res.fin v M))
  refine CallsA.ofEv (Γ := T_frac_compare) (X := XT) (Λ := noL) (EQ := EQT) (n := 60) g_frac_compare hEQT hmT (fun _ _ _ _ => noL_ok _) (hw.trans ?_)
  have h_a1 := inR_i64 (hok (.int .i64 a1) (by simp [datasL, datas]))
  have h_a2 := inR_i64 (hok (.int .i64 a2) (by simp [datasL, datas]))
  have h_b1 := inR_i64 (hok (.int .i64 b1) (by simp [datasL, datas]))
  have h_b2 := inR_i64 (hok (.int .i64 b2) (by simp [datasL, datas]))
  clear hok hw
  simp only [Bool.and_eq_true] at hd
  exact orderAns_ok (K := fun v M => some (Res.fin v M)) (fracOkB_iff.1 hd.1) (fracOkB_iff.1 hd.2)
def s_frac_order : List AV → List Blk → (AV → List Blk → Ans) → Ans := fun xs bs K => match xs, bs with
  | [.v (.agg [.int .i64 a1, .int .i64 a2]), .v (.agg [.int .i64 b1, .int .i64 b2])], [] => bif fracOkB ⟨a1, a2⟩ && fracOkB ⟨b1, b2⟩ then K (rI (orderI ⟨a1, a2⟩ ⟨b1, b2⟩)) [] else none
  | _, _ => none
def T_frac_order : Nat → List AV → List Blk → (AV → List Blk → Ans) → Ans := upd T_frac_compare 88 s_frac_order
theorem g_frac_order : GOK Tryz.prog GT gbT T_frac_order XT := by
  refine GOK.upd g_frac_compare (fun args w => Tryz.call88 args w) fun xs bs K r h => ?_
  unfold s_frac_order at h
  split at h
  · simp only [cond_eq_ite] at h
    split at h
    · exact ⟨_, _, c_frac_order _ _ _ _ ‹_›, h⟩
    · cases h
  · cases h
theorem w_frac_Cmp (a1 a2 b1 b2 : Int) (K : AV → List Blk → Ans) : evFn Tryz.prog GT EQT T_frac_order XT noL 60 69 [.v (.agg [.int .i64 a1, .int .i64 a2]), .v (.agg [.int .i64 b1, .int .i64 b2])] [] (fun v M => K v (M.take ([] : List Blk).length)) = cmpAns K ⟨a1, a2⟩ ⟨b1, b2⟩ := by
  kernel_rfl
theorem c_frac_Cmp (a1 a2 b1 b2 : Int) : CallsA Tryz.prog GT gbT 69 [.v (.agg [.int .i64 a1, .int .i64 a2]), .v (.agg [.int .i64 b1, .int .i64 b2])] [] (rIntE (cmpF ⟨a1, a2⟩ ⟨b1, b2⟩)) [] := by
  refine CallsA.ofOk fun hok => ?_
  have hw := w_frac_Cmp a1 a2 b1 b2 (fun v M => some (Res.fin v M))
  refine CallsA.ofEv (Γ := T_frac_order) (X := XT) (Λ := noL) (EQ := EQT) (n := 60) g_frac_order hEQT hmT (fun _ _ _ _ => noL_ok _) (hw.trans ?_)
  have h_a1 := inR_i64 (hok (.int .i64 a1) (by simp [datasL, datas]))
  have h_a2 := inR_i64 (hok (.int .i64 a2) (by simp [datasL, datas]))
  have h_b1 := inR_i64 (hok (.int .i64 b1) (by simp [datasL, datas]))
  have h_b2 := inR_i64 (hok (.int .i64 b2) (by simp [datasL, datas]))
  clear hok hw
  exact cmpAns_ok (K := fun v M => some (Res.fin v M))
def s_frac_Cmp : List AV → List Blk → (AV → List Blk → Ans) → Ans := fun xs bs K => match xs, bs with
  | [.v (.agg [.int .i64 a1, .int .i64 a2]), .v (.agg [.int .i64 b1, .int .i64 b2])], [] => K (rIntE (cmpF ⟨a1, a2⟩ ⟨b1, b2⟩)) []
  | _, _ => none
def T_frac_Cmp : Nat → List AV → List Blk → (AV → List Blk → Ans) → Ans := upd T_frac_order 69 s_frac_Cmp
theorem g_frac_Cmp : GOK Tryz.prog GT gbT T_frac_Cmp XT := by
  refine GOK.upd g_frac_order (fun args w => Tryz.call69 args w) fun xs bs K r h => ?_
  unfold s_frac_Cmp at h
  split at h
  · exact ⟨_, _, c_frac_Cmp _ _ _ _, h⟩
  · cases h
theorem w_geoid_Check (g1 g2 : Int) (K : AV → List Blk → Ans) : evFn Tryz.prog GT EQT T_frac_Cmp XT noL 60 98 [.v (.agg [.int .i64 g1, .int .i64 g2])] [] (fun v M => K v (M.take ([] : List Blk).length)) = K (rI (checkGRaw ⟨g1, g2⟩)) [] := by
  simp only [checkGRaw, pullK K]
  kernel_rfl
theorem c_geoid_Check (g1 g2 : Int) : CallsA Tryz.prog GT gbT 98 [.v (.agg [.int .i64 g1, .int .i64 g2])] [] (rI (checkG ⟨g1, g2⟩)) [] := by
  refine CallsA.ofOk fun hok => ?_
  have hw := w_geoid_Check g1 g2 (fun v M => some (Res.fin v M))
  refine CallsA.ofEv (Γ := T_frac_Cmp) (X := XT) (Λ := noL) (EQ := EQT) (n := 60) g_frac_Cmp hEQT hmT (fun _ _ _ _ => noL_ok _) (hw.trans ?_)
  have h_g1 := inR_i64 (hok (.int .i64 g1) (by simp [datasL, datas]))
  have h_g2 := inR_i64 (hok (.int .i64 g2) (by simp [datasL, datas]))
  clear hok hw
  refine congrArg (fun v => some (Res.fin v [])) ?_
  rw [checkGRaw_ok]
def s_geoid_Check : List AV → List Blk → (AV → List Blk → Ans) → Ans := fun xs bs K => match xs, bs with
  | [.v (.agg [.int .i64 g1, .int .i64 g2])], [] => K (rI (checkG ⟨g1, g2⟩)) []
  | _, _ => none
def T_geoid_Check : Nat → List AV → List Blk → (AV → List Blk → Ans) → Ans := upd T_frac_Cmp 98 s_geoid_Check
theorem g_geoid_Check : GOK Tryz.prog GT gbT T_geoid_Check XT := by
  refine GOK.upd g_frac_Cmp (fun args w => Tryz.call98 args w) fun xs bs K r h => ?_
  unfold s_geoid_Check at h
  split at h
  · exact ⟨_, _, c_geoid_Check _ _, h⟩
  · cases h
theorem w_geoid_param (f1 f2 : Int) (K : AV → List Blk → Ans) : evFn Tryz.prog GT EQT T_geoid_Check XT noL 60 127 [.v (.agg [.int .i64 f1, .int .i64 f2])] [] (fun v M => K v (M.take ([] : List Blk).length)) = paramAns K ⟨f1, f2⟩ := by
  kernel_rfl
theorem c_geoid_param (f1 f2 : Int) : CallsA Tryz.prog GT gbT 127 [.v (.agg [.int .i64 f1, .int .i64 f2])] [] (rB (paramB ⟨f1, f2⟩)) [] := by
  refine CallsA.ofOk fun hok => ?_
  have hw := w_geoid_param f1 f2 (fun v M => some (Res.fin v M))
  refine CallsA.ofEv (Γ := T_geoid_Check) (X := XT) (Λ := noL) (EQ := EQT) (n := 60) g_geoid_Check hEQT hmT (fun _ _ _ _ => noL_ok _) (hw.trans ?_)
  have h_f1 := inR_i64 (hok (.int .i64 f1) (by simp [datasL, datas]))
  have h_f2 := inR_i64 (hok (.int .i64 f2) (by simp [datasL, datas]))
  clear hok hw
  exact paramAns_ok (K := fun v M => some (Res.fin v M))
def s_geoid_param : List AV → List Blk → (AV → List Blk → Ans) → Ans := fun xs bs K => match xs, bs with
  | [.v (.agg [.int .i64 f1, .int .i64 f2])], [] => K (rB (paramB ⟨f1, f2⟩)) []
  | _, _ => none
def T_geoid_param : Nat → List AV → List Blk → (AV → List Blk → Ans) → Ans := upd T_geoid_Check 127 s_geoid_param
theorem g_geoid_param : GOK Tryz.prog GT gbT T_geoid_param XT := by
  refine GOK.upd g_geoid_Check (fun args w => Tryz.call127 args w) fun xs bs K r h => ?_
  unfold s_geoid_param at h
  split at h
  · exact ⟨_, _, c_geoid_param _ _, h⟩
  · cases h
theorem w_geoid_whole (n : Int) (K : AV → List Blk → Ans) : evFn Tryz.prog GT EQT T_geoid_param XT noL 60 130 [.v (.c (.d (.int .i64 n)))] [] (fun v M => K v (M.take ([] : List Blk).length)) = K (rFrac (wholeF n)) [] := by
  kernel_rfl
theorem c_geoid_whole (n : Int) : CallsA Tryz.prog GT gbT 130 [.v (.c (.d (.int .i64 n)))] [] (rFrac (wholeF n)) [] := by
  refine CallsA.ofOk fun hok => ?_
  have hw := w_geoid_whole n (fun v M => some (Res.fin v M))
  refine CallsA.ofEv (Γ := T_geoid_param) (X := XT) (Λ := noL) (EQ := EQT) (n := 60) g_geoid_param hEQT hmT (fun _ _ _ _ => noL_ok _) (hw.trans ?_)
  rfl
def s_geoid_whole : List AV → List Blk → (AV → List Blk → Ans) → Ans := fun xs bs K => match xs, bs with
  | [.v (.c (.d (.int .i64 n)))], [] => K (rFrac (wholeF n)) []
  | _, _ => none
def T_geoid_whole : Nat → List AV → List Blk → (AV → List Blk → Ans) → Ans := upd T_geoid_param 130 s_geoid_whole
theorem g_geoid_whole : GOK Tryz.prog GT gbT T_geoid_whole XT := by
  refine GOK.upd g_geoid_param (fun args w => Tryz.call130 args w) fun xs bs K r h => ?_
  unfold s_geoid_whole at h
  split at h
  · exact ⟨_, _, c_geoid_whole _, h⟩
  · cases h
theorem w_geoid_around (u1 u2 : Int) (K : AV → List Blk → Ans) : evFn Tryz.prog GT EQT T_geoid_whole XT noL 60 128 [.v (.agg [.int .i64 u1, .int .i64 u2])] [] (fun v M => K v (M.take ([] : List Blk).length)) = aroundRaw K ⟨u1, u2⟩ := by
  kernel_rfl
theorem c_geoid_around (u1 u2 : Int) (hd : (paramB ⟨u1, u2⟩) = true) : CallsA Tryz.prog GT gbT 128 [.v (.agg [.int .i64 u1, .int .i64 u2])] [] (rFF (cosU ⟨u1, u2⟩) (sinU ⟨u1, u2⟩)) [] := by
  refine CallsA.ofOk fun hok => ?_
  have hw := w_geoid_around u1 u2 (fun v M => some (Res.fin v M))
  refine CallsA.ofEv (Γ := T_geoid_whole) (X := XT) (Λ := noL) (EQ := EQT) (n := 60) g_geoid_whole hEQT hmT (fun _ _ _ _ => noL_ok _) (hw.trans ?_)
  have h_u1 := inR_i64 (hok (.int .i64 u1) (by simp [datasL, datas]))
  have h_u2 := inR_i64 (hok (.int .i64 u2) (by simp [datasL, datas]))
  clear hok hw
  exact around_ok (K := fun v M => some (Res.fin v M)) (paramB_iff.1 hd)
def s_geoid_around : List AV → List Blk → (AV → List Blk → Ans) → Ans := fun xs bs K => match xs, bs with
  | [.v (.agg [.int .i64 u1, .int .i64 u2])], [] => bif paramB ⟨u1, u2⟩ then K (rFF (cosU ⟨u1, u2⟩) (sinU ⟨u1, u2⟩)) [] else none
  | _, _ => none
def T_geoid_around : Nat → List AV → List Blk → (AV → List Blk → Ans) → Ans := upd T_geoid_whole 128 s_geoid_around
theorem g_geoid_around : GOK Tryz.prog GT gbT T_geoid_around XT := by
  refine GOK.upd g_geoid_whole (fun args w => Tryz.call128 args w) fun xs bs K r h => ?_
  unfold s_geoid_around at h
  split at h
  · simp only [cond_eq_ite] at h
    split at h
    · exact ⟨_, _, c_geoid_around _ _ ‹_›, h⟩
    · cases h
  · cases h
theorem w_geoid_At (g1 g2 s1 s2 t1 t2 : Int) (K : AV → List Blk → Ans) : evFn Tryz.prog GT EQT T_geoid_around XT noL 100 100 [.v (.agg [.int .i64 g1, .int .i64 g2]), .v (.agg [.int .i64 s1, .int .i64 s2]), .v (.agg [.int .i64 t1, .int .i64 t2])] [] (fun v M => K v (M.take ([] : List Blk).length)) = atGAns K ⟨g1, g2⟩ ⟨s1, s2⟩ ⟨t1, t2⟩ := by
  kernel_rfl
theorem c_geoid_At (g1 g2 s1 s2 t1 t2 : Int) : CallsA Tryz.prog GT gbT 100 [.v (.agg [.int .i64 g1, .int .i64 g2]), .v (.agg [.int .i64 s1, .int .i64 s2]), .v (.agg [.int .i64 t1, .int .i64 t2])] [] (rVecE (atV ⟨g1, g2⟩ ⟨s1, s2⟩ ⟨t1, t2⟩)) [] := by
  refine CallsA.ofOk fun hok => ?_
  have hw := w_geoid_At g1 g2 s1 s2 t1 t2 (fun v M => some (Res.fin v M))
  refine CallsA.ofEv (Γ := T_geoid_around) (X := XT) (Λ := noL) (EQ := EQT) (n := 100) g_geoid_around hEQT hmT (fun _ _ _ _ => noL_ok _) (hw.trans ?_)
  have h_g1 := inR_i64 (hok (.int .i64 g1) (by simp [datasL, datas]))
  have h_g2 := inR_i64 (hok (.int .i64 g2) (by simp [datasL, datas]))
  have h_s1 := inR_i64 (hok (.int .i64 s1) (by simp [datasL, datas]))
  have h_s2 := inR_i64 (hok (.int .i64 s2) (by simp [datasL, datas]))
  have h_t1 := inR_i64 (hok (.int .i64 t1) (by simp [datasL, datas]))
  have h_t2 := inR_i64 (hok (.int .i64 t2) (by simp [datasL, datas]))
  clear hok hw
  exact atGAns_ok (K := fun v M => some (Res.fin v M))
def s_geoid_At : List AV → List Blk → (AV → List Blk → Ans) → Ans := fun xs bs K => match xs, bs with
  | [.v (.agg [.int .i64 g1, .int .i64 g2]), .v (.agg [.int .i64 s1, .int .i64 s2]), .v (.agg [.int .i64 t1, .int .i64 t2])], [] => K (rVecE (atV ⟨g1, g2⟩ ⟨s1, s2⟩ ⟨t1, t2⟩)) []
  | _, _ => none
def T_geoid_At : Nat → List AV → List Blk → (AV → List Blk → Ans) → Ans := upd T_geoid_around 100 s_geoid_At
theorem g_geoid_At : GOK Tryz.prog GT gbT T_geoid_At XT := by
  refine GOK.upd g_geoid_around (fun args w => Tryz.call100 args w) fun xs bs K r h => ?_
  unfold s_geoid_At at h
  split at h
  · exact ⟨_, _, c_geoid_At _ _ _ _ _ _, h⟩
  · cases h
theorem w_Q3_Check (g1 g2 : Int) (K : AV → List Blk → Ans) : evFn Tryz.prog GT EQT T_geoid_At XT noL 60 111 [.v (.agg [.int .i64 g1, .int .i64 g2])] [] (fun v M => K v (M.take ([] : List Blk).length)) = K (rI (checkGRaw ⟨g1, g2⟩)) [] := by
  simp only [checkGRaw, pullK K]
  kernel_rfl
theorem c_Q3_Check (g1 g2 : Int) : CallsA Tryz.prog GT gbT 111 [.v (.agg [.int .i64 g1, .int .i64 g2])] [] (rI (checkG ⟨g1, g2⟩)) [] := by
  refine CallsA.ofOk fun hok => ?_
  have hw := w_Q3_Check g1 g2 (fun v M => some (Res.fin v M))
  refine CallsA.ofEv (Γ := T_geoid_At) (X := XT) (Λ := noL) (EQ := EQT) (n := 60) g_geoid_At hEQT hmT (fun _ _ _ _ => noL_ok _) (hw.trans ?_)
  have h_g1 := inR_i64 (hok (.int .i64 g1) (by simp [datasL, datas]))
  have h_g2 := inR_i64 (hok (.int .i64 g2) (by simp [datasL, datas]))
  clear hok hw
  refine congrArg (fun v => some (Res.fin v [])) ?_
  rw [checkGRaw_ok]
def s_Q3_Check : List AV → List Blk → (AV → List Blk → Ans) → Ans := fun xs bs K => match xs, bs with
  | [.v (.agg [.int .i64 g1, .int .i64 g2])], [] => K (rI (checkG ⟨g1, g2⟩)) []
  | _, _ => none
def T_Q3_Check : Nat → List AV → List Blk → (AV → List Blk → Ans) → Ans := upd T_geoid_At 111 s_Q3_Check
theorem g_Q3_Check : GOK Tryz.prog GT gbT T_Q3_Check XT := by
  refine GOK.upd g_geoid_At (fun args w => Tryz.call111 args w) fun xs bs K r h => ?_
  unfold s_Q3_Check at h
  split at h
  · exact ⟨_, _, c_Q3_Check _ _, h⟩
  · cases h
theorem w_Q3_Param (u1 u2 : Int) (K : AV → List Blk → Ans) : evFn Tryz.prog GT EQT T_Q3_Check XT noL 60 153 [.v (.agg [.int .i64 u1, .int .i64 u2])] [] (fun v M => K v (M.take ([] : List Blk).length)) = paramRef K ⟨u1, u2⟩ := by
  kernel_rfl
theorem c_Q3_Param (u1 u2 : Int) : CallsA Tryz.prog GT gbT 153 [.v (.agg [.int .i64 u1, .int .i64 u2])] [] (rB (paramB ⟨u1, u2⟩)) [] := by
  refine CallsA.ofOk fun hok => ?_
  have hw := w_Q3_Param u1 u2 (fun v M => some (Res.fin v M))
  refine CallsA.ofEv (Γ := T_Q3_Check) (X := XT) (Λ := noL) (EQ := EQT) (n := 60) g_Q3_Check hEQT hmT (fun _ _ _ _ => noL_ok _) (hw.trans ?_)
  have h_u1 := inR_i64 (hok (.int .i64 u1) (by simp [datasL, datas]))
  have h_u2 := inR_i64 (hok (.int .i64 u2) (by simp [datasL, datas]))
  clear hok hw
  exact paramRef_ok (K := fun v M => some (Res.fin v M))
def s_Q3_Param : List AV → List Blk → (AV → List Blk → Ans) → Ans := fun xs bs K => match xs, bs with
  | [.v (.agg [.int .i64 u1, .int .i64 u2])], [] => K (rB (paramB ⟨u1, u2⟩)) []
  | _, _ => none
def T_Q3_Param : Nat → List AV → List Blk → (AV → List Blk → Ans) → Ans := upd T_Q3_Check 153 s_Q3_Param
theorem g_Q3_Param : GOK Tryz.prog GT gbT T_Q3_Param XT := by
  refine GOK.upd g_Q3_Check (fun args w => Tryz.call153 args w) fun xs bs K r h => ?_
  unfold s_Q3_Param at h
  split at h
  · exact ⟨_, _, c_Q3_Param _ _, h⟩
  · cases h
theorem w_Q3_One (K : AV → List Blk → Ans) : evFn Tryz.prog GT EQT T_Q3_Param XT noL 60 154 [] [] (fun v M => K v (M.take ([] : List Blk).length)) = K (rFrac oneF) [] := by
  kernel_rfl
theorem c_Q3_One : CallsA Tryz.prog GT gbT 154 [] [] (rFrac oneF) [] := by
  refine CallsA.ofOk fun hok => ?_
  have hw := w_Q3_One (fun v M => some (Res.fin v M))
  refine CallsA.ofEv (Γ := T_Q3_Param) (X := XT) (Λ := noL) (EQ := EQT) (n := 60) g_Q3_Param hEQT hmT (fun _ _ _ _ => noL_ok _) (hw.trans ?_)
  rfl
def s_Q3_One : List AV → List Blk → (AV → List Blk → Ans) → Ans := fun xs bs K => match xs, bs with
  | [], [] => K (rFrac oneF) []
  | _, _ => none
def T_Q3_One : Nat → List AV → List Blk → (AV → List Blk → Ans) → Ans := upd T_Q3_Param 154 s_Q3_One
theorem g_Q3_One : GOK Tryz.prog GT gbT T_Q3_One XT := by
  refine GOK.upd g_Q3_Param (fun args w => Tryz.call154 args w) fun xs bs K r h => ?_
  unfold s_Q3_One at h
  split at h
  · exact ⟨_, _, c_Q3_One, h⟩
  · cases h
theorem w_Q3_Placed (s1 s2 t1 t2 : Int) (K : AV → List Blk → Ans) : evFn Tryz.prog GT EQT T_Q3_One XT noL 60 140 [.v (.agg [.int .i64 s1, .int .i64 s2]), .v (.agg [.int .i64 t1, .int .i64 t2])] [] (fun v M => K v (M.take ([] : List Blk).length)) = placedRef K ⟨s1, s2⟩ ⟨t1, t2⟩ := by
  kernel_rfl
theorem c_Q3_Placed (s1 s2 t1 t2 : Int) : CallsA Tryz.prog GT gbT 140 [.v (.agg [.int .i64 s1, .int .i64 s2]), .v (.agg [.int .i64 t1, .int .i64 t2])] [] (rB (placedB ⟨s1, s2⟩ ⟨t1, t2⟩)) [] := by
  refine CallsA.ofOk fun hok => ?_
  have hw := w_Q3_Placed s1 s2 t1 t2 (fun v M => some (Res.fin v M))
  refine CallsA.ofEv (Γ := T_Q3_One) (X := XT) (Λ := noL) (EQ := EQT) (n := 60) g_Q3_One hEQT hmT (fun _ _ _ _ => noL_ok _) (hw.trans ?_)
  have h_s1 := inR_i64 (hok (.int .i64 s1) (by simp [datasL, datas]))
  have h_s2 := inR_i64 (hok (.int .i64 s2) (by simp [datasL, datas]))
  have h_t1 := inR_i64 (hok (.int .i64 t1) (by simp [datasL, datas]))
  have h_t2 := inR_i64 (hok (.int .i64 t2) (by simp [datasL, datas]))
  clear hok hw
  exact placedRef_ok (K := fun v M => some (Res.fin v M))
def s_Q3_Placed : List AV → List Blk → (AV → List Blk → Ans) → Ans := fun xs bs K => match xs, bs with
  | [.v (.agg [.int .i64 s1, .int .i64 s2]), .v (.agg [.int .i64 t1, .int .i64 t2])], [] => K (rB (placedB ⟨s1, s2⟩ ⟨t1, t2⟩)) []
  | _, _ => none
def T_Q3_Placed : Nat → List AV → List Blk → (AV → List Blk → Ans) → Ans := upd T_Q3_One 140 s_Q3_Placed
theorem g_Q3_Placed : GOK Tryz.prog GT gbT T_Q3_Placed XT := by
  refine GOK.upd g_Q3_One (fun args w => Tryz.call140 args w) fun xs bs K r h => ?_
  unfold s_Q3_Placed at h
  split at h
  · exact ⟨_, _, c_Q3_Placed _ _ _ _, h⟩
  · cases h
theorem w_Q3_Place (g1 g2 s1 s2 t1 t2 : Int) (K : AV → List Blk → Ans) : evFn Tryz.prog GT EQT T_Q3_Placed XT noL 100 141 [.v (.agg [.int .i64 g1, .int .i64 g2]), .v (.agg [.int .i64 s1, .int .i64 s2]), .v (.agg [.int .i64 t1, .int .i64 t2])] [] (fun v M => K v (M.take ([] : List Blk).length)) = K (rVec (placeR ⟨g1, g2⟩ ⟨s1, s2⟩ ⟨t1, t2⟩)) [] := by
  kernel_rfl
theorem c_Q3_Place (g1 g2 s1 s2 t1 t2 : Int) : CallsA Tryz.prog GT gbT 141 [.v (.agg [.int .i64 g1, .int .i64 g2]), .v (.agg [.int .i64 s1, .int .i64 s2]), .v (.agg [.int .i64 t1, .int .i64 t2])] [] (rVec (placeR ⟨g1, g2⟩ ⟨s1, s2⟩ ⟨t1, t2⟩)) [] := by
  refine CallsA.ofOk fun hok => ?_
  have hw := w_Q3_Place g1 g2 s1 s2 t1 t2 (fun v M => some (Res.fin v M))
  refine CallsA.ofEv (Γ := T_Q3_Placed) (X := XT) (Λ := noL) (EQ := EQT) (n := 100) g_Q3_Placed hEQT hmT (fun _ _ _ _ => noL_ok _) (hw.trans ?_)
  rfl
def s_Q3_Place : List AV → List Blk → (AV → List Blk → Ans) → Ans := fun xs bs K => match xs, bs with
  | [.v (.agg [.int .i64 g1, .int .i64 g2]), .v (.agg [.int .i64 s1, .int .i64 s2]), .v (.agg [.int .i64 t1, .int .i64 t2])], [] => K (rVec (placeR ⟨g1, g2⟩ ⟨s1, s2⟩ ⟨t1, t2⟩)) []
  | _, _ => none
def T_Q3_Place : Nat → List AV → List Blk → (AV → List Blk → Ans) → Ans := upd T_Q3_Placed 141 s_Q3_Place
theorem g_Q3_Place : GOK Tryz.prog GT gbT T_Q3_Place XT := by
  refine GOK.upd g_Q3_Placed (fun args w => Tryz.call141 args w) fun xs bs K r h => ?_
  unfold s_Q3_Place at h
  split at h
  · exact ⟨_, _, c_Q3_Place _ _ _ _ _ _, h⟩
  · cases h
end Go.Ev

namespace Go.Ev
open Go Go.Proofs
structure R_Q4_Great_0 where
  k : Nat
  p3 : Int
def run_Q4_Great_0 (p2 : Bool) (m0 : List Site) : Nat → Int → R_Q4_Great_0
  | 0, p3 => ⟨2, p3⟩
  | n + 1, p3 => bif decide (p3 < (m0.length : Int)) then (bif (decide ((0 : Int) ≤ p3) && decide (p3 < (m0.length : Int))) then (bif decide ((100 : Int) < (((m0.getD p3.toNat (ET.z .site)).name).size : Int)) then ⟨0, p3⟩ else run_Q4_Great_0 p2 m0 n (w64 (p3 + (1 : Int)))) else ⟨2, p3⟩) else ⟨1, p3⟩
def lp_Q4_Great_0 (p2 : Bool) (m0 : List Site) (p3 : Int) : R_Q4_Great_0 := run_Q4_Great_0 p2 m0 (2000 + (m0.length)) p3
abbrev H_Q4_Great_0 (p2 : Bool) (_m0 : List Site) (p3 : Int) : TS := headT [0, 2, 3] 20 [.v (.c (.aslice 0 none)), .v (.c (.d (.bool p2))), .v (.c (.d (.int .i64 p3)))]
theorem b_Q4_Great_0 (p2 : Bool) (m0 : List Site) (p3 : Int) : evCode Tryz.prog GT EQT T_Q3_Place XT noL 80 (loopB Tryz.prog 23 0) (H_Q4_Great_0 p2 m0 p3) [.arr none .site m0] 1 (normK 1 [0, 2, 3]) =
    bif decide (p3 < (m0.length : Int)) then (bif (decide ((0 : Int) ≤ p3) && decide (p3 < (m0.length : Int))) then (bif decide ((100 : Int) < (((m0.getD p3.toNat (ET.z .site)).name).size : Int)) then some (.st .ret (headT [0, 2, 3] 20 [.v (.c (.aslice 0 none)), .v (.c (.d (.bool true))), .v (.c (.d (.int .i64 p3)))]) [.arr none .site m0] 1) else some (.st .normal (headT [0, 2, 3] 20 [.v (.c (.aslice 0 none)), .v (.c (.d (.bool p2))), .v (.c (.d (.int .i64 (w64 (p3 + (1 : Int))))))]) [.arr none .site m0] 1)) else none) else some (.st (.exit 0) (headT [0, 2, 3] 20 [.v (.c (.aslice 0 none)), .v (.c (.d (.bool p2))), .v (.c (.d (.int .i64 p3)))]) [.arr none .site m0] 1) := by
  kernel_rfl
def o_Q4_Great_0 (p2 : Bool) (m0 : List Site) (r : R_Q4_Great_0) : LT := .br (Nat.beq r.k 0) (.st .ret (headT [0, 2, 3] 20 [.v (.c (.aslice 0 none)), .v (.c (.d (.bool true))), .v (.c (.d (.int .i64 r.p3)))]) [.arr none .site m0] 1) (.br (Nat.beq r.k 1) (.st (.exit 0) (headT [0, 2, 3] 20 [.v (.c (.aslice 0 none)), .v (.c (.d (.bool p2))), .v (.c (.d (.int .i64 r.p3)))]) [.arr none .site m0] 1) (.no))
theorem r_Q4_Great_0 (p2 : Bool) (m0 : List Site) : ∀ (n : Nat) (p3 : Int) (x : Ex) (T' : TS) (M' : List Blk) (N' : Nat), LReach (o_Q4_Great_0 p2 m0 (run_Q4_Great_0 p2 m0 n p3)) x T' M' N' → x ≠ .normal ∧ ∃ j, RoundsN Tryz.prog GT gbT 1 (loopB Tryz.prog 23 0) j (H_Q4_Great_0 p2 m0 p3) [.arr none .site m0] 1 x T' M' N' := by
  have hL : LOKn Tryz.prog GT gbT 1 noL (loopsIn (loopB Tryz.prog 23 0)) := fun _ _ _ _ _ _ _ _ _ h => h.elim
  intro n
  induction n with
  | zero =>
    intro p3 x T' M' N' hr
    exact False.elim (redF (redF hr))
  | succ n ih =>
    intro p3 x T' M' N'
    rw [run_Q4_Great_0]
    exact viaE (b_Q4_Great_0 p2 m0 p3) (condG (o := o_Q4_Great_0 p2 m0) (condG (o := o_Q4_Great_0 p2 m0) (condG (o := o_Q4_Great_0 p2 m0) (fun he hr => stopN g_Q3_Place hEQT hmT hL he (by simp) (redT hr)) (fun he hr => goN g_Q3_Place hEQT hmT hL he (ih (w64 (p3 + (1 : Int))) x T' M' N' hr))) (fun _ hr => False.elim (redF (redF hr)))) (fun he hr => stopN g_Q3_Place hEQT hmT hL he (by simp) (redT (redF hr))))
def f_Q4_Great_0 : List AV → List Blk → LT := fun vs Ms => match vs, Ms with
  | [.v (.c (.aslice 0 none)), .v (.c (.d (.bool p2))), .v (.c (.d (.int .i64 p3)))], [.arr none .site m0] => o_Q4_Great_0 p2 m0 (lp_Q4_Great_0 p2 m0 p3)
  | _, _ => .no
def L_Q4_Great_0 := LamN 2 20 1 [0, 2, 3] f_Q4_Great_0
theorem k_Q4_Great_0 : LOKbn Tryz.prog GT gbT 1 L_Q4_Great_0 (loopB Tryz.prog 23 0) := by
  refine LOKbn.lamN (by kernel_rfl) fun vs Ms x T' M' N' hr => ?_
  unfold f_Q4_Great_0 at hr
  split at hr
  · obtain ⟨q1, j, q2⟩ := r_Q4_Great_0 _ _ _ _ x T' M' N' hr
    exact ⟨q1, j, q2⟩
  · exact hr.elim
structure O_Q4_Great where
  ok : Bool
  r0 : Bool
def m_Q4_Great (a0 : List Site) : O_Q4_Great := bif Nat.beq (lp_Q4_Great_0 false a0 (0 : Int)).k 0 then ⟨true, true⟩ else (bif Nat.beq (lp_Q4_Great_0 false a0 (0 : Int)).k 1 then ⟨true, decide ((20 : Int) < (a0.length : Int))⟩ else ⟨false, false⟩)
def F_Q4_Great (a0 : List Site) (K : AV → List Blk → Ans) (r : O_Q4_Great) : Ans := bif r.ok then K (.v (.c (.d (.bool r.r0)))) [.arr none .site a0] else none
theorem e_Q4_Great (a0 : List Site) (K : AV → List Blk → Ans) : evFn Tryz.prog GT EQT T_Q3_Place XT (orL L_Q4_Great_0 noL) 80 23 [.v (.c (.aslice 0 none))] [.arr none .site a0] (fun v M => K (finR 1 v M).1 (finR 1 v M).2) = F_Q4_Great a0 K (m_Q4_Great a0) := by
  unfold m_Q4_Great
  refine Eq.trans ?_ (Eq.symm (pushT rfl (pushT rfl rfl)))
  kernel_rfl
theorem lok_Q4_Great : ∀ fn c, Tryz.prog.funcs[23]? = some fn → fn.body = some c → LOKn Tryz.prog GT gbT 1 (orL L_Q4_Great_0 noL) (loopsIn c) := by
  refine LOKn.ofF fun b hb => ?_
  have e : loopsF Tryz.prog 23 = [loopB Tryz.prog 23 0] := by kernel_rfl
  rw [e] at hb
  simp only [List.mem_cons, List.not_mem_nil, or_false] at hb
  subst hb
  exact (LOKbn.or k_Q4_Great_0 (fun _ _ _ _ _ _ _ h => h.elim))
theorem c_Q4_Great (a0 : List Site) (hd : (m_Q4_Great a0).ok = true) : CallsA Tryz.prog GT gbT 23 [.v (.c (.aslice 0 none))] [.arr none .site a0] (.v (.c (.d (.bool ((m_Q4_Great a0).r0))))) [.arr none .site a0] := by
  refine CallsA.ofEvR g_Q3_Place hEQT hmT (n0 := 1) rfl lok_Q4_Great ((e_Q4_Great a0 (fun v M => some (Res.fin v M))).trans ?_)
  unfold F_Q4_Great
  rw [hd]
  rfl
def s_Q4_Great : List AV → List Blk → (AV → List Blk → Ans) → Ans := fun xs bs K => match xs, bs with
  | [.v (.c (.aslice 0 none))], [.arr none .site a0] => F_Q4_Great a0 K (m_Q4_Great a0)
  | _, _ => none
def T_Q4_Great : Nat → List AV → List Blk → (AV → List Blk → Ans) → Ans := upd T_Q3_Place 23 s_Q4_Great
theorem g_Q4_Great : GOK Tryz.prog GT gbT T_Q4_Great XT := by
  refine GOK.upd g_Q3_Place (fun args w => Tryz.call23 args w) fun xs bs K r h => ?_
  unfold s_Q4_Great at h
  split at h
  · unfold F_Q4_Great at h
    simp only [cond_eq_ite] at h
    split at h
    · rename_i hd
      exact ⟨_, _, c_Q4_Great _ hd, h⟩
    · cases h
  · cases h
structure R_array_valid_0 where
  k : Nat
  p32 : Int
def run_array_valid_0 (p2 : Bool) (p31 : Int) (q0 : Site) : Nat → Int → R_array_valid_0
  | 0, p32 => ⟨2, p32⟩
  | n + 1, p32 => bif decide (p32 < p31) then (bif (decide (0 ≤ p32) && decide (p32 < (q0.name.size : Int))) then (bif decide ((byteAt q0.name p32) < (97 : Int)) then (bif decide ((byteAt q0.name p32) < (48 : Int)) then (bif ((byteAt q0.name p32) != (45 : Int)) then ⟨0, p32⟩ else run_array_valid_0 p2 p31 q0 n (w64 (p32 + (1 : Int)))) else (bif decide ((57 : Int) < (byteAt q0.name p32)) then (bif ((byteAt q0.name p32) != (45 : Int)) then ⟨0, p32⟩ else run_array_valid_0 p2 p31 q0 n (w64 (p32 + (1 : Int)))) else run_array_valid_0 p2 p31 q0 n (w64 (p32 + (1 : Int))))) else (bif decide ((122 : Int) < (byteAt q0.name p32)) then (bif decide ((byteAt q0.name p32) < (48 : Int)) then (bif ((byteAt q0.name p32) != (45 : Int)) then ⟨0, p32⟩ else run_array_valid_0 p2 p31 q0 n (w64 (p32 + (1 : Int)))) else (bif decide ((57 : Int) < (byteAt q0.name p32)) then (bif ((byteAt q0.name p32) != (45 : Int)) then ⟨0, p32⟩ else run_array_valid_0 p2 p31 q0 n (w64 (p32 + (1 : Int)))) else run_array_valid_0 p2 p31 q0 n (w64 (p32 + (1 : Int))))) else run_array_valid_0 p2 p31 q0 n (w64 (p32 + (1 : Int))))) else ⟨2, p32⟩) else ⟨1, p32⟩
def lp_array_valid_0 (p2 : Bool) (p31 : Int) (q0 : Site) (p32 : Int) : R_array_valid_0 := run_array_valid_0 p2 p31 q0 (2000 + (stuckI p31)) p32
abbrev H_array_valid_0 (p2 : Bool) (p31 : Int) (_q0 : Site) (p32 : Int) : TS := headT [1, 2, 31, 32] 69 [.v (.c (.ptr 0 0)), .v (.c (.d (.bool p2))), .v (.c (.d (.int .i64 p31))), .v (.c (.d (.int .i64 p32)))]
theorem b_array_valid_0 (p2 : Bool) (p31 : Int) (q0 : Site) (p32 : Int) : evCode Tryz.prog GT EQT T_Q4_Great XT noL 120 (loopB Tryz.prog 126 0) (H_array_valid_0 p2 p31 q0 p32) [.rw 101 [.str q0.name, .int .i64 q0.s.num, .int .i64 q0.s.den, .int .i64 q0.t.num, .int .i64 q0.t.den]] 1 (normK 0 [1, 2, 31, 32]) =
    bif decide (p32 < p31) then (bif (decide (0 ≤ p32) && decide (p32 < (q0.name.size : Int))) then (bif decide ((byteAt q0.name p32) < (97 : Int)) then (bif decide ((byteAt q0.name p32) < (48 : Int)) then (bif ((byteAt q0.name p32) != (45 : Int)) then some (.st .ret (headT [1, 2, 31, 32] 69 [.v (.c (.ptr 0 0)), .v (.c (.d (.bool false))), .v (.c (.d (.int .i64 p31))), .v (.c (.d (.int .i64 p32)))]) [.rw 101 [.str q0.name, .int .i64 q0.s.num, .int .i64 q0.s.den, .int .i64 q0.t.num, .int .i64 q0.t.den]] 1) else some (.st .normal (headT [1, 2, 31, 32] 69 [.v (.c (.ptr 0 0)), .v (.c (.d (.bool p2))), .v (.c (.d (.int .i64 p31))), .v (.c (.d (.int .i64 (w64 (p32 + (1 : Int))))))]) [.rw 101 [.str q0.name, .int .i64 q0.s.num, .int .i64 q0.s.den, .int .i64 q0.t.num, .int .i64 q0.t.den]] 1)) else (bif decide ((57 : Int) < (byteAt q0.name p32)) then (bif ((byteAt q0.name p32) != (45 : Int)) then some (.st .ret (headT [1, 2, 31, 32] 69 [.v (.c (.ptr 0 0)), .v (.c (.d (.bool false))), .v (.c (.d (.int .i64 p31))), .v (.c (.d (.int .i64 p32)))]) [.rw 101 [.str q0.name, .int .i64 q0.s.num, .int .i64 q0.s.den, .int .i64 q0.t.num, .int .i64 q0.t.den]] 1) else some (.st .normal (headT [1, 2, 31, 32] 69 [.v (.c (.ptr 0 0)), .v (.c (.d (.bool p2))), .v (.c (.d (.int .i64 p31))), .v (.c (.d (.int .i64 (w64 (p32 + (1 : Int))))))]) [.rw 101 [.str q0.name, .int .i64 q0.s.num, .int .i64 q0.s.den, .int .i64 q0.t.num, .int .i64 q0.t.den]] 1)) else some (.st .normal (headT [1, 2, 31, 32] 69 [.v (.c (.ptr 0 0)), .v (.c (.d (.bool p2))), .v (.c (.d (.int .i64 p31))), .v (.c (.d (.int .i64 (w64 (p32 + (1 : Int))))))]) [.rw 101 [.str q0.name, .int .i64 q0.s.num, .int .i64 q0.s.den, .int .i64 q0.t.num, .int .i64 q0.t.den]] 1))) else (bif decide ((122 : Int) < (byteAt q0.name p32)) then (bif decide ((byteAt q0.name p32) < (48 : Int)) then (bif ((byteAt q0.name p32) != (45 : Int)) then some (.st .ret (headT [1, 2, 31, 32] 69 [.v (.c (.ptr 0 0)), .v (.c (.d (.bool false))), .v (.c (.d (.int .i64 p31))), .v (.c (.d (.int .i64 p32)))]) [.rw 101 [.str q0.name, .int .i64 q0.s.num, .int .i64 q0.s.den, .int .i64 q0.t.num, .int .i64 q0.t.den]] 1) else some (.st .normal (headT [1, 2, 31, 32] 69 [.v (.c (.ptr 0 0)), .v (.c (.d (.bool p2))), .v (.c (.d (.int .i64 p31))), .v (.c (.d (.int .i64 (w64 (p32 + (1 : Int))))))]) [.rw 101 [.str q0.name, .int .i64 q0.s.num, .int .i64 q0.s.den, .int .i64 q0.t.num, .int .i64 q0.t.den]] 1)) else (bif decide ((57 : Int) < (byteAt q0.name p32)) then (bif ((byteAt q0.name p32) != (45 : Int)) then some (.st .ret (headT [1, 2, 31, 32] 69 [.v (.c (.ptr 0 0)), .v (.c (.d (.bool false))), .v (.c (.d (.int .i64 p31))), .v (.c (.d (.int .i64 p32)))]) [.rw 101 [.str q0.name, .int .i64 q0.s.num, .int .i64 q0.s.den, .int .i64 q0.t.num, .int .i64 q0.t.den]] 1) else some (.st .normal (headT [1, 2, 31, 32] 69 [.v (.c (.ptr 0 0)), .v (.c (.d (.bool p2))), .v (.c (.d (.int .i64 p31))), .v (.c (.d (.int .i64 (w64 (p32 + (1 : Int))))))]) [.rw 101 [.str q0.name, .int .i64 q0.s.num, .int .i64 q0.s.den, .int .i64 q0.t.num, .int .i64 q0.t.den]] 1)) else some (.st .normal (headT [1, 2, 31, 32] 69 [.v (.c (.ptr 0 0)), .v (.c (.d (.bool p2))), .v (.c (.d (.int .i64 p31))), .v (.c (.d (.int .i64 (w64 (p32 + (1 : Int))))))]) [.rw 101 [.str q0.name, .int .i64 q0.s.num, .int .i64 q0.s.den, .int .i64 q0.t.num, .int .i64 q0.t.den]] 1))) else some (.st .normal (headT [1, 2, 31, 32] 69 [.v (.c (.ptr 0 0)), .v (.c (.d (.bool p2))), .v (.c (.d (.int .i64 p31))), .v (.c (.d (.int .i64 (w64 (p32 + (1 : Int))))))]) [.rw 101 [.str q0.name, .int .i64 q0.s.num, .int .i64 q0.s.den, .int .i64 q0.t.num, .int .i64 q0.t.den]] 1))) else none) else some (.st (.exit 0) (headT [1, 2, 31, 32] 69 [.v (.c (.ptr 0 0)), .v (.c (.d (.bool p2))), .v (.c (.d (.int .i64 p31))), .v (.c (.d (.int .i64 p32)))]) [.rw 101 [.str q0.name, .int .i64 q0.s.num, .int .i64 q0.s.den, .int .i64 q0.t.num, .int .i64 q0.t.den]] 1) := by
  kernel_rfl
def o_array_valid_0 (p2 : Bool) (p31 : Int) (q0 : Site) (r : R_array_valid_0) : LT := .br (Nat.beq r.k 0) (.st .ret (headT [1, 2, 31, 32] 69 [.v (.c (.ptr 0 0)), .v (.c (.d (.bool false))), .v (.c (.d (.int .i64 p31))), .v (.c (.d (.int .i64 r.p32)))]) [.rw 101 [.str q0.name, .int .i64 q0.s.num, .int .i64 q0.s.den, .int .i64 q0.t.num, .int .i64 q0.t.den]] 1) (.br (Nat.beq r.k 1) (.st (.exit 0) (headT [1, 2, 31, 32] 69 [.v (.c (.ptr 0 0)), .v (.c (.d (.bool p2))), .v (.c (.d (.int .i64 p31))), .v (.c (.d (.int .i64 r.p32)))]) [.rw 101 [.str q0.name, .int .i64 q0.s.num, .int .i64 q0.s.den, .int .i64 q0.t.num, .int .i64 q0.t.den]] 1) (.no))
theorem r_array_valid_0 (p2 : Bool) (p31 : Int) (q0 : Site) : ∀ (n : Nat) (p32 : Int) (x : Ex) (T' : TS) (M' : List Blk) (N' : Nat), LReach (o_array_valid_0 p2 p31 q0 (run_array_valid_0 p2 p31 q0 n p32)) x T' M' N' → x ≠ .normal ∧ ∃ j, RoundsN Tryz.prog GT gbT 0 (loopB Tryz.prog 126 0) j (H_array_valid_0 p2 p31 q0 p32) [.rw 101 [.str q0.name, .int .i64 q0.s.num, .int .i64 q0.s.den, .int .i64 q0.t.num, .int .i64 q0.t.den]] 1 x T' M' N' := by
  have hL : LOKn Tryz.prog GT gbT 0 noL (loopsIn (loopB Tryz.prog 126 0)) := fun _ _ _ _ _ _ _ _ _ h => h.elim
  intro n
  induction n with
  | zero =>
    intro p32 x T' M' N' hr
    exact False.elim (redF (redF hr))
  | succ n ih =>
    intro p32 x T' M' N'
    rw [run_array_valid_0]
    exact viaE (b_array_valid_0 p2 p31 q0 p32) (condG (o := o_array_valid_0 p2 p31 q0) (condG (o := o_array_valid_0 p2 p31 q0) (condG (o := o_array_valid_0 p2 p31 q0) (condG (o := o_array_valid_0 p2 p31 q0) (condG (o := o_array_valid_0 p2 p31 q0) (fun he hr => stopN g_Q4_Great hEQT hmT hL he (by simp) (redT hr)) (fun he hr => goN g_Q4_Great hEQT hmT hL he (ih (w64 (p32 + (1 : Int))) x T' M' N' hr))) (condG (o := o_array_valid_0 p2 p31 q0) (condG (o := o_array_valid_0 p2 p31 q0) (fun he hr => stopN g_Q4_Great hEQT hmT hL he (by simp) (redT hr)) (fun he hr => goN g_Q4_Great hEQT hmT hL he (ih (w64 (p32 + (1 : Int))) x T' M' N' hr))) (fun he hr => goN g_Q4_Great hEQT hmT hL he (ih (w64 (p32 + (1 : Int))) x T' M' N' hr)))) (condG (o := o_array_valid_0 p2 p31 q0) (condG (o := o_array_valid_0 p2 p31 q0) (condG (o := o_array_valid_0 p2 p31 q0) (fun he hr => stopN g_Q4_Great hEQT hmT hL he (by simp) (redT hr)) (fun he hr => goN g_Q4_Great hEQT hmT hL he (ih (w64 (p32 + (1 : Int))) x T' M' N' hr))) (condG (o := o_array_valid_0 p2 p31 q0) (condG (o := o_array_valid_0 p2 p31 q0) (fun he hr => stopN g_Q4_Great hEQT hmT hL he (by simp) (redT hr)) (fun he hr => goN g_Q4_Great hEQT hmT hL he (ih (w64 (p32 + (1 : Int))) x T' M' N' hr))) (fun he hr => goN g_Q4_Great hEQT hmT hL he (ih (w64 (p32 + (1 : Int))) x T' M' N' hr)))) (fun he hr => goN g_Q4_Great hEQT hmT hL he (ih (w64 (p32 + (1 : Int))) x T' M' N' hr)))) (fun _ hr => False.elim (redF (redF hr)))) (fun he hr => stopN g_Q4_Great hEQT hmT hL he (by simp) (redT (redF hr))))
def f_array_valid_0 : List AV → List Blk → LT := fun vs Ms => match vs, Ms with
  | [.v (.c (.ptr 0 0)), .v (.c (.d (.bool p2))), .v (.c (.d (.int .i64 p31))), .v (.c (.d (.int .i64 p32)))], [.rw 101 [.str q0_0, .int .i64 q0_1, .int .i64 q0_2, .int .i64 q0_3, .int .i64 q0_4]] => o_array_valid_0 p2 p31 (⟨q0_0, ⟨q0_1, q0_2⟩, ⟨q0_3, q0_4⟩⟩ : Site) (lp_array_valid_0 p2 p31 (⟨q0_0, ⟨q0_1, q0_2⟩, ⟨q0_3, q0_4⟩⟩ : Site) p32)
  | _, _ => .no
def L_array_valid_0 := LamN 4 69 0 [1, 2, 31, 32] f_array_valid_0
theorem k_array_valid_0 : LOKbn Tryz.prog GT gbT 0 L_array_valid_0 (loopB Tryz.prog 126 0) := by
  refine LOKbn.lamN (by kernel_rfl) fun vs Ms x T' M' N' hr => ?_
  unfold f_array_valid_0 at hr
  split at hr
  · obtain ⟨q1, j, q2⟩ := r_array_valid_0 _ _ _ _ _ x T' M' N' hr
    exact ⟨q1, j, q2⟩
  · exact hr.elim
structure O_array_valid where
  ok : Bool
  r0 : Bool
def m_array_valid (a0 : Site) : O_array_valid := bif decide ((a0.name.size : Int) < (1 : Int)) then ⟨true, false⟩ else (bif decide ((40 : Int) < (a0.name.size : Int)) then ⟨true, false⟩ else (bif (decide (0 ≤ (0 : Int)) && decide ((0 : Int) < (a0.name.size : Int))) then (bif decide ((byteAt a0.name (0 : Int)) < (97 : Int)) then ⟨true, false⟩ else (bif (decide (0 ≤ (0 : Int)) && decide ((0 : Int) < (a0.name.size : Int))) then (bif decide ((122 : Int) < (byteAt a0.name (0 : Int))) then ⟨true, false⟩ else (bif Nat.beq (lp_array_valid_0 false (a0.name.size : Int) a0 (0 : Int)).k 0 then ⟨true, false⟩ else (bif Nat.beq (lp_array_valid_0 false (a0.name.size : Int) a0 (0 : Int)).k 1 then ⟨true, ((atV ⟨(1 : Int), (1 : Int)⟩ a0.s a0.t).2 == (0 : Int))⟩ else ⟨false, false⟩))) else ⟨false, false⟩)) else ⟨false, false⟩))
def F_array_valid (_a0 : Site) (K : AV → List Blk → Ans) (r : O_array_valid) : Ans := bif r.ok then K (.v (.c (.d (.bool r.r0)))) [] else none
theorem e_array_valid (a0 : Site) (K : AV → List Blk → Ans) : evFn Tryz.prog GT EQT T_Q4_Great XT (orL L_array_valid_0 noL) 120 126 [.v (.agg [.str a0.name, .int .i64 a0.s.num, .int .i64 a0.s.den, .int .i64 a0.t.num, .int .i64 a0.t.den])] [] (fun v M => K (finR 0 v M).1 (finR 0 v M).2) = F_array_valid a0 K (m_array_valid a0) := by
  unfold m_array_valid
  refine Eq.trans ?_ (Eq.symm (pushT rfl (pushT rfl (pushT (pushT rfl (pushT (pushT rfl (pushT rfl (pushT rfl rfl))) rfl)) rfl))))
  kernel_rfl
theorem lok_array_valid : ∀ fn c, Tryz.prog.funcs[126]? = some fn → fn.body = some c → LOKn Tryz.prog GT gbT 0 (orL L_array_valid_0 noL) (loopsIn c) := by
  refine LOKn.ofF fun b hb => ?_
  have e : loopsF Tryz.prog 126 = [loopB Tryz.prog 126 0] := by kernel_rfl
  rw [e] at hb
  simp only [List.mem_cons, List.not_mem_nil, or_false] at hb
  subst hb
  exact (LOKbn.or k_array_valid_0 (fun _ _ _ _ _ _ _ h => h.elim))
theorem c_array_valid (a0 : Site) (hd : (m_array_valid a0).ok = true) : CallsA Tryz.prog GT gbT 126 [.v (.agg [.str a0.name, .int .i64 a0.s.num, .int .i64 a0.s.den, .int .i64 a0.t.num, .int .i64 a0.t.den])] [] (.v (.c (.d (.bool ((m_array_valid a0).r0))))) [] := by
  refine CallsA.ofEvR g_Q4_Great hEQT hmT (n0 := 0) rfl lok_array_valid ((e_array_valid a0 (fun v M => some (Res.fin v M))).trans ?_)
  unfold F_array_valid
  rw [hd]
  rfl
def s_array_valid : List AV → List Blk → (AV → List Blk → Ans) → Ans := fun xs bs K => match xs, bs with
  | [.v (.agg [.str a0_0, .int .i64 a0_1, .int .i64 a0_2, .int .i64 a0_3, .int .i64 a0_4])], [] => F_array_valid (⟨a0_0, ⟨a0_1, a0_2⟩, ⟨a0_3, a0_4⟩⟩ : Site) K (m_array_valid (⟨a0_0, ⟨a0_1, a0_2⟩, ⟨a0_3, a0_4⟩⟩ : Site))
  | _, _ => none
def T_array_valid : Nat → List AV → List Blk → (AV → List Blk → Ans) → Ans := upd T_Q4_Great 126 s_array_valid
theorem g_array_valid : GOK Tryz.prog GT gbT T_array_valid XT := by
  refine GOK.upd g_Q4_Great (fun args w => Tryz.call126 args w) fun xs bs K r h => ?_
  unfold s_array_valid at h
  split at h
  · unfold F_array_valid at h
    simp only [cond_eq_ite] at h
    split at h
    · rename_i hd
      exact ⟨_, _, c_array_valid _ hd, h⟩
    · cases h
  · cases h
structure R_array_stations_0 where
  k : Nat
  p10 : Int
def run_array_stations_0 (p2 : Int) (p9 : Int) (m0 : List Site) : Nat → Int → R_array_stations_0
  | 0, p10 => ⟨2, p10⟩
  | n + 1, p10 => bif decide (p10 < p9) then (bif (decide ((0 : Int) ≤ p10) && decide (p10 < (m0.length : Int))) then (bif (m_array_valid (m0.getD p10.toNat (ET.z .site))).ok then (bif (!(m_array_valid (m0.getD p10.toNat (ET.z .site))).r0) then ⟨0, p10⟩ else run_array_stations_0 p2 p9 m0 n (w64 (p10 + (1 : Int)))) else ⟨2, p10⟩) else ⟨2, p10⟩) else ⟨1, p10⟩
def lp_array_stations_0 (p2 : Int) (p9 : Int) (m0 : List Site) (p10 : Int) : R_array_stations_0 := run_array_stations_0 p2 p9 m0 (2000 + (m0.length)) p10
abbrev H_array_stations_0 (p2 : Int) (p9 : Int) (_m0 : List Site) (p10 : Int) : TS := headT [2, 8, 9, 10] 18 [.v (.c (.d (.int .i64 p2))), .v (.c (.aslice 0 none)), .v (.c (.d (.int .i64 p9))), .v (.c (.d (.int .i64 p10)))]
theorem b_array_stations_0 (p2 : Int) (p9 : Int) (m0 : List Site) (p10 : Int) : evCode Tryz.prog GT EQT T_array_valid XT noL 80 (loopB Tryz.prog 99 0) (H_array_stations_0 p2 p9 m0 p10) [.arr none .site m0] 1 (normK 1 [2, 8, 9, 10]) =
    bif decide (p10 < p9) then (bif (decide ((0 : Int) ≤ p10) && decide (p10 < (m0.length : Int))) then (bif (m_array_valid (m0.getD p10.toNat (ET.z .site))).ok then (bif (!(m_array_valid (m0.getD p10.toNat (ET.z .site))).r0) then some (.st .ret (headT [2, 8, 9, 10] 18 [.v (.c (.d (.int .i64 (8 : Int)))), .v (.c (.aslice 0 none)), .v (.c (.d (.int .i64 p9))), .v (.c (.d (.int .i64 p10)))]) [.arr none .site m0] 1) else some (.st .normal (headT [2, 8, 9, 10] 18 [.v (.c (.d (.int .i64 p2))), .v (.c (.aslice 0 none)), .v (.c (.d (.int .i64 p9))), .v (.c (.d (.int .i64 (w64 (p10 + (1 : Int))))))]) [.arr none .site m0] 1)) else none) else none) else some (.st (.exit 0) (headT [2, 8, 9, 10] 18 [.v (.c (.d (.int .i64 p2))), .v (.c (.aslice 0 none)), .v (.c (.d (.int .i64 p9))), .v (.c (.d (.int .i64 p10)))]) [.arr none .site m0] 1) := by
  kernel_rfl
def o_array_stations_0 (p2 : Int) (p9 : Int) (m0 : List Site) (r : R_array_stations_0) : LT := .br (Nat.beq r.k 0) (.st .ret (headT [2, 8, 9, 10] 18 [.v (.c (.d (.int .i64 (8 : Int)))), .v (.c (.aslice 0 none)), .v (.c (.d (.int .i64 p9))), .v (.c (.d (.int .i64 r.p10)))]) [.arr none .site m0] 1) (.br (Nat.beq r.k 1) (.st (.exit 0) (headT [2, 8, 9, 10] 18 [.v (.c (.d (.int .i64 p2))), .v (.c (.aslice 0 none)), .v (.c (.d (.int .i64 p9))), .v (.c (.d (.int .i64 r.p10)))]) [.arr none .site m0] 1) (.no))
theorem r_array_stations_0 (p2 : Int) (p9 : Int) (m0 : List Site) : ∀ (n : Nat) (p10 : Int) (x : Ex) (T' : TS) (M' : List Blk) (N' : Nat), LReach (o_array_stations_0 p2 p9 m0 (run_array_stations_0 p2 p9 m0 n p10)) x T' M' N' → x ≠ .normal ∧ ∃ j, RoundsN Tryz.prog GT gbT 1 (loopB Tryz.prog 99 0) j (H_array_stations_0 p2 p9 m0 p10) [.arr none .site m0] 1 x T' M' N' := by
  have hL : LOKn Tryz.prog GT gbT 1 noL (loopsIn (loopB Tryz.prog 99 0)) := fun _ _ _ _ _ _ _ _ _ h => h.elim
  intro n
  induction n with
  | zero =>
    intro p10 x T' M' N' hr
    exact False.elim (redF (redF hr))
  | succ n ih =>
    intro p10 x T' M' N'
    rw [run_array_stations_0]
    exact viaE (b_array_stations_0 p2 p9 m0 p10) (condG (o := o_array_stations_0 p2 p9 m0) (condG (o := o_array_stations_0 p2 p9 m0) (condG (o := o_array_stations_0 p2 p9 m0) (condG (o := o_array_stations_0 p2 p9 m0) (fun he hr => stopN g_array_valid hEQT hmT hL he (by simp) (redT hr)) (fun he hr => goN g_array_valid hEQT hmT hL he (ih (w64 (p10 + (1 : Int))) x T' M' N' hr))) (fun _ hr => False.elim (redF (redF hr)))) (fun _ hr => False.elim (redF (redF hr)))) (fun he hr => stopN g_array_valid hEQT hmT hL he (by simp) (redT (redF hr))))
def f_array_stations_0 : List AV → List Blk → LT := fun vs Ms => match vs, Ms with
  | [.v (.c (.d (.int .i64 p2))), .v (.c (.aslice 0 none)), .v (.c (.d (.int .i64 p9))), .v (.c (.d (.int .i64 p10)))], [.arr none .site m0] => o_array_stations_0 p2 p9 m0 (lp_array_stations_0 p2 p9 m0 p10)
  | _, _ => .no
def L_array_stations_0 := LamN 4 18 1 [2, 8, 9, 10] f_array_stations_0
theorem k_array_stations_0 : LOKbn Tryz.prog GT gbT 1 L_array_stations_0 (loopB Tryz.prog 99 0) := by
  refine LOKbn.lamN (by kernel_rfl) fun vs Ms x T' M' N' hr => ?_
  unfold f_array_stations_0 at hr
  split at hr
  · obtain ⟨q1, j, q2⟩ := r_array_stations_0 _ _ _ _ _ x T' M' N' hr
    exact ⟨q1, j, q2⟩
  · exact hr.elim
structure O_array_stations where
  ok : Bool
  r0 : Int
def m_array_stations (a0 : List Site) : O_array_stations := bif decide ((8 : Int) < (a0.length : Int)) then ⟨true, (4 : Int)⟩ else (bif Nat.beq (lp_array_stations_0 (0 : Int) (a0.length : Int) a0 (0 : Int)).k 0 then ⟨true, (8 : Int)⟩ else (bif Nat.beq (lp_array_stations_0 (0 : Int) (a0.length : Int) a0 (0 : Int)).k 1 then ⟨true, (0 : Int)⟩ else ⟨false, 0⟩))
def F_array_stations (a0 : List Site) (K : AV → List Blk → Ans) (r : O_array_stations) : Ans := bif r.ok then K (.v (.c (.d (.int .i64 r.r0)))) [.arr none .site a0] else none
theorem e_array_stations (a0 : List Site) (K : AV → List Blk → Ans) : evFn Tryz.prog GT EQT T_array_valid XT (orL L_array_stations_0 noL) 80 99 [.v (.c (.aslice 0 none))] [.arr none .site a0] (fun v M => K (finR 1 v M).1 (finR 1 v M).2) = F_array_stations a0 K (m_array_stations a0) := by
  unfold m_array_stations
  refine Eq.trans ?_ (Eq.symm (pushT rfl (pushT rfl (pushT rfl rfl))))
  kernel_rfl
theorem lok_array_stations : ∀ fn c, Tryz.prog.funcs[99]? = some fn → fn.body = some c → LOKn Tryz.prog GT gbT 1 (orL L_array_stations_0 noL) (loopsIn c) := by
  refine LOKn.ofF fun b hb => ?_
  have e : loopsF Tryz.prog 99 = [loopB Tryz.prog 99 0] := by kernel_rfl
  rw [e] at hb
  simp only [List.mem_cons, List.not_mem_nil, or_false] at hb
  subst hb
  exact (LOKbn.or k_array_stations_0 (fun _ _ _ _ _ _ _ h => h.elim))
theorem c_array_stations (a0 : List Site) (hd : (m_array_stations a0).ok = true) : CallsA Tryz.prog GT gbT 99 [.v (.c (.aslice 0 none))] [.arr none .site a0] (.v (.c (.d (.int .i64 ((m_array_stations a0).r0))))) [.arr none .site a0] := by
  refine CallsA.ofEvR g_array_valid hEQT hmT (n0 := 1) rfl lok_array_stations ((e_array_stations a0 (fun v M => some (Res.fin v M))).trans ?_)
  unfold F_array_stations
  rw [hd]
  rfl
def s_array_stations : List AV → List Blk → (AV → List Blk → Ans) → Ans := fun xs bs K => match xs, bs with
  | [.v (.c (.aslice 0 none))], [.arr none .site a0] => F_array_stations a0 K (m_array_stations a0)
  | _, _ => none
def T_array_stations : Nat → List AV → List Blk → (AV → List Blk → Ans) → Ans := upd T_array_valid 99 s_array_stations
theorem g_array_stations : GOK Tryz.prog GT gbT T_array_stations XT := by
  refine GOK.upd g_array_valid (fun args w => Tryz.call99 args w) fun xs bs K r h => ?_
  unfold s_array_stations at h
  split at h
  · unfold F_array_stations at h
    simp only [cond_eq_ite] at h
    split at h
    · rename_i hd
      exact ⟨_, _, c_array_stations _ hd, h⟩
    · cases h
  · cases h
theorem c_array_pairs (a0 : Int) : CallsA Tryz.prog GT gbT 101 [.v (.c (.d (.int .i64 a0)))] [] (.v (.c (.fn 131 [0]))) [.rw 3 [.int .i64 a0]] :=
  CallsA.ofEvN g_array_stations hEQT hmT (n := 40) (Λ := noL) (fun _ M => M) (fun _ _ _ => .inl rfl) (fun _ _ _ _ => LOKn.nil) (by kernel_rfl)
def s_array_pairs : List AV → List Blk → (AV → List Blk → Ans) → Ans := fun xs bs K => match xs, bs with
  | [.v (.c (.d (.int .i64 a0)))], [] => K (.v (.c (.fn 131 [0]))) [.rw 3 [.int .i64 a0]]
  | _, _ => none
def T_array_pairs : Nat → List AV → List Blk → (AV → List Blk → Ans) → Ans := upd T_array_stations 101 s_array_pairs
theorem g_array_pairs : GOK Tryz.prog GT gbT T_array_pairs XT := by
  refine GOK.upd g_array_stations (fun args w => Tryz.call101 args w) fun xs bs K r h => ?_
  unfold s_array_pairs at h
  split at h
  · exact ⟨_, _, c_array_pairs _, h⟩
  · cases h
end Go.Ev

namespace Go.Ev
open Go Go.Proofs
structure R_array_place_0 where
  k : Nat
  p29 : Int
  m5 : List Placed
def run_array_place_0 (p28 : Int) (m0 : List Site) (q1 : Globe) (q3_0 : Int) : Nat → Int → List Placed → R_array_place_0
  | 0, p29, m5 => ⟨2, p29, m5⟩
  | n + 1, p29, m5 => bif decide (p29 < p28) then (bif (decide ((0 : Int) ≤ p29) && decide (p29 < (m0.length : Int))) then (bif ((atV q1 ((m0.getD p29.toNat (ET.z .site)).s) ((m0.getD p29.toNat (ET.z .site)).t)).2 != (0 : Int)) then ⟨0, p29, m5⟩ else (bif (decide ((0 : Int) ≤ p29) && decide (p29 < (m5.length : Int))) then run_array_place_0 p28 m0 q1 q3_0 n (w64 (p29 + (1 : Int))) (m5.set p29.toNat ⟨m0.getD p29.toNat (ET.z .site), (atV q1 ((m0.getD p29.toNat (ET.z .site)).s) ((m0.getD p29.toNat (ET.z .site)).t)).1⟩) else ⟨2, p29, m5⟩)) else ⟨2, p29, m5⟩) else ⟨1, p29, m5⟩
def lp_array_place_0 (p28 : Int) (m0 : List Site) (q1 : Globe) (q3_0 : Int) (p29 : Int) (m5 : List Placed) : R_array_place_0 := run_array_place_0 p28 m0 q1 q3_0 (2000 + (m0.length + m5.length)) p29 m5
abbrev H_array_place_0 (p28 : Int) (_m0 : List Site) (_q1 : Globe) (_q3_0 : Int) (p29 : Int) (_m5 : List Placed) : TS := headT [2, 4, 5, 8, 27, 28, 29] 88 [.v (.c (.ptr 1 0)), .v (.c (.ptr 2 0)), .v (.c (.ptr 3 0)), .v (.c (.ptr 4 0)), .v (.c (.aslice 0 none)), .v (.c (.d (.int .i64 p28))), .v (.c (.d (.int .i64 p29)))]
theorem b_array_place_0 (p28 : Int) (m0 : List Site) (q1 : Globe) (q3_0 : Int) (p29 : Int) (m5 : List Placed) : evCode Tryz.prog GT EQT T_array_pairs XT noL 120 (loopB Tryz.prog 76 0) (H_array_place_0 p28 m0 q1 q3_0 p29 m5) [.arr none .site m0, .rw 23 [.int .i64 q1.a, .int .i64 q1.b], .cell 126 .nilS, .rw 32 [.int .i64 q3_0], .cell 126 (.aslice 5 none), .arr (some 132) .placed m5] 6 (normK 1 [2, 4, 5, 8, 27, 28, 29]) =
    bif decide (p29 < p28) then (bif (decide ((0 : Int) ≤ p29) && decide (p29 < (m0.length : Int))) then (bif ((atV q1 ((m0.getD p29.toNat (ET.z .site)).s) ((m0.getD p29.toNat (ET.z .site)).t)).2 != (0 : Int)) then some (.st .ret (headT [2, 4, 5, 8, 27, 28, 29] 88 [.v (.c (.ptr 1 0)), .v (.c (.ptr 2 0)), .v (.c (.ptr 3 0)), .v (.c (.ptr 4 0)), .v (.c (.aslice 0 none)), .v (.c (.d (.int .i64 p28))), .v (.c (.d (.int .i64 p29)))]) [.arr none .site m0, .rw 23 [.int .i64 q1.a, .int .i64 q1.b], .cell 126 .nilS, .rw 32 [.int .i64 ((atV q1 ((m0.getD p29.toNat (ET.z .site)).s) ((m0.getD p29.toNat (ET.z .site)).t)).2)], .cell 126 (.aslice 5 none), .arr (some 132) .placed m5] 6) else (bif (decide ((0 : Int) ≤ p29) && decide (p29 < (m5.length : Int))) then some (.st .normal (headT [2, 4, 5, 8, 27, 28, 29] 88 [.v (.c (.ptr 1 0)), .v (.c (.ptr 2 0)), .v (.c (.ptr 3 0)), .v (.c (.ptr 4 0)), .v (.c (.aslice 0 none)), .v (.c (.d (.int .i64 p28))), .v (.c (.d (.int .i64 (w64 (p29 + (1 : Int))))))]) [.arr none .site m0, .rw 23 [.int .i64 q1.a, .int .i64 q1.b], .cell 126 .nilS, .rw 32 [.int .i64 q3_0], .cell 126 (.aslice 5 none), .arr (some 132) .placed (m5.set p29.toNat ⟨m0.getD p29.toNat (ET.z .site), (atV q1 ((m0.getD p29.toNat (ET.z .site)).s) ((m0.getD p29.toNat (ET.z .site)).t)).1⟩)] 6) else none)) else none) else some (.st (.exit 0) (headT [2, 4, 5, 8, 27, 28, 29] 88 [.v (.c (.ptr 1 0)), .v (.c (.ptr 2 0)), .v (.c (.ptr 3 0)), .v (.c (.ptr 4 0)), .v (.c (.aslice 0 none)), .v (.c (.d (.int .i64 p28))), .v (.c (.d (.int .i64 p29)))]) [.arr none .site m0, .rw 23 [.int .i64 q1.a, .int .i64 q1.b], .cell 126 .nilS, .rw 32 [.int .i64 q3_0], .cell 126 (.aslice 5 none), .arr (some 132) .placed m5] 6) := by
  kernel_rfl
def o_array_place_0 (p28 : Int) (m0 : List Site) (q1 : Globe) (q3_0 : Int) (r : R_array_place_0) : LT := .br (Nat.beq r.k 0) (.st .ret (headT [2, 4, 5, 8, 27, 28, 29] 88 [.v (.c (.ptr 1 0)), .v (.c (.ptr 2 0)), .v (.c (.ptr 3 0)), .v (.c (.ptr 4 0)), .v (.c (.aslice 0 none)), .v (.c (.d (.int .i64 p28))), .v (.c (.d (.int .i64 r.p29)))]) [.arr none .site m0, .rw 23 [.int .i64 q1.a, .int .i64 q1.b], .cell 126 .nilS, .rw 32 [.int .i64 ((atV q1 ((m0.getD r.p29.toNat (ET.z .site)).s) ((m0.getD r.p29.toNat (ET.z .site)).t)).2)], .cell 126 (.aslice 5 none), .arr (some 132) .placed r.m5] 6) (.br (Nat.beq r.k 1) (.st (.exit 0) (headT [2, 4, 5, 8, 27, 28, 29] 88 [.v (.c (.ptr 1 0)), .v (.c (.ptr 2 0)), .v (.c (.ptr 3 0)), .v (.c (.ptr 4 0)), .v (.c (.aslice 0 none)), .v (.c (.d (.int .i64 p28))), .v (.c (.d (.int .i64 r.p29)))]) [.arr none .site m0, .rw 23 [.int .i64 q1.a, .int .i64 q1.b], .cell 126 .nilS, .rw 32 [.int .i64 q3_0], .cell 126 (.aslice 5 none), .arr (some 132) .placed r.m5] 6) (.no))
theorem r_array_place_0 (p28 : Int) (m0 : List Site) (q1 : Globe) (q3_0 : Int) : ∀ (n : Nat) (p29 : Int) (m5 : List Placed) (x : Ex) (T' : TS) (M' : List Blk) (N' : Nat), LReach (o_array_place_0 p28 m0 q1 q3_0 (run_array_place_0 p28 m0 q1 q3_0 n p29 m5)) x T' M' N' → x ≠ .normal ∧ ∃ j, RoundsN Tryz.prog GT gbT 1 (loopB Tryz.prog 76 0) j (H_array_place_0 p28 m0 q1 q3_0 p29 m5) [.arr none .site m0, .rw 23 [.int .i64 q1.a, .int .i64 q1.b], .cell 126 .nilS, .rw 32 [.int .i64 q3_0], .cell 126 (.aslice 5 none), .arr (some 132) .placed m5] 6 x T' M' N' := by
  have hL : LOKn Tryz.prog GT gbT 1 noL (loopsIn (loopB Tryz.prog 76 0)) := fun _ _ _ _ _ _ _ _ _ h => h.elim
  intro n
  induction n with
  | zero =>
    intro p29 m5 x T' M' N' hr
    exact False.elim (redF (redF hr))
  | succ n ih =>
    intro p29 m5 x T' M' N'
    rw [run_array_place_0]
    exact viaE (b_array_place_0 p28 m0 q1 q3_0 p29 m5) (condG (o := o_array_place_0 p28 m0 q1 q3_0) (condG (o := o_array_place_0 p28 m0 q1 q3_0) (condG (o := o_array_place_0 p28 m0 q1 q3_0) (fun he hr => stopN g_array_pairs hEQT hmT hL he (by simp) (redT hr)) (condG (o := o_array_place_0 p28 m0 q1 q3_0) (fun he hr => goN g_array_pairs hEQT hmT hL he (ih (w64 (p29 + (1 : Int))) (m5.set p29.toNat ⟨m0.getD p29.toNat (ET.z .site), (atV q1 ((m0.getD p29.toNat (ET.z .site)).s) ((m0.getD p29.toNat (ET.z .site)).t)).1⟩) x T' M' N' hr)) (fun _ hr => False.elim (redF (redF hr))))) (fun _ hr => False.elim (redF (redF hr)))) (fun he hr => stopN g_array_pairs hEQT hmT hL he (by simp) (redT (redF hr))))
def f_array_place_0 : List AV → List Blk → LT := fun vs Ms => match vs, Ms with
  | [.v (.c (.ptr 1 0)), .v (.c (.ptr 2 0)), .v (.c (.ptr 3 0)), .v (.c (.ptr 4 0)), .v (.c (.aslice 0 none)), .v (.c (.d (.int .i64 p28))), .v (.c (.d (.int .i64 p29)))], [.arr none .site m0, .rw 23 [.int .i64 q1_0, .int .i64 q1_1], .cell 126 .nilS, .rw 32 [.int .i64 q3_0], .cell 126 (.aslice 5 none), .arr (some 132) .placed m5] => o_array_place_0 p28 m0 (⟨q1_0, q1_1⟩ : Globe) q3_0 (lp_array_place_0 p28 m0 (⟨q1_0, q1_1⟩ : Globe) q3_0 p29 m5)
  | _, _ => .no
def L_array_place_0 := LamN 9 88 1 [2, 4, 5, 8, 27, 28, 29] f_array_place_0
theorem k_array_place_0 : LOKbn Tryz.prog GT gbT 1 L_array_place_0 (loopB Tryz.prog 76 0) := by
  refine LOKbn.lamN (by kernel_rfl) fun vs Ms x T' M' N' hr => ?_
  unfold f_array_place_0 at hr
  split at hr
  · obtain ⟨q1, j, q2⟩ := r_array_place_0 _ _ _ _ _ _ _ x T' M' N' hr
    exact ⟨q1, j, q2⟩
  · exact hr.elim
abbrev TP := T_array_pairs
theorem gP : GOK Tryz.prog GT gbT TP XT := g_array_pairs
abbrev LP := (orL L_array_place_0 noL)
structure O0_array_place where
  k : Nat
  e : Int
  ps : List Placed
def m0_array_place (a0 : Globe) (a1 : List Site) : O0_array_place := bif ((checkG a0) != (0 : Int)) then ⟨0, (checkG a0), []⟩ else (bif (m_array_stations a1).ok then (bif ((m_array_stations a1).r0 != (0 : Int)) then ⟨0, (m_array_stations a1).r0, []⟩ else (bif (decide ((a1.length : Int) = (a1.length : Int)) && (decide (0 ≤ (a1.length : Int)) && (decide ((a1.length : Int) ≤ 1048576) && ((11 == 11) && (Nat.blt 0 11 && Nat.ble 96 4096))))) then (bif Nat.beq (lp_array_place_0 (a1.length : Int) a1 a0 (0 : Int) (0 : Int) (List.replicate a1.length (⟨⟨ByteArray.empty, ⟨(0 : Int), (0 : Int)⟩, ⟨(0 : Int), (0 : Int)⟩⟩, ⟨⟨(0 : Int), (0 : Int)⟩, ⟨(0 : Int), (0 : Int)⟩, ⟨(0 : Int), (0 : Int)⟩⟩⟩ : Placed))).k 0 then ⟨0, (atV a0 ((a1.getD ((lp_array_place_0 (a1.length : Int) a1 a0 (0 : Int) (0 : Int) (List.replicate a1.length (⟨⟨ByteArray.empty, ⟨(0 : Int), (0 : Int)⟩, ⟨(0 : Int), (0 : Int)⟩⟩, ⟨⟨(0 : Int), (0 : Int)⟩, ⟨(0 : Int), (0 : Int)⟩, ⟨(0 : Int), (0 : Int)⟩⟩⟩ : Placed))).p29).toNat (ET.z .site)).s) ((a1.getD ((lp_array_place_0 (a1.length : Int) a1 a0 (0 : Int) (0 : Int) (List.replicate a1.length (⟨⟨ByteArray.empty, ⟨(0 : Int), (0 : Int)⟩, ⟨(0 : Int), (0 : Int)⟩⟩, ⟨⟨(0 : Int), (0 : Int)⟩, ⟨(0 : Int), (0 : Int)⟩, ⟨(0 : Int), (0 : Int)⟩⟩⟩ : Placed))).p29).toNat (ET.z .site)).t)).2, []⟩ else (bif Nat.beq (lp_array_place_0 (a1.length : Int) a1 a0 (0 : Int) (0 : Int) (List.replicate a1.length (⟨⟨ByteArray.empty, ⟨(0 : Int), (0 : Int)⟩, ⟨(0 : Int), (0 : Int)⟩⟩, ⟨⟨(0 : Int), (0 : Int)⟩, ⟨(0 : Int), (0 : Int)⟩, ⟨(0 : Int), (0 : Int)⟩⟩⟩ : Placed))).k 1 then ⟨1, 0, ((lp_array_place_0 (a1.length : Int) a1 a0 (0 : Int) (0 : Int) (List.replicate a1.length (⟨⟨ByteArray.empty, ⟨(0 : Int), (0 : Int)⟩, ⟨(0 : Int), (0 : Int)⟩⟩, ⟨⟨(0 : Int), (0 : Int)⟩, ⟨(0 : Int), (0 : Int)⟩, ⟨(0 : Int), (0 : Int)⟩⟩⟩ : Placed))).m5)⟩ else ⟨2, 0, []⟩)) else ⟨2, 0, []⟩)) else ⟨2, 0, []⟩)
def F0_array_place (_a0 : Globe) (a1 : List Site) (r : O0_array_place) : Ans := bif Nat.beq r.k 0 then some (.st .ret (headT [4, 5] 88 [.v (.c (.ptr 1 0)), .v (.c (.ptr 2 0))]) [.arr none .site a1, .cell 126 .nilS, .rw 32 [.int .i64 r.e]] 3) else bif Nat.beq r.k 1 then some (.st .normal (headT [4, 5, 8, 55] 88 [.v (.c (.ptr 1 0)), .v (.c (.ptr 2 0)), .v (.c (.ptr 3 0)), .v (.c (.fn 131 [4]))]) [.arr none .site a1, .cell 126 .nilS, .rw 32 [.int .i64 (0 : Int)], .cell 126 (.aslice 5 none), .rw 3 [.int .i64 (r.ps.length : Int)], .arr (some 132) .placed r.ps] 6) else none
theorem w0_array_place (a0 : Globe) (a1 : List Site) : evList Tryz.prog GT EQT TP XT LP 120 (splitC 5 (bodyC Tryz.prog 76)).1 (frameT [.v (.agg [.int .i64 a0.a, .int .i64 a0.b]), .v (.c (.aslice 0 none))] 86) [.arr none .site a1] 1 (placeK Tryz.prog GT EQT TP XT LP 120 (fstC (fstC (splitC 5 (bodyC Tryz.prog 76)).2)) 1 [4, 5] [4, 5, 8, 55]) =
    bif ((checkG a0) != (0 : Int)) then some (.st .ret (headT [4, 5] 88 [.v (.c (.ptr 1 0)), .v (.c (.ptr 2 0))]) [.arr none .site a1, .cell 126 .nilS, .rw 32 [.int .i64 (checkG a0)]] 3) else (bif (m_array_stations a1).ok then (bif ((m_array_stations a1).r0 != (0 : Int)) then some (.st .ret (headT [4, 5] 88 [.v (.c (.ptr 1 0)), .v (.c (.ptr 2 0))]) [.arr none .site a1, .cell 126 .nilS, .rw 32 [.int .i64 ((m_array_stations a1).r0)]] 3) else (bif (decide ((a1.length : Int) = (a1.length : Int)) && (decide (0 ≤ (a1.length : Int)) && (decide ((a1.length : Int) ≤ 1048576) && ((11 == 11) && (Nat.blt 0 11 && Nat.ble 96 4096))))) then (bif Nat.beq (lp_array_place_0 (a1.length : Int) a1 a0 (0 : Int) (0 : Int) (List.replicate a1.length (⟨⟨ByteArray.empty, ⟨(0 : Int), (0 : Int)⟩, ⟨(0 : Int), (0 : Int)⟩⟩, ⟨⟨(0 : Int), (0 : Int)⟩, ⟨(0 : Int), (0 : Int)⟩, ⟨(0 : Int), (0 : Int)⟩⟩⟩ : Placed))).k 0 then some (.st .ret (headT [4, 5] 88 [.v (.c (.ptr 1 0)), .v (.c (.ptr 2 0))]) [.arr none .site a1, .cell 126 .nilS, .rw 32 [.int .i64 ((atV a0 ((a1.getD ((lp_array_place_0 (a1.length : Int) a1 a0 (0 : Int) (0 : Int) (List.replicate a1.length (⟨⟨ByteArray.empty, ⟨(0 : Int), (0 : Int)⟩, ⟨(0 : Int), (0 : Int)⟩⟩, ⟨⟨(0 : Int), (0 : Int)⟩, ⟨(0 : Int), (0 : Int)⟩, ⟨(0 : Int), (0 : Int)⟩⟩⟩ : Placed))).p29).toNat (ET.z .site)).s) ((a1.getD ((lp_array_place_0 (a1.length : Int) a1 a0 (0 : Int) (0 : Int) (List.replicate a1.length (⟨⟨ByteArray.empty, ⟨(0 : Int), (0 : Int)⟩, ⟨(0 : Int), (0 : Int)⟩⟩, ⟨⟨(0 : Int), (0 : Int)⟩, ⟨(0 : Int), (0 : Int)⟩, ⟨(0 : Int), (0 : Int)⟩⟩⟩ : Placed))).p29).toNat (ET.z .site)).t)).2)]] 3) else (bif Nat.beq (lp_array_place_0 (a1.length : Int) a1 a0 (0 : Int) (0 : Int) (List.replicate a1.length (⟨⟨ByteArray.empty, ⟨(0 : Int), (0 : Int)⟩, ⟨(0 : Int), (0 : Int)⟩⟩, ⟨⟨(0 : Int), (0 : Int)⟩, ⟨(0 : Int), (0 : Int)⟩, ⟨(0 : Int), (0 : Int)⟩⟩⟩ : Placed))).k 1 then some (.st .normal (headT [4, 5, 8, 55] 88 [.v (.c (.ptr 1 0)), .v (.c (.ptr 2 0)), .v (.c (.ptr 3 0)), .v (.c (.fn 131 [4]))]) [.arr none .site a1, .cell 126 .nilS, .rw 32 [.int .i64 (0 : Int)], .cell 126 (.aslice 5 none), .rw 3 [.int .i64 (((lp_array_place_0 (a1.length : Int) a1 a0 (0 : Int) (0 : Int) (List.replicate a1.length (⟨⟨ByteArray.empty, ⟨(0 : Int), (0 : Int)⟩, ⟨(0 : Int), (0 : Int)⟩⟩, ⟨⟨(0 : Int), (0 : Int)⟩, ⟨(0 : Int), (0 : Int)⟩, ⟨(0 : Int), (0 : Int)⟩⟩⟩ : Placed))).m5).length : Int)], .arr (some 132) .placed ((lp_array_place_0 (a1.length : Int) a1 a0 (0 : Int) (0 : Int) (List.replicate a1.length (⟨⟨ByteArray.empty, ⟨(0 : Int), (0 : Int)⟩, ⟨(0 : Int), (0 : Int)⟩⟩, ⟨⟨(0 : Int), (0 : Int)⟩, ⟨(0 : Int), (0 : Int)⟩, ⟨(0 : Int), (0 : Int)⟩⟩⟩ : Placed))).m5)] 6) else none)) else none)) else none) := by
  kernel_rfl
theorem e0_array_place (a0 : Globe) (a1 : List Site) : evList Tryz.prog GT EQT TP XT LP 120 (splitC 5 (bodyC Tryz.prog 76)).1 (frameT [.v (.agg [.int .i64 a0.a, .int .i64 a0.b]), .v (.c (.aslice 0 none))] 86) [.arr none .site a1] 1 (placeK Tryz.prog GT EQT TP XT LP 120 (fstC (fstC (splitC 5 (bodyC Tryz.prog 76)).2)) 1 [4, 5] [4, 5, 8, 55]) = F0_array_place a0 a1 (m0_array_place a0 a1) := by
  refine (w0_array_place a0 a1).trans ?_
  unfold m0_array_place
  exact (condF rfl (condF (condF rfl (condF (condF rfl (condF rfl rfl)) rfl)) rfl))
theorem wa_array_place (a1 : List Site) (ps : List Placed) (i j : Int) : evCode Tryz.prog GT EQT TP XT noL 120 (asgC (sndC (fstC (splitC 5 (bodyC Tryz.prog 76)).2))) (tset (.v (.agg [.int .i64 i, .int .i64 j])) (headT [4, 5, 8, 55] 88 [.v (.c (.ptr 1 0)), .v (.c (.ptr 2 0)), .v (.c (.ptr 3 0)), .v (.c (.fn 131 [4]))]) 56) [.arr none .site a1, .cell 126 .nilS, .rw 32 [.int .i64 (0 : Int)], .cell 126 (.aslice 5 none), .dead, .arr (some 132) .placed ps] 6 (fun x T M N => some (.st x T M N)) =
    some (.st .normal (tset (.v (.c (.ptr 6 0))) (tset (.v (.agg [.int .i64 i, .int .i64 j])) (headT [4, 5, 8, 55] 88 [.v (.c (.ptr 1 0)), .v (.c (.ptr 2 0)), .v (.c (.ptr 3 0)), .v (.c (.fn 131 [4]))]) 56) 13) [.arr none .site a1, .cell 126 .nilS, .rw 32 [.int .i64 (0 : Int)], .cell 126 (.aslice 5 none), .dead, .arr (some 132) .placed ps, .rw 161 [.int .i64 i, .int .i64 j]] 7) := by
  kernel_rfl
theorem wb_array_place (a1 : List Site) (ps : List Placed) (i j : Int) : evCode Tryz.prog GT EQT TP XT noL 120 (bodC (sndC (fstC (splitC 5 (bodyC Tryz.prog 76)).2))) (tset (.v (.c (.ptr 6 0))) (tset (.v (.agg [.int .i64 i, .int .i64 j])) (headT [4, 5, 8, 55] 88 [.v (.c (.ptr 1 0)), .v (.c (.ptr 2 0)), .v (.c (.ptr 3 0)), .v (.c (.fn 131 [4]))]) 56) 13) [.arr none .site a1, .cell 126 .nilS, .rw 32 [.int .i64 (0 : Int)], .cell 126 (.aslice 5 none), .dead, .arr (some 132) .placed ps, .rw 161 [.int .i64 i, .int .i64 j]] 7 (cutR 6) =
    bif (decide ((0 : Int) ≤ i) && decide (i < (ps.length : Int))) then (bif (decide ((0 : Int) ≤ j) && decide (j < (ps.length : Int))) then (bif ((((ps.getD i.toNat (ET.z .placed)).site).name).data.toList == (((ps.getD j.toNat (ET.z .placed)).site).name).data.toList) then some (.st .ret ⟨0, .any, []⟩ [.arr none .site a1, .cell 126 .nilS, .rw 32 [.int .i64 (14 : Int)], .cell 126 (.aslice 5 none), .dead, .arr (some 132) .placed ps] 7) else (bif (decide ((0 : Int) ≤ i) && decide (i < (ps.length : Int))) then (bif (decide ((0 : Int) ≤ j) && decide (j < (ps.length : Int))) then (bif eqAll [.int .i64 ((((ps.getD i.toNat (ET.z .placed)).at_).x).num), .int .i64 ((((ps.getD i.toNat (ET.z .placed)).at_).x).den), .int .i64 ((((ps.getD i.toNat (ET.z .placed)).at_).y).num), .int .i64 ((((ps.getD i.toNat (ET.z .placed)).at_).y).den), .int .i64 ((((ps.getD i.toNat (ET.z .placed)).at_).z).num), .int .i64 ((((ps.getD i.toNat (ET.z .placed)).at_).z).den)] [.int .i64 ((((ps.getD j.toNat (ET.z .placed)).at_).x).num), .int .i64 ((((ps.getD j.toNat (ET.z .placed)).at_).x).den), .int .i64 ((((ps.getD j.toNat (ET.z .placed)).at_).y).num), .int .i64 ((((ps.getD j.toNat (ET.z .placed)).at_).y).den), .int .i64 ((((ps.getD j.toNat (ET.z .placed)).at_).z).num), .int .i64 ((((ps.getD j.toNat (ET.z .placed)).at_).z).den)] then some (.st .ret ⟨0, .any, []⟩ [.arr none .site a1, .cell 126 .nilS, .rw 32 [.int .i64 (14 : Int)], .cell 126 (.aslice 5 none), .dead, .arr (some 132) .placed ps] 7) else some (.st .normal ⟨0, .any, []⟩ [.arr none .site a1, .cell 126 .nilS, .rw 32 [.int .i64 (0 : Int)], .cell 126 (.aslice 5 none), .dead, .arr (some 132) .placed ps] 7)) else none) else none)) else none) else none := by
  kernel_rfl
theorem lok_array_place : ∀ fn c, Tryz.prog.funcs[76]? = some fn → fn.body = some c → LOKn Tryz.prog GT gbT 1 LP (loopsIn c) := by
  refine LOKn.ofF fun b hb => ?_
  have e : loopsF Tryz.prog 76 = [loopB Tryz.prog 76 0] := by kernel_rfl
  rw [e] at hb
  simp only [List.mem_cons, List.not_mem_nil, or_false] at hb
  subst hb
  exact (LOKbn.or k_array_place_0 (fun _ _ _ _ _ _ _ h => h.elim))
end Go.Ev

namespace Go.Proofs
open Go.RowKit Go.Shelf
attribute [local go_sem] Oper.semAt_some
abbrev PairN (n : Nat) : Type := { p : Nat × Nat // p.1 < p.2 ∧ p.2 < n }
def encP {n : Nat} (x : PairN n) : Array Value := #[.agg #[.int .i64 (x.1.1 : Int), .int .i64 (x.1.2 : Int)]]
set_option maxHeartbeats 4000000 in
theorem pairs1_in (m l bn n : Nat) (hn : n ≤ 9223372036854775807) (J Jx : List (PairN n) → World → Prop)
    (hY : ∀ pre x W, J pre W → pre.length < n * n → YieldAt Fence.wide (m - 1) Tryz.prog l (encP x) W fun e W' =>
      (e = .returned (.bool true) ∧ J (pre ++ [x]) W' ∧ W'.heap[bn]? = W.heap[bn]?) ∨ (e = .returned (.bool false) ∧ Jx (pre ++ [x]) W'))
    (W : World) (hb : W.cell? ⟨bn, 0, none⟩ = some (.int .i64 n)) (h0 : J [] W) :
    CallsIn Fence.wide m Tryz.prog 131 #[.func (.yield l) #[] #[], .pointer (some ⟨bn, 0, none⟩)] W fun e W' => (∃ v, e = .returned v) ∧
      ((∃ ys, (∀ p, p ∈ ys) ∧ J ys W') ∨ (∃ pre, True ∧ Jx pre W')) := by
  refine callsIn_of_wp Tryz.func131 rfl trivial ?_ rfl
  simp only [Tryz.ntmps131, List.size_toArray, List.length_cons, List.length_nil, Nat.reduceAdd, Nat.reduceSub, Array.replicate_succ, Array.replicate_zero, List.push_toArray, List.append_toArray, List.nil_append, List.cons_append]
  gi_wp2
  gi_loopw [6] (fun i wr => ∃ k : Nat, k ≤ n ∧ i = .int .i64 k ∧ ∃ pre, J pre wr ∧ (∀ p : PairN n, p.1.1 < k → p ∈ pre) ∧ pre.length ≤ k * n ∧ wr.heap[bn]? = W.heap[bn]?)
    (fun i _ => n - (intOf i).toNat)
  case atStart => exact ⟨0, Nat.zero_le _, rfl, [], h0, fun p hp => by omega, by simp, rfl⟩
  case round =>
    obtain ⟨k, hk, rfl, pre, hJ, hall, hlen, hbn⟩ := hrel
    by_cases hlt : k < n
    · have hbc : wr.cell? ⟨bn, 0, none⟩ = some (.int .i64 n) := (World.cell?_of_block (a := ⟨bn, 0, none⟩) hbn).trans hb
      gi_wp2
      gi_loopw [4] (fun j wq => ∃ c : Nat, k + 1 ≤ c ∧ c ≤ n ∧ j = .int .i64 c ∧ ∃ pre, J pre wq ∧ (∀ p : PairN n, p.1.1 < k → p ∈ pre) ∧ (∀ p : PairN n, p.1.1 = k → p.1.2 < c → p ∈ pre) ∧ pre.length ≤ k * n + c ∧ wq.heap[bn]? = W.heap[bn]?)
        (fun j _ => n - (intOf j).toNat)
      case atStart => exact ⟨k + 1, Nat.le_refl _, hlt, by simp, pre, hJ, hall, fun p h1 h2 => by have := p.2.1; omega, by omega, hbn⟩
      case round =>
        clear hJ hall hlen hbn hbc pre
        obtain ⟨c, hc1, hc2, rfl, pre, hJ, hall, hrow, hlen, hbn⟩ := hrel
        have hbc : wr.cell? ⟨bn, 0, none⟩ = some (.int .i64 n) := (World.cell?_of_block (a := ⟨bn, 0, none⟩) hbn).trans hb
        by_cases hlt2 : c < n
        · have hkn : k * n + n ≤ n * n := by rw [← Nat.succ_mul]; exact Nat.mul_le_mul_right n hlt
          obtain ⟨fn, tmps, assign, body, hy, hR⟩ := hY pre ⟨(k, c), by omega, hlt2⟩ wr hJ (by omega)
          simp only [encP] at hy
          gi_wp2
          refine ⟨fun h => (by cases h), hR.mono ?_⟩
          rintro e W3 (⟨rfl, hJ3, hk3⟩ | ⟨rfl, hJx3⟩)
          · gi_wp2
            go_roundw
            case rel =>
              refine ⟨c + 1, by omega, by omega, by simp, _, hJ3, fun p hp => by simp [hall p hp], fun p h1 h2 => ?_, by simp; omega, hk3.trans hbn⟩
              by_cases h3 : p.1.2 < c
              · simp [hrow p h1 h3]
              · have : p = ⟨(k, c), by omega, hlt2⟩ := Subtype.ext (Prod.ext h1 (show p.1.2 = c by omega))
                simp [this]
            case measure => simp [intOf]; omega
          · gi_wp2
            refine bodyPost_ret (results_none rfl _ _ _) rfl ?_
            exact ⟨⟨_, rfl⟩, .inr ⟨_, trivial, hJx3⟩⟩
        · obtain rfl : c = n := by omega
          gi_wp2
          go_roundw
          case rel =>
            refine ⟨k + 1, by omega, by simp, pre, hJ, fun p hp => ?_, by rw [Nat.succ_mul]; exact hlen, hbn⟩
            by_cases h3 : p.1.1 < k
            · exact hall p h3
            · exact hrow p (by omega) p.2.2
          case measure => simp [intOf]; omega
    · obtain rfl : k = n := by omega
      gi_wp2
      go_end0
      exact ⟨⟨_, rfl⟩, .inl ⟨pre, fun p => hall p (by have := p.2; omega), hJ⟩⟩
end Go.Proofs

