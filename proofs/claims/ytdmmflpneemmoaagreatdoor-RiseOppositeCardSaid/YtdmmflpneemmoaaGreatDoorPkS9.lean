/-
  Contracts of functions: what each returns. No condition beyond those of the statements.
  Plain functions that mirror functions of the program, and that it computes them. No condition beyond those of the statements.
  The iterator over the pairs of n stations: it hands each pair to the loop's body, or stops where the body says so. No condition.
  array.place: the stations with their places, or an error; by a loop over the pairs of stations. No condition.
-/
import Derived.Test.YtdmmflpneemmoaaGreatDoorPkS8
import Derived.RangeFuncNested
import Derived.RangeFuncBound
import Derived.RangeFuncCalls
import Derived.RangeFuncLeaves
import Derived.Shelf.Abstract
import Derived.WalkKit
import Derived.OwnWalkIn
import Derived.TacticsInMore
import Derived.LoopNIn
import Derived.LoopIn
import Derived.Test.YtdmmflpneemmoaaGreatDoorRows
set_option maxRecDepth 100000
namespace Go.Ev
open Go Go.Proofs
theorem w_Q5_Cos (k n : Int) (K : AV → List Blk → Ans) : evFn Tryz.prog GT EQT T_Q5_Cosine XT noL 60 124 [.v (.c (.d (.int .i64 k))), .v (.c (.d (.int .i64 n)))] [] (fun v M => K v (M.take ([] : List Blk).length)) = cosRAns K k n := by
  kernel_rfl
theorem c_Q5_Cos (k n : Int) : CallsA Tryz.prog GT gbT 124 [.v (.c (.d (.int .i64 k))), .v (.c (.d (.int .i64 n)))] [] (rSpanE (cosR k n)) [] := by
  refine CallsA.ofOk fun hok => ?_
  have hw := w_Q5_Cos k n (fun v M => some (Res.fin v M))
  refine CallsA.ofEv (Γ := T_Q5_Cosine) (X := XT) (Λ := noL) (EQ := EQT) (n := 60) g_Q5_Cosine hEQT hmT (fun _ _ _ _ => noL_ok _) (hw.trans ?_)
  have h_k := inR_i64 (hok (.int .i64 k) (by simp [datasL, datas]))
  have h_n := inR_i64 (hok (.int .i64 n) (by simp [datasL, datas]))
  clear hok hw
  exact cosRAns_ok (K := fun v M => some (Res.fin v M))
def s_Q5_Cos : List AV → List Blk → (AV → List Blk → Ans) → Ans := fun xs bs K => match xs, bs with
  | [.v (.c (.d (.int .i64 k))), .v (.c (.d (.int .i64 n)))], [] => K (rSpanE (cosR k n)) []
  | _, _ => none
def T_Q5_Cos : Nat → List AV → List Blk → (AV → List Blk → Ans) → Ans := upd T_Q5_Cosine 124 s_Q5_Cos
theorem g_Q5_Cos : GOK Tryz.prog GT gbT T_Q5_Cos XT := by
  refine GOK.upd g_Q5_Cosine (fun args w => Tryz.call124 args w) fun xs bs K r h => ?_
  unfold s_Q5_Cos at h
  split at h
  · exact ⟨_, _, c_Q5_Cos _ _, h⟩
  · cases h
theorem w_Q5_Sin (k n : Int) (K : AV → List Blk → Ans) : evFn Tryz.prog GT EQT T_Q5_Cos XT noL 60 125 [.v (.c (.d (.int .i64 k))), .v (.c (.d (.int .i64 n)))] [] (fun v M => K v (M.take ([] : List Blk).length)) = sinRAns K k n := by
  kernel_rfl
theorem c_Q5_Sin (k n : Int) : CallsA Tryz.prog GT gbT 125 [.v (.c (.d (.int .i64 k))), .v (.c (.d (.int .i64 n)))] [] (rSpanE (sinR k n)) [] := by
  refine CallsA.ofOk fun hok => ?_
  have hw := w_Q5_Sin k n (fun v M => some (Res.fin v M))
  refine CallsA.ofEv (Γ := T_Q5_Cos) (X := XT) (Λ := noL) (EQ := EQT) (n := 60) g_Q5_Cos hEQT hmT (fun _ _ _ _ => noL_ok _) (hw.trans ?_)
  have h_k := inR_i64 (hok (.int .i64 k) (by simp [datasL, datas]))
  have h_n := inR_i64 (hok (.int .i64 n) (by simp [datasL, datas]))
  clear hok hw
  exact sinRAns_ok (K := fun v M => some (Res.fin v M))
def s_Q5_Sin : List AV → List Blk → (AV → List Blk → Ans) → Ans := fun xs bs K => match xs, bs with
  | [.v (.c (.d (.int .i64 k))), .v (.c (.d (.int .i64 n)))], [] => K (rSpanE (sinR k n)) []
  | _, _ => none
def T_Q5_Sin : Nat → List AV → List Blk → (AV → List Blk → Ans) → Ans := upd T_Q5_Cos 125 s_Q5_Sin
theorem g_Q5_Sin : GOK Tryz.prog GT gbT T_Q5_Sin XT := by
  refine GOK.upd g_Q5_Cos (fun args w => Tryz.call125 args w) fun xs bs K r h => ?_
  unfold s_Q5_Sin at h
  split at h
  · exact ⟨_, _, c_Q5_Sin _ _, h⟩
  · cases h
theorem w_Q6_Tick (t : Int) (K : AV → List Blk → Ans) : evFn Tryz.prog GT EQT T_Q5_Sin XT noL 60 36 [.v (.c (.d (.int .i64 t)))] [] (fun v M => K v (M.take ([] : List Blk).length)) = K (rB (tickB t)) [] := by
  simp only [tickB, pullK K]
  kernel_rfl
theorem c_Q6_Tick (t : Int) : CallsA Tryz.prog GT gbT 36 [.v (.c (.d (.int .i64 t)))] [] (rB (tickB t)) [] := by
  refine CallsA.ofOk fun hok => ?_
  have hw := w_Q6_Tick t (fun v M => some (Res.fin v M))
  refine CallsA.ofEv (Γ := T_Q5_Sin) (X := XT) (Λ := noL) (EQ := EQT) (n := 60) g_Q5_Sin hEQT hmT (fun _ _ _ _ => noL_ok _) (hw.trans ?_)
  rfl
def s_Q6_Tick : List AV → List Blk → (AV → List Blk → Ans) → Ans := fun xs bs K => match xs, bs with
  | [.v (.c (.d (.int .i64 t)))], [] => K (rB (tickB t)) []
  | _, _ => none
def T_Q6_Tick : Nat → List AV → List Blk → (AV → List Blk → Ans) → Ans := upd T_Q5_Sin 36 s_Q6_Tick
theorem g_Q6_Tick : GOK Tryz.prog GT gbT T_Q6_Tick XT := by
  refine GOK.upd g_Q5_Sin (fun args w => Tryz.call36 args w) fun xs bs K r h => ?_
  unfold s_Q6_Tick at h
  split at h
  · exact ⟨_, _, c_Q6_Tick _, h⟩
  · cases h
theorem w_Q6_sines (k : Int) (K : AV → List Blk → Ans) : evFn Tryz.prog GT EQT T_Q6_Tick XT noL 60 100 [.v (.c (.d (.int .i64 k)))] [] (fun v M => K v (M.take ([] : List Blk).length)) = K (rSpan2 ((cosR k 720).1, (sinR k 720).1)) [] := by
  kernel_rfl
theorem c_Q6_sines (k : Int) : CallsA Tryz.prog GT gbT 100 [.v (.c (.d (.int .i64 k)))] [] (rSpan2 (cosT k, sinT k)) [] := by
  refine CallsA.ofOk fun hok => ?_
  have hw := w_Q6_sines k (fun v M => some (Res.fin v M))
  refine CallsA.ofEv (Γ := T_Q6_Tick) (X := XT) (Λ := noL) (EQ := EQT) (n := 60) g_Q6_Tick hEQT hmT (fun _ _ _ _ => noL_ok _) (hw.trans ?_)
  have h_k := inR_i64 (hok (.int .i64 k) (by simp [datasL, datas]))
  clear hok hw
  refine congrArg (fun v => some (Res.fin v [])) ?_
  rw [cosR720, sinR720]
def s_Q6_sines : List AV → List Blk → (AV → List Blk → Ans) → Ans := fun xs bs K => match xs, bs with
  | [.v (.c (.d (.int .i64 k)))], [] => K (rSpan2 (cosT k, sinT k)) []
  | _, _ => none
def T_Q6_sines : Nat → List AV → List Blk → (AV → List Blk → Ans) → Ans := upd T_Q6_Tick 100 s_Q6_sines
theorem g_Q6_sines : GOK Tryz.prog GT gbT T_Q6_sines XT := by
  refine GOK.upd g_Q6_Tick (fun args w => Tryz.call100 args w) fun xs bs K r h => ?_
  unfold s_Q6_sines at h
  split at h
  · exact ⟨_, _, c_Q6_sines _, h⟩
  · cases h
theorem w_Q6_Direction (s1 : ByteArray) (s2 : Int) (s3 : Int) (t : Int) (K : AV → List Blk → Ans) : evFn Tryz.prog GT EQT T_Q6_sines XT noL 60 62 [.v (.agg [.str s1, .int .i64 s2, .int .i64 s3]), .v (.c (.d (.int .i64 t)))] [] (fun v M => K v (M.take ([] : List Blk).length)) = K (rDir (dirR s2 s3 t)) [] := by
  kernel_rfl
theorem c_Q6_Direction (s1 : ByteArray) (s2 : Int) (s3 : Int) (t : Int) : CallsA Tryz.prog GT gbT 62 [.v (.agg [.str s1, .int .i64 s2, .int .i64 s3]), .v (.c (.d (.int .i64 t)))] [] (rDir (dirR s2 s3 t)) [] := by
  refine CallsA.ofOk fun hok => ?_
  have hw := w_Q6_Direction s1 s2 s3 t (fun v M => some (Res.fin v M))
  refine CallsA.ofEv (Γ := T_Q6_sines) (X := XT) (Λ := noL) (EQ := EQT) (n := 60) g_Q6_sines hEQT hmT (fun _ _ _ _ => noL_ok _) (hw.trans ?_)
  rfl
def s_Q6_Direction : List AV → List Blk → (AV → List Blk → Ans) → Ans := fun xs bs K => match xs, bs with
  | [.v (.agg [.str _, .int .i64 s2, .int .i64 s3]), .v (.c (.d (.int .i64 t)))], [] => K (rDir (dirR s2 s3 t)) []
  | _, _ => none
def T_Q6_Direction : Nat → List AV → List Blk → (AV → List Blk → Ans) → Ans := upd T_Q6_sines 62 s_Q6_Direction
theorem g_Q6_Direction : GOK Tryz.prog GT gbT T_Q6_Direction XT := by
  refine GOK.upd g_Q6_sines (fun args w => Tryz.call62 args w) fun xs bs K r h => ?_
  unfold s_Q6_Direction at h
  split at h
  · exact ⟨_, _, c_Q6_Direction _ _ _ _, h⟩
  · cases h
theorem w_Q6_Valid (d1 d2 d3 d4 d5 d6 : Int) (K : AV → List Blk → Ans) : evFn Tryz.prog GT EQT T_Q6_Direction XT noL 60 96 [.v (.agg [.int .i64 d1, .int .i64 d2, .int .i64 d3, .int .i64 d4, .int .i64 d5, .int .i64 d6])] [] (fun v M => K v (M.take ([] : List Blk).length)) = dirOkRef K ⟨⟨d1, d2⟩, ⟨d3, d4⟩, ⟨d5, d6⟩⟩ := by
  kernel_rfl
theorem c_Q6_Valid (d1 d2 d3 d4 d5 d6 : Int) : CallsA Tryz.prog GT gbT 96 [.v (.agg [.int .i64 d1, .int .i64 d2, .int .i64 d3, .int .i64 d4, .int .i64 d5, .int .i64 d6])] [] (rB (dirOkB ⟨⟨d1, d2⟩, ⟨d3, d4⟩, ⟨d5, d6⟩⟩)) [] := by
  refine CallsA.ofOk fun hok => ?_
  have hw := w_Q6_Valid d1 d2 d3 d4 d5 d6 (fun v M => some (Res.fin v M))
  refine CallsA.ofEv (Γ := T_Q6_Direction) (X := XT) (Λ := noL) (EQ := EQT) (n := 60) g_Q6_Direction hEQT hmT (fun _ _ _ _ => noL_ok _) (hw.trans ?_)
  have h_d1 := inR_i64 (hok (.int .i64 d1) (by simp [datasL, datas]))
  have h_d2 := inR_i64 (hok (.int .i64 d2) (by simp [datasL, datas]))
  have h_d3 := inR_i64 (hok (.int .i64 d3) (by simp [datasL, datas]))
  have h_d4 := inR_i64 (hok (.int .i64 d4) (by simp [datasL, datas]))
  have h_d5 := inR_i64 (hok (.int .i64 d5) (by simp [datasL, datas]))
  have h_d6 := inR_i64 (hok (.int .i64 d6) (by simp [datasL, datas]))
  clear hok hw
  exact dirOkRef_ok (K := fun v M => some (Res.fin v M))
def s_Q6_Valid : List AV → List Blk → (AV → List Blk → Ans) → Ans := fun xs bs K => match xs, bs with
  | [.v (.agg [.int .i64 d1, .int .i64 d2, .int .i64 d3, .int .i64 d4, .int .i64 d5, .int .i64 d6])], [] => K (rB (dirOkB ⟨⟨d1, d2⟩, ⟨d3, d4⟩, ⟨d5, d6⟩⟩)) []
  | _, _ => none
def T_Q6_Valid : Nat → List AV → List Blk → (AV → List Blk → Ans) → Ans := upd T_Q6_Direction 96 s_Q6_Valid
theorem g_Q6_Valid : GOK Tryz.prog GT gbT T_Q6_Valid XT := by
  refine GOK.upd g_Q6_Direction (fun args w => Tryz.call96 args w) fun xs bs K r h => ?_
  unfold s_Q6_Valid at h
  split at h
  · exact ⟨_, _, c_Q6_Valid _ _ _ _ _ _, h⟩
  · cases h
theorem w_Q6_Dot (a1 a2 a3 a4 a5 a6 b1 b2 b3 b4 b5 b6 : Int) (K : AV → List Blk → Ans) : evFn Tryz.prog GT EQT T_Q6_Valid XT noL 100 99 [.v (.agg [.int .i64 a1, .int .i64 a2, .int .i64 a3, .int .i64 a4, .int .i64 a5, .int .i64 a6]), .v (.agg [.int .i64 b1, .int .i64 b2, .int .i64 b3, .int .i64 b4, .int .i64 b5, .int .i64 b6])] [] (fun v M => K v (M.take ([] : List Blk).length)) = dotRef6 K ⟨⟨a1, a2⟩, ⟨a3, a4⟩, ⟨a5, a6⟩⟩ ⟨⟨b1, b2⟩, ⟨b3, b4⟩, ⟨b5, b6⟩⟩ := by
  kernel_rfl
theorem c_Q6_Dot (a1 a2 a3 a4 a5 a6 b1 b2 b3 b4 b5 b6 : Int) : CallsA Tryz.prog GT gbT 99 [.v (.agg [.int .i64 a1, .int .i64 a2, .int .i64 a3, .int .i64 a4, .int .i64 a5, .int .i64 a6]), .v (.agg [.int .i64 b1, .int .i64 b2, .int .i64 b3, .int .i64 b4, .int .i64 b5, .int .i64 b6])] [] (rSpanE (dotS ⟨⟨a1, a2⟩, ⟨a3, a4⟩, ⟨a5, a6⟩⟩ ⟨⟨b1, b2⟩, ⟨b3, b4⟩, ⟨b5, b6⟩⟩)) [] := by
  refine CallsA.ofOk fun hok => ?_
  have hw := w_Q6_Dot a1 a2 a3 a4 a5 a6 b1 b2 b3 b4 b5 b6 (fun v M => some (Res.fin v M))
  refine CallsA.ofEv (Γ := T_Q6_Valid) (X := XT) (Λ := noL) (EQ := EQT) (n := 100) g_Q6_Valid hEQT hmT (fun _ _ _ _ => noL_ok _) (hw.trans ?_)
  have h_a1 := inR_i64 (hok (.int .i64 a1) (by simp [datasL, datas]))
  have h_a2 := inR_i64 (hok (.int .i64 a2) (by simp [datasL, datas]))
  have h_a3 := inR_i64 (hok (.int .i64 a3) (by simp [datasL, datas]))
  have h_a4 := inR_i64 (hok (.int .i64 a4) (by simp [datasL, datas]))
  have h_a5 := inR_i64 (hok (.int .i64 a5) (by simp [datasL, datas]))
  have h_a6 := inR_i64 (hok (.int .i64 a6) (by simp [datasL, datas]))
  have h_b1 := inR_i64 (hok (.int .i64 b1) (by simp [datasL, datas]))
  have h_b2 := inR_i64 (hok (.int .i64 b2) (by simp [datasL, datas]))
  have h_b3 := inR_i64 (hok (.int .i64 b3) (by simp [datasL, datas]))
  have h_b4 := inR_i64 (hok (.int .i64 b4) (by simp [datasL, datas]))
  have h_b5 := inR_i64 (hok (.int .i64 b5) (by simp [datasL, datas]))
  have h_b6 := inR_i64 (hok (.int .i64 b6) (by simp [datasL, datas]))
  clear hok hw
  exact dotRef6_ok (K := fun v M => some (Res.fin v M))
def s_Q6_Dot : List AV → List Blk → (AV → List Blk → Ans) → Ans := fun xs bs K => match xs, bs with
  | [.v (.agg [.int .i64 a1, .int .i64 a2, .int .i64 a3, .int .i64 a4, .int .i64 a5, .int .i64 a6]), .v (.agg [.int .i64 b1, .int .i64 b2, .int .i64 b3, .int .i64 b4, .int .i64 b5, .int .i64 b6])], [] => K (rSpanE (dotS ⟨⟨a1, a2⟩, ⟨a3, a4⟩, ⟨a5, a6⟩⟩ ⟨⟨b1, b2⟩, ⟨b3, b4⟩, ⟨b5, b6⟩⟩)) []
  | _, _ => none
def T_Q6_Dot : Nat → List AV → List Blk → (AV → List Blk → Ans) → Ans := upd T_Q6_Valid 99 s_Q6_Dot
theorem g_Q6_Dot : GOK Tryz.prog GT gbT T_Q6_Dot XT := by
  refine GOK.upd g_Q6_Valid (fun args w => Tryz.call99 args w) fun xs bs K r h => ?_
  unfold s_Q6_Dot at h
  split at h
  · exact ⟨_, _, c_Q6_Dot _ _ _ _ _ _ _ _ _ _ _ _, h⟩
  · cases h
theorem w_Q6_Enclosed (v1 v2 v3 v4 v5 v6 : Int) (K : AV → List Blk → Ans) : evFn Tryz.prog GT EQT T_Q6_Dot XT noL 60 98 [.v (.agg [.int .i64 v1, .int .i64 v2, .int .i64 v3, .int .i64 v4, .int .i64 v5, .int .i64 v6])] [] (fun v M => K v (M.take ([] : List Blk).length)) = encAns K (ofS ⟨v1, v2⟩) (ofS ⟨v3, v4⟩) (ofS ⟨v5, v6⟩) := by
  kernel_rfl
theorem c_Q6_Enclosed (v1 v2 v3 v4 v5 v6 : Int) : CallsA Tryz.prog GT gbT 98 [.v (.agg [.int .i64 v1, .int .i64 v2, .int .i64 v3, .int .i64 v4, .int .i64 v5, .int .i64 v6])] [] (rDirE (enclosedR ⟨⟨v1, v2⟩, ⟨v3, v4⟩, ⟨v5, v6⟩⟩)) [] := by
  refine CallsA.ofOk fun hok => ?_
  have hw := w_Q6_Enclosed v1 v2 v3 v4 v5 v6 (fun v M => some (Res.fin v M))
  refine CallsA.ofEv (Γ := T_Q6_Dot) (X := XT) (Λ := noL) (EQ := EQT) (n := 60) g_Q6_Dot hEQT hmT (fun _ _ _ _ => noL_ok _) (hw.trans ?_)
  have h_v1 := inR_i64 (hok (.int .i64 v1) (by simp [datasL, datas]))
  have h_v2 := inR_i64 (hok (.int .i64 v2) (by simp [datasL, datas]))
  have h_v3 := inR_i64 (hok (.int .i64 v3) (by simp [datasL, datas]))
  have h_v4 := inR_i64 (hok (.int .i64 v4) (by simp [datasL, datas]))
  have h_v5 := inR_i64 (hok (.int .i64 v5) (by simp [datasL, datas]))
  have h_v6 := inR_i64 (hok (.int .i64 v6) (by simp [datasL, datas]))
  clear hok hw
  exact encAns_ok (K := fun v M => some (Res.fin v M))
def s_Q6_Enclosed : List AV → List Blk → (AV → List Blk → Ans) → Ans := fun xs bs K => match xs, bs with
  | [.v (.agg [.int .i64 v1, .int .i64 v2, .int .i64 v3, .int .i64 v4, .int .i64 v5, .int .i64 v6])], [] => K (rDirE (enclosedR ⟨⟨v1, v2⟩, ⟨v3, v4⟩, ⟨v5, v6⟩⟩)) []
  | _, _ => none
def T_Q6_Enclosed : Nat → List AV → List Blk → (AV → List Blk → Ans) → Ans := upd T_Q6_Dot 98 s_Q6_Enclosed
theorem g_Q6_Enclosed : GOK Tryz.prog GT gbT T_Q6_Enclosed XT := by
  refine GOK.upd g_Q6_Dot (fun args w => Tryz.call98 args w) fun xs bs K r h => ?_
  unfold s_Q6_Enclosed at h
  split at h
  · exact ⟨_, _, c_Q6_Enclosed _ _ _ _ _ _, h⟩
  · cases h
theorem w_Q6_Along (d1 d2 d3 d4 d5 d6 v1 v2 v3 v4 v5 v6 : Int) (K : AV → List Blk → Ans) : evFn Tryz.prog GT EQT T_Q6_Enclosed XT noL 60 61 [.v (.agg [.int .i64 d1, .int .i64 d2, .int .i64 d3, .int .i64 d4, .int .i64 d5, .int .i64 d6]), .v (.agg [.int .i64 v1, .int .i64 v2, .int .i64 v3, .int .i64 v4, .int .i64 v5, .int .i64 v6])] [] (fun v M => K v (M.take ([] : List Blk).length)) = alongRef K ⟨⟨d1, d2⟩, ⟨d3, d4⟩, ⟨d5, d6⟩⟩ ⟨⟨v1, v2⟩, ⟨v3, v4⟩, ⟨v5, v6⟩⟩ := by
  kernel_rfl
theorem c_Q6_Along (d1 d2 d3 d4 d5 d6 v1 v2 v3 v4 v5 v6 : Int) : CallsA Tryz.prog GT gbT 61 [.v (.agg [.int .i64 d1, .int .i64 d2, .int .i64 d3, .int .i64 d4, .int .i64 d5, .int .i64 d6]), .v (.agg [.int .i64 v1, .int .i64 v2, .int .i64 v3, .int .i64 v4, .int .i64 v5, .int .i64 v6])] [] (rSpanE (alongS ⟨⟨d1, d2⟩, ⟨d3, d4⟩, ⟨d5, d6⟩⟩ ⟨⟨v1, v2⟩, ⟨v3, v4⟩, ⟨v5, v6⟩⟩)) [] := by
  refine CallsA.ofOk fun hok => ?_
  have hw := w_Q6_Along d1 d2 d3 d4 d5 d6 v1 v2 v3 v4 v5 v6 (fun v M => some (Res.fin v M))
  refine CallsA.ofEv (Γ := T_Q6_Enclosed) (X := XT) (Λ := noL) (EQ := EQT) (n := 60) g_Q6_Enclosed hEQT hmT (fun _ _ _ _ => noL_ok _) (hw.trans ?_)
  have h_d1 := inR_i64 (hok (.int .i64 d1) (by simp [datasL, datas]))
  have h_d2 := inR_i64 (hok (.int .i64 d2) (by simp [datasL, datas]))
  have h_d3 := inR_i64 (hok (.int .i64 d3) (by simp [datasL, datas]))
  have h_d4 := inR_i64 (hok (.int .i64 d4) (by simp [datasL, datas]))
  have h_d5 := inR_i64 (hok (.int .i64 d5) (by simp [datasL, datas]))
  have h_d6 := inR_i64 (hok (.int .i64 d6) (by simp [datasL, datas]))
  have h_v1 := inR_i64 (hok (.int .i64 v1) (by simp [datasL, datas]))
  have h_v2 := inR_i64 (hok (.int .i64 v2) (by simp [datasL, datas]))
  have h_v3 := inR_i64 (hok (.int .i64 v3) (by simp [datasL, datas]))
  have h_v4 := inR_i64 (hok (.int .i64 v4) (by simp [datasL, datas]))
  have h_v5 := inR_i64 (hok (.int .i64 v5) (by simp [datasL, datas]))
  have h_v6 := inR_i64 (hok (.int .i64 v6) (by simp [datasL, datas]))
  clear hok hw
  exact alongRef_ok (K := fun v M => some (Res.fin v M))
def s_Q6_Along : List AV → List Blk → (AV → List Blk → Ans) → Ans := fun xs bs K => match xs, bs with
  | [.v (.agg [.int .i64 d1, .int .i64 d2, .int .i64 d3, .int .i64 d4, .int .i64 d5, .int .i64 d6]), .v (.agg [.int .i64 v1, .int .i64 v2, .int .i64 v3, .int .i64 v4, .int .i64 v5, .int .i64 v6])], [] => K (rSpanE (alongS ⟨⟨d1, d2⟩, ⟨d3, d4⟩, ⟨d5, d6⟩⟩ ⟨⟨v1, v2⟩, ⟨v3, v4⟩, ⟨v5, v6⟩⟩)) []
  | _, _ => none
def T_Q6_Along : Nat → List AV → List Blk → (AV → List Blk → Ans) → Ans := upd T_Q6_Enclosed 61 s_Q6_Along
theorem g_Q6_Along : GOK Tryz.prog GT gbT T_Q6_Along XT := by
  refine GOK.upd g_Q6_Enclosed (fun args w => Tryz.call61 args w) fun xs bs K r h => ?_
  unfold s_Q6_Along at h
  split at h
  · exact ⟨_, _, c_Q6_Along _ _ _ _ _ _ _ _ _ _ _ _, h⟩
  · cases h
theorem w_Q1_Of (n : Int) (K : AV → List Blk → Ans) : evFn Tryz.prog GT EQT T_Q6_Along XT noL 60 46 [.v (.c (.d (.int .i64 n)))] [] (fun v M => K v (M.take ([] : List Blk).length)) = K (rFrac ⟨n, 1⟩) [] := by
  kernel_rfl
theorem c_Q1_Of (n : Int) : CallsA Tryz.prog GT gbT 46 [.v (.c (.d (.int .i64 n)))] [] (rFrac ⟨n, 1⟩) [] := by
  refine CallsA.ofOk fun hok => ?_
  have hw := w_Q1_Of n (fun v M => some (Res.fin v M))
  refine CallsA.ofEv (Γ := T_Q6_Along) (X := XT) (Λ := noL) (EQ := EQT) (n := 60) g_Q6_Along hEQT hmT (fun _ _ _ _ => noL_ok _) (hw.trans ?_)
  rfl
def s_Q1_Of : List AV → List Blk → (AV → List Blk → Ans) → Ans := fun xs bs K => match xs, bs with
  | [.v (.c (.d (.int .i64 n)))], [] => K (rFrac ⟨n, 1⟩) []
  | _, _ => none
def T_Q1_Of : Nat → List AV → List Blk → (AV → List Blk → Ans) → Ans := upd T_Q6_Along 46 s_Q1_Of
theorem g_Q1_Of : GOK Tryz.prog GT gbT T_Q1_Of XT := by
  refine GOK.upd g_Q6_Along (fun args w => Tryz.call46 args w) fun xs bs K r h => ?_
  unfold s_Q1_Of at h
  split at h
  · exact ⟨_, _, c_Q1_Of _, h⟩
  · cases h
theorem w_Q2_Pair (t1 t2 : Int) (K : AV → List Blk → Ans) : evFn Tryz.prog GT EQT T_Q1_Of XT noL 100 86 [.v (.agg [.int .i64 t1, .int .i64 t2])] [] (fun v M => K v (M.take ([] : List Blk).length)) = K (rPair (pairR ⟨t1, t2⟩)) [] := by
  simp only [pairR, pullK K]
  kernel_rfl
theorem c_Q2_Pair (t1 t2 : Int) : CallsA Tryz.prog GT gbT 86 [.v (.agg [.int .i64 t1, .int .i64 t2])] [] (rPair (pairR ⟨t1, t2⟩)) [] := by
  refine CallsA.ofOk fun hok => ?_
  have hw := w_Q2_Pair t1 t2 (fun v M => some (Res.fin v M))
  refine CallsA.ofEv (Γ := T_Q1_Of) (X := XT) (Λ := noL) (EQ := EQT) (n := 100) g_Q1_Of hEQT hmT (fun _ _ _ _ => noL_ok _) (hw.trans ?_)
  rfl
def s_Q2_Pair : List AV → List Blk → (AV → List Blk → Ans) → Ans := fun xs bs K => match xs, bs with
  | [.v (.agg [.int .i64 t1, .int .i64 t2])], [] => K (rPair (pairR ⟨t1, t2⟩)) []
  | _, _ => none
def T_Q2_Pair : Nat → List AV → List Blk → (AV → List Blk → Ans) → Ans := upd T_Q1_Of 86 s_Q2_Pair
theorem g_Q2_Pair : GOK Tryz.prog GT gbT T_Q2_Pair XT := by
  refine GOK.upd g_Q1_Of (fun args w => Tryz.call86 args w) fun xs bs K r h => ?_
  unfold s_Q2_Pair at h
  split at h
  · exact ⟨_, _, c_Q2_Pair _ _, h⟩
  · cases h
theorem w_frac_Make (n d : Int) (K : AV → List Blk → Ans) : evFn Tryz.prog GT EQT T_Q2_Pair XT noL 60 75 [.v (.c (.d (.int .i64 n))), .v (.c (.d (.int .i64 d)))] [] (fun v M => K v (M.take ([] : List Blk).length)) = makePAns K n d := by
  kernel_rfl
theorem c_frac_Make (n d : Int) : CallsA Tryz.prog GT gbT 75 [.v (.c (.d (.int .i64 n))), .v (.c (.d (.int .i64 d)))] [] (rFracE (makeF n d)) [] := by
  refine CallsA.ofOk fun hok => ?_
  have hw := w_frac_Make n d (fun v M => some (Res.fin v M))
  refine CallsA.ofEv (Γ := T_Q2_Pair) (X := XT) (Λ := noL) (EQ := EQT) (n := 60) g_Q2_Pair hEQT hmT (fun _ _ _ _ => noL_ok _) (hw.trans ?_)
  have h_n := inR_i64 (hok (.int .i64 n) (by simp [datasL, datas]))
  have h_d := inR_i64 (hok (.int .i64 d) (by simp [datasL, datas]))
  clear hok hw
  exact makePAns_ok (K := fun v M => some (Res.fin v M)) h_n h_d
def s_frac_Make : List AV → List Blk → (AV → List Blk → Ans) → Ans := fun xs bs K => match xs, bs with
  | [.v (.c (.d (.int .i64 n))), .v (.c (.d (.int .i64 d)))], [] => K (rFracE (makeF n d)) []
  | _, _ => none
def T_frac_Make : Nat → List AV → List Blk → (AV → List Blk → Ans) → Ans := upd T_Q2_Pair 75 s_frac_Make
theorem g_frac_Make : GOK Tryz.prog GT gbT T_frac_Make XT := by
  refine GOK.upd g_Q2_Pair (fun args w => Tryz.call75 args w) fun xs bs K r h => ?_
  unfold s_frac_Make at h
  split at h
  · exact ⟨_, _, c_frac_Make _ _, h⟩
  · cases h
theorem w_geoid_Check (g1 g2 : Int) (K : AV → List Blk → Ans) : evFn Tryz.prog GT EQT T_frac_Make XT noL 60 106 [.v (.agg [.int .i64 g1, .int .i64 g2])] [] (fun v M => K v (M.take ([] : List Blk).length)) = K (rI (checkGRaw ⟨g1, g2⟩)) [] := by
  simp only [checkGRaw, pullK K]
  kernel_rfl
theorem c_geoid_Check (g1 g2 : Int) : CallsA Tryz.prog GT gbT 106 [.v (.agg [.int .i64 g1, .int .i64 g2])] [] (rI (checkG ⟨g1, g2⟩)) [] := by
  refine CallsA.ofOk fun hok => ?_
  have hw := w_geoid_Check g1 g2 (fun v M => some (Res.fin v M))
  refine CallsA.ofEv (Γ := T_frac_Make) (X := XT) (Λ := noL) (EQ := EQT) (n := 60) g_frac_Make hEQT hmT (fun _ _ _ _ => noL_ok _) (hw.trans ?_)
  have h_g1 := inR_i64 (hok (.int .i64 g1) (by simp [datasL, datas]))
  have h_g2 := inR_i64 (hok (.int .i64 g2) (by simp [datasL, datas]))
  clear hok hw
  refine congrArg (fun v => some (Res.fin v [])) ?_
  rw [checkGRaw_ok]
def s_geoid_Check : List AV → List Blk → (AV → List Blk → Ans) → Ans := fun xs bs K => match xs, bs with
  | [.v (.agg [.int .i64 g1, .int .i64 g2])], [] => K (rI (checkG ⟨g1, g2⟩)) []
  | _, _ => none
def T_geoid_Check : Nat → List AV → List Blk → (AV → List Blk → Ans) → Ans := upd T_frac_Make 106 s_geoid_Check
theorem g_geoid_Check : GOK Tryz.prog GT gbT T_geoid_Check XT := by
  refine GOK.upd g_frac_Make (fun args w => Tryz.call106 args w) fun xs bs K r h => ?_
  unfold s_geoid_Check at h
  split at h
  · exact ⟨_, _, c_geoid_Check _ _, h⟩
  · cases h
theorem w_geoid_param (f1 f2 : Int) (K : AV → List Blk → Ans) : evFn Tryz.prog GT EQT T_geoid_Check XT noL 60 133 [.v (.agg [.int .i64 f1, .int .i64 f2])] [] (fun v M => K v (M.take ([] : List Blk).length)) = paramAns K ⟨f1, f2⟩ := by
  kernel_rfl
theorem c_geoid_param (f1 f2 : Int) : CallsA Tryz.prog GT gbT 133 [.v (.agg [.int .i64 f1, .int .i64 f2])] [] (rB (paramB ⟨f1, f2⟩)) [] := by
  refine CallsA.ofOk fun hok => ?_
  have hw := w_geoid_param f1 f2 (fun v M => some (Res.fin v M))
  refine CallsA.ofEv (Γ := T_geoid_Check) (X := XT) (Λ := noL) (EQ := EQT) (n := 60) g_geoid_Check hEQT hmT (fun _ _ _ _ => noL_ok _) (hw.trans ?_)
  have h_f1 := inR_i64 (hok (.int .i64 f1) (by simp [datasL, datas]))
  have h_f2 := inR_i64 (hok (.int .i64 f2) (by simp [datasL, datas]))
  clear hok hw
  exact paramAns_ok (K := fun v M => some (Res.fin v M))
def s_geoid_param : List AV → List Blk → (AV → List Blk → Ans) → Ans := fun xs bs K => match xs, bs with
  | [.v (.agg [.int .i64 f1, .int .i64 f2])], [] => K (rB (paramB ⟨f1, f2⟩)) []
  | _, _ => none
def T_geoid_param : Nat → List AV → List Blk → (AV → List Blk → Ans) → Ans := upd T_geoid_Check 133 s_geoid_param
theorem g_geoid_param : GOK Tryz.prog GT gbT T_geoid_param XT := by
  refine GOK.upd g_geoid_Check (fun args w => Tryz.call133 args w) fun xs bs K r h => ?_
  unfold s_geoid_param at h
  split at h
  · exact ⟨_, _, c_geoid_param _ _, h⟩
  · cases h
theorem w_geoid_whole (n : Int) (K : AV → List Blk → Ans) : evFn Tryz.prog GT EQT T_geoid_param XT noL 60 135 [.v (.c (.d (.int .i64 n)))] [] (fun v M => K v (M.take ([] : List Blk).length)) = K (rFrac (wholeF n)) [] := by
  kernel_rfl
theorem c_geoid_whole (n : Int) : CallsA Tryz.prog GT gbT 135 [.v (.c (.d (.int .i64 n)))] [] (rFrac (wholeF n)) [] := by
  refine CallsA.ofOk fun hok => ?_
  have hw := w_geoid_whole n (fun v M => some (Res.fin v M))
  refine CallsA.ofEv (Γ := T_geoid_param) (X := XT) (Λ := noL) (EQ := EQT) (n := 60) g_geoid_param hEQT hmT (fun _ _ _ _ => noL_ok _) (hw.trans ?_)
  rfl
def s_geoid_whole : List AV → List Blk → (AV → List Blk → Ans) → Ans := fun xs bs K => match xs, bs with
  | [.v (.c (.d (.int .i64 n)))], [] => K (rFrac (wholeF n)) []
  | _, _ => none
def T_geoid_whole : Nat → List AV → List Blk → (AV → List Blk → Ans) → Ans := upd T_geoid_param 135 s_geoid_whole
theorem g_geoid_whole : GOK Tryz.prog GT gbT T_geoid_whole XT := by
  refine GOK.upd g_geoid_param (fun args w => Tryz.call135 args w) fun xs bs K r h => ?_
  unfold s_geoid_whole at h
  split at h
  · exact ⟨_, _, c_geoid_whole _, h⟩
  · cases h
theorem w_geoid_around (u1 u2 : Int) (K : AV → List Blk → Ans) : evFn Tryz.prog GT EQT T_geoid_whole XT noL 60 134 [.v (.agg [.int .i64 u1, .int .i64 u2])] [] (fun v M => K v (M.take ([] : List Blk).length)) = aroundRaw K ⟨u1, u2⟩ := by
  kernel_rfl
theorem c_geoid_around (u1 u2 : Int) (hd : (paramB ⟨u1, u2⟩) = true) : CallsA Tryz.prog GT gbT 134 [.v (.agg [.int .i64 u1, .int .i64 u2])] [] (rFF (cosU ⟨u1, u2⟩) (sinU ⟨u1, u2⟩)) [] := by
  refine CallsA.ofOk fun hok => ?_
  have hw := w_geoid_around u1 u2 (fun v M => some (Res.fin v M))
  refine CallsA.ofEv (Γ := T_geoid_whole) (X := XT) (Λ := noL) (EQ := EQT) (n := 60) g_geoid_whole hEQT hmT (fun _ _ _ _ => noL_ok _) (hw.trans ?_)
  have h_u1 := inR_i64 (hok (.int .i64 u1) (by simp [datasL, datas]))
  have h_u2 := inR_i64 (hok (.int .i64 u2) (by simp [datasL, datas]))
  clear hok hw
  exact around_ok (K := fun v M => some (Res.fin v M)) (paramB_iff.1 hd)
def s_geoid_around : List AV → List Blk → (AV → List Blk → Ans) → Ans := fun xs bs K => match xs, bs with
  | [.v (.agg [.int .i64 u1, .int .i64 u2])], [] => bif paramB ⟨u1, u2⟩ then K (rFF (cosU ⟨u1, u2⟩) (sinU ⟨u1, u2⟩)) [] else none
  | _, _ => none
def T_geoid_around : Nat → List AV → List Blk → (AV → List Blk → Ans) → Ans := upd T_geoid_whole 134 s_geoid_around
theorem g_geoid_around : GOK Tryz.prog GT gbT T_geoid_around XT := by
  refine GOK.upd g_geoid_whole (fun args w => Tryz.call134 args w) fun xs bs K r h => ?_
  unfold s_geoid_around at h
  split at h
  · simp only [cond_eq_ite] at h
    split at h
    · exact ⟨_, _, c_geoid_around _ _ ‹_›, h⟩
    · cases h
  · cases h
theorem w_geoid_At (g1 g2 s1 s2 t1 t2 : Int) (K : AV → List Blk → Ans) : evFn Tryz.prog GT EQT T_geoid_around XT noL 100 108 [.v (.agg [.int .i64 g1, .int .i64 g2]), .v (.agg [.int .i64 s1, .int .i64 s2]), .v (.agg [.int .i64 t1, .int .i64 t2])] [] (fun v M => K v (M.take ([] : List Blk).length)) = atGAns K ⟨g1, g2⟩ ⟨s1, s2⟩ ⟨t1, t2⟩ := by
  kernel_rfl
theorem c_geoid_At (g1 g2 s1 s2 t1 t2 : Int) : CallsA Tryz.prog GT gbT 108 [.v (.agg [.int .i64 g1, .int .i64 g2]), .v (.agg [.int .i64 s1, .int .i64 s2]), .v (.agg [.int .i64 t1, .int .i64 t2])] [] (rVecE (atV ⟨g1, g2⟩ ⟨s1, s2⟩ ⟨t1, t2⟩)) [] := by
  refine CallsA.ofOk fun hok => ?_
  have hw := w_geoid_At g1 g2 s1 s2 t1 t2 (fun v M => some (Res.fin v M))
  refine CallsA.ofEv (Γ := T_geoid_around) (X := XT) (Λ := noL) (EQ := EQT) (n := 100) g_geoid_around hEQT hmT (fun _ _ _ _ => noL_ok _) (hw.trans ?_)
  have h_g1 := inR_i64 (hok (.int .i64 g1) (by simp [datasL, datas]))
  have h_g2 := inR_i64 (hok (.int .i64 g2) (by simp [datasL, datas]))
  have h_s1 := inR_i64 (hok (.int .i64 s1) (by simp [datasL, datas]))
  have h_s2 := inR_i64 (hok (.int .i64 s2) (by simp [datasL, datas]))
  have h_t1 := inR_i64 (hok (.int .i64 t1) (by simp [datasL, datas]))
  have h_t2 := inR_i64 (hok (.int .i64 t2) (by simp [datasL, datas]))
  clear hok hw
  exact atGAns_ok (K := fun v M => some (Res.fin v M))
def s_geoid_At : List AV → List Blk → (AV → List Blk → Ans) → Ans := fun xs bs K => match xs, bs with
  | [.v (.agg [.int .i64 g1, .int .i64 g2]), .v (.agg [.int .i64 s1, .int .i64 s2]), .v (.agg [.int .i64 t1, .int .i64 t2])], [] => K (rVecE (atV ⟨g1, g2⟩ ⟨s1, s2⟩ ⟨t1, t2⟩)) []
  | _, _ => none
def T_geoid_At : Nat → List AV → List Blk → (AV → List Blk → Ans) → Ans := upd T_geoid_around 108 s_geoid_At
theorem g_geoid_At : GOK Tryz.prog GT gbT T_geoid_At XT := by
  refine GOK.upd g_geoid_around (fun args w => Tryz.call108 args w) fun xs bs K r h => ?_
  unfold s_geoid_At at h
  split at h
  · exact ⟨_, _, c_geoid_At _ _ _ _ _ _, h⟩
  · cases h
theorem w_Q3_Check (g1 g2 : Int) (K : AV → List Blk → Ans) : evFn Tryz.prog GT EQT T_geoid_At XT noL 60 68 [.v (.agg [.int .i64 g1, .int .i64 g2])] [] (fun v M => K v (M.take ([] : List Blk).length)) = K (rI (checkGRaw ⟨g1, g2⟩)) [] := by
  simp only [checkGRaw, pullK K]
  kernel_rfl
theorem c_Q3_Check (g1 g2 : Int) : CallsA Tryz.prog GT gbT 68 [.v (.agg [.int .i64 g1, .int .i64 g2])] [] (rI (checkG ⟨g1, g2⟩)) [] := by
  refine CallsA.ofOk fun hok => ?_
  have hw := w_Q3_Check g1 g2 (fun v M => some (Res.fin v M))
  refine CallsA.ofEv (Γ := T_geoid_At) (X := XT) (Λ := noL) (EQ := EQT) (n := 60) g_geoid_At hEQT hmT (fun _ _ _ _ => noL_ok _) (hw.trans ?_)
  have h_g1 := inR_i64 (hok (.int .i64 g1) (by simp [datasL, datas]))
  have h_g2 := inR_i64 (hok (.int .i64 g2) (by simp [datasL, datas]))
  clear hok hw
  refine congrArg (fun v => some (Res.fin v [])) ?_
  rw [checkGRaw_ok]
def s_Q3_Check : List AV → List Blk → (AV → List Blk → Ans) → Ans := fun xs bs K => match xs, bs with
  | [.v (.agg [.int .i64 g1, .int .i64 g2])], [] => K (rI (checkG ⟨g1, g2⟩)) []
  | _, _ => none
def T_Q3_Check : Nat → List AV → List Blk → (AV → List Blk → Ans) → Ans := upd T_geoid_At 68 s_Q3_Check
theorem g_Q3_Check : GOK Tryz.prog GT gbT T_Q3_Check XT := by
  refine GOK.upd g_geoid_At (fun args w => Tryz.call68 args w) fun xs bs K r h => ?_
  unfold s_Q3_Check at h
  split at h
  · exact ⟨_, _, c_Q3_Check _ _, h⟩
  · cases h
theorem w_Q3_Param (u1 u2 : Int) (K : AV → List Blk → Ans) : evFn Tryz.prog GT EQT T_Q3_Check XT noL 60 130 [.v (.agg [.int .i64 u1, .int .i64 u2])] [] (fun v M => K v (M.take ([] : List Blk).length)) = paramRef K ⟨u1, u2⟩ := by
  kernel_rfl
theorem c_Q3_Param (u1 u2 : Int) : CallsA Tryz.prog GT gbT 130 [.v (.agg [.int .i64 u1, .int .i64 u2])] [] (rB (paramB ⟨u1, u2⟩)) [] := by
  refine CallsA.ofOk fun hok => ?_
  have hw := w_Q3_Param u1 u2 (fun v M => some (Res.fin v M))
  refine CallsA.ofEv (Γ := T_Q3_Check) (X := XT) (Λ := noL) (EQ := EQT) (n := 60) g_Q3_Check hEQT hmT (fun _ _ _ _ => noL_ok _) (hw.trans ?_)
  have h_u1 := inR_i64 (hok (.int .i64 u1) (by simp [datasL, datas]))
  have h_u2 := inR_i64 (hok (.int .i64 u2) (by simp [datasL, datas]))
  clear hok hw
  exact paramRef_ok (K := fun v M => some (Res.fin v M))
def s_Q3_Param : List AV → List Blk → (AV → List Blk → Ans) → Ans := fun xs bs K => match xs, bs with
  | [.v (.agg [.int .i64 u1, .int .i64 u2])], [] => K (rB (paramB ⟨u1, u2⟩)) []
  | _, _ => none
def T_Q3_Param : Nat → List AV → List Blk → (AV → List Blk → Ans) → Ans := upd T_Q3_Check 130 s_Q3_Param
theorem g_Q3_Param : GOK Tryz.prog GT gbT T_Q3_Param XT := by
  refine GOK.upd g_Q3_Check (fun args w => Tryz.call130 args w) fun xs bs K r h => ?_
  unfold s_Q3_Param at h
  split at h
  · exact ⟨_, _, c_Q3_Param _ _, h⟩
  · cases h
theorem w_Q3_One (K : AV → List Blk → Ans) : evFn Tryz.prog GT EQT T_Q3_Param XT noL 60 131 [] [] (fun v M => K v (M.take ([] : List Blk).length)) = K (rFrac oneF) [] := by
  kernel_rfl
theorem c_Q3_One : CallsA Tryz.prog GT gbT 131 [] [] (rFrac oneF) [] := by
  refine CallsA.ofOk fun hok => ?_
  have hw := w_Q3_One (fun v M => some (Res.fin v M))
  refine CallsA.ofEv (Γ := T_Q3_Param) (X := XT) (Λ := noL) (EQ := EQT) (n := 60) g_Q3_Param hEQT hmT (fun _ _ _ _ => noL_ok _) (hw.trans ?_)
  rfl
def s_Q3_One : List AV → List Blk → (AV → List Blk → Ans) → Ans := fun xs bs K => match xs, bs with
  | [], [] => K (rFrac oneF) []
  | _, _ => none
def T_Q3_One : Nat → List AV → List Blk → (AV → List Blk → Ans) → Ans := upd T_Q3_Param 131 s_Q3_One
theorem g_Q3_One : GOK Tryz.prog GT gbT T_Q3_One XT := by
  refine GOK.upd g_Q3_Param (fun args w => Tryz.call131 args w) fun xs bs K r h => ?_
  unfold s_Q3_One at h
  split at h
  · exact ⟨_, _, c_Q3_One, h⟩
  · cases h
end Go.Ev

namespace Go.Ev
open Go Go.Proofs
theorem w_Q3_Placed (s1 s2 t1 t2 : Int) (K : AV → List Blk → Ans) : evFn Tryz.prog GT EQT T_Q3_One XT noL 60 105 [.v (.agg [.int .i64 s1, .int .i64 s2]), .v (.agg [.int .i64 t1, .int .i64 t2])] [] (fun v M => K v (M.take ([] : List Blk).length)) = placedRef K ⟨s1, s2⟩ ⟨t1, t2⟩ := by
  kernel_rfl
theorem c_Q3_Placed (s1 s2 t1 t2 : Int) : CallsA Tryz.prog GT gbT 105 [.v (.agg [.int .i64 s1, .int .i64 s2]), .v (.agg [.int .i64 t1, .int .i64 t2])] [] (rB (placedB ⟨s1, s2⟩ ⟨t1, t2⟩)) [] := by
  refine CallsA.ofOk fun hok => ?_
  have hw := w_Q3_Placed s1 s2 t1 t2 (fun v M => some (Res.fin v M))
  refine CallsA.ofEv (Γ := T_Q3_One) (X := XT) (Λ := noL) (EQ := EQT) (n := 60) g_Q3_One hEQT hmT (fun _ _ _ _ => noL_ok _) (hw.trans ?_)
  have h_s1 := inR_i64 (hok (.int .i64 s1) (by simp [datasL, datas]))
  have h_s2 := inR_i64 (hok (.int .i64 s2) (by simp [datasL, datas]))
  have h_t1 := inR_i64 (hok (.int .i64 t1) (by simp [datasL, datas]))
  have h_t2 := inR_i64 (hok (.int .i64 t2) (by simp [datasL, datas]))
  clear hok hw
  exact placedRef_ok (K := fun v M => some (Res.fin v M))
def s_Q3_Placed : List AV → List Blk → (AV → List Blk → Ans) → Ans := fun xs bs K => match xs, bs with
  | [.v (.agg [.int .i64 s1, .int .i64 s2]), .v (.agg [.int .i64 t1, .int .i64 t2])], [] => K (rB (placedB ⟨s1, s2⟩ ⟨t1, t2⟩)) []
  | _, _ => none
def T_Q3_Placed : Nat → List AV → List Blk → (AV → List Blk → Ans) → Ans := upd T_Q3_One 105 s_Q3_Placed
theorem g_Q3_Placed : GOK Tryz.prog GT gbT T_Q3_Placed XT := by
  refine GOK.upd g_Q3_One (fun args w => Tryz.call105 args w) fun xs bs K r h => ?_
  unfold s_Q3_Placed at h
  split at h
  · exact ⟨_, _, c_Q3_Placed _ _ _ _, h⟩
  · cases h
theorem w_Q3_Place (g1 g2 s1 s2 t1 t2 : Int) (K : AV → List Blk → Ans) : evFn Tryz.prog GT EQT T_Q3_Placed XT noL 100 55 [.v (.agg [.int .i64 g1, .int .i64 g2]), .v (.agg [.int .i64 s1, .int .i64 s2]), .v (.agg [.int .i64 t1, .int .i64 t2])] [] (fun v M => K v (M.take ([] : List Blk).length)) = K (rVec (placeR ⟨g1, g2⟩ ⟨s1, s2⟩ ⟨t1, t2⟩)) [] := by
  kernel_rfl
theorem c_Q3_Place (g1 g2 s1 s2 t1 t2 : Int) : CallsA Tryz.prog GT gbT 55 [.v (.agg [.int .i64 g1, .int .i64 g2]), .v (.agg [.int .i64 s1, .int .i64 s2]), .v (.agg [.int .i64 t1, .int .i64 t2])] [] (rVec (placeR ⟨g1, g2⟩ ⟨s1, s2⟩ ⟨t1, t2⟩)) [] := by
  refine CallsA.ofOk fun hok => ?_
  have hw := w_Q3_Place g1 g2 s1 s2 t1 t2 (fun v M => some (Res.fin v M))
  refine CallsA.ofEv (Γ := T_Q3_Placed) (X := XT) (Λ := noL) (EQ := EQT) (n := 100) g_Q3_Placed hEQT hmT (fun _ _ _ _ => noL_ok _) (hw.trans ?_)
  rfl
def s_Q3_Place : List AV → List Blk → (AV → List Blk → Ans) → Ans := fun xs bs K => match xs, bs with
  | [.v (.agg [.int .i64 g1, .int .i64 g2]), .v (.agg [.int .i64 s1, .int .i64 s2]), .v (.agg [.int .i64 t1, .int .i64 t2])], [] => K (rVec (placeR ⟨g1, g2⟩ ⟨s1, s2⟩ ⟨t1, t2⟩)) []
  | _, _ => none
def T_Q3_Place : Nat → List AV → List Blk → (AV → List Blk → Ans) → Ans := upd T_Q3_Placed 55 s_Q3_Place
theorem g_Q3_Place : GOK Tryz.prog GT gbT T_Q3_Place XT := by
  refine GOK.upd g_Q3_Placed (fun args w => Tryz.call55 args w) fun xs bs K r h => ?_
  unfold s_Q3_Place at h
  split at h
  · exact ⟨_, _, c_Q3_Place _ _ _ _ _ _, h⟩
  · cases h
end Go.Ev

namespace Go.Ev
open Go Go.Proofs
structure R_Q4_Great_0 where
  k : Nat
  p3 : Int
def run_Q4_Great_0 (p2 : Bool) (m0 : List Site) : Nat → Int → R_Q4_Great_0
  | 0, p3 => ⟨2, p3⟩
  | n + 1, p3 => bif decide (p3 < (m0.length : Int)) then (bif (decide ((0 : Int) ≤ p3) && decide (p3 < (m0.length : Int))) then (bif decide ((100 : Int) < (((m0.getD p3.toNat (ET.z .site)).name).size : Int)) then ⟨0, p3⟩ else run_Q4_Great_0 p2 m0 n (w64 (p3 + (1 : Int)))) else ⟨2, p3⟩) else ⟨1, p3⟩
def lp_Q4_Great_0 (p2 : Bool) (m0 : List Site) (p3 : Int) : R_Q4_Great_0 := run_Q4_Great_0 p2 m0 (2000 + (m0.length)) p3
abbrev H_Q4_Great_0 (p2 : Bool) (_m0 : List Site) (p3 : Int) : TS := headT [0, 2, 3] 20 [.v (.c (.aslice 0 none)), .v (.c (.d (.bool p2))), .v (.c (.d (.int .i64 p3)))]
theorem b_Q4_Great_0 (p2 : Bool) (m0 : List Site) (p3 : Int) : evCode Tryz.prog GT EQT T_Q3_Place XT noL 80 (loopB Tryz.prog 35 0) (H_Q4_Great_0 p2 m0 p3) [.arr none .site m0] 1 (normK 1 [0, 2, 3]) =
    bif decide (p3 < (m0.length : Int)) then (bif (decide ((0 : Int) ≤ p3) && decide (p3 < (m0.length : Int))) then (bif decide ((100 : Int) < (((m0.getD p3.toNat (ET.z .site)).name).size : Int)) then some (.st .ret (headT [0, 2, 3] 20 [.v (.c (.aslice 0 none)), .v (.c (.d (.bool true))), .v (.c (.d (.int .i64 p3)))]) [.arr none .site m0] 1) else some (.st .normal (headT [0, 2, 3] 20 [.v (.c (.aslice 0 none)), .v (.c (.d (.bool p2))), .v (.c (.d (.int .i64 (w64 (p3 + (1 : Int))))))]) [.arr none .site m0] 1)) else none) else some (.st (.exit 0) (headT [0, 2, 3] 20 [.v (.c (.aslice 0 none)), .v (.c (.d (.bool p2))), .v (.c (.d (.int .i64 p3)))]) [.arr none .site m0] 1) := by
  kernel_rfl
def o_Q4_Great_0 (p2 : Bool) (m0 : List Site) (r : R_Q4_Great_0) : LT := .br (Nat.beq r.k 0) (.st .ret (headT [0, 2, 3] 20 [.v (.c (.aslice 0 none)), .v (.c (.d (.bool true))), .v (.c (.d (.int .i64 r.p3)))]) [.arr none .site m0] 1) (.br (Nat.beq r.k 1) (.st (.exit 0) (headT [0, 2, 3] 20 [.v (.c (.aslice 0 none)), .v (.c (.d (.bool p2))), .v (.c (.d (.int .i64 r.p3)))]) [.arr none .site m0] 1) (.no))
theorem r_Q4_Great_0 (p2 : Bool) (m0 : List Site) : ∀ (n : Nat) (p3 : Int) (x : Ex) (T' : TS) (M' : List Blk) (N' : Nat), LReach (o_Q4_Great_0 p2 m0 (run_Q4_Great_0 p2 m0 n p3)) x T' M' N' → x ≠ .normal ∧ ∃ j, RoundsN Tryz.prog GT gbT 1 (loopB Tryz.prog 35 0) j (H_Q4_Great_0 p2 m0 p3) [.arr none .site m0] 1 x T' M' N' := by
  have hL : LOKn Tryz.prog GT gbT 1 noL (loopsIn (loopB Tryz.prog 35 0)) := fun _ _ _ _ _ _ _ _ _ h => h.elim
  intro n
  induction n with
  | zero =>
    intro p3 x T' M' N' hr
    exact False.elim (redF (redF hr))
  | succ n ih =>
    intro p3 x T' M' N'
    rw [run_Q4_Great_0]
    exact viaE (b_Q4_Great_0 p2 m0 p3) (condG (o := o_Q4_Great_0 p2 m0) (condG (o := o_Q4_Great_0 p2 m0) (condG (o := o_Q4_Great_0 p2 m0) (fun he hr => stopN g_Q3_Place hEQT hmT hL he (by simp) (redT hr)) (fun he hr => goN g_Q3_Place hEQT hmT hL he (ih (w64 (p3 + (1 : Int))) x T' M' N' hr))) (fun _ hr => False.elim (redF (redF hr)))) (fun he hr => stopN g_Q3_Place hEQT hmT hL he (by simp) (redT (redF hr))))
def f_Q4_Great_0 : List AV → List Blk → LT := fun vs Ms => match vs, Ms with
  | [.v (.c (.aslice 0 none)), .v (.c (.d (.bool p2))), .v (.c (.d (.int .i64 p3)))], [.arr none .site m0] => o_Q4_Great_0 p2 m0 (lp_Q4_Great_0 p2 m0 p3)
  | _, _ => .no
def L_Q4_Great_0 := LamN 2 20 1 [0, 2, 3] f_Q4_Great_0
theorem k_Q4_Great_0 : LOKbn Tryz.prog GT gbT 1 L_Q4_Great_0 (loopB Tryz.prog 35 0) := by
  refine LOKbn.lamN (by kernel_rfl) fun vs Ms x T' M' N' hr => ?_
  unfold f_Q4_Great_0 at hr
  split at hr
  · obtain ⟨q1, j, q2⟩ := r_Q4_Great_0 _ _ _ _ x T' M' N' hr
    exact ⟨q1, j, q2⟩
  · exact hr.elim
structure O_Q4_Great where
  ok : Bool
  r0 : Bool
def m_Q4_Great (a0 : List Site) : O_Q4_Great := bif Nat.beq (lp_Q4_Great_0 false a0 (0 : Int)).k 0 then ⟨true, true⟩ else (bif Nat.beq (lp_Q4_Great_0 false a0 (0 : Int)).k 1 then ⟨true, decide ((20 : Int) < (a0.length : Int))⟩ else ⟨false, false⟩)
def F_Q4_Great (a0 : List Site) (K : AV → List Blk → Ans) (r : O_Q4_Great) : Ans := bif r.ok then K (.v (.c (.d (.bool r.r0)))) [.arr none .site a0] else none
theorem e_Q4_Great (a0 : List Site) (K : AV → List Blk → Ans) : evFn Tryz.prog GT EQT T_Q3_Place XT (orL L_Q4_Great_0 noL) 80 35 [.v (.c (.aslice 0 none))] [.arr none .site a0] (fun v M => K (finR 1 v M).1 (finR 1 v M).2) = F_Q4_Great a0 K (m_Q4_Great a0) := by
  unfold m_Q4_Great
  refine Eq.trans ?_ (Eq.symm (pushT rfl (pushT rfl rfl)))
  kernel_rfl
theorem lok_Q4_Great : ∀ fn c, Tryz.prog.funcs[35]? = some fn → fn.body = some c → LOKn Tryz.prog GT gbT 1 (orL L_Q4_Great_0 noL) (loopsIn c) := by
  refine LOKn.ofF fun b hb => ?_
  have e : loopsF Tryz.prog 35 = [loopB Tryz.prog 35 0] := by kernel_rfl
  rw [e] at hb
  simp only [List.mem_cons, List.not_mem_nil, or_false] at hb
  subst hb
  exact (LOKbn.or k_Q4_Great_0 (fun _ _ _ _ _ _ _ h => h.elim))
theorem c_Q4_Great (a0 : List Site) (hd : (m_Q4_Great a0).ok = true) : CallsA Tryz.prog GT gbT 35 [.v (.c (.aslice 0 none))] [.arr none .site a0] (.v (.c (.d (.bool ((m_Q4_Great a0).r0))))) [.arr none .site a0] := by
  refine CallsA.ofEvR g_Q3_Place hEQT hmT (n0 := 1) rfl lok_Q4_Great ((e_Q4_Great a0 (fun v M => some (Res.fin v M))).trans ?_)
  unfold F_Q4_Great
  rw [hd]
  rfl
def s_Q4_Great : List AV → List Blk → (AV → List Blk → Ans) → Ans := fun xs bs K => match xs, bs with
  | [.v (.c (.aslice 0 none))], [.arr none .site a0] => F_Q4_Great a0 K (m_Q4_Great a0)
  | _, _ => none
def T_Q4_Great : Nat → List AV → List Blk → (AV → List Blk → Ans) → Ans := upd T_Q3_Place 35 s_Q4_Great
theorem g_Q4_Great : GOK Tryz.prog GT gbT T_Q4_Great XT := by
  refine GOK.upd g_Q3_Place (fun args w => Tryz.call35 args w) fun xs bs K r h => ?_
  unfold s_Q4_Great at h
  split at h
  · unfold F_Q4_Great at h
    simp only [cond_eq_ite] at h
    split at h
    · rename_i hd
      exact ⟨_, _, c_Q4_Great _ hd, h⟩
    · cases h
  · cases h
structure O_W7_long where
  ok : Bool
  r0 : Bool
def m_W7_long (a0 : List Site) (a1 : Source) : O_W7_long := bif (m_Q4_Great a0).ok then (bif (m_Q4_Great a0).r0 then ⟨true, true⟩ else ⟨true, decide ((200 : Int) < (a1.name.size : Int))⟩) else ⟨false, false⟩
def F_W7_long (a0 : List Site) (_a1 : Source) (K : AV → List Blk → Ans) (r : O_W7_long) : Ans := bif r.ok then K (.v (.c (.d (.bool r.r0)))) [.arr none .site a0] else none
theorem e_W7_long (a0 : List Site) (a1 : Source) (K : AV → List Blk → Ans) : evFn Tryz.prog GT EQT T_Q4_Great XT noL 80 17 [.v (.c (.aslice 0 none)), .v (.agg [.str a1.name, .int .i64 a1.ra, .int .i64 a1.dec])] [.arr none .site a0] (fun v M => K (finR 1 v M).1 (finR 1 v M).2) = F_W7_long a0 a1 K (m_W7_long a0 a1) := by
  unfold m_W7_long
  refine Eq.trans ?_ (Eq.symm (pushT (pushT rfl rfl) rfl))
  kernel_rfl
theorem c_W7_long (a0 : List Site) (a1 : Source) (hd : (m_W7_long a0 a1).ok = true) : CallsA Tryz.prog GT gbT 17 [.v (.c (.aslice 0 none)), .v (.agg [.str a1.name, .int .i64 a1.ra, .int .i64 a1.dec])] [.arr none .site a0] (.v (.c (.d (.bool ((m_W7_long a0 a1).r0))))) [.arr none .site a0] := by
  refine CallsA.ofEvR g_Q4_Great hEQT hmT (n0 := 1) rfl (fun _ _ _ _ => LOKn.nil) ((e_W7_long a0 a1 (fun v M => some (Res.fin v M))).trans ?_)
  unfold F_W7_long
  rw [hd]
  rfl
def s_W7_long : List AV → List Blk → (AV → List Blk → Ans) → Ans := fun xs bs K => match xs, bs with
  | [.v (.c (.aslice 0 none)), .v (.agg [.str a1_0, .int .i64 a1_1, .int .i64 a1_2])], [.arr none .site a0] => F_W7_long a0 (⟨a1_0, a1_1, a1_2⟩ : Source) K (m_W7_long a0 (⟨a1_0, a1_1, a1_2⟩ : Source))
  | _, _ => none
def T_W7_long : Nat → List AV → List Blk → (AV → List Blk → Ans) → Ans := upd T_Q4_Great 17 s_W7_long
theorem g_W7_long : GOK Tryz.prog GT gbT T_W7_long XT := by
  refine GOK.upd g_Q4_Great (fun args w => Tryz.call17 args w) fun xs bs K r h => ?_
  unfold s_W7_long at h
  split at h
  · unfold F_W7_long at h
    simp only [cond_eq_ite] at h
    split at h
    · rename_i hd
      exact ⟨_, _, c_W7_long _ _ hd, h⟩
    · cases h
  · cases h
structure O_W7_wide where
  ok : Bool
  r0 : Bool
def m_W7_wide (a0 : Int) (a1 : Int) : O_W7_wide := bif decide ((-1000000 : Int) ≤ a0) then (bif decide (a1 ≤ (1000000 : Int)) then (bif decide ((120 : Int) < (w64 (a1 - a0))) then ⟨true, decide ((w64 (a1 - a0)) ≤ (720 : Int))⟩ else ⟨true, false⟩) else ⟨true, false⟩) else ⟨true, false⟩
def F_W7_wide (_a0 : Int) (_a1 : Int) (K : AV → List Blk → Ans) (r : O_W7_wide) : Ans := bif r.ok then K (.v (.c (.d (.bool r.r0)))) [] else none
theorem e_W7_wide (a0 : Int) (a1 : Int) (K : AV → List Blk → Ans) : evFn Tryz.prog GT EQT T_W7_long XT noL 80 18 [.v (.c (.d (.int .i64 a0))), .v (.c (.d (.int .i64 a1)))] [] (fun v M => K (finR 0 v M).1 (finR 0 v M).2) = F_W7_wide a0 a1 K (m_W7_wide a0 a1) := by
  unfold m_W7_wide
  refine Eq.trans ?_ (Eq.symm (pushT (pushT (pushT rfl rfl) rfl) rfl))
  kernel_rfl
theorem c_W7_wide (a0 : Int) (a1 : Int) (hd : (m_W7_wide a0 a1).ok = true) : CallsA Tryz.prog GT gbT 18 [.v (.c (.d (.int .i64 a0))), .v (.c (.d (.int .i64 a1)))] [] (.v (.c (.d (.bool ((m_W7_wide a0 a1).r0))))) [] := by
  refine CallsA.ofEvR g_W7_long hEQT hmT (n0 := 0) rfl (fun _ _ _ _ => LOKn.nil) ((e_W7_wide a0 a1 (fun v M => some (Res.fin v M))).trans ?_)
  unfold F_W7_wide
  rw [hd]
  rfl
def s_W7_wide : List AV → List Blk → (AV → List Blk → Ans) → Ans := fun xs bs K => match xs, bs with
  | [.v (.c (.d (.int .i64 a0))), .v (.c (.d (.int .i64 a1)))], [] => F_W7_wide a0 a1 K (m_W7_wide a0 a1)
  | _, _ => none
def T_W7_wide : Nat → List AV → List Blk → (AV → List Blk → Ans) → Ans := upd T_W7_long 18 s_W7_wide
theorem g_W7_wide : GOK Tryz.prog GT gbT T_W7_wide XT := by
  refine GOK.upd g_W7_long (fun args w => Tryz.call18 args w) fun xs bs K r h => ?_
  unfold s_W7_wide at h
  split at h
  · unfold F_W7_wide at h
    simp only [cond_eq_ite] at h
    split at h
    · rename_i hd
      exact ⟨_, _, c_W7_wide _ _ hd, h⟩
    · cases h
  · cases h
structure R_array_valid_0 where
  k : Nat
  p32 : Int
def run_array_valid_0 (p2 : Bool) (p31 : Int) (q0 : Site) : Nat → Int → R_array_valid_0
  | 0, p32 => ⟨2, p32⟩
  | n + 1, p32 => bif decide (p32 < p31) then (bif (decide (0 ≤ p32) && decide (p32 < (q0.name.size : Int))) then (bif decide ((byteAt q0.name p32) < (97 : Int)) then (bif decide ((byteAt q0.name p32) < (48 : Int)) then (bif ((byteAt q0.name p32) != (45 : Int)) then ⟨0, p32⟩ else run_array_valid_0 p2 p31 q0 n (w64 (p32 + (1 : Int)))) else (bif decide ((57 : Int) < (byteAt q0.name p32)) then (bif ((byteAt q0.name p32) != (45 : Int)) then ⟨0, p32⟩ else run_array_valid_0 p2 p31 q0 n (w64 (p32 + (1 : Int)))) else run_array_valid_0 p2 p31 q0 n (w64 (p32 + (1 : Int))))) else (bif decide ((122 : Int) < (byteAt q0.name p32)) then (bif decide ((byteAt q0.name p32) < (48 : Int)) then (bif ((byteAt q0.name p32) != (45 : Int)) then ⟨0, p32⟩ else run_array_valid_0 p2 p31 q0 n (w64 (p32 + (1 : Int)))) else (bif decide ((57 : Int) < (byteAt q0.name p32)) then (bif ((byteAt q0.name p32) != (45 : Int)) then ⟨0, p32⟩ else run_array_valid_0 p2 p31 q0 n (w64 (p32 + (1 : Int)))) else run_array_valid_0 p2 p31 q0 n (w64 (p32 + (1 : Int))))) else run_array_valid_0 p2 p31 q0 n (w64 (p32 + (1 : Int))))) else ⟨2, p32⟩) else ⟨1, p32⟩
def lp_array_valid_0 (p2 : Bool) (p31 : Int) (q0 : Site) (p32 : Int) : R_array_valid_0 := run_array_valid_0 p2 p31 q0 (2000 + (stuckI p31)) p32
abbrev H_array_valid_0 (p2 : Bool) (p31 : Int) (_q0 : Site) (p32 : Int) : TS := headT [1, 2, 31, 32] 69 [.v (.c (.ptr 0 0)), .v (.c (.d (.bool p2))), .v (.c (.d (.int .i64 p31))), .v (.c (.d (.int .i64 p32)))]
theorem b_array_valid_0 (p2 : Bool) (p31 : Int) (q0 : Site) (p32 : Int) : evCode Tryz.prog GT EQT T_W7_wide XT noL 120 (loopB Tryz.prog 132 0) (H_array_valid_0 p2 p31 q0 p32) [.rw 36 [.str q0.name, .int .i64 q0.s.num, .int .i64 q0.s.den, .int .i64 q0.t.num, .int .i64 q0.t.den]] 1 (normK 0 [1, 2, 31, 32]) =
    bif decide (p32 < p31) then (bif (decide (0 ≤ p32) && decide (p32 < (q0.name.size : Int))) then (bif decide ((byteAt q0.name p32) < (97 : Int)) then (bif decide ((byteAt q0.name p32) < (48 : Int)) then (bif ((byteAt q0.name p32) != (45 : Int)) then some (.st .ret (headT [1, 2, 31, 32] 69 [.v (.c (.ptr 0 0)), .v (.c (.d (.bool false))), .v (.c (.d (.int .i64 p31))), .v (.c (.d (.int .i64 p32)))]) [.rw 36 [.str q0.name, .int .i64 q0.s.num, .int .i64 q0.s.den, .int .i64 q0.t.num, .int .i64 q0.t.den]] 1) else some (.st .normal (headT [1, 2, 31, 32] 69 [.v (.c (.ptr 0 0)), .v (.c (.d (.bool p2))), .v (.c (.d (.int .i64 p31))), .v (.c (.d (.int .i64 (w64 (p32 + (1 : Int))))))]) [.rw 36 [.str q0.name, .int .i64 q0.s.num, .int .i64 q0.s.den, .int .i64 q0.t.num, .int .i64 q0.t.den]] 1)) else (bif decide ((57 : Int) < (byteAt q0.name p32)) then (bif ((byteAt q0.name p32) != (45 : Int)) then some (.st .ret (headT [1, 2, 31, 32] 69 [.v (.c (.ptr 0 0)), .v (.c (.d (.bool false))), .v (.c (.d (.int .i64 p31))), .v (.c (.d (.int .i64 p32)))]) [.rw 36 [.str q0.name, .int .i64 q0.s.num, .int .i64 q0.s.den, .int .i64 q0.t.num, .int .i64 q0.t.den]] 1) else some (.st .normal (headT [1, 2, 31, 32] 69 [.v (.c (.ptr 0 0)), .v (.c (.d (.bool p2))), .v (.c (.d (.int .i64 p31))), .v (.c (.d (.int .i64 (w64 (p32 + (1 : Int))))))]) [.rw 36 [.str q0.name, .int .i64 q0.s.num, .int .i64 q0.s.den, .int .i64 q0.t.num, .int .i64 q0.t.den]] 1)) else some (.st .normal (headT [1, 2, 31, 32] 69 [.v (.c (.ptr 0 0)), .v (.c (.d (.bool p2))), .v (.c (.d (.int .i64 p31))), .v (.c (.d (.int .i64 (w64 (p32 + (1 : Int))))))]) [.rw 36 [.str q0.name, .int .i64 q0.s.num, .int .i64 q0.s.den, .int .i64 q0.t.num, .int .i64 q0.t.den]] 1))) else (bif decide ((122 : Int) < (byteAt q0.name p32)) then (bif decide ((byteAt q0.name p32) < (48 : Int)) then (bif ((byteAt q0.name p32) != (45 : Int)) then some (.st .ret (headT [1, 2, 31, 32] 69 [.v (.c (.ptr 0 0)), .v (.c (.d (.bool false))), .v (.c (.d (.int .i64 p31))), .v (.c (.d (.int .i64 p32)))]) [.rw 36 [.str q0.name, .int .i64 q0.s.num, .int .i64 q0.s.den, .int .i64 q0.t.num, .int .i64 q0.t.den]] 1) else some (.st .normal (headT [1, 2, 31, 32] 69 [.v (.c (.ptr 0 0)), .v (.c (.d (.bool p2))), .v (.c (.d (.int .i64 p31))), .v (.c (.d (.int .i64 (w64 (p32 + (1 : Int))))))]) [.rw 36 [.str q0.name, .int .i64 q0.s.num, .int .i64 q0.s.den, .int .i64 q0.t.num, .int .i64 q0.t.den]] 1)) else (bif decide ((57 : Int) < (byteAt q0.name p32)) then (bif ((byteAt q0.name p32) != (45 : Int)) then some (.st .ret (headT [1, 2, 31, 32] 69 [.v (.c (.ptr 0 0)), .v (.c (.d (.bool false))), .v (.c (.d (.int .i64 p31))), .v (.c (.d (.int .i64 p32)))]) [.rw 36 [.str q0.name, .int .i64 q0.s.num, .int .i64 q0.s.den, .int .i64 q0.t.num, .int .i64 q0.t.den]] 1) else some (.st .normal (headT [1, 2, 31, 32] 69 [.v (.c (.ptr 0 0)), .v (.c (.d (.bool p2))), .v (.c (.d (.int .i64 p31))), .v (.c (.d (.int .i64 (w64 (p32 + (1 : Int))))))]) [.rw 36 [.str q0.name, .int .i64 q0.s.num, .int .i64 q0.s.den, .int .i64 q0.t.num, .int .i64 q0.t.den]] 1)) else some (.st .normal (headT [1, 2, 31, 32] 69 [.v (.c (.ptr 0 0)), .v (.c (.d (.bool p2))), .v (.c (.d (.int .i64 p31))), .v (.c (.d (.int .i64 (w64 (p32 + (1 : Int))))))]) [.rw 36 [.str q0.name, .int .i64 q0.s.num, .int .i64 q0.s.den, .int .i64 q0.t.num, .int .i64 q0.t.den]] 1))) else some (.st .normal (headT [1, 2, 31, 32] 69 [.v (.c (.ptr 0 0)), .v (.c (.d (.bool p2))), .v (.c (.d (.int .i64 p31))), .v (.c (.d (.int .i64 (w64 (p32 + (1 : Int))))))]) [.rw 36 [.str q0.name, .int .i64 q0.s.num, .int .i64 q0.s.den, .int .i64 q0.t.num, .int .i64 q0.t.den]] 1))) else none) else some (.st (.exit 0) (headT [1, 2, 31, 32] 69 [.v (.c (.ptr 0 0)), .v (.c (.d (.bool p2))), .v (.c (.d (.int .i64 p31))), .v (.c (.d (.int .i64 p32)))]) [.rw 36 [.str q0.name, .int .i64 q0.s.num, .int .i64 q0.s.den, .int .i64 q0.t.num, .int .i64 q0.t.den]] 1) := by
  kernel_rfl
def o_array_valid_0 (p2 : Bool) (p31 : Int) (q0 : Site) (r : R_array_valid_0) : LT := .br (Nat.beq r.k 0) (.st .ret (headT [1, 2, 31, 32] 69 [.v (.c (.ptr 0 0)), .v (.c (.d (.bool false))), .v (.c (.d (.int .i64 p31))), .v (.c (.d (.int .i64 r.p32)))]) [.rw 36 [.str q0.name, .int .i64 q0.s.num, .int .i64 q0.s.den, .int .i64 q0.t.num, .int .i64 q0.t.den]] 1) (.br (Nat.beq r.k 1) (.st (.exit 0) (headT [1, 2, 31, 32] 69 [.v (.c (.ptr 0 0)), .v (.c (.d (.bool p2))), .v (.c (.d (.int .i64 p31))), .v (.c (.d (.int .i64 r.p32)))]) [.rw 36 [.str q0.name, .int .i64 q0.s.num, .int .i64 q0.s.den, .int .i64 q0.t.num, .int .i64 q0.t.den]] 1) (.no))
theorem r_array_valid_0 (p2 : Bool) (p31 : Int) (q0 : Site) : ∀ (n : Nat) (p32 : Int) (x : Ex) (T' : TS) (M' : List Blk) (N' : Nat), LReach (o_array_valid_0 p2 p31 q0 (run_array_valid_0 p2 p31 q0 n p32)) x T' M' N' → x ≠ .normal ∧ ∃ j, RoundsN Tryz.prog GT gbT 0 (loopB Tryz.prog 132 0) j (H_array_valid_0 p2 p31 q0 p32) [.rw 36 [.str q0.name, .int .i64 q0.s.num, .int .i64 q0.s.den, .int .i64 q0.t.num, .int .i64 q0.t.den]] 1 x T' M' N' := by
  have hL : LOKn Tryz.prog GT gbT 0 noL (loopsIn (loopB Tryz.prog 132 0)) := fun _ _ _ _ _ _ _ _ _ h => h.elim
  intro n
  induction n with
  | zero =>
    intro p32 x T' M' N' hr
    exact False.elim (redF (redF hr))
  | succ n ih =>
    intro p32 x T' M' N'
    rw [run_array_valid_0]
    exact viaE (b_array_valid_0 p2 p31 q0 p32) (condG (o := o_array_valid_0 p2 p31 q0) (condG (o := o_array_valid_0 p2 p31 q0) (condG (o := o_array_valid_0 p2 p31 q0) (condG (o := o_array_valid_0 p2 p31 q0) (condG (o := o_array_valid_0 p2 p31 q0) (fun he hr => stopN g_W7_wide hEQT hmT hL he (by simp) (redT hr)) (fun he hr => goN g_W7_wide hEQT hmT hL he (ih (w64 (p32 + (1 : Int))) x T' M' N' hr))) (condG (o := o_array_valid_0 p2 p31 q0) (condG (o := o_array_valid_0 p2 p31 q0) (fun he hr => stopN g_W7_wide hEQT hmT hL he (by simp) (redT hr)) (fun he hr => goN g_W7_wide hEQT hmT hL he (ih (w64 (p32 + (1 : Int))) x T' M' N' hr))) (fun he hr => goN g_W7_wide hEQT hmT hL he (ih (w64 (p32 + (1 : Int))) x T' M' N' hr)))) (condG (o := o_array_valid_0 p2 p31 q0) (condG (o := o_array_valid_0 p2 p31 q0) (condG (o := o_array_valid_0 p2 p31 q0) (fun he hr => stopN g_W7_wide hEQT hmT hL he (by simp) (redT hr)) (fun he hr => goN g_W7_wide hEQT hmT hL he (ih (w64 (p32 + (1 : Int))) x T' M' N' hr))) (condG (o := o_array_valid_0 p2 p31 q0) (condG (o := o_array_valid_0 p2 p31 q0) (fun he hr => stopN g_W7_wide hEQT hmT hL he (by simp) (redT hr)) (fun he hr => goN g_W7_wide hEQT hmT hL he (ih (w64 (p32 + (1 : Int))) x T' M' N' hr))) (fun he hr => goN g_W7_wide hEQT hmT hL he (ih (w64 (p32 + (1 : Int))) x T' M' N' hr)))) (fun he hr => goN g_W7_wide hEQT hmT hL he (ih (w64 (p32 + (1 : Int))) x T' M' N' hr)))) (fun _ hr => False.elim (redF (redF hr)))) (fun he hr => stopN g_W7_wide hEQT hmT hL he (by simp) (redT (redF hr))))
def f_array_valid_0 : List AV → List Blk → LT := fun vs Ms => match vs, Ms with
  | [.v (.c (.ptr 0 0)), .v (.c (.d (.bool p2))), .v (.c (.d (.int .i64 p31))), .v (.c (.d (.int .i64 p32)))], [.rw 36 [.str q0_0, .int .i64 q0_1, .int .i64 q0_2, .int .i64 q0_3, .int .i64 q0_4]] => o_array_valid_0 p2 p31 (⟨q0_0, ⟨q0_1, q0_2⟩, ⟨q0_3, q0_4⟩⟩ : Site) (lp_array_valid_0 p2 p31 (⟨q0_0, ⟨q0_1, q0_2⟩, ⟨q0_3, q0_4⟩⟩ : Site) p32)
  | _, _ => .no
def L_array_valid_0 := LamN 4 69 0 [1, 2, 31, 32] f_array_valid_0
theorem k_array_valid_0 : LOKbn Tryz.prog GT gbT 0 L_array_valid_0 (loopB Tryz.prog 132 0) := by
  refine LOKbn.lamN (by kernel_rfl) fun vs Ms x T' M' N' hr => ?_
  unfold f_array_valid_0 at hr
  split at hr
  · obtain ⟨q1, j, q2⟩ := r_array_valid_0 _ _ _ _ _ x T' M' N' hr
    exact ⟨q1, j, q2⟩
  · exact hr.elim
structure O_array_valid where
  ok : Bool
  r0 : Bool
def m_array_valid (a0 : Site) : O_array_valid := bif decide ((a0.name.size : Int) < (1 : Int)) then ⟨true, false⟩ else (bif decide ((40 : Int) < (a0.name.size : Int)) then ⟨true, false⟩ else (bif (decide (0 ≤ (0 : Int)) && decide ((0 : Int) < (a0.name.size : Int))) then (bif decide ((byteAt a0.name (0 : Int)) < (97 : Int)) then ⟨true, false⟩ else (bif (decide (0 ≤ (0 : Int)) && decide ((0 : Int) < (a0.name.size : Int))) then (bif decide ((122 : Int) < (byteAt a0.name (0 : Int))) then ⟨true, false⟩ else (bif Nat.beq (lp_array_valid_0 false (a0.name.size : Int) a0 (0 : Int)).k 0 then ⟨true, false⟩ else (bif Nat.beq (lp_array_valid_0 false (a0.name.size : Int) a0 (0 : Int)).k 1 then ⟨true, ((atV ⟨(1 : Int), (1 : Int)⟩ a0.s a0.t).2 == (0 : Int))⟩ else ⟨false, false⟩))) else ⟨false, false⟩)) else ⟨false, false⟩))
def F_array_valid (_a0 : Site) (K : AV → List Blk → Ans) (r : O_array_valid) : Ans := bif r.ok then K (.v (.c (.d (.bool r.r0)))) [] else none
theorem e_array_valid (a0 : Site) (K : AV → List Blk → Ans) : evFn Tryz.prog GT EQT T_W7_wide XT (orL L_array_valid_0 noL) 120 132 [.v (.agg [.str a0.name, .int .i64 a0.s.num, .int .i64 a0.s.den, .int .i64 a0.t.num, .int .i64 a0.t.den])] [] (fun v M => K (finR 0 v M).1 (finR 0 v M).2) = F_array_valid a0 K (m_array_valid a0) := by
  unfold m_array_valid
  refine Eq.trans ?_ (Eq.symm (pushT rfl (pushT rfl (pushT (pushT rfl (pushT (pushT rfl (pushT rfl (pushT rfl rfl))) rfl)) rfl))))
  kernel_rfl
theorem lok_array_valid : ∀ fn c, Tryz.prog.funcs[132]? = some fn → fn.body = some c → LOKn Tryz.prog GT gbT 0 (orL L_array_valid_0 noL) (loopsIn c) := by
  refine LOKn.ofF fun b hb => ?_
  have e : loopsF Tryz.prog 132 = [loopB Tryz.prog 132 0] := by kernel_rfl
  rw [e] at hb
  simp only [List.mem_cons, List.not_mem_nil, or_false] at hb
  subst hb
  exact (LOKbn.or k_array_valid_0 (fun _ _ _ _ _ _ _ h => h.elim))
theorem c_array_valid (a0 : Site) (hd : (m_array_valid a0).ok = true) : CallsA Tryz.prog GT gbT 132 [.v (.agg [.str a0.name, .int .i64 a0.s.num, .int .i64 a0.s.den, .int .i64 a0.t.num, .int .i64 a0.t.den])] [] (.v (.c (.d (.bool ((m_array_valid a0).r0))))) [] := by
  refine CallsA.ofEvR g_W7_wide hEQT hmT (n0 := 0) rfl lok_array_valid ((e_array_valid a0 (fun v M => some (Res.fin v M))).trans ?_)
  unfold F_array_valid
  rw [hd]
  rfl
def s_array_valid : List AV → List Blk → (AV → List Blk → Ans) → Ans := fun xs bs K => match xs, bs with
  | [.v (.agg [.str a0_0, .int .i64 a0_1, .int .i64 a0_2, .int .i64 a0_3, .int .i64 a0_4])], [] => F_array_valid (⟨a0_0, ⟨a0_1, a0_2⟩, ⟨a0_3, a0_4⟩⟩ : Site) K (m_array_valid (⟨a0_0, ⟨a0_1, a0_2⟩, ⟨a0_3, a0_4⟩⟩ : Site))
  | _, _ => none
def T_array_valid : Nat → List AV → List Blk → (AV → List Blk → Ans) → Ans := upd T_W7_wide 132 s_array_valid
theorem g_array_valid : GOK Tryz.prog GT gbT T_array_valid XT := by
  refine GOK.upd g_W7_wide (fun args w => Tryz.call132 args w) fun xs bs K r h => ?_
  unfold s_array_valid at h
  split at h
  · unfold F_array_valid at h
    simp only [cond_eq_ite] at h
    split at h
    · rename_i hd
      exact ⟨_, _, c_array_valid _ hd, h⟩
    · cases h
  · cases h
structure R_array_stations_0 where
  k : Nat
  p10 : Int
def run_array_stations_0 (p2 : Int) (p9 : Int) (m0 : List Site) : Nat → Int → R_array_stations_0
  | 0, p10 => ⟨2, p10⟩
  | n + 1, p10 => bif decide (p10 < p9) then (bif (decide ((0 : Int) ≤ p10) && decide (p10 < (m0.length : Int))) then (bif (m_array_valid (m0.getD p10.toNat (ET.z .site))).ok then (bif (!(m_array_valid (m0.getD p10.toNat (ET.z .site))).r0) then ⟨0, p10⟩ else run_array_stations_0 p2 p9 m0 n (w64 (p10 + (1 : Int)))) else ⟨2, p10⟩) else ⟨2, p10⟩) else ⟨1, p10⟩
def lp_array_stations_0 (p2 : Int) (p9 : Int) (m0 : List Site) (p10 : Int) : R_array_stations_0 := run_array_stations_0 p2 p9 m0 (2000 + (m0.length)) p10
abbrev H_array_stations_0 (p2 : Int) (p9 : Int) (_m0 : List Site) (p10 : Int) : TS := headT [2, 8, 9, 10] 18 [.v (.c (.d (.int .i64 p2))), .v (.c (.aslice 0 none)), .v (.c (.d (.int .i64 p9))), .v (.c (.d (.int .i64 p10)))]
theorem b_array_stations_0 (p2 : Int) (p9 : Int) (m0 : List Site) (p10 : Int) : evCode Tryz.prog GT EQT T_array_valid XT noL 80 (loopB Tryz.prog 107 0) (H_array_stations_0 p2 p9 m0 p10) [.arr none .site m0] 1 (normK 1 [2, 8, 9, 10]) =
    bif decide (p10 < p9) then (bif (decide ((0 : Int) ≤ p10) && decide (p10 < (m0.length : Int))) then (bif (m_array_valid (m0.getD p10.toNat (ET.z .site))).ok then (bif (!(m_array_valid (m0.getD p10.toNat (ET.z .site))).r0) then some (.st .ret (headT [2, 8, 9, 10] 18 [.v (.c (.d (.int .i64 (8 : Int)))), .v (.c (.aslice 0 none)), .v (.c (.d (.int .i64 p9))), .v (.c (.d (.int .i64 p10)))]) [.arr none .site m0] 1) else some (.st .normal (headT [2, 8, 9, 10] 18 [.v (.c (.d (.int .i64 p2))), .v (.c (.aslice 0 none)), .v (.c (.d (.int .i64 p9))), .v (.c (.d (.int .i64 (w64 (p10 + (1 : Int))))))]) [.arr none .site m0] 1)) else none) else none) else some (.st (.exit 0) (headT [2, 8, 9, 10] 18 [.v (.c (.d (.int .i64 p2))), .v (.c (.aslice 0 none)), .v (.c (.d (.int .i64 p9))), .v (.c (.d (.int .i64 p10)))]) [.arr none .site m0] 1) := by
  kernel_rfl
def o_array_stations_0 (p2 : Int) (p9 : Int) (m0 : List Site) (r : R_array_stations_0) : LT := .br (Nat.beq r.k 0) (.st .ret (headT [2, 8, 9, 10] 18 [.v (.c (.d (.int .i64 (8 : Int)))), .v (.c (.aslice 0 none)), .v (.c (.d (.int .i64 p9))), .v (.c (.d (.int .i64 r.p10)))]) [.arr none .site m0] 1) (.br (Nat.beq r.k 1) (.st (.exit 0) (headT [2, 8, 9, 10] 18 [.v (.c (.d (.int .i64 p2))), .v (.c (.aslice 0 none)), .v (.c (.d (.int .i64 p9))), .v (.c (.d (.int .i64 r.p10)))]) [.arr none .site m0] 1) (.no))
theorem r_array_stations_0 (p2 : Int) (p9 : Int) (m0 : List Site) : ∀ (n : Nat) (p10 : Int) (x : Ex) (T' : TS) (M' : List Blk) (N' : Nat), LReach (o_array_stations_0 p2 p9 m0 (run_array_stations_0 p2 p9 m0 n p10)) x T' M' N' → x ≠ .normal ∧ ∃ j, RoundsN Tryz.prog GT gbT 1 (loopB Tryz.prog 107 0) j (H_array_stations_0 p2 p9 m0 p10) [.arr none .site m0] 1 x T' M' N' := by
  have hL : LOKn Tryz.prog GT gbT 1 noL (loopsIn (loopB Tryz.prog 107 0)) := fun _ _ _ _ _ _ _ _ _ h => h.elim
  intro n
  induction n with
  | zero =>
    intro p10 x T' M' N' hr
    exact False.elim (redF (redF hr))
  | succ n ih =>
    intro p10 x T' M' N'
    rw [run_array_stations_0]
    exact viaE (b_array_stations_0 p2 p9 m0 p10) (condG (o := o_array_stations_0 p2 p9 m0) (condG (o := o_array_stations_0 p2 p9 m0) (condG (o := o_array_stations_0 p2 p9 m0) (condG (o := o_array_stations_0 p2 p9 m0) (fun he hr => stopN g_array_valid hEQT hmT hL he (by simp) (redT hr)) (fun he hr => goN g_array_valid hEQT hmT hL he (ih (w64 (p10 + (1 : Int))) x T' M' N' hr))) (fun _ hr => False.elim (redF (redF hr)))) (fun _ hr => False.elim (redF (redF hr)))) (fun he hr => stopN g_array_valid hEQT hmT hL he (by simp) (redT (redF hr))))
def f_array_stations_0 : List AV → List Blk → LT := fun vs Ms => match vs, Ms with
  | [.v (.c (.d (.int .i64 p2))), .v (.c (.aslice 0 none)), .v (.c (.d (.int .i64 p9))), .v (.c (.d (.int .i64 p10)))], [.arr none .site m0] => o_array_stations_0 p2 p9 m0 (lp_array_stations_0 p2 p9 m0 p10)
  | _, _ => .no
def L_array_stations_0 := LamN 4 18 1 [2, 8, 9, 10] f_array_stations_0
theorem k_array_stations_0 : LOKbn Tryz.prog GT gbT 1 L_array_stations_0 (loopB Tryz.prog 107 0) := by
  refine LOKbn.lamN (by kernel_rfl) fun vs Ms x T' M' N' hr => ?_
  unfold f_array_stations_0 at hr
  split at hr
  · obtain ⟨q1, j, q2⟩ := r_array_stations_0 _ _ _ _ _ x T' M' N' hr
    exact ⟨q1, j, q2⟩
  · exact hr.elim
structure O_array_stations where
  ok : Bool
  r0 : Int
def m_array_stations (a0 : List Site) : O_array_stations := bif decide ((8 : Int) < (a0.length : Int)) then ⟨true, (4 : Int)⟩ else (bif Nat.beq (lp_array_stations_0 (0 : Int) (a0.length : Int) a0 (0 : Int)).k 0 then ⟨true, (8 : Int)⟩ else (bif Nat.beq (lp_array_stations_0 (0 : Int) (a0.length : Int) a0 (0 : Int)).k 1 then ⟨true, (0 : Int)⟩ else ⟨false, 0⟩))
def F_array_stations (a0 : List Site) (K : AV → List Blk → Ans) (r : O_array_stations) : Ans := bif r.ok then K (.v (.c (.d (.int .i64 r.r0)))) [.arr none .site a0] else none
theorem e_array_stations (a0 : List Site) (K : AV → List Blk → Ans) : evFn Tryz.prog GT EQT T_array_valid XT (orL L_array_stations_0 noL) 80 107 [.v (.c (.aslice 0 none))] [.arr none .site a0] (fun v M => K (finR 1 v M).1 (finR 1 v M).2) = F_array_stations a0 K (m_array_stations a0) := by
  unfold m_array_stations
  refine Eq.trans ?_ (Eq.symm (pushT rfl (pushT rfl (pushT rfl rfl))))
  kernel_rfl
theorem lok_array_stations : ∀ fn c, Tryz.prog.funcs[107]? = some fn → fn.body = some c → LOKn Tryz.prog GT gbT 1 (orL L_array_stations_0 noL) (loopsIn c) := by
  refine LOKn.ofF fun b hb => ?_
  have e : loopsF Tryz.prog 107 = [loopB Tryz.prog 107 0] := by kernel_rfl
  rw [e] at hb
  simp only [List.mem_cons, List.not_mem_nil, or_false] at hb
  subst hb
  exact (LOKbn.or k_array_stations_0 (fun _ _ _ _ _ _ _ h => h.elim))
theorem c_array_stations (a0 : List Site) (hd : (m_array_stations a0).ok = true) : CallsA Tryz.prog GT gbT 107 [.v (.c (.aslice 0 none))] [.arr none .site a0] (.v (.c (.d (.int .i64 ((m_array_stations a0).r0))))) [.arr none .site a0] := by
  refine CallsA.ofEvR g_array_valid hEQT hmT (n0 := 1) rfl lok_array_stations ((e_array_stations a0 (fun v M => some (Res.fin v M))).trans ?_)
  unfold F_array_stations
  rw [hd]
  rfl
def s_array_stations : List AV → List Blk → (AV → List Blk → Ans) → Ans := fun xs bs K => match xs, bs with
  | [.v (.c (.aslice 0 none))], [.arr none .site a0] => F_array_stations a0 K (m_array_stations a0)
  | _, _ => none
def T_array_stations : Nat → List AV → List Blk → (AV → List Blk → Ans) → Ans := upd T_array_valid 107 s_array_stations
theorem g_array_stations : GOK Tryz.prog GT gbT T_array_stations XT := by
  refine GOK.upd g_array_valid (fun args w => Tryz.call107 args w) fun xs bs K r h => ?_
  unfold s_array_stations at h
  split at h
  · unfold F_array_stations at h
    simp only [cond_eq_ite] at h
    split at h
    · rename_i hd
      exact ⟨_, _, c_array_stations _ hd, h⟩
    · cases h
  · cases h
end Go.Ev

namespace Go.Ev
open Go Go.Proofs
theorem c_array_pairs (a0 : Int) : CallsA Tryz.prog GT gbT 109 [.v (.c (.d (.int .i64 a0)))] [] (.v (.c (.fn 136 [0]))) [.rw 3 [.int .i64 a0]] :=
  CallsA.ofEvN g_array_stations hEQT hmT (n := 40) (Λ := noL) (fun _ M => M) (fun _ _ _ => .inl rfl) (fun _ _ _ _ => LOKn.nil) (by kernel_rfl)
def s_array_pairs : List AV → List Blk → (AV → List Blk → Ans) → Ans := fun xs bs K => match xs, bs with
  | [.v (.c (.d (.int .i64 a0)))], [] => K (.v (.c (.fn 136 [0]))) [.rw 3 [.int .i64 a0]]
  | _, _ => none
def T_array_pairs : Nat → List AV → List Blk → (AV → List Blk → Ans) → Ans := upd T_array_stations 109 s_array_pairs
theorem g_array_pairs : GOK Tryz.prog GT gbT T_array_pairs XT := by
  refine GOK.upd g_array_stations (fun args w => Tryz.call109 args w) fun xs bs K r h => ?_
  unfold s_array_pairs at h
  split at h
  · exact ⟨_, _, c_array_pairs _, h⟩
  · cases h
end Go.Ev

namespace Go.Ev
open Go Go.Proofs
structure R_array_place_0 where
  k : Nat
  p29 : Int
  m5 : List Placed
def run_array_place_0 (p28 : Int) (m0 : List Site) (q1 : Globe) (q3_0 : Int) : Nat → Int → List Placed → R_array_place_0
  | 0, p29, m5 => ⟨2, p29, m5⟩
  | n + 1, p29, m5 => bif decide (p29 < p28) then (bif (decide ((0 : Int) ≤ p29) && decide (p29 < (m0.length : Int))) then (bif ((atV q1 ((m0.getD p29.toNat (ET.z .site)).s) ((m0.getD p29.toNat (ET.z .site)).t)).2 != (0 : Int)) then ⟨0, p29, m5⟩ else (bif (decide ((0 : Int) ≤ p29) && decide (p29 < (m5.length : Int))) then run_array_place_0 p28 m0 q1 q3_0 n (w64 (p29 + (1 : Int))) (m5.set p29.toNat ⟨m0.getD p29.toNat (ET.z .site), (atV q1 ((m0.getD p29.toNat (ET.z .site)).s) ((m0.getD p29.toNat (ET.z .site)).t)).1⟩) else ⟨2, p29, m5⟩)) else ⟨2, p29, m5⟩) else ⟨1, p29, m5⟩
def lp_array_place_0 (p28 : Int) (m0 : List Site) (q1 : Globe) (q3_0 : Int) (p29 : Int) (m5 : List Placed) : R_array_place_0 := run_array_place_0 p28 m0 q1 q3_0 (2000 + (m0.length + m5.length)) p29 m5
abbrev H_array_place_0 (p28 : Int) (_m0 : List Site) (_q1 : Globe) (_q3_0 : Int) (p29 : Int) (_m5 : List Placed) : TS := headT [2, 4, 5, 8, 27, 28, 29] 88 [.v (.c (.ptr 1 0)), .v (.c (.ptr 2 0)), .v (.c (.ptr 3 0)), .v (.c (.ptr 4 0)), .v (.c (.aslice 0 none)), .v (.c (.d (.int .i64 p28))), .v (.c (.d (.int .i64 p29)))]
theorem b_array_place_0 (p28 : Int) (m0 : List Site) (q1 : Globe) (q3_0 : Int) (p29 : Int) (m5 : List Placed) : evCode Tryz.prog GT EQT T_array_pairs XT noL 120 (loopB Tryz.prog 71 0) (H_array_place_0 p28 m0 q1 q3_0 p29 m5) [.arr none .site m0, .rw 23 [.int .i64 q1.a, .int .i64 q1.b], .cell 131 .nilS, .rw 32 [.int .i64 q3_0], .cell 131 (.aslice 5 none), .arr (some 135) .placed m5] 6 (normK 1 [2, 4, 5, 8, 27, 28, 29]) =
    bif decide (p29 < p28) then (bif (decide ((0 : Int) ≤ p29) && decide (p29 < (m0.length : Int))) then (bif ((atV q1 ((m0.getD p29.toNat (ET.z .site)).s) ((m0.getD p29.toNat (ET.z .site)).t)).2 != (0 : Int)) then some (.st .ret (headT [2, 4, 5, 8, 27, 28, 29] 88 [.v (.c (.ptr 1 0)), .v (.c (.ptr 2 0)), .v (.c (.ptr 3 0)), .v (.c (.ptr 4 0)), .v (.c (.aslice 0 none)), .v (.c (.d (.int .i64 p28))), .v (.c (.d (.int .i64 p29)))]) [.arr none .site m0, .rw 23 [.int .i64 q1.a, .int .i64 q1.b], .cell 131 .nilS, .rw 32 [.int .i64 ((atV q1 ((m0.getD p29.toNat (ET.z .site)).s) ((m0.getD p29.toNat (ET.z .site)).t)).2)], .cell 131 (.aslice 5 none), .arr (some 135) .placed m5] 6) else (bif (decide ((0 : Int) ≤ p29) && decide (p29 < (m5.length : Int))) then some (.st .normal (headT [2, 4, 5, 8, 27, 28, 29] 88 [.v (.c (.ptr 1 0)), .v (.c (.ptr 2 0)), .v (.c (.ptr 3 0)), .v (.c (.ptr 4 0)), .v (.c (.aslice 0 none)), .v (.c (.d (.int .i64 p28))), .v (.c (.d (.int .i64 (w64 (p29 + (1 : Int))))))]) [.arr none .site m0, .rw 23 [.int .i64 q1.a, .int .i64 q1.b], .cell 131 .nilS, .rw 32 [.int .i64 q3_0], .cell 131 (.aslice 5 none), .arr (some 135) .placed (m5.set p29.toNat ⟨m0.getD p29.toNat (ET.z .site), (atV q1 ((m0.getD p29.toNat (ET.z .site)).s) ((m0.getD p29.toNat (ET.z .site)).t)).1⟩)] 6) else none)) else none) else some (.st (.exit 0) (headT [2, 4, 5, 8, 27, 28, 29] 88 [.v (.c (.ptr 1 0)), .v (.c (.ptr 2 0)), .v (.c (.ptr 3 0)), .v (.c (.ptr 4 0)), .v (.c (.aslice 0 none)), .v (.c (.d (.int .i64 p28))), .v (.c (.d (.int .i64 p29)))]) [.arr none .site m0, .rw 23 [.int .i64 q1.a, .int .i64 q1.b], .cell 131 .nilS, .rw 32 [.int .i64 q3_0], .cell 131 (.aslice 5 none), .arr (some 135) .placed m5] 6) := by
  kernel_rfl
def o_array_place_0 (p28 : Int) (m0 : List Site) (q1 : Globe) (q3_0 : Int) (r : R_array_place_0) : LT := .br (Nat.beq r.k 0) (.st .ret (headT [2, 4, 5, 8, 27, 28, 29] 88 [.v (.c (.ptr 1 0)), .v (.c (.ptr 2 0)), .v (.c (.ptr 3 0)), .v (.c (.ptr 4 0)), .v (.c (.aslice 0 none)), .v (.c (.d (.int .i64 p28))), .v (.c (.d (.int .i64 r.p29)))]) [.arr none .site m0, .rw 23 [.int .i64 q1.a, .int .i64 q1.b], .cell 131 .nilS, .rw 32 [.int .i64 ((atV q1 ((m0.getD r.p29.toNat (ET.z .site)).s) ((m0.getD r.p29.toNat (ET.z .site)).t)).2)], .cell 131 (.aslice 5 none), .arr (some 135) .placed r.m5] 6) (.br (Nat.beq r.k 1) (.st (.exit 0) (headT [2, 4, 5, 8, 27, 28, 29] 88 [.v (.c (.ptr 1 0)), .v (.c (.ptr 2 0)), .v (.c (.ptr 3 0)), .v (.c (.ptr 4 0)), .v (.c (.aslice 0 none)), .v (.c (.d (.int .i64 p28))), .v (.c (.d (.int .i64 r.p29)))]) [.arr none .site m0, .rw 23 [.int .i64 q1.a, .int .i64 q1.b], .cell 131 .nilS, .rw 32 [.int .i64 q3_0], .cell 131 (.aslice 5 none), .arr (some 135) .placed r.m5] 6) (.no))
theorem r_array_place_0 (p28 : Int) (m0 : List Site) (q1 : Globe) (q3_0 : Int) : ∀ (n : Nat) (p29 : Int) (m5 : List Placed) (x : Ex) (T' : TS) (M' : List Blk) (N' : Nat), LReach (o_array_place_0 p28 m0 q1 q3_0 (run_array_place_0 p28 m0 q1 q3_0 n p29 m5)) x T' M' N' → x ≠ .normal ∧ ∃ j, RoundsN Tryz.prog GT gbT 1 (loopB Tryz.prog 71 0) j (H_array_place_0 p28 m0 q1 q3_0 p29 m5) [.arr none .site m0, .rw 23 [.int .i64 q1.a, .int .i64 q1.b], .cell 131 .nilS, .rw 32 [.int .i64 q3_0], .cell 131 (.aslice 5 none), .arr (some 135) .placed m5] 6 x T' M' N' := by
  have hL : LOKn Tryz.prog GT gbT 1 noL (loopsIn (loopB Tryz.prog 71 0)) := fun _ _ _ _ _ _ _ _ _ h => h.elim
  intro n
  induction n with
  | zero =>
    intro p29 m5 x T' M' N' hr
    exact False.elim (redF (redF hr))
  | succ n ih =>
    intro p29 m5 x T' M' N'
    rw [run_array_place_0]
    exact viaE (b_array_place_0 p28 m0 q1 q3_0 p29 m5) (condG (o := o_array_place_0 p28 m0 q1 q3_0) (condG (o := o_array_place_0 p28 m0 q1 q3_0) (condG (o := o_array_place_0 p28 m0 q1 q3_0) (fun he hr => stopN g_array_pairs hEQT hmT hL he (by simp) (redT hr)) (condG (o := o_array_place_0 p28 m0 q1 q3_0) (fun he hr => goN g_array_pairs hEQT hmT hL he (ih (w64 (p29 + (1 : Int))) (m5.set p29.toNat ⟨m0.getD p29.toNat (ET.z .site), (atV q1 ((m0.getD p29.toNat (ET.z .site)).s) ((m0.getD p29.toNat (ET.z .site)).t)).1⟩) x T' M' N' hr)) (fun _ hr => False.elim (redF (redF hr))))) (fun _ hr => False.elim (redF (redF hr)))) (fun he hr => stopN g_array_pairs hEQT hmT hL he (by simp) (redT (redF hr))))
def f_array_place_0 : List AV → List Blk → LT := fun vs Ms => match vs, Ms with
  | [.v (.c (.ptr 1 0)), .v (.c (.ptr 2 0)), .v (.c (.ptr 3 0)), .v (.c (.ptr 4 0)), .v (.c (.aslice 0 none)), .v (.c (.d (.int .i64 p28))), .v (.c (.d (.int .i64 p29)))], [.arr none .site m0, .rw 23 [.int .i64 q1_0, .int .i64 q1_1], .cell 131 .nilS, .rw 32 [.int .i64 q3_0], .cell 131 (.aslice 5 none), .arr (some 135) .placed m5] => o_array_place_0 p28 m0 (⟨q1_0, q1_1⟩ : Globe) q3_0 (lp_array_place_0 p28 m0 (⟨q1_0, q1_1⟩ : Globe) q3_0 p29 m5)
  | _, _ => .no
def L_array_place_0 := LamN 9 88 1 [2, 4, 5, 8, 27, 28, 29] f_array_place_0
theorem k_array_place_0 : LOKbn Tryz.prog GT gbT 1 L_array_place_0 (loopB Tryz.prog 71 0) := by
  refine LOKbn.lamN (by kernel_rfl) fun vs Ms x T' M' N' hr => ?_
  unfold f_array_place_0 at hr
  split at hr
  · obtain ⟨q1, j, q2⟩ := r_array_place_0 _ _ _ _ _ _ _ x T' M' N' hr
    exact ⟨q1, j, q2⟩
  · exact hr.elim
abbrev TP := T_array_pairs
theorem gP : GOK Tryz.prog GT gbT TP XT := g_array_pairs
abbrev LP := (orL L_array_place_0 noL)
structure O0_array_place where
  k : Nat
  e : Int
  ps : List Placed
def m0_array_place (a0 : Globe) (a1 : List Site) : O0_array_place := bif ((checkG a0) != (0 : Int)) then ⟨0, (checkG a0), []⟩ else (bif (m_array_stations a1).ok then (bif ((m_array_stations a1).r0 != (0 : Int)) then ⟨0, (m_array_stations a1).r0, []⟩ else (bif (decide ((a1.length : Int) = (a1.length : Int)) && (decide (0 ≤ (a1.length : Int)) && (decide ((a1.length : Int) ≤ 1048576) && ((11 == 11) && (Nat.blt 0 11 && Nat.ble 96 4096))))) then (bif Nat.beq (lp_array_place_0 (a1.length : Int) a1 a0 (0 : Int) (0 : Int) (List.replicate a1.length (⟨⟨ByteArray.empty, ⟨(0 : Int), (0 : Int)⟩, ⟨(0 : Int), (0 : Int)⟩⟩, ⟨⟨(0 : Int), (0 : Int)⟩, ⟨(0 : Int), (0 : Int)⟩, ⟨(0 : Int), (0 : Int)⟩⟩⟩ : Placed))).k 0 then ⟨0, (atV a0 ((a1.getD ((lp_array_place_0 (a1.length : Int) a1 a0 (0 : Int) (0 : Int) (List.replicate a1.length (⟨⟨ByteArray.empty, ⟨(0 : Int), (0 : Int)⟩, ⟨(0 : Int), (0 : Int)⟩⟩, ⟨⟨(0 : Int), (0 : Int)⟩, ⟨(0 : Int), (0 : Int)⟩, ⟨(0 : Int), (0 : Int)⟩⟩⟩ : Placed))).p29).toNat (ET.z .site)).s) ((a1.getD ((lp_array_place_0 (a1.length : Int) a1 a0 (0 : Int) (0 : Int) (List.replicate a1.length (⟨⟨ByteArray.empty, ⟨(0 : Int), (0 : Int)⟩, ⟨(0 : Int), (0 : Int)⟩⟩, ⟨⟨(0 : Int), (0 : Int)⟩, ⟨(0 : Int), (0 : Int)⟩, ⟨(0 : Int), (0 : Int)⟩⟩⟩ : Placed))).p29).toNat (ET.z .site)).t)).2, []⟩ else (bif Nat.beq (lp_array_place_0 (a1.length : Int) a1 a0 (0 : Int) (0 : Int) (List.replicate a1.length (⟨⟨ByteArray.empty, ⟨(0 : Int), (0 : Int)⟩, ⟨(0 : Int), (0 : Int)⟩⟩, ⟨⟨(0 : Int), (0 : Int)⟩, ⟨(0 : Int), (0 : Int)⟩, ⟨(0 : Int), (0 : Int)⟩⟩⟩ : Placed))).k 1 then ⟨1, 0, ((lp_array_place_0 (a1.length : Int) a1 a0 (0 : Int) (0 : Int) (List.replicate a1.length (⟨⟨ByteArray.empty, ⟨(0 : Int), (0 : Int)⟩, ⟨(0 : Int), (0 : Int)⟩⟩, ⟨⟨(0 : Int), (0 : Int)⟩, ⟨(0 : Int), (0 : Int)⟩, ⟨(0 : Int), (0 : Int)⟩⟩⟩ : Placed))).m5)⟩ else ⟨2, 0, []⟩)) else ⟨2, 0, []⟩)) else ⟨2, 0, []⟩)
def F0_array_place (_a0 : Globe) (a1 : List Site) (r : O0_array_place) : Ans := bif Nat.beq r.k 0 then some (.st .ret (headT [4, 5] 88 [.v (.c (.ptr 1 0)), .v (.c (.ptr 2 0))]) [.arr none .site a1, .cell 131 .nilS, .rw 32 [.int .i64 r.e]] 3) else bif Nat.beq r.k 1 then some (.st .normal (headT [4, 5, 8, 55] 88 [.v (.c (.ptr 1 0)), .v (.c (.ptr 2 0)), .v (.c (.ptr 3 0)), .v (.c (.fn 136 [4]))]) [.arr none .site a1, .cell 131 .nilS, .rw 32 [.int .i64 (0 : Int)], .cell 131 (.aslice 5 none), .rw 3 [.int .i64 (r.ps.length : Int)], .arr (some 135) .placed r.ps] 6) else none
theorem w0_array_place (a0 : Globe) (a1 : List Site) : evList Tryz.prog GT EQT TP XT LP 120 (splitC 5 (bodyC Tryz.prog 71)).1 (frameT [.v (.agg [.int .i64 a0.a, .int .i64 a0.b]), .v (.c (.aslice 0 none))] 86) [.arr none .site a1] 1 (placeK Tryz.prog GT EQT TP XT LP 120 (fstC (fstC (splitC 5 (bodyC Tryz.prog 71)).2)) 1 [4, 5] [4, 5, 8, 55]) =
    bif ((checkG a0) != (0 : Int)) then some (.st .ret (headT [4, 5] 88 [.v (.c (.ptr 1 0)), .v (.c (.ptr 2 0))]) [.arr none .site a1, .cell 131 .nilS, .rw 32 [.int .i64 (checkG a0)]] 3) else (bif (m_array_stations a1).ok then (bif ((m_array_stations a1).r0 != (0 : Int)) then some (.st .ret (headT [4, 5] 88 [.v (.c (.ptr 1 0)), .v (.c (.ptr 2 0))]) [.arr none .site a1, .cell 131 .nilS, .rw 32 [.int .i64 ((m_array_stations a1).r0)]] 3) else (bif (decide ((a1.length : Int) = (a1.length : Int)) && (decide (0 ≤ (a1.length : Int)) && (decide ((a1.length : Int) ≤ 1048576) && ((11 == 11) && (Nat.blt 0 11 && Nat.ble 96 4096))))) then (bif Nat.beq (lp_array_place_0 (a1.length : Int) a1 a0 (0 : Int) (0 : Int) (List.replicate a1.length (⟨⟨ByteArray.empty, ⟨(0 : Int), (0 : Int)⟩, ⟨(0 : Int), (0 : Int)⟩⟩, ⟨⟨(0 : Int), (0 : Int)⟩, ⟨(0 : Int), (0 : Int)⟩, ⟨(0 : Int), (0 : Int)⟩⟩⟩ : Placed))).k 0 then some (.st .ret (headT [4, 5] 88 [.v (.c (.ptr 1 0)), .v (.c (.ptr 2 0))]) [.arr none .site a1, .cell 131 .nilS, .rw 32 [.int .i64 ((atV a0 ((a1.getD ((lp_array_place_0 (a1.length : Int) a1 a0 (0 : Int) (0 : Int) (List.replicate a1.length (⟨⟨ByteArray.empty, ⟨(0 : Int), (0 : Int)⟩, ⟨(0 : Int), (0 : Int)⟩⟩, ⟨⟨(0 : Int), (0 : Int)⟩, ⟨(0 : Int), (0 : Int)⟩, ⟨(0 : Int), (0 : Int)⟩⟩⟩ : Placed))).p29).toNat (ET.z .site)).s) ((a1.getD ((lp_array_place_0 (a1.length : Int) a1 a0 (0 : Int) (0 : Int) (List.replicate a1.length (⟨⟨ByteArray.empty, ⟨(0 : Int), (0 : Int)⟩, ⟨(0 : Int), (0 : Int)⟩⟩, ⟨⟨(0 : Int), (0 : Int)⟩, ⟨(0 : Int), (0 : Int)⟩, ⟨(0 : Int), (0 : Int)⟩⟩⟩ : Placed))).p29).toNat (ET.z .site)).t)).2)]] 3) else (bif Nat.beq (lp_array_place_0 (a1.length : Int) a1 a0 (0 : Int) (0 : Int) (List.replicate a1.length (⟨⟨ByteArray.empty, ⟨(0 : Int), (0 : Int)⟩, ⟨(0 : Int), (0 : Int)⟩⟩, ⟨⟨(0 : Int), (0 : Int)⟩, ⟨(0 : Int), (0 : Int)⟩, ⟨(0 : Int), (0 : Int)⟩⟩⟩ : Placed))).k 1 then some (.st .normal (headT [4, 5, 8, 55] 88 [.v (.c (.ptr 1 0)), .v (.c (.ptr 2 0)), .v (.c (.ptr 3 0)), .v (.c (.fn 136 [4]))]) [.arr none .site a1, .cell 131 .nilS, .rw 32 [.int .i64 (0 : Int)], .cell 131 (.aslice 5 none), .rw 3 [.int .i64 (((lp_array_place_0 (a1.length : Int) a1 a0 (0 : Int) (0 : Int) (List.replicate a1.length (⟨⟨ByteArray.empty, ⟨(0 : Int), (0 : Int)⟩, ⟨(0 : Int), (0 : Int)⟩⟩, ⟨⟨(0 : Int), (0 : Int)⟩, ⟨(0 : Int), (0 : Int)⟩, ⟨(0 : Int), (0 : Int)⟩⟩⟩ : Placed))).m5).length : Int)], .arr (some 135) .placed ((lp_array_place_0 (a1.length : Int) a1 a0 (0 : Int) (0 : Int) (List.replicate a1.length (⟨⟨ByteArray.empty, ⟨(0 : Int), (0 : Int)⟩, ⟨(0 : Int), (0 : Int)⟩⟩, ⟨⟨(0 : Int), (0 : Int)⟩, ⟨(0 : Int), (0 : Int)⟩, ⟨(0 : Int), (0 : Int)⟩⟩⟩ : Placed))).m5)] 6) else none)) else none)) else none) := by
  kernel_rfl
theorem e0_array_place (a0 : Globe) (a1 : List Site) : evList Tryz.prog GT EQT TP XT LP 120 (splitC 5 (bodyC Tryz.prog 71)).1 (frameT [.v (.agg [.int .i64 a0.a, .int .i64 a0.b]), .v (.c (.aslice 0 none))] 86) [.arr none .site a1] 1 (placeK Tryz.prog GT EQT TP XT LP 120 (fstC (fstC (splitC 5 (bodyC Tryz.prog 71)).2)) 1 [4, 5] [4, 5, 8, 55]) = F0_array_place a0 a1 (m0_array_place a0 a1) := by
  refine (w0_array_place a0 a1).trans ?_
  unfold m0_array_place
  exact (condF rfl (condF (condF rfl (condF (condF rfl (condF rfl rfl)) rfl)) rfl))
theorem wa_array_place (a1 : List Site) (ps : List Placed) (i j : Int) : evCode Tryz.prog GT EQT TP XT noL 120 (asgC (sndC (fstC (splitC 5 (bodyC Tryz.prog 71)).2))) (tset (.v (.agg [.int .i64 i, .int .i64 j])) (headT [4, 5, 8, 55] 88 [.v (.c (.ptr 1 0)), .v (.c (.ptr 2 0)), .v (.c (.ptr 3 0)), .v (.c (.fn 136 [4]))]) 56) [.arr none .site a1, .cell 131 .nilS, .rw 32 [.int .i64 (0 : Int)], .cell 131 (.aslice 5 none), .dead, .arr (some 135) .placed ps] 6 (fun x T M N => some (.st x T M N)) =
    some (.st .normal (tset (.v (.c (.ptr 6 0))) (tset (.v (.agg [.int .i64 i, .int .i64 j])) (headT [4, 5, 8, 55] 88 [.v (.c (.ptr 1 0)), .v (.c (.ptr 2 0)), .v (.c (.ptr 3 0)), .v (.c (.fn 136 [4]))]) 56) 13) [.arr none .site a1, .cell 131 .nilS, .rw 32 [.int .i64 (0 : Int)], .cell 131 (.aslice 5 none), .dead, .arr (some 135) .placed ps, .rw 176 [.int .i64 i, .int .i64 j]] 7) := by
  kernel_rfl
theorem wb_array_place (a1 : List Site) (ps : List Placed) (i j : Int) : evCode Tryz.prog GT EQT TP XT noL 120 (bodC (sndC (fstC (splitC 5 (bodyC Tryz.prog 71)).2))) (tset (.v (.c (.ptr 6 0))) (tset (.v (.agg [.int .i64 i, .int .i64 j])) (headT [4, 5, 8, 55] 88 [.v (.c (.ptr 1 0)), .v (.c (.ptr 2 0)), .v (.c (.ptr 3 0)), .v (.c (.fn 136 [4]))]) 56) 13) [.arr none .site a1, .cell 131 .nilS, .rw 32 [.int .i64 (0 : Int)], .cell 131 (.aslice 5 none), .dead, .arr (some 135) .placed ps, .rw 176 [.int .i64 i, .int .i64 j]] 7 (cutR 6) =
    bif (decide ((0 : Int) ≤ i) && decide (i < (ps.length : Int))) then (bif (decide ((0 : Int) ≤ j) && decide (j < (ps.length : Int))) then (bif ((((ps.getD i.toNat (ET.z .placed)).site).name).data.toList == (((ps.getD j.toNat (ET.z .placed)).site).name).data.toList) then some (.st .ret ⟨0, .any, []⟩ [.arr none .site a1, .cell 131 .nilS, .rw 32 [.int .i64 (14 : Int)], .cell 131 (.aslice 5 none), .dead, .arr (some 135) .placed ps] 7) else (bif (decide ((0 : Int) ≤ i) && decide (i < (ps.length : Int))) then (bif (decide ((0 : Int) ≤ j) && decide (j < (ps.length : Int))) then (bif eqAll [.int .i64 ((((ps.getD i.toNat (ET.z .placed)).at_).x).num), .int .i64 ((((ps.getD i.toNat (ET.z .placed)).at_).x).den), .int .i64 ((((ps.getD i.toNat (ET.z .placed)).at_).y).num), .int .i64 ((((ps.getD i.toNat (ET.z .placed)).at_).y).den), .int .i64 ((((ps.getD i.toNat (ET.z .placed)).at_).z).num), .int .i64 ((((ps.getD i.toNat (ET.z .placed)).at_).z).den)] [.int .i64 ((((ps.getD j.toNat (ET.z .placed)).at_).x).num), .int .i64 ((((ps.getD j.toNat (ET.z .placed)).at_).x).den), .int .i64 ((((ps.getD j.toNat (ET.z .placed)).at_).y).num), .int .i64 ((((ps.getD j.toNat (ET.z .placed)).at_).y).den), .int .i64 ((((ps.getD j.toNat (ET.z .placed)).at_).z).num), .int .i64 ((((ps.getD j.toNat (ET.z .placed)).at_).z).den)] then some (.st .ret ⟨0, .any, []⟩ [.arr none .site a1, .cell 131 .nilS, .rw 32 [.int .i64 (14 : Int)], .cell 131 (.aslice 5 none), .dead, .arr (some 135) .placed ps] 7) else some (.st .normal ⟨0, .any, []⟩ [.arr none .site a1, .cell 131 .nilS, .rw 32 [.int .i64 (0 : Int)], .cell 131 (.aslice 5 none), .dead, .arr (some 135) .placed ps] 7)) else none) else none)) else none) else none := by
  kernel_rfl
theorem lok_array_place : ∀ fn c, Tryz.prog.funcs[71]? = some fn → fn.body = some c → LOKn Tryz.prog GT gbT 1 LP (loopsIn c) := by
  refine LOKn.ofF fun b hb => ?_
  have e : loopsF Tryz.prog 71 = [loopB Tryz.prog 71 0] := by kernel_rfl
  rw [e] at hb
  simp only [List.mem_cons, List.not_mem_nil, or_false] at hb
  subst hb
  exact (LOKbn.or k_array_place_0 (fun _ _ _ _ _ _ _ h => h.elim))
end Go.Ev

namespace Go.Proofs
open Go.RowKit Go.Shelf
attribute [local go_sem] Oper.semAt_some
abbrev PairN (n : Nat) : Type := { p : Nat × Nat // p.1 < p.2 ∧ p.2 < n }
def encP {n : Nat} (x : PairN n) : Array Value := #[.agg #[.int .i64 (x.1.1 : Int), .int .i64 (x.1.2 : Int)]]
set_option maxHeartbeats 4000000 in
theorem pairs1_in (m l bn n : Nat) (hn : n ≤ 9223372036854775807) (J Jx : List (PairN n) → World → Prop)
    (hY : ∀ pre x W, J pre W → pre.length < n * n → YieldAt Fence.wide (m - 1) Tryz.prog l (encP x) W fun e W' =>
      (e = .returned (.bool true) ∧ J (pre ++ [x]) W' ∧ W'.heap[bn]? = W.heap[bn]?) ∨ (e = .returned (.bool false) ∧ Jx (pre ++ [x]) W'))
    (W : World) (hb : W.cell? ⟨bn, 0, none⟩ = some (.int .i64 n)) (h0 : J [] W) :
    CallsIn Fence.wide m Tryz.prog 136 #[.func (.yield l) #[] #[], .pointer (some ⟨bn, 0, none⟩)] W fun e W' => (∃ v, e = .returned v) ∧
      ((∃ ys, (∀ p, p ∈ ys) ∧ J ys W') ∨ (∃ pre, True ∧ Jx pre W')) := by
  refine callsIn_of_wp Tryz.func136 rfl trivial ?_ rfl
  simp only [Tryz.ntmps136, List.size_toArray, List.length_cons, List.length_nil, Nat.reduceAdd, Nat.reduceSub, Array.replicate_succ, Array.replicate_zero, List.push_toArray, List.append_toArray, List.nil_append, List.cons_append]
  gi_wp2
  gi_loopw [6] (fun i wr => ∃ k : Nat, k ≤ n ∧ i = .int .i64 k ∧ ∃ pre, J pre wr ∧ (∀ p : PairN n, p.1.1 < k → p ∈ pre) ∧ pre.length ≤ k * n ∧ wr.heap[bn]? = W.heap[bn]?)
    (fun i _ => n - (intOf i).toNat)
  case atStart => exact ⟨0, Nat.zero_le _, rfl, [], h0, fun p hp => by omega, by simp, rfl⟩
  case round =>
    obtain ⟨k, hk, rfl, pre, hJ, hall, hlen, hbn⟩ := hrel
    by_cases hlt : k < n
    · have hbc : wr.cell? ⟨bn, 0, none⟩ = some (.int .i64 n) := (World.cell?_of_block (a := ⟨bn, 0, none⟩) hbn).trans hb
      gi_wp2
      gi_loopw [4] (fun j wq => ∃ c : Nat, k + 1 ≤ c ∧ c ≤ n ∧ j = .int .i64 c ∧ ∃ pre, J pre wq ∧ (∀ p : PairN n, p.1.1 < k → p ∈ pre) ∧ (∀ p : PairN n, p.1.1 = k → p.1.2 < c → p ∈ pre) ∧ pre.length ≤ k * n + c ∧ wq.heap[bn]? = W.heap[bn]?)
        (fun j _ => n - (intOf j).toNat)
      case atStart => exact ⟨k + 1, Nat.le_refl _, hlt, by simp, pre, hJ, hall, fun p h1 h2 => by have := p.2.1; omega, by omega, hbn⟩
      case round =>
        clear hJ hall hlen hbn hbc pre
        obtain ⟨c, hc1, hc2, rfl, pre, hJ, hall, hrow, hlen, hbn⟩ := hrel
        have hbc : wr.cell? ⟨bn, 0, none⟩ = some (.int .i64 n) := (World.cell?_of_block (a := ⟨bn, 0, none⟩) hbn).trans hb
        by_cases hlt2 : c < n
        · have hkn : k * n + n ≤ n * n := by rw [← Nat.succ_mul]; exact Nat.mul_le_mul_right n hlt
          obtain ⟨fn, tmps, assign, body, hy, hR⟩ := hY pre ⟨(k, c), by omega, hlt2⟩ wr hJ (by omega)
          simp only [encP] at hy
          gi_wp2
          refine ⟨fun h => (by cases h), hR.mono ?_⟩
          rintro e W3 (⟨rfl, hJ3, hk3⟩ | ⟨rfl, hJx3⟩)
          · gi_wp2
            go_roundw
            case rel =>
              refine ⟨c + 1, by omega, by omega, by simp, _, hJ3, fun p hp => by simp [hall p hp], fun p h1 h2 => ?_, by simp; omega, hk3.trans hbn⟩
              by_cases h3 : p.1.2 < c
              · simp [hrow p h1 h3]
              · have : p = ⟨(k, c), by omega, hlt2⟩ := Subtype.ext (Prod.ext h1 (show p.1.2 = c by omega))
                simp [this]
            case measure => simp [intOf]; omega
          · gi_wp2
            refine bodyPost_ret (results_none rfl _ _ _) rfl ?_
            exact ⟨⟨_, rfl⟩, .inr ⟨_, trivial, hJx3⟩⟩
        · obtain rfl : c = n := by omega
          gi_wp2
          go_roundw
          case rel =>
            refine ⟨k + 1, by omega, by simp, pre, hJ, fun p hp => ?_, by rw [Nat.succ_mul]; exact hlen, hbn⟩
            by_cases h3 : p.1.1 < k
            · exact hall p h3
            · exact hrow p (by omega) p.2.2
          case measure => simp [intOf]; omega
    · obtain rfl : k = n := by omega
      gi_wp2
      go_end0
      exact ⟨⟨_, rfl⟩, .inl ⟨pre, fun p => hall p (by have := p.2; omega), hJ⟩⟩
end Go.Proofs

namespace Go.Ev
open Go Go.Proofs Go.RowKit
def dupAt (ps : List Placed) (i j : Nat) : Bool :=
  bif ((ps.getD i (ET.z .placed)).site.name.data.toList == (ps.getD j (ET.z .placed)).site.name.data.toList) then true else
    eqAll [.int .i64 (ps.getD i (ET.z .placed)).at_.x.num, .int .i64 (ps.getD i (ET.z .placed)).at_.x.den, .int .i64 (ps.getD i (ET.z .placed)).at_.y.num, .int .i64 (ps.getD i (ET.z .placed)).at_.y.den, .int .i64 (ps.getD i (ET.z .placed)).at_.z.num, .int .i64 (ps.getD i (ET.z .placed)).at_.z.den]
      [.int .i64 (ps.getD j (ET.z .placed)).at_.x.num, .int .i64 (ps.getD j (ET.z .placed)).at_.x.den, .int .i64 (ps.getD j (ET.z .placed)).at_.y.num, .int .i64 (ps.getD j (ET.z .placed)).at_.y.den, .int .i64 (ps.getD j (ET.z .placed)).at_.z.num, .int .i64 (ps.getD j (ET.z .placed)).at_.z.den]
def dupP (ps : List Placed) : Bool := (List.range ps.length).any fun j => (List.range j).any fun i => dupAt ps i j
theorem dupP_true {ps : List Placed} {i j : Nat} (h1 : i < j) (h2 : j < ps.length) (h : dupAt ps i j = true) : dupP ps = true := by
  unfold dupP
  rw [List.any_eq_true]
  exact ⟨j, List.mem_range.2 h2, List.any_eq_true.2 ⟨i, List.mem_range.2 h1, h⟩⟩
theorem dupP_false {ps : List Placed} (h : ∀ i j, i < j → j < ps.length → dupAt ps i j = false) : dupP ps = false := by
  unfold dupP
  rw [List.any_eq_false]
  intro j hj
  rw [List.any_eq_true]
  rintro ⟨i, hi, he⟩
  rw [h i j (List.mem_range.1 hi) (List.mem_range.1 hj)] at he
  cases he
structure O_array_place where
  ok : Bool
  r0 : List Placed
  r1 : Int
def m_array_place (a0 : Globe) (a1 : List Site) : O_array_place :=
  bif Nat.beq (m0_array_place a0 a1).k 0 then ⟨true, [], (m0_array_place a0 a1).e⟩
  else bif Nat.beq (m0_array_place a0 a1).k 1 then (bif dupP (m0_array_place a0 a1).ps then ⟨true, [], 14⟩ else ⟨true, (m0_array_place a0 a1).ps, 0⟩)
  else ⟨false, [], 0⟩
theorem round_eval (l : List Site) (ps : List Placed) (i j : Nat) (hi : i < j) (hj : j < ps.length) :
    evCode Tryz.prog GT EQT TP XT noL 120 (bodC (sndC (fstC (splitC 5 (bodyC Tryz.prog 71)).2))) (tset (.v (.c (.ptr 6 0))) (tset (.v (.agg [.int .i64 i, .int .i64 j])) (headT [4, 5, 8, 55] 88 [.v (.c (.ptr 1 0)), .v (.c (.ptr 2 0)), .v (.c (.ptr 3 0)), .v (.c (.fn 136 [4]))]) 56) 13) [.arr none .site l, .cell 131 .nilS, .rw 32 [.int .i64 (0 : Int)], .cell 131 (.aslice 5 none), .dead, .arr (some 135) .placed ps, .rw 176 [.int .i64 i, .int .i64 j]] 7 (cutR 6) =
    bif dupAt ps i j then some (.st .ret ⟨0, .any, []⟩ [.arr none .site l, .cell 131 .nilS, .rw 32 [.int .i64 (14 : Int)], .cell 131 (.aslice 5 none), .dead, .arr (some 135) .placed ps] 7)
    else some (.st .normal ⟨0, .any, []⟩ [.arr none .site l, .cell 131 .nilS, .rw 32 [.int .i64 (0 : Int)], .cell 131 (.aslice 5 none), .dead, .arr (some 135) .placed ps] 7) := by
  refine (wb_array_place l ps i j).trans ?_
  unfold dupAt
  simp only [nn_t, lt_t (show i < ps.length by omega), lt_t hj, Bool.and_self, cond_true, Int.toNat_natCast]
  cases ((ps.getD i (ET.z .placed)).site.name.data.toList == (ps.getD j (ET.z .placed)).site.name.data.toList) <;> rfl
theorem tail_eval (l : List Site) (ps : List Placed) : evCode Tryz.prog GT EQT TP XT noL 20 (fstC (sndC (splitC 5 (bodyC Tryz.prog 71)).2)) (headT [4, 5, 8, 55] 88 [.v (.c (.ptr 1 0)), .v (.c (.ptr 2 0)), .v (.c (.ptr 3 0)), .v (.c (.fn 136 [4]))])
      [.arr none .site l, .cell 131 .nilS, .rw 32 [.int .i64 (0 : Int)], .cell 131 (.aslice 5 none), .dead, .arr (some 135) .placed ps] 6 (fun x T M N => some (.st x T M N)) =
    some (.st .normal (tset (.v (.c (.aslice 5 none))) (headT [4, 5, 8, 55] 88 [.v (.c (.ptr 1 0)), .v (.c (.ptr 2 0)), .v (.c (.ptr 3 0)), .v (.c (.fn 136 [4]))]) 87)
      [.arr none .site l, .cell 131 (.aslice 5 none), .rw 32 [.int .i64 (0 : Int)], .cell 131 (.aslice 5 none), .dead, .arr (some 135) .placed ps] 6) := by
  kernel_rfl
theorem shape_place : (splitC 5 (bodyC Tryz.prog 71)).2 = .seq (.seq (fstC (fstC (splitC 5 (bodyC Tryz.prog 71)).2)) (.block 2 (.rangeFunc (.tmp 55) #[56] (asgC (sndC (fstC (splitC 5 (bodyC Tryz.prog 71)).2))) (bodC (sndC (fstC (splitC 5 (bodyC Tryz.prog 71)).2)))))) (.seq (fstC (sndC (splitC 5 (bodyC Tryz.prog 71)).2)) .ret) := by kernel_rfl
theorem none_result {P : Program} {wA w : World} {W : Nat → Prop} {σ τ : Sg} {T : TS} {M : List Blk} {a : Act} {l : List Site} {e : Int} {fn : Func} {n0 : Nat} (ty : Nat) (hn0 : n0 = 1) (hfr : ∀ b, n0 ≤ b → σ b = none) (hle : leB n0 σ τ) (hT : TRel τ T a) (hM : MRel wA W τ M w) (hm0 : mget M 0 = .arr none .site l)
    (hr : resDs P T M fn.results.toList = some [.c .nilS, .c (.d (.int .i64 e))]) : ∃ v, (results fn a.tmps).run P w = .ok v w ∧ ∃ υ, σ.le υ ∧ AVRel υ (.tup [.c (.aslice 1 none), .c (.d (.int .i64 e))]) v ∧ MRel wA W υ [.arr none .site l, .arr (some ty) .placed []] w := by
  subst hn0
  obtain ⟨v, h1, h2⟩ := results_rel hT hM hr
  refine ⟨v, h1, fun c => if c = 0 then τ 0 else if c = 1 then some ⟨0, 0, 0, true, 0, ET.len .placed⟩ else none, fun b L hL => ?_, ?_, ?_⟩
  · have hb : b < 1 := by
      rcases Nat.lt_or_ge b 1 with h | h
      · exact h
      · rw [hfr b h] at hL; cases hL
    obtain rfl : b = 0 := by omega
    exact hle 0 L hb hL
  · obtain ⟨vs, e1, e2⟩ := h2
    refine ⟨vs, e1, ?_⟩
    cases hv : vs.toList with
    | nil => rw [hv] at e2; exact e2.elim
    | cons v1 r =>
      rw [hv] at e2
      obtain ⟨k1, k2⟩ := e2
      refine ⟨⟨_, rfl, .inl ⟨rfl, k1⟩⟩, ?_⟩
      cases r with
      | nil => exact k2.elim
      | cons v2 s =>
        obtain ⟨k3, k4⟩ := k2
        refine ⟨k3, ?_⟩
        cases s with
        | nil => trivial
        | cons _ _ => exact k4.elim
  · refine ⟨fun b => ?_, fun b _ _ _ _ hb => ?_, fun b _ hb => ?_, hM.kept⟩
    · match b with
      | 0 =>
        have := hM.blk 0
        rw [hm0] at this
        obtain ⟨L, h3, h4⟩ := this
        exact ⟨L, h3, h4⟩
      | 1 => exact ⟨_, rfl, rfl, rfl, by simp [ET.flat], rfl, rfl, .inl rfl⟩
      | _ + 2 => trivial
    · match b with
      | 0 => cases l <;> cases hb
      | 1 => cases hb
      | _ + 2 => cases hb
    · match b with
      | 0 => cases l <;> cases hb
      | 1 => cases hb
      | _ + 2 => cases hb
theorem some_result {P : Program} {wA w : World} {W : Nat → Prop} {σ τ : Sg} {T : TS} {M : List Blk} {a : Act} {l : List Site} {ps : List Placed} {e : Int} {fn : Func} {n0 b5 : Nat} (ty : Nat) (hn0 : n0 = 1) (hb5 : 1 ≤ b5) (hfr : ∀ b, n0 ≤ b → σ b = none) (hle : leB n0 σ τ) (hT : TRel τ T a) (hM : MRel wA W τ M w) (hm0 : mget M 0 = .arr none .site l) (hm5 : mget M b5 = .arr (some ty) .placed ps)
    (hr : resDs P T M fn.results.toList = some [.c (.aslice b5 none), .c (.d (.int .i64 e))]) : ∃ v, (results fn a.tmps).run P w = .ok v w ∧ ∃ υ, σ.le υ ∧ AVRel υ (.tup [.c (.aslice 1 none), .c (.d (.int .i64 e))]) v ∧ MRel wA W υ [.arr none .site l, .arr (some ty) .placed ps] w := by
  subst hn0
  obtain ⟨v, h1, h2⟩ := results_rel hT hM hr
  refine ⟨v, h1, _, fun b L hL => ?_, ?_, hM.ren (N' := 2) (fun c => if c = 1 then b5 else c) (fun c => ?_) (fun c c' h1 h2 h3 => ?_)⟩
  · have hb : b < 1 := by
      rcases Nat.lt_or_ge b 1 with h | h
      · exact h
      · rw [hfr b h] at hL; cases hL
    obtain rfl : b = 0 := by omega
    exact hle 0 L hb hL
  · have : AVRel τ (renA (fun c => if c = 1 then b5 else c) (.tup [.c (.aslice 1 none), .c (.d (.int .i64 e))])) v := h2
    refine AVRel.ren (fun b hb => ?_) this
    simp [refsX, refsV, refsC] at hb
    subst hb
    rfl
  · match c with
    | 0 => exact .inr ⟨hm0, by omega, fun b hb => by cases hb⟩
    | 1 => exact .inr ⟨hm5, by omega, fun b hb => by cases hb⟩
    | _ + 2 => exact .inl rfl
  · split at h3 <;> split at h3 <;> omega
set_option maxHeartbeats 1000000 in
theorem place_calls (g : Globe) (l : List Site) (hok : (m_array_place g l).ok = true) :
    CallsA Tryz.prog GT gbT 71 [.v (.agg [.int .i64 g.a, .int .i64 g.b]), .v (.c (.aslice 0 none))] [.arr none .site l] (.tup [.c (.aslice 1 none), .c (.d (.int .i64 (m_array_place g l).r1))]) [.arr none .site l, .arr (some 135) .placed (m_array_place g l).r0] := by
  intro σ w args hargs hM hG hfr
  have hbody : Tryz.f71.body = some (bodyC Tryz.prog 71) := by kernel_rfl
  have hE := e0_array_place g l
  have hL : ∀ c ∈ (splitC 5 (bodyC Tryz.prog 71)).1, LOKn Tryz.prog GT gbT 1 LP (loopsIn c) := fun c hc b hb => lok_array_place _ _ Tryz.func71 hbody b (splitC_loops _ _ _ hc b hb)
  have hLc : LOKn Tryz.prog GT gbT 1 LP (loopsIn (fstC (fstC (splitC 5 (bodyC Tryz.prog 71)).2))) := by
    have : loopsIn (fstC (fstC (splitC 5 (bodyC Tryz.prog 71)).2)) = [] := by kernel_rfl
    rw [this]
    intro b hb
    cases hb
  have hlen := hargs.length
  have hT0 : TRel σ (frameT [.v (.agg [.int .i64 g.a, .int .i64 g.b]), .v (.c (.aslice 0 none))] 86) { tmps := args ++ Array.replicate (Tryz.f71.ntmps - args.size) undef, defers := [] } := by
    refine ⟨?_, fun t => ?_, rfl⟩
    · have : Tryz.f71.ntmps = 88 := by kernel_rfl
      simp [frameT, TS.length] at hlen ⊢
      omega
    · have := enter_rel 86 hargs t
      rw [frame_get]
      rw [Array.getD_eq_getD_getElem?]
      rw [List.getD_eq_getElem?_getD] at this
      rw [← Array.getElem?_toList, Array.toList_append, Array.toList_replicate]
      have e : Tryz.f71.ntmps - args.size = 86 := by
        have : Tryz.f71.ntmps = 88 := by kernel_rfl
        simp at hlen
        omega
      rw [e]
      exact this
  refine callsIn_wide.1 (callsIn_of_wp_marks (n := 10) Tryz.func71 hbody trivial ?_ rfl)
  rw [wpIn_wide]
  rw [← splitC_eq 5 (bodyC Tryz.prog 71), shape_place]
  unfold m_array_place at hok ⊢
  unfold F0_array_place at hE
  cases hk0 : Nat.beq (m0_array_place g l).k 0 with
  | true =>
    rw [hk0] at hE
    simp only [cond_true] at hE ⊢
    refine place_pre hEQT hmT gP hL hLc hE _ _ w (Wof σ [.arr none .site l]) σ _ w _ hG hT0 hM hfr fun τ a' w' hle hT' hM' hN' => ?_
    show LeavesInM _ _ _ _ _ _ a'.defers _ _
    rw [hT'.df]
    obtain ⟨v, hv1, υ, hv2, hv3, hv4⟩ := none_result (P := Tryz.prog) (fn := Tryz.f71) 135 rfl hfr hle hT' hM' rfl (by kernel_rfl)
    exact ⟨v, hv1, v, υ, rfl, hv2, hv3, hv4⟩
  | false =>
    rw [hk0] at hE hok
    simp only [cond_false] at hE hok ⊢
    cases hk1 : Nat.beq (m0_array_place g l).k 1 with
    | false => rw [hk1] at hok; cases hok
    | true =>
    rw [hk1] at hE
    simp only [cond_true] at hE ⊢
    generalize (m0_array_place g l).ps = ps at hE ⊢
    refine place_pre hEQT hmT gP hL hLc hE _ _ w (Wof σ [.arr none .site l]) σ _ w _ hG hT0 hM hfr fun τ a' w' hle hT' hM' hN' => ?_
    -- what lies in memory
    obtain ⟨Mr, hMrd⟩ : ∃ Mr : List Blk, Mr = [.arr none .site l, .cell 131 .nilS, .rw 32 [.int .i64 (0 : Int)], .cell 131 (.aslice 5 none), .dead, .arr (some 135) .placed ps] := ⟨_, rfl⟩
    have d0 : ∃ L, τ 0 = some L := by obtain ⟨L, h, _⟩ := hM'.blk 0; exact ⟨L, h⟩
    have d1 : ∃ L, τ 1 = some L := by obtain ⟨L, _, h, _⟩ := hM'.blk 1; exact ⟨L, h⟩
    have d2 : ∃ L, τ 2 = some L := by obtain ⟨L, _, h, _⟩ := hM'.blk 2; exact ⟨L, h⟩
    have d3 : ∃ L, τ 3 = some L := by obtain ⟨L, _, h, _⟩ := hM'.blk 3; exact ⟨L, h⟩
    have d5 : ∃ L, τ 5 = some L := by obtain ⟨L, h, _⟩ := hM'.blk 5; exact ⟨L, h⟩
    have hn : ps.length ≤ 9223372036854775807 := by
      obtain ⟨_, _, _, _, _, _, _, L5, h1, h2⟩ := hM'.blk 3
      obtain ⟨L5', h3, h4, _⟩ := hM'.blk 5
      rw [h1] at h3
      cases h3
      rcases h2 with ⟨h2, _⟩ | ⟨_, _, _, h2, _⟩
      · omega
      · simp only [maxLen] at h2; omega
    obtain ⟨L4, cur4, q1, q2, q3, q4, q5, q6, q7⟩ := hM'.blk 4
    obtain ⟨bn, hbn⟩ : ∃ bn, L4.blk = bn := ⟨_, rfl⟩
    rw [hbn] at q4
    have hbnlt : bn < w'.heap.size := (Array.getElem?_eq_some_iff.1 q4).1
    have hbncell : w'.cell? ⟨bn, 0, none⟩ = some (.int .i64 (ps.length : Int)) := by
      rw [cell_of_heap q4]
      have : (cur4.toList.take 1)[0]? = ([D.int .i64 (ps.length : Int)].map D.val)[0]? := by rw [← q7]; rfl
      simpa [D.val] using this
    have hMr : MRel w (Wof σ [.arr none .site l]) τ Mr w' := hM'.congr fun b => by
      rw [hMrd]
      match b with
      | 0 | 1 | 2 | 3 | 5 => exact .inl rfl
      | 4 => exact .inr rfl
      | _ + 6 => exact .inl rfl
    have notbn : ¬ Wof τ Mr bn := by
      rintro ⟨b, L, hw, hL, e⟩
      rw [hMrd] at hw
      refine hM'.sep b 4 L L4 ?_ ?_ rfl hL q1 (by rw [e, hbn])
      · rintro rfl; cases hw
      · match b with
        | 0 | 1 | 2 | 3 | 5 => exact hw
        | 4 => cases hw
        | _ + 6 => exact hw
    have dom : ∀ b, mget Mr b = .dead ∨ ((∃ L, τ b = some L) ∧ ∀ r ∈ refsB (mget Mr b), ∃ L, τ r = some L) := by
      intro b
      rw [hMrd]
      match b with
      | 0 => exact .inr ⟨d0, fun r hr => by cases hr⟩
      | 1 => exact .inr ⟨d1, fun r hr => by cases hr⟩
      | 2 => exact .inr ⟨d2, fun r hr => by cases hr⟩
      | 3 => exact .inr ⟨d3, fun r hr => by simp [mget, gets, refsB, refsC] at hr; subst hr; exact d5⟩
      | 4 => exact .inl rfl
      | 5 => exact .inr ⟨d5, fun r hr => by cases hr⟩
      | _ + 6 => exact .inl rfl
    have domx : ∀ b, mget ([.arr none .site l, .cell 131 .nilS, .rw 32 [.int .i64 (14 : Int)]] : List Blk) b = .dead ∨ ((∃ L, τ b = some L) ∧ ∀ r ∈ refsB (mget ([.arr none .site l, .cell 131 .nilS, .rw 32 [.int .i64 (14 : Int)]] : List Blk) b), ∃ L, τ r = some L) := by
      intro b
      match b with
      | 0 => exact .inr ⟨d0, fun r hr => by cases hr⟩
      | 1 => exact .inr ⟨d1, fun r hr => by cases hr⟩
      | 2 => exact .inr ⟨d2, fun r hr => by cases hr⟩
      | _ + 3 => exact .inl rfl
    -- the function that is ranged over
    obtain ⟨vs, hvs, hvp⟩ := hT'.val 55
    have hvl : vs = #[.pointer (some ⟨bn, 0, none⟩)] := by
      cases hv : vs.toList with
      | nil => rw [hv] at hvp; exact hvp.elim
      | cons v1 r =>
        rw [hv] at hvp
        obtain ⟨⟨L, k1, k2⟩, k3⟩ := hvp
        rw [q1] at k1
        cases k1
        cases r with
        | nil => apply Array.ext'; rw [hv, k2, q2, hbn]
        | cons _ _ => exact k3.elim
    have hg : a'.eval (.tmp 55) = .func (.func 136) #[] #[.pointer (some ⟨bn, 0, none⟩)] := by
      rw [← hvl]
      exact hvs
    have hseq : SeqStopsK Fence.wide (10 - 1) Tryz.prog 136 #[.pointer (some ⟨bn, 0, none⟩)] (encP (n := ps.length)) (fun X Y => Y.heap[bn]? = X.heap[bn]?) (fun ys => ∀ p, p ∈ ys) (fun _ => True) (ps.length * ps.length) w' :=
      fun lp J Jx W hW _ _ hY h0 => pairs1_in 9 lp bn ps.length hn J Jx hY W ((hW.cell (p := ⟨bn, 0, none⟩) hbnlt).trans hbncell) h0
    have hG' : ∀ {τ' : Sg} {M'' : List Blk} {X : World}, MRel w (Wof σ [.arr none .site l]) τ' M'' X → Glob GT gbT (Wof τ' M'') X := fun h => hG.rebase h
    have hwB : w.heap.size ≤ w'.heap.size := hM'.kept.size
    have stay : ∀ {τ' : Sg} {M'' : List Blk} {X Y : World}, X.heap[bn]? = w'.heap[bn]? → ¬ Wof τ' M'' bn → Kept (Wof τ' M'') X Y → Y.heap[bn]? = X.heap[bn]? := fun h1 h2 h3 =>
      h3.block bn (Array.getElem?_eq_some_iff.1 (h1.trans q4)).1 h2
    refine wp_block (wpIn_wide.1 (wpIn_rangeFunc_ownH (n := 10) (α := PairN ps.length) rfl (by decide) hg trivial (fun args w => Tryz.call136 args w) hseq (fun h k => k.trans h)
      (fun W lp o o' hl _ _ _ => World.putObj_heap_other (by omega)) (Below.refl _ _) (fun _ => rfl)
      (fun pre W => (∀ p ∈ pre, dupAt ps p.1.1 p.1.2 = false) ∧ MRel w (Wof σ [.arr none .site l]) τ Mr W ∧ W.heap[bn]? = w'.heap[bn]?)
      (fun c pre W => c = .ret ∧ (∃ p ∈ pre, dupAt ps p.1.1 p.1.2 = true) ∧ MRel w (Wof σ [.arr none .site l]) τ [.arr none .site l, .cell 131 .nilS, .rw 32 [.int .i64 (14 : Int)]] W)
      ?hI ?hIx ⟨fun p hp => (by cases hp), hMr, rfl⟩
      (fun x a2 W => ∃ υ, τ.le υ ∧ TRel υ (tset (.v (.c (.ptr 6 0))) (tset (.v (.agg [.int .i64 (x.1.1 : Int), .int .i64 (x.1.2 : Int)])) (headT [4, 5, 8, 55] 88 [.v (.c (.ptr 1 0)), .v (.c (.ptr 2 0)), .v (.c (.ptr 3 0)), .v (.c (.fn 136 [4]))]) 56) 13) a2 ∧ MRel w (Wof σ [.arr none .site l]) υ (Mr ++ [.rw 176 [.int .i64 (x.1.1 : Int), .int .i64 (x.1.2 : Int)]]) W ∧ (∀ b, 7 ≤ b → υ b = none) ∧ ¬ Wof υ (Mr ++ [.rw 176 [.int .i64 (x.1.1 : Int), .int .i64 (x.1.2 : Int)]]) bn)
      ?hAx ?asg ?bod ?done ?stop))
    case hI =>
      rintro pre X Y row ⟨h1, h2, h3⟩ hg' hr
      refine ⟨h1, h2.grown hg' fun r e => ⟨Nat.le_trans hwB (hr r e).1, (hr r e).2⟩, (hg'.block bn ?_ fun e => ?_).trans h3⟩
      · rw [q4] at h3; exact (Array.getElem?_eq_some_iff.1 h3).1
      · have := (hr bn e.symm).1; omega
    case hIx =>
      rintro c pre X Y row ⟨h1, h2, h3⟩ hg' hr
      exact ⟨h1, h2, h3.grown hg' fun r e => ⟨Nat.le_trans hwB (hr r e).1, (hr r e).2⟩⟩
    case hAx =>
      rintro x a2 _ X Y row ⟨υ, h1, h2, h3, h4⟩ hg' hr
      exact ⟨υ, h1, h2, h3.grown hg' fun r e => ⟨Nat.le_trans hwB (hr r e).1, (hr r e).2⟩, h4⟩
    case asg =>
      rintro lp pre x W K ⟨h1, h2, h3⟩ hK
      have hwa := wa_array_place l ps (x.1.1 : Int) (x.1.2 : Int)
      rw [← hMrd] at hwa
      have hcr := CodeR.ofEv (b := asgC (sndC (fstC (splitC 5 (bodyC Tryz.prog 71)).2))) gP hEQT hmT (by kernel_rfl) hwa
      have hT1 := hT'.put (some 56) (x := .v (.agg [.int .i64 (x.1.1 : Int), .int .i64 (x.1.2 : Int)])) (v := .agg #[.int .i64 (x.1.1 : Int), .int .i64 (x.1.2 : Int)]) ⟨rfl, by
        have hx1 := x.2.1
        have hx2 := x.2.2
        intro d hd
        simp only [List.mem_cons, List.not_mem_nil, or_false] at hd
        rcases hd with rfl | rfl <;> simp only [D.ok, inR, Bool.and_eq_true, decide_eq_true_eq] <;> omega⟩
      have hact : (a'.put (some 56) (.agg #[.int .i64 (x.1.1 : Int), .int .i64 (x.1.2 : Int)])) = { tmps := ((#[56] : Array Tmp).zip (encP x)).foldl (fun t (p, v) => t.setIfInBounds p v) a'.tmps, defers := [] } := by
        simp [Act.put, encP, hT'.df]
      rw [hact] at hT1
      refine hcr lp _ W (Wof τ Mr) τ _ W _ (fun ⟨_, _, h⟩ => h) (hG' h2) hT1 h2.rebase ?_ fun υ a2 W2 hle2 hT2 hM2 hN2 => ?_
      · intro b hb
        exact hN' b hb
      · have hkept := hM2.kept
        have hsince := h2.since hM2
        have hbn2 := stay h3 notbn hkept
        have hap : Mr ++ [.rw 176 [.int .i64 (x.1.1 : Int), .int .i64 (x.1.2 : Int)]] = [.arr none .site l, .cell 131 .nilS, .rw 32 [.int .i64 (0 : Int)], .cell 131 (.aslice 5 none), .dead, .arr (some 135) .placed ps, .rw 176 [.int .i64 (x.1.1 : Int), .int .i64 (x.1.2 : Int)]] := by rw [hMrd]; rfl
        have hnot : ¬ Wof υ (Mr ++ [.rw 176 [.int .i64 (x.1.1 : Int), .int .i64 (x.1.2 : Int)]]) bn := by
          rintro ⟨b, L, hw, hL, e⟩
          rcases hM2.own b L (by rw [hap] at hw; exact hw) hL with h5 | h5
          · exact notbn (e ▸ h5)
          · have hlt : bn < W.heap.size := (Array.getElem?_eq_some_iff.1 (h3.trans q4)).1
            omega
        refine hK a2 W2 (Kept.keepsFrom h2.rebase hkept _) hbn2 ⟨h1, ?_, hbn2.trans h3⟩ ⟨υ, hle2, hT2, ?_, hN2, hnot⟩
        · refine MRel.under hle2 (hsince.congr fun b => ?_) dom
          rw [hMrd]
          match b with
          | 0 | 1 | 2 | 3 | 5 => exact .inl rfl
          | 4 => exact .inl rfl
          | 6 => exact .inr rfl
          | _ + 7 => exact .inl rfl
        · rw [hap]
          exact hsince
    case bod =>
      rintro lp pre x a2 W hlp _ ⟨h1, h2, h3⟩ ⟨υ, k1, k2, k3, k4, k5⟩ _
      have hev := round_eval l ps x.1.1 x.1.2 x.2.1 x.2.2
      have hap : Mr ++ [.rw 176 [.int .i64 (x.1.1 : Int), .int .i64 (x.1.2 : Int)]] = [.arr none .site l, .cell 131 .nilS, .rw 32 [.int .i64 (0 : Int)], .cell 131 (.aslice 5 none), .dead, .arr (some 135) .placed ps, .rw 176 [.int .i64 (x.1.1 : Int), .int .i64 (x.1.2 : Int)]] := by rw [hMrd]; rfl
      rw [hap] at k3 k5
      cases hdup : dupAt ps x.1.1 x.1.2 with
      | false =>
        rw [hdup] at hev
        obtain ⟨T2, M2, hc, hcr⟩ := CodeR.ofCut (b := bodC (sndC (fstC (splitC 5 (bodyC Tryz.prog 71)).2))) gP hEQT hmT (by kernel_rfl) hev
        refine hcr lp _ W _ υ a2 W _ (fun ⟨_, _, h⟩ => h) (hG' k3) k2 k3.rebase k4 fun ω a3 W3 hle3 _ hM3 _ => ?_
        have hbn3 := stay h3 k5 hM3.kept
        refine ⟨Kept.keepsFrom k3.rebase hM3.kept _, hbn3, fun p hp => ?_, ?_, hbn3.trans h3⟩
        · rcases List.mem_append.1 hp with hp | hp
          · exact h1 p hp
          · rw [List.mem_singleton.1 hp]; exact hdup
        · refine MRel.under (Sg.le_trans k1 hle3) ((k3.since hM3).congr fun b => ?_) dom
          rw [hMrd]
          exact hc b
      | true =>
        rw [hdup] at hev
        obtain ⟨T2, M2, hc, hcr⟩ := CodeR.ofCut (b := bodC (sndC (fstC (splitC 5 (bodyC Tryz.prog 71)).2))) gP hEQT hmT (by kernel_rfl) hev
        refine hcr lp _ W _ υ a2 W _ (fun ⟨_, _, h⟩ => h) (hG' k3) k2 k3.rebase k4 fun ω a3 W3 hle3 _ hM3 _ => ?_
        refine ⟨Kept.keepsFrom k3.rebase hM3.kept _, rfl, ⟨x, by simp, hdup⟩, ?_⟩
        refine MRel.under (Sg.le_trans k1 hle3) ((k3.since hM3).congr fun b => ?_) domx
        match b with
        | 0 => exact hc 0
        | 1 => exact hc 1
        | 2 => exact hc 2
        | _ + 3 => exact .inr rfl
    case done =>
      rintro D xs W hD hS ⟨h1, h2, h3⟩ hKd
      rw [dupP_false fun i j hi hj => h1 ⟨(i, j), hi, hj⟩ (hS _)]
      show (Code.seq _ .ret).wp _ _ _ _
      have hreg : ∃ id ops, fstC (sndC (splitC 5 (bodyC Tryz.prog 71)).2) = .region id ops false ∧ (ops.toList.all fun o => plainOp o.op) = true := by
        refine ⟨20, _, (by kernel_rfl : fstC (sndC (splitC 5 (bodyC Tryz.prog 71)).2) = .region 20 (opsC (fstC (sndC (splitC 5 (bodyC Tryz.prog 71)).2))) false), by kernel_rfl⟩
      obtain ⟨id, ops, hr1, hr2⟩ := hreg
      have hte := tail_eval l ps
      rw [← hMrd] at hte
      rw [hr1] at hte ⊢
      rw [hT'.df]
      have hnl : ¬ LetsOut (bodyPostM Fence.wide 10 Tryz.prog Tryz.f71 fun e w'_1 => ∃ v' τ, e = .returned v' ∧ σ.le τ ∧ AVRel τ (.tup [.c (.aslice 1 none), .c (.d (.int .i64 (0 : Int)))]) v' ∧ MRel w (Wof σ [.arr none .site l]) τ [.arr none .site l, .arr (some 135) .placed ps] w'_1) := by
        rintro ⟨_, _, _, _, h, _⟩
        cases h
      have hdf : ({ a' with defers := [{ target := .collected D, args := #[] }] } : Act) = { a' with defers := [{ target := .collected D, args := #[] }] } := rfl
      refine wp_seq (region_defers hEQT gP hr2 hte W (Wof τ Mr) τ a' W _ _ (then_out hnl) (hG' h2) hT' h2.rebase hN' fun υ a2 W2 hle2 hT2 hM2 => ?_)
      refine wp_ret ?_
      show LeavesInM _ _ _ _ _ _ [_] _ _
      have hD2 : W2.heap[D]? = some (.deferred (some [])) := by
        have hlt : D < W.heap.size := (Array.getElem?_eq_some_iff.1 hKd).1
        refine (hM2.kept.block D hlt ?_).trans hKd
        rintro ⟨b, L, hw, hL, e⟩
        obtain ⟨cur, t, fr, h5⟩ := (h2.blk b).cellsAt (wr_live hw) hL
        rw [e, hKd] at h5
        cases h5
      refine ⟨by simp, .inl ⟨D, _, rfl, run_takeDeferred hD2, ?_⟩⟩
      have h4 := (h2.since hM2).grown (grownBy_putObj' W2 D (.deferred none)) fun r e => by cases e; exact ⟨Nat.le_trans hwB hD, _, hD2, rfl⟩
      obtain ⟨v, hv1, υ', hv2, hv3, hv4⟩ := some_result (P := Tryz.prog) (fn := Tryz.f71) 135 rfl (by decide) hfr (fun b L hb hL => hle2 b L (hle b L hb hL)) hT2 h4 rfl rfl (b5 := 5) (by kernel_rfl)
      exact ⟨v, hv1, v, υ', rfl, hv2, hv3, hv4⟩
    case stop =>
      rintro D c pre W hD _ ⟨rfl, ⟨p, _, hp⟩, h3⟩ hKd
      refine wpIn_ret ?_
      show LeavesInM _ _ _ _ _ _ (_ :: a'.defers) _ _
      rw [hT'.df, dupP_true p.2.1 p.2.2 hp]
      refine ⟨by simp, .inl ⟨D, _, rfl, run_takeDeferred hKd, ?_⟩⟩
      have h4 := h3.grown (grownBy_putObj' W D (.deferred none)) fun r e => by cases e; exact ⟨Nat.le_trans hwB hD, _, hKd, rfl⟩
      obtain ⟨v, hv1, υ, hv2, hv3, hv4⟩ := none_result (P := Tryz.prog) (fn := Tryz.f71) 135 rfl hfr hle hT' h4 rfl (by kernel_rfl)
      exact ⟨v, hv1, v, υ, rfl, hv2, hv3, hv4⟩
def s_array_place : List AV → List Blk → (AV → List Blk → Ans) → Ans := fun xs bs K => match xs, bs with
  | [.v (.agg [.int .i64 a0_0, .int .i64 a0_1]), .v (.c (.aslice 0 none))], [.arr none .site a1] => bif (m_array_place (⟨a0_0, a0_1⟩ : Globe) a1).ok then K (.tup [.c (.aslice 1 none), .c (.d (.int .i64 (m_array_place (⟨a0_0, a0_1⟩ : Globe) a1).r1))]) [.arr none .site a1, .arr (some 135) .placed (m_array_place (⟨a0_0, a0_1⟩ : Globe) a1).r0] else none
  | _, _ => none
def T_array_place : Nat → List AV → List Blk → (AV → List Blk → Ans) → Ans := upd TP 71 s_array_place
theorem g_array_place : GOK Tryz.prog GT gbT T_array_place XT := by
  refine GOK.upd gP (fun args w => Tryz.call71 args w) fun xs bs K r h => ?_
  unfold s_array_place at h
  split at h
  · simp only [cond_eq_ite] at h
    split at h
    · rename_i hd
      exact ⟨_, _, place_calls _ _ hd, h⟩
    · cases h
  · cases h
end Go.Ev

