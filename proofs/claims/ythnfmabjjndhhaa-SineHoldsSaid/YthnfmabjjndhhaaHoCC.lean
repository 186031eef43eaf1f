/-
  Contracts of functions: what each returns. No condition beyond those of the statements.
-/
import Derived.Test.YthnfmabjjndhhaaHoCB
namespace Go.Ev
open Go Go.Proofs

set_option maxRecDepth 100000 in
/-- fringeref05.Valid -/
theorem w_fringeref05_Valid (lo hi : Int) (K : AV → List Blk → Ans) : evFn Try.prog GT EQT T_sine_valid XT noL 60 31 [.v (.agg [.int .i64 lo, .int .i64 hi])] [] (fun v M => K v (M.take ([] : List Blk).length)) = K (rB (spanValid ⟨lo, hi⟩)) [] := by
  simp only [spanValid, pullK K]
  kernel_rfl
theorem c_fringeref05_Valid (lo hi : Int) : CallsA Try.prog GT gbT 31 [.v (.agg [.int .i64 lo, .int .i64 hi])] [] (rB (spanValid ⟨lo, hi⟩)) [] := by
  refine CallsA.ofOk fun hok => ?_
  have hw := w_fringeref05_Valid lo hi (fun v M => some (Res.fin v M))
  refine CallsA.ofEv (Γ := T_sine_valid) (X := XT) (Λ := noL) (EQ := EQT) (n := 60) g_sine_valid hEQT hmT (fun _ _ _ _ => noL_ok _) (hw.trans ?_)
  rfl
def s_fringeref05_Valid : List AV → List Blk → (AV → List Blk → Ans) → Ans := fun xs bs K => match xs, bs with
  | [.v (.agg [.int .i64 lo, .int .i64 hi])], [] => K (rB (spanValid ⟨lo, hi⟩)) []
  | _, _ => none
def T_fringeref05_Valid : Nat → List AV → List Blk → (AV → List Blk → Ans) → Ans := upd T_sine_valid 31 s_fringeref05_Valid
theorem g_fringeref05_Valid : GOK Try.prog GT gbT T_fringeref05_Valid XT := by
  refine GOK.upd g_sine_valid (fun args w => Try.call31 args w) fun xs bs K r h => ?_
  unfold s_fringeref05_Valid at h
  split at h
  · exact ⟨_, _, c_fringeref05_Valid _ _, h⟩
  · cases h


set_option maxRecDepth 100000 in
/-- sine.ranged -/
theorem w_sine_ranged (lo hi : Int) (K : AV → List Blk → Ans) : evFn Try.prog GT EQT T_fringeref05_Valid XT noL 60 40 [.v (.agg [.int .i64 lo, .int .i64 hi])] [] (fun v M => K v (M.take ([] : List Blk).length)) = K (rSpanE (rangedS ⟨lo, hi⟩)) [] := by
  simp only [rangedS, pullK K]
  kernel_rfl
theorem c_sine_ranged (lo hi : Int) : CallsA Try.prog GT gbT 40 [.v (.agg [.int .i64 lo, .int .i64 hi])] [] (rSpanE (rangedS ⟨lo, hi⟩)) [] := by
  refine CallsA.ofOk fun hok => ?_
  have hw := w_sine_ranged lo hi (fun v M => some (Res.fin v M))
  refine CallsA.ofEv (Γ := T_fringeref05_Valid) (X := XT) (Λ := noL) (EQ := EQT) (n := 60) g_fringeref05_Valid hEQT hmT (fun _ _ _ _ => noL_ok _) (hw.trans ?_)
  rfl
def s_sine_ranged : List AV → List Blk → (AV → List Blk → Ans) → Ans := fun xs bs K => match xs, bs with
  | [.v (.agg [.int .i64 lo, .int .i64 hi])], [] => K (rSpanE (rangedS ⟨lo, hi⟩)) []
  | _, _ => none
def T_sine_ranged : Nat → List AV → List Blk → (AV → List Blk → Ans) → Ans := upd T_fringeref05_Valid 40 s_sine_ranged
theorem g_sine_ranged : GOK Try.prog GT gbT T_sine_ranged XT := by
  refine GOK.upd g_fringeref05_Valid (fun args w => Try.call40 args w) fun xs bs K r h => ?_
  unfold s_sine_ranged at h
  split at h
  · exact ⟨_, _, c_sine_ranged _ _, h⟩
  · cases h


set_option maxRecDepth 100000 in
/-- fringeref05.made -/
theorem w_fringeref05_made (lo hi : Int) (K : AV → List Blk → Ans) : evFn Try.prog GT EQT T_sine_ranged XT noL 60 41 [.v (.c (.d (.int .i64 lo))), .v (.c (.d (.int .i64 hi)))] [] (fun v M => K v (M.take ([] : List Blk).length)) = K (rSpanE (rangedS ⟨lo, hi⟩)) [] := by
  simp only [rangedS, pullK K]
  kernel_rfl
theorem c_fringeref05_made (lo hi : Int) : CallsA Try.prog GT gbT 41 [.v (.c (.d (.int .i64 lo))), .v (.c (.d (.int .i64 hi)))] [] (rSpanE (rangedS ⟨lo, hi⟩)) [] := by
  refine CallsA.ofOk fun hok => ?_
  have hw := w_fringeref05_made lo hi (fun v M => some (Res.fin v M))
  refine CallsA.ofEv (Γ := T_sine_ranged) (X := XT) (Λ := noL) (EQ := EQT) (n := 60) g_sine_ranged hEQT hmT (fun _ _ _ _ => noL_ok _) (hw.trans ?_)
  rfl
def s_fringeref05_made : List AV → List Blk → (AV → List Blk → Ans) → Ans := fun xs bs K => match xs, bs with
  | [.v (.c (.d (.int .i64 lo))), .v (.c (.d (.int .i64 hi)))], [] => K (rSpanE (rangedS ⟨lo, hi⟩)) []
  | _, _ => none
def T_fringeref05_made : Nat → List AV → List Blk → (AV → List Blk → Ans) → Ans := upd T_sine_ranged 41 s_fringeref05_made
theorem g_fringeref05_made : GOK Try.prog GT gbT T_fringeref05_made XT := by
  refine GOK.upd g_sine_ranged (fun args w => Try.call41 args w) fun xs bs K r h => ?_
  unfold s_fringeref05_made at h
  split at h
  · exact ⟨_, _, c_fringeref05_made _ _, h⟩
  · cases h


set_option maxRecDepth 100000 in
/-- sine.down -/
theorem w_sine_down (n : Int) (K : AV → List Blk → Ans) : evFn Try.prog GT EQT T_fringeref05_made XT noL 60 42 [.v (.c (.d (.int .i64 n)))] [] (fun v M => K v (M.take ([] : List Blk).length)) = K (rI (floorRaw n 1000000)) [] := by
  simp only [floorRaw, pullK K]
  kernel_rfl
theorem c_sine_down (n : Int) : CallsA Try.prog GT gbT 42 [.v (.c (.d (.int .i64 n)))] [] (rI (n / 1000000)) [] := by
  refine CallsA.ofOk fun hok => ?_
  have hw := w_sine_down n (fun v M => some (Res.fin v M))
  refine CallsA.ofEv (Γ := T_fringeref05_made) (X := XT) (Λ := noL) (EQ := EQT) (n := 60) g_fringeref05_made hEQT hmT (fun _ _ _ _ => noL_ok _) (hw.trans ?_)
  have h_n := inR_i64 (hok (.int .i64 n) (by simp [datasL, datas]))
  clear hok hw
  refine congrArg (fun v => some (Res.fin v [])) ?_
  rw [floorRaw_ok (by omega) h_n]
def s_sine_down : List AV → List Blk → (AV → List Blk → Ans) → Ans := fun xs bs K => match xs, bs with
  | [.v (.c (.d (.int .i64 n)))], [] => K (rI (n / 1000000)) []
  | _, _ => none
def T_sine_down : Nat → List AV → List Blk → (AV → List Blk → Ans) → Ans := upd T_fringeref05_made 42 s_sine_down
theorem g_sine_down : GOK Try.prog GT gbT T_sine_down XT := by
  refine GOK.upd g_fringeref05_made (fun args w => Try.call42 args w) fun xs bs K r h => ?_
  unfold s_sine_down at h
  split at h
  · exact ⟨_, _, c_sine_down _, h⟩
  · cases h


set_option maxRecDepth 100000 in
/-- fringeref05.down -/
theorem w_fringeref05_down (n d : Int) (K : AV → List Blk → Ans) : evFn Try.prog GT EQT T_sine_down XT noL 60 43 [.v (.c (.d (.int .i64 n))), .v (.c (.d (.int .i64 d)))] [] (fun v M => K v (M.take ([] : List Blk).length)) = bif d == 0 then none else bif d == 0 then none else (bif decide (n.tmod d < 0) then K (rI (w64 (w64 (n.tdiv d) - 1))) [] else K (rI (w64 (n.tdiv d))) []) := by
  kernel_rfl
theorem c_fringeref05_down (n d : Int) (hd : (decide (0 < d)) = true) : CallsA Try.prog GT gbT 43 [.v (.c (.d (.int .i64 n))), .v (.c (.d (.int .i64 d)))] [] (rI (n / d)) [] := by
  refine CallsA.ofOk fun hok => ?_
  have hw := w_fringeref05_down n d (fun v M => some (Res.fin v M))
  refine CallsA.ofEv (Γ := T_sine_down) (X := XT) (Λ := noL) (EQ := EQT) (n := 60) g_sine_down hEQT hmT (fun _ _ _ _ => noL_ok _) (hw.trans ?_)
  have h_n := inR_i64 (hok (.int .i64 n) (by simp [datasL, datas]))
  have h_d := inR_i64 (hok (.int .i64 d) (by simp [datasL, datas]))
  clear hok hw
  have hd0 := of_decide_eq_true hd
  have h := floorRaw_ok hd0 h_n
  rw [show (d == 0) = false by simp; omega]
  simp only [cond_false]
  rw [← h]
  unfold floorRaw
  cases decide (n.tmod d < 0) <;> rfl
def s_fringeref05_down : List AV → List Blk → (AV → List Blk → Ans) → Ans := fun xs bs K => match xs, bs with
  | [.v (.c (.d (.int .i64 n))), .v (.c (.d (.int .i64 d)))], [] => bif decide (0 < d) then K (rI (n / d)) [] else none
  | _, _ => none
def T_fringeref05_down : Nat → List AV → List Blk → (AV → List Blk → Ans) → Ans := upd T_sine_down 43 s_fringeref05_down
theorem g_fringeref05_down : GOK Try.prog GT gbT T_fringeref05_down XT := by
  refine GOK.upd g_sine_down (fun args w => Try.call43 args w) fun xs bs K r h => ?_
  unfold s_fringeref05_down at h
  split at h
  · simp only [cond_eq_ite] at h
    split at h
    · exact ⟨_, _, c_fringeref05_down _ _ ‹_›, h⟩
    · cases h
  · cases h


set_option maxRecDepth 100000 in
/-- fringeref05.Neg -/
theorem w_fringeref05_Neg (lo hi : Int) (K : AV → List Blk → Ans) : evFn Try.prog GT EQT T_fringeref05_down XT noL 60 26 [.v (.agg [.int .i64 lo, .int .i64 hi])] [] (fun v M => K v (M.take ([] : List Blk).length)) = K (rSpan (negRaw ⟨lo, hi⟩)) [] := by
  kernel_rfl
theorem c_fringeref05_Neg (lo hi : Int) : CallsA Try.prog GT gbT 26 [.v (.agg [.int .i64 lo, .int .i64 hi])] [] (rSpan (negRaw ⟨lo, hi⟩)) [] := by
  refine CallsA.ofOk fun hok => ?_
  have hw := w_fringeref05_Neg lo hi (fun v M => some (Res.fin v M))
  refine CallsA.ofEv (Γ := T_fringeref05_down) (X := XT) (Λ := noL) (EQ := EQT) (n := 60) g_fringeref05_down hEQT hmT (fun _ _ _ _ => noL_ok _) (hw.trans ?_)
  rfl
def s_fringeref05_Neg : List AV → List Blk → (AV → List Blk → Ans) → Ans := fun xs bs K => match xs, bs with
  | [.v (.agg [.int .i64 lo, .int .i64 hi])], [] => K (rSpan (negRaw ⟨lo, hi⟩)) []
  | _, _ => none
def T_fringeref05_Neg : Nat → List AV → List Blk → (AV → List Blk → Ans) → Ans := upd T_fringeref05_down 26 s_fringeref05_Neg
theorem g_fringeref05_Neg : GOK Try.prog GT gbT T_fringeref05_Neg XT := by
  refine GOK.upd g_fringeref05_down (fun args w => Try.call26 args w) fun xs bs K r h => ?_
  unfold s_fringeref05_Neg at h
  split at h
  · exact ⟨_, _, c_fringeref05_Neg _ _, h⟩
  · cases h


set_option maxRecDepth 100000 in
/-- sine.Add -/
theorem w_sine_Add (a b c d : Int) (K : AV → List Blk → Ans) : evFn Try.prog GT EQT T_fringeref05_Neg XT noL 60 13 [.v (.agg [.int .i64 a, .int .i64 b]), .v (.agg [.int .i64 c, .int .i64 d])] [] (fun v M => K v (M.take ([] : List Blk).length)) = K (rSpanE (addRaw ⟨a, b⟩ ⟨c, d⟩)) [] := by
  simp only [addRaw, pullK K]
  kernel_rfl
theorem c_sine_Add (a b c d : Int) : CallsA Try.prog GT gbT 13 [.v (.agg [.int .i64 a, .int .i64 b]), .v (.agg [.int .i64 c, .int .i64 d])] [] (rSpanE (addS ⟨a, b⟩ ⟨c, d⟩)) [] := by
  refine CallsA.ofOk fun hok => ?_
  have hw := w_sine_Add a b c d (fun v M => some (Res.fin v M))
  refine CallsA.ofEv (Γ := T_fringeref05_Neg) (X := XT) (Λ := noL) (EQ := EQT) (n := 60) g_fringeref05_Neg hEQT hmT (fun _ _ _ _ => noL_ok _) (hw.trans ?_)
  have h_a := inR_i64 (hok (.int .i64 a) (by simp [datasL, datas]))
  have h_b := inR_i64 (hok (.int .i64 b) (by simp [datasL, datas]))
  have h_c := inR_i64 (hok (.int .i64 c) (by simp [datasL, datas]))
  have h_d := inR_i64 (hok (.int .i64 d) (by simp [datasL, datas]))
  clear hok hw
  refine congrArg (fun v => some (Res.fin v [])) ?_
  rw [addRaw_ok]
def s_sine_Add : List AV → List Blk → (AV → List Blk → Ans) → Ans := fun xs bs K => match xs, bs with
  | [.v (.agg [.int .i64 a, .int .i64 b]), .v (.agg [.int .i64 c, .int .i64 d])], [] => K (rSpanE (addS ⟨a, b⟩ ⟨c, d⟩)) []
  | _, _ => none
def T_sine_Add : Nat → List AV → List Blk → (AV → List Blk → Ans) → Ans := upd T_fringeref05_Neg 13 s_sine_Add
theorem g_sine_Add : GOK Try.prog GT gbT T_sine_Add XT := by
  refine GOK.upd g_fringeref05_Neg (fun args w => Try.call13 args w) fun xs bs K r h => ?_
  unfold s_sine_Add at h
  split at h
  · exact ⟨_, _, c_sine_Add _ _ _ _, h⟩
  · cases h


set_option maxRecDepth 100000 in
/-- fringeref05.Add -/
theorem w_fringeref05_Add (a b c d : Int) (K : AV → List Blk → Ans) : evFn Try.prog GT EQT T_sine_Add XT noL 60 14 [.v (.agg [.int .i64 a, .int .i64 b]), .v (.agg [.int .i64 c, .int .i64 d])] [] (fun v M => K v (M.take ([] : List Blk).length)) = K (rSpanE (addRaw ⟨a, b⟩ ⟨c, d⟩)) [] := by
  simp only [addRaw, pullK K]
  kernel_rfl
theorem c_fringeref05_Add (a b c d : Int) : CallsA Try.prog GT gbT 14 [.v (.agg [.int .i64 a, .int .i64 b]), .v (.agg [.int .i64 c, .int .i64 d])] [] (rSpanE (addS ⟨a, b⟩ ⟨c, d⟩)) [] := by
  refine CallsA.ofOk fun hok => ?_
  have hw := w_fringeref05_Add a b c d (fun v M => some (Res.fin v M))
  refine CallsA.ofEv (Γ := T_sine_Add) (X := XT) (Λ := noL) (EQ := EQT) (n := 60) g_sine_Add hEQT hmT (fun _ _ _ _ => noL_ok _) (hw.trans ?_)
  have h_a := inR_i64 (hok (.int .i64 a) (by simp [datasL, datas]))
  have h_b := inR_i64 (hok (.int .i64 b) (by simp [datasL, datas]))
  have h_c := inR_i64 (hok (.int .i64 c) (by simp [datasL, datas]))
  have h_d := inR_i64 (hok (.int .i64 d) (by simp [datasL, datas]))
  clear hok hw
  refine congrArg (fun v => some (Res.fin v [])) ?_
  rw [addRaw_ok]
def s_fringeref05_Add : List AV → List Blk → (AV → List Blk → Ans) → Ans := fun xs bs K => match xs, bs with
  | [.v (.agg [.int .i64 a, .int .i64 b]), .v (.agg [.int .i64 c, .int .i64 d])], [] => K (rSpanE (addS ⟨a, b⟩ ⟨c, d⟩)) []
  | _, _ => none
def T_fringeref05_Add : Nat → List AV → List Blk → (AV → List Blk → Ans) → Ans := upd T_sine_Add 14 s_fringeref05_Add
theorem g_fringeref05_Add : GOK Try.prog GT gbT T_fringeref05_Add XT := by
  refine GOK.upd g_sine_Add (fun args w => Try.call14 args w) fun xs bs K r h => ?_
  unfold s_fringeref05_Add at h
  split at h
  · exact ⟨_, _, c_fringeref05_Add _ _ _ _, h⟩
  · cases h


set_option maxRecDepth 100000 in
/-- sine.Sub -/
theorem w_sine_Sub (a b c d : Int) (K : AV → List Blk → Ans) : evFn Try.prog GT EQT T_fringeref05_Add XT noL 60 15 [.v (.agg [.int .i64 a, .int .i64 b]), .v (.agg [.int .i64 c, .int .i64 d])] [] (fun v M => K v (M.take ([] : List Blk).length)) = K (rSpanE (subRaw ⟨a, b⟩ ⟨c, d⟩)) [] := by
  simp only [subRaw, pullK K]
  kernel_rfl
theorem c_sine_Sub (a b c d : Int) : CallsA Try.prog GT gbT 15 [.v (.agg [.int .i64 a, .int .i64 b]), .v (.agg [.int .i64 c, .int .i64 d])] [] (rSpanE (subS ⟨a, b⟩ ⟨c, d⟩)) [] := by
  refine CallsA.ofOk fun hok => ?_
  have hw := w_sine_Sub a b c d (fun v M => some (Res.fin v M))
  refine CallsA.ofEv (Γ := T_fringeref05_Add) (X := XT) (Λ := noL) (EQ := EQT) (n := 60) g_fringeref05_Add hEQT hmT (fun _ _ _ _ => noL_ok _) (hw.trans ?_)
  have h_a := inR_i64 (hok (.int .i64 a) (by simp [datasL, datas]))
  have h_b := inR_i64 (hok (.int .i64 b) (by simp [datasL, datas]))
  have h_c := inR_i64 (hok (.int .i64 c) (by simp [datasL, datas]))
  have h_d := inR_i64 (hok (.int .i64 d) (by simp [datasL, datas]))
  clear hok hw
  refine congrArg (fun v => some (Res.fin v [])) ?_
  rw [subRaw_ok]
def s_sine_Sub : List AV → List Blk → (AV → List Blk → Ans) → Ans := fun xs bs K => match xs, bs with
  | [.v (.agg [.int .i64 a, .int .i64 b]), .v (.agg [.int .i64 c, .int .i64 d])], [] => K (rSpanE (subS ⟨a, b⟩ ⟨c, d⟩)) []
  | _, _ => none
def T_sine_Sub : Nat → List AV → List Blk → (AV → List Blk → Ans) → Ans := upd T_fringeref05_Add 15 s_sine_Sub
theorem g_sine_Sub : GOK Try.prog GT gbT T_sine_Sub XT := by
  refine GOK.upd g_fringeref05_Add (fun args w => Try.call15 args w) fun xs bs K r h => ?_
  unfold s_sine_Sub at h
  split at h
  · exact ⟨_, _, c_sine_Sub _ _ _ _, h⟩
  · cases h


set_option maxRecDepth 100000 in
/-- fringeref05.Sub -/
theorem w_fringeref05_Sub (a b c d : Int) (K : AV → List Blk → Ans) : evFn Try.prog GT EQT T_sine_Sub XT noL 60 16 [.v (.agg [.int .i64 a, .int .i64 b]), .v (.agg [.int .i64 c, .int .i64 d])] [] (fun v M => K v (M.take ([] : List Blk).length)) = K (rSpanE (subRef ⟨a, b⟩ ⟨c, d⟩)) [] := by
  simp only [subRef, pullK K]
  kernel_rfl
theorem c_fringeref05_Sub (a b c d : Int) : CallsA Try.prog GT gbT 16 [.v (.agg [.int .i64 a, .int .i64 b]), .v (.agg [.int .i64 c, .int .i64 d])] [] (rSpanE (subS ⟨a, b⟩ ⟨c, d⟩)) [] := by
  refine CallsA.ofOk fun hok => ?_
  have hw := w_fringeref05_Sub a b c d (fun v M => some (Res.fin v M))
  refine CallsA.ofEv (Γ := T_sine_Sub) (X := XT) (Λ := noL) (EQ := EQT) (n := 60) g_sine_Sub hEQT hmT (fun _ _ _ _ => noL_ok _) (hw.trans ?_)
  have h_a := inR_i64 (hok (.int .i64 a) (by simp [datasL, datas]))
  have h_b := inR_i64 (hok (.int .i64 b) (by simp [datasL, datas]))
  have h_c := inR_i64 (hok (.int .i64 c) (by simp [datasL, datas]))
  have h_d := inR_i64 (hok (.int .i64 d) (by simp [datasL, datas]))
  clear hok hw
  refine congrArg (fun v => some (Res.fin v [])) ?_
  rw [subRef_ok]
def s_fringeref05_Sub : List AV → List Blk → (AV → List Blk → Ans) → Ans := fun xs bs K => match xs, bs with
  | [.v (.agg [.int .i64 a, .int .i64 b]), .v (.agg [.int .i64 c, .int .i64 d])], [] => K (rSpanE (subS ⟨a, b⟩ ⟨c, d⟩)) []
  | _, _ => none
def T_fringeref05_Sub : Nat → List AV → List Blk → (AV → List Blk → Ans) → Ans := upd T_sine_Sub 16 s_fringeref05_Sub
theorem g_fringeref05_Sub : GOK Try.prog GT gbT T_fringeref05_Sub XT := by
  refine GOK.upd g_sine_Sub (fun args w => Try.call16 args w) fun xs bs K r h => ?_
  unfold s_fringeref05_Sub at h
  split at h
  · exact ⟨_, _, c_fringeref05_Sub _ _ _ _, h⟩
  · cases h


set_option maxRecDepth 100000 in
/-- sine.Mul -/
theorem w_sine_Mul (a b c d : Int) (K : AV → List Blk → Ans) : evFn Try.prog GT EQT T_fringeref05_Sub XT noL 60 17 [.v (.agg [.int .i64 a, .int .i64 b]), .v (.agg [.int .i64 c, .int .i64 d])] [] (fun v M => K v (M.take ([] : List Blk).length)) = K (rSpanE (mulRaw' ⟨a, b⟩ ⟨c, d⟩)) [] := by
  simp only [mulRaw', pullK K]
  kernel_rfl
theorem c_sine_Mul (a b c d : Int) : CallsA Try.prog GT gbT 17 [.v (.agg [.int .i64 a, .int .i64 b]), .v (.agg [.int .i64 c, .int .i64 d])] [] (rSpanE (mulS ⟨a, b⟩ ⟨c, d⟩)) [] := by
  refine CallsA.ofOk fun hok => ?_
  have hw := w_sine_Mul a b c d (fun v M => some (Res.fin v M))
  refine CallsA.ofEv (Γ := T_fringeref05_Sub) (X := XT) (Λ := noL) (EQ := EQT) (n := 60) g_fringeref05_Sub hEQT hmT (fun _ _ _ _ => noL_ok _) (hw.trans ?_)
  have h_a := inR_i64 (hok (.int .i64 a) (by simp [datasL, datas]))
  have h_b := inR_i64 (hok (.int .i64 b) (by simp [datasL, datas]))
  have h_c := inR_i64 (hok (.int .i64 c) (by simp [datasL, datas]))
  have h_d := inR_i64 (hok (.int .i64 d) (by simp [datasL, datas]))
  clear hok hw
  refine congrArg (fun v => some (Res.fin v [])) ?_
  rw [mulRaw'_ok]
def s_sine_Mul : List AV → List Blk → (AV → List Blk → Ans) → Ans := fun xs bs K => match xs, bs with
  | [.v (.agg [.int .i64 a, .int .i64 b]), .v (.agg [.int .i64 c, .int .i64 d])], [] => K (rSpanE (mulS ⟨a, b⟩ ⟨c, d⟩)) []
  | _, _ => none
def T_sine_Mul : Nat → List AV → List Blk → (AV → List Blk → Ans) → Ans := upd T_fringeref05_Sub 17 s_sine_Mul
theorem g_sine_Mul : GOK Try.prog GT gbT T_sine_Mul XT := by
  refine GOK.upd g_fringeref05_Sub (fun args w => Try.call17 args w) fun xs bs K r h => ?_
  unfold s_sine_Mul at h
  split at h
  · exact ⟨_, _, c_sine_Mul _ _ _ _, h⟩
  · cases h


set_option maxRecDepth 100000 in
/-- fringeref05.Mul -/
theorem w_fringeref05_Mul (a b c d : Int) (K : AV → List Blk → Ans) : evFn Try.prog GT EQT T_sine_Mul XT noL 60 18 [.v (.agg [.int .i64 a, .int .i64 b]), .v (.agg [.int .i64 c, .int .i64 d])] [] (fun v M => K v (M.take ([] : List Blk).length)) = K (rSpanE (mulRaw' ⟨a, b⟩ ⟨c, d⟩)) [] := by
  simp only [mulRaw', pullK K]
  kernel_rfl
theorem c_fringeref05_Mul (a b c d : Int) : CallsA Try.prog GT gbT 18 [.v (.agg [.int .i64 a, .int .i64 b]), .v (.agg [.int .i64 c, .int .i64 d])] [] (rSpanE (mulS ⟨a, b⟩ ⟨c, d⟩)) [] := by
  refine CallsA.ofOk fun hok => ?_
  have hw := w_fringeref05_Mul a b c d (fun v M => some (Res.fin v M))
  refine CallsA.ofEv (Γ := T_sine_Mul) (X := XT) (Λ := noL) (EQ := EQT) (n := 60) g_sine_Mul hEQT hmT (fun _ _ _ _ => noL_ok _) (hw.trans ?_)
  have h_a := inR_i64 (hok (.int .i64 a) (by simp [datasL, datas]))
  have h_b := inR_i64 (hok (.int .i64 b) (by simp [datasL, datas]))
  have h_c := inR_i64 (hok (.int .i64 c) (by simp [datasL, datas]))
  have h_d := inR_i64 (hok (.int .i64 d) (by simp [datasL, datas]))
  clear hok hw
  refine congrArg (fun v => some (Res.fin v [])) ?_
  rw [mulRaw'_ok]
def s_fringeref05_Mul : List AV → List Blk → (AV → List Blk → Ans) → Ans := fun xs bs K => match xs, bs with
  | [.v (.agg [.int .i64 a, .int .i64 b]), .v (.agg [.int .i64 c, .int .i64 d])], [] => K (rSpanE (mulS ⟨a, b⟩ ⟨c, d⟩)) []
  | _, _ => none
def T_fringeref05_Mul : Nat → List AV → List Blk → (AV → List Blk → Ans) → Ans := upd T_sine_Mul 18 s_fringeref05_Mul
theorem g_fringeref05_Mul : GOK Try.prog GT gbT T_fringeref05_Mul XT := by
  refine GOK.upd g_sine_Mul (fun args w => Try.call18 args w) fun xs bs K r h => ?_
  unfold s_fringeref05_Mul at h
  split at h
  · exact ⟨_, _, c_fringeref05_Mul _ _ _ _, h⟩
  · cases h


set_option maxRecDepth 100000 in
/-- sine.Sign -/
theorem w_sine_Sign (a b : Int) (K : AV → List Blk → Ans) : evFn Try.prog GT EQT T_fringeref05_Mul XT noL 60 23 [.v (.agg [.int .i64 a, .int .i64 b])] [] (fun v M => K v (M.take ([] : List Blk).length)) = K (rIntE (signS ⟨a, b⟩)) [] := by
  simp only [signS, pullK K]
  kernel_rfl
theorem c_sine_Sign (a b : Int) : CallsA Try.prog GT gbT 23 [.v (.agg [.int .i64 a, .int .i64 b])] [] (rIntE (signS ⟨a, b⟩)) [] := by
  refine CallsA.ofOk fun hok => ?_
  have hw := w_sine_Sign a b (fun v M => some (Res.fin v M))
  refine CallsA.ofEv (Γ := T_fringeref05_Mul) (X := XT) (Λ := noL) (EQ := EQT) (n := 60) g_fringeref05_Mul hEQT hmT (fun _ _ _ _ => noL_ok _) (hw.trans ?_)
  rfl
def s_sine_Sign : List AV → List Blk → (AV → List Blk → Ans) → Ans := fun xs bs K => match xs, bs with
  | [.v (.agg [.int .i64 a, .int .i64 b])], [] => K (rIntE (signS ⟨a, b⟩)) []
  | _, _ => none
def T_sine_Sign : Nat → List AV → List Blk → (AV → List Blk → Ans) → Ans := upd T_fringeref05_Mul 23 s_sine_Sign
theorem g_sine_Sign : GOK Try.prog GT gbT T_sine_Sign XT := by
  refine GOK.upd g_fringeref05_Mul (fun args w => Try.call23 args w) fun xs bs K r h => ?_
  unfold s_sine_Sign at h
  split at h
  · exact ⟨_, _, c_sine_Sign _ _, h⟩
  · cases h


set_option maxRecDepth 100000 in
/-- fringeref05.Sign -/
theorem w_fringeref05_Sign (a b : Int) (K : AV → List Blk → Ans) : evFn Try.prog GT EQT T_sine_Sign XT noL 60 24 [.v (.agg [.int .i64 a, .int .i64 b])] [] (fun v M => K v (M.take ([] : List Blk).length)) = K (rIntE (signRef ⟨a, b⟩)) [] := by
  simp only [signRef, pullK K]
  kernel_rfl
theorem c_fringeref05_Sign (a b : Int) : CallsA Try.prog GT gbT 24 [.v (.agg [.int .i64 a, .int .i64 b])] [] (rIntE (signS ⟨a, b⟩)) [] := by
  refine CallsA.ofOk fun hok => ?_
  have hw := w_fringeref05_Sign a b (fun v M => some (Res.fin v M))
  refine CallsA.ofEv (Γ := T_sine_Sign) (X := XT) (Λ := noL) (EQ := EQT) (n := 60) g_sine_Sign hEQT hmT (fun _ _ _ _ => noL_ok _) (hw.trans ?_)
  have h_a := inR_i64 (hok (.int .i64 a) (by simp [datasL, datas]))
  have h_b := inR_i64 (hok (.int .i64 b) (by simp [datasL, datas]))
  clear hok hw
  refine congrArg (fun v => some (Res.fin v [])) ?_
  rw [signRef_ok]
def s_fringeref05_Sign : List AV → List Blk → (AV → List Blk → Ans) → Ans := fun xs bs K => match xs, bs with
  | [.v (.agg [.int .i64 a, .int .i64 b])], [] => K (rIntE (signS ⟨a, b⟩)) []
  | _, _ => none
def T_fringeref05_Sign : Nat → List AV → List Blk → (AV → List Blk → Ans) → Ans := upd T_sine_Sign 24 s_fringeref05_Sign
theorem g_fringeref05_Sign : GOK Try.prog GT gbT T_fringeref05_Sign XT := by
  refine GOK.upd g_sine_Sign (fun args w => Try.call24 args w) fun xs bs K r h => ?_
  unfold s_fringeref05_Sign at h
  split at h
  · exact ⟨_, _, c_fringeref05_Sign _ _, h⟩
  · cases h


end Go.Ev
