/-
  Contracts of functions: what each returns. No condition beyond those of the statements.
-/
import Derived.Test.YtckjflbbilideaaDoorGyCB
namespace Go.Ev
open Go Go.Proofs

set_option maxRecDepth 100000 in
/-- fringeref02.first -/
theorem w_fringeref02_first (a b c : Int) (K : AV → List Blk → Ans) : evFn Tryd.prog GT EQT T_vec_Dot XT noL 60 82 [.v (.c (.d (.int .i64 a))), .v (.c (.d (.int .i64 b))), .v (.c (.d (.int .i64 c)))] [] (fun v M => K v (M.take ([] : List Blk).length)) = K (rI (firstI a b c)) [] := by
  simp only [firstI, pullK K]
  kernel_rfl
set_option maxRecDepth 100000 in
theorem c_fringeref02_first (a b c : Int) : CallsA Tryd.prog GT gbT 82 [.v (.c (.d (.int .i64 a))), .v (.c (.d (.int .i64 b))), .v (.c (.d (.int .i64 c)))] [] (rI (firstI a b c)) [] := by
  refine CallsA.ofOk fun hok => ?_
  have hw := w_fringeref02_first a b c (fun v M => some (Res.fin v M))
  refine CallsA.ofEv (Γ := T_vec_Dot) (X := XT) (Λ := noL) (EQ := EQT) (n := 60) g_vec_Dot hEQT hmT (fun _ _ _ _ => noL_ok _) (hw.trans ?_)
  rfl
def s_fringeref02_first : List AV → List Blk → (AV → List Blk → Ans) → Ans := fun xs bs K => match xs, bs with
  | [.v (.c (.d (.int .i64 a))), .v (.c (.d (.int .i64 b))), .v (.c (.d (.int .i64 c)))], [] => K (rI (firstI a b c)) []
  | _, _ => none
def T_fringeref02_first : Nat → List AV → List Blk → (AV → List Blk → Ans) → Ans := upd T_vec_Dot 82 s_fringeref02_first
theorem g_fringeref02_first : GOK Tryd.prog GT gbT T_fringeref02_first XT := by
  refine GOK.upd g_vec_Dot (fun args w => Tryd.call82 args w) fun xs bs K r h => ?_
  unfold s_fringeref02_first at h
  split at h
  · exact ⟨_, _, c_fringeref02_first _ _ _, h⟩
  · cases h


set_option maxRecDepth 100000 in
/-- fringeref02.two -/
theorem w_fringeref02_two (a b c d e f g h : Int) (K : AV → List Blk → Ans) : evFn Tryd.prog GT EQT T_fringeref02_first XT noL 60 81 [.v (.agg [.int .i64 a, .int .i64 b]), .v (.agg [.int .i64 c, .int .i64 d]), .v (.agg [.int .i64 e, .int .i64 f]), .v (.agg [.int .i64 g, .int .i64 h])] [] (fun v M => K v (M.take ([] : List Blk).length)) = twoAns K ⟨a, b⟩ ⟨c, d⟩ ⟨e, f⟩ ⟨g, h⟩ := by
  kernel_rfl
set_option maxRecDepth 100000 in
theorem c_fringeref02_two (a b c d e f g h : Int) : CallsA Tryd.prog GT gbT 81 [.v (.agg [.int .i64 a, .int .i64 b]), .v (.agg [.int .i64 c, .int .i64 d]), .v (.agg [.int .i64 e, .int .i64 f]), .v (.agg [.int .i64 g, .int .i64 h])] [] (rFracE (twoF ⟨a, b⟩ ⟨c, d⟩ ⟨e, f⟩ ⟨g, h⟩)) [] := by
  refine CallsA.ofOk fun hok => ?_
  have hw := w_fringeref02_two a b c d e f g h (fun v M => some (Res.fin v M))
  refine CallsA.ofEv (Γ := T_fringeref02_first) (X := XT) (Λ := noL) (EQ := EQT) (n := 60) g_fringeref02_first hEQT hmT (fun _ _ _ _ => noL_ok _) (hw.trans ?_)
  have h_a := inR_i64 (hok (.int .i64 a) (by simp [datasL, datas]))
  have h_b := inR_i64 (hok (.int .i64 b) (by simp [datasL, datas]))
  have h_c := inR_i64 (hok (.int .i64 c) (by simp [datasL, datas]))
  have h_d := inR_i64 (hok (.int .i64 d) (by simp [datasL, datas]))
  have h_e := inR_i64 (hok (.int .i64 e) (by simp [datasL, datas]))
  have h_f := inR_i64 (hok (.int .i64 f) (by simp [datasL, datas]))
  have h_g := inR_i64 (hok (.int .i64 g) (by simp [datasL, datas]))
  have h_h := inR_i64 (hok (.int .i64 h) (by simp [datasL, datas]))
  clear hok hw
  exact twoAns_ok (K := fun v M => some (Res.fin v M))
def s_fringeref02_two : List AV → List Blk → (AV → List Blk → Ans) → Ans := fun xs bs K => match xs, bs with
  | [.v (.agg [.int .i64 a, .int .i64 b]), .v (.agg [.int .i64 c, .int .i64 d]), .v (.agg [.int .i64 e, .int .i64 f]), .v (.agg [.int .i64 g, .int .i64 h])], [] => K (rFracE (twoF ⟨a, b⟩ ⟨c, d⟩ ⟨e, f⟩ ⟨g, h⟩)) []
  | _, _ => none
def T_fringeref02_two : Nat → List AV → List Blk → (AV → List Blk → Ans) → Ans := upd T_fringeref02_first 81 s_fringeref02_two
theorem g_fringeref02_two : GOK Tryd.prog GT gbT T_fringeref02_two XT := by
  refine GOK.upd g_fringeref02_first (fun args w => Tryd.call81 args w) fun xs bs K r h => ?_
  unfold s_fringeref02_two at h
  split at h
  · exact ⟨_, _, c_fringeref02_two _ _ _ _ _ _ _ _, h⟩
  · cases h


set_option maxRecDepth 100000 in
/-- fringeref02.Dot -/
theorem w_fringeref02_Dot (a b c d e f g h i j k l : Int) (K : AV → List Blk → Ans) : evFn Tryd.prog GT EQT T_fringeref02_two XT noL 120 46 [.v (.agg [.int .i64 a, .int .i64 b, .int .i64 c, .int .i64 d, .int .i64 e, .int .i64 f]), .v (.agg [.int .i64 g, .int .i64 h, .int .i64 i, .int .i64 j, .int .i64 k, .int .i64 l])] [] (fun v M => K v (M.take ([] : List Blk).length)) = dotVRef K ⟨⟨a, b⟩, ⟨c, d⟩, ⟨e, f⟩⟩ ⟨⟨g, h⟩, ⟨i, j⟩, ⟨k, l⟩⟩ := by
  kernel_rfl
set_option maxRecDepth 100000 in
theorem c_fringeref02_Dot (a b c d e f g h i j k l : Int) : CallsA Tryd.prog GT gbT 46 [.v (.agg [.int .i64 a, .int .i64 b, .int .i64 c, .int .i64 d, .int .i64 e, .int .i64 f]), .v (.agg [.int .i64 g, .int .i64 h, .int .i64 i, .int .i64 j, .int .i64 k, .int .i64 l])] [] (rFracE (dotV ⟨⟨a, b⟩, ⟨c, d⟩, ⟨e, f⟩⟩ ⟨⟨g, h⟩, ⟨i, j⟩, ⟨k, l⟩⟩)) [] := by
  refine CallsA.ofOk fun hok => ?_
  have hw := w_fringeref02_Dot a b c d e f g h i j k l (fun v M => some (Res.fin v M))
  refine CallsA.ofEv (Γ := T_fringeref02_two) (X := XT) (Λ := noL) (EQ := EQT) (n := 120) g_fringeref02_two hEQT hmT (fun _ _ _ _ => noL_ok _) (hw.trans ?_)
  have h_a := inR_i64 (hok (.int .i64 a) (by simp [datasL, datas]))
  have h_b := inR_i64 (hok (.int .i64 b) (by simp [datasL, datas]))
  have h_c := inR_i64 (hok (.int .i64 c) (by simp [datasL, datas]))
  have h_d := inR_i64 (hok (.int .i64 d) (by simp [datasL, datas]))
  have h_e := inR_i64 (hok (.int .i64 e) (by simp [datasL, datas]))
  have h_f := inR_i64 (hok (.int .i64 f) (by simp [datasL, datas]))
  have h_g := inR_i64 (hok (.int .i64 g) (by simp [datasL, datas]))
  have h_h := inR_i64 (hok (.int .i64 h) (by simp [datasL, datas]))
  have h_i := inR_i64 (hok (.int .i64 i) (by simp [datasL, datas]))
  have h_j := inR_i64 (hok (.int .i64 j) (by simp [datasL, datas]))
  have h_k := inR_i64 (hok (.int .i64 k) (by simp [datasL, datas]))
  have h_l := inR_i64 (hok (.int .i64 l) (by simp [datasL, datas]))
  clear hok hw
  exact dotVRef_ok (K := fun v M => some (Res.fin v M))
def s_fringeref02_Dot : List AV → List Blk → (AV → List Blk → Ans) → Ans := fun xs bs K => match xs, bs with
  | [.v (.agg [.int .i64 a, .int .i64 b, .int .i64 c, .int .i64 d, .int .i64 e, .int .i64 f]), .v (.agg [.int .i64 g, .int .i64 h, .int .i64 i, .int .i64 j, .int .i64 k, .int .i64 l])], [] => K (rFracE (dotV ⟨⟨a, b⟩, ⟨c, d⟩, ⟨e, f⟩⟩ ⟨⟨g, h⟩, ⟨i, j⟩, ⟨k, l⟩⟩)) []
  | _, _ => none
def T_fringeref02_Dot : Nat → List AV → List Blk → (AV → List Blk → Ans) → Ans := upd T_fringeref02_two 46 s_fringeref02_Dot
theorem g_fringeref02_Dot : GOK Tryd.prog GT gbT T_fringeref02_Dot XT := by
  refine GOK.upd g_fringeref02_two (fun args w => Tryd.call46 args w) fun xs bs K r h => ?_
  unfold s_fringeref02_Dot at h
  split at h
  · exact ⟨_, _, c_fringeref02_Dot _ _ _ _ _ _ _ _ _ _ _ _, h⟩
  · cases h


set_option maxRecDepth 100000 in
/-- fringeref01.Of -/
theorem w_fringeref01_Of (n : Int) (K : AV → List Blk → Ans) : evFn Tryd.prog GT EQT T_fringeref02_Dot XT noL 60 31 [.v (.c (.d (.int .i64 n)))] [] (fun v M => K v (M.take ([] : List Blk).length)) = K (rFrac ⟨n, 1⟩) [] := by
  kernel_rfl
set_option maxRecDepth 100000 in
theorem c_fringeref01_Of (n : Int) : CallsA Tryd.prog GT gbT 31 [.v (.c (.d (.int .i64 n)))] [] (rFrac ⟨n, 1⟩) [] := by
  refine CallsA.ofOk fun hok => ?_
  have hw := w_fringeref01_Of n (fun v M => some (Res.fin v M))
  refine CallsA.ofEv (Γ := T_fringeref02_Dot) (X := XT) (Λ := noL) (EQ := EQT) (n := 60) g_fringeref02_Dot hEQT hmT (fun _ _ _ _ => noL_ok _) (hw.trans ?_)
  rfl
def s_fringeref01_Of : List AV → List Blk → (AV → List Blk → Ans) → Ans := fun xs bs K => match xs, bs with
  | [.v (.c (.d (.int .i64 n)))], [] => K (rFrac ⟨n, 1⟩) []
  | _, _ => none
def T_fringeref01_Of : Nat → List AV → List Blk → (AV → List Blk → Ans) → Ans := upd T_fringeref02_Dot 31 s_fringeref01_Of
theorem g_fringeref01_Of : GOK Tryd.prog GT gbT T_fringeref01_Of XT := by
  refine GOK.upd g_fringeref02_Dot (fun args w => Tryd.call31 args w) fun xs bs K r h => ?_
  unfold s_fringeref01_Of at h
  split at h
  · exact ⟨_, _, c_fringeref01_Of _, h⟩
  · cases h


set_option maxRecDepth 100000 in
/-- fringeref02.Pair -/
theorem w_fringeref02_Pair (t1 t2 : Int) (K : AV → List Blk → Ans) : evFn Tryd.prog GT EQT T_fringeref01_Of XT noL 100 78 [.v (.agg [.int .i64 t1, .int .i64 t2])] [] (fun v M => K v (M.take ([] : List Blk).length)) = K (rPair (pairR ⟨t1, t2⟩)) [] := by
  simp only [pairR, pullK K]
  kernel_rfl
set_option maxRecDepth 100000 in
theorem c_fringeref02_Pair (t1 t2 : Int) : CallsA Tryd.prog GT gbT 78 [.v (.agg [.int .i64 t1, .int .i64 t2])] [] (rPair (pairR ⟨t1, t2⟩)) [] := by
  refine CallsA.ofOk fun hok => ?_
  have hw := w_fringeref02_Pair t1 t2 (fun v M => some (Res.fin v M))
  refine CallsA.ofEv (Γ := T_fringeref01_Of) (X := XT) (Λ := noL) (EQ := EQT) (n := 100) g_fringeref01_Of hEQT hmT (fun _ _ _ _ => noL_ok _) (hw.trans ?_)
  rfl
def s_fringeref02_Pair : List AV → List Blk → (AV → List Blk → Ans) → Ans := fun xs bs K => match xs, bs with
  | [.v (.agg [.int .i64 t1, .int .i64 t2])], [] => K (rPair (pairR ⟨t1, t2⟩)) []
  | _, _ => none
def T_fringeref02_Pair : Nat → List AV → List Blk → (AV → List Blk → Ans) → Ans := upd T_fringeref01_Of 78 s_fringeref02_Pair
theorem g_fringeref02_Pair : GOK Tryd.prog GT gbT T_fringeref02_Pair XT := by
  refine GOK.upd g_fringeref01_Of (fun args w => Tryd.call78 args w) fun xs bs K r h => ?_
  unfold s_fringeref02_Pair at h
  split at h
  · exact ⟨_, _, c_fringeref02_Pair _ _, h⟩
  · cases h


set_option maxRecDepth 100000 in
/-- frac.Make -/
theorem w_frac_Make (n d : Int) (K : AV → List Blk → Ans) : evFn Tryd.prog GT EQT T_fringeref02_Pair XT noL 60 75 [.v (.c (.d (.int .i64 n))), .v (.c (.d (.int .i64 d)))] [] (fun v M => K v (M.take ([] : List Blk).length)) = makePAns K n d := by
  kernel_rfl
set_option maxRecDepth 100000 in
theorem c_frac_Make (n d : Int) : CallsA Tryd.prog GT gbT 75 [.v (.c (.d (.int .i64 n))), .v (.c (.d (.int .i64 d)))] [] (rFracE (makeF n d)) [] := by
  refine CallsA.ofOk fun hok => ?_
  have hw := w_frac_Make n d (fun v M => some (Res.fin v M))
  refine CallsA.ofEv (Γ := T_fringeref02_Pair) (X := XT) (Λ := noL) (EQ := EQT) (n := 60) g_fringeref02_Pair hEQT hmT (fun _ _ _ _ => noL_ok _) (hw.trans ?_)
  have h_n := inR_i64 (hok (.int .i64 n) (by simp [datasL, datas]))
  have h_d := inR_i64 (hok (.int .i64 d) (by simp [datasL, datas]))
  clear hok hw
  exact makePAns_ok (K := fun v M => some (Res.fin v M)) h_n h_d
def s_frac_Make : List AV → List Blk → (AV → List Blk → Ans) → Ans := fun xs bs K => match xs, bs with
  | [.v (.c (.d (.int .i64 n))), .v (.c (.d (.int .i64 d)))], [] => K (rFracE (makeF n d)) []
  | _, _ => none
def T_frac_Make : Nat → List AV → List Blk → (AV → List Blk → Ans) → Ans := upd T_fringeref02_Pair 75 s_frac_Make
theorem g_frac_Make : GOK Tryd.prog GT gbT T_frac_Make XT := by
  refine GOK.upd g_fringeref02_Pair (fun args w => Tryd.call75 args w) fun xs bs K r h => ?_
  unfold s_frac_Make at h
  split at h
  · exact ⟨_, _, c_frac_Make _ _, h⟩
  · cases h


set_option maxRecDepth 100000 in
/-- frac.compare -/
theorem w_frac_compare (a b c d : Int) (K : AV → List Blk → Ans) : evFn Tryd.prog GT EQT T_frac_Make XT noL 60 93 [.v (.c (.d (.int .u64 a))), .v (.c (.d (.int .u64 b))), .v (.c (.d (.int .u64 c))), .v (.c (.d (.int .u64 d)))] [] (fun v M => K v (M.take ([] : List Blk).length)) = K (rI (compareRaw a b c d)) [] := by
  kernel_rfl
set_option maxRecDepth 100000 in
theorem c_frac_compare (a b c d : Int) : CallsA Tryd.prog GT gbT 93 [.v (.c (.d (.int .u64 a))), .v (.c (.d (.int .u64 b))), .v (.c (.d (.int .u64 c))), .v (.c (.d (.int .u64 d)))] [] (rI (compareI a b c d)) [] := by
  refine CallsA.ofOk fun hok => ?_
  have hw := w_frac_compare a b c d (fun v M => some (Res.fin v M))
  refine CallsA.ofEv (Γ := T_frac_Make) (X := XT) (Λ := noL) (EQ := EQT) (n := 60) g_frac_Make hEQT hmT (fun _ _ _ _ => noL_ok _) (hw.trans ?_)
  have h_a := inR_u64 (hok (.int .u64 a) (by simp [datasL, datas]))
  have h_b := inR_u64 (hok (.int .u64 b) (by simp [datasL, datas]))
  have h_c := inR_u64 (hok (.int .u64 c) (by simp [datasL, datas]))
  have h_d := inR_u64 (hok (.int .u64 d) (by simp [datasL, datas]))
  clear hok hw
  refine congrArg (fun v => some (Res.fin v [])) ?_
  rw [compareRaw_ok]
def s_frac_compare : List AV → List Blk → (AV → List Blk → Ans) → Ans := fun xs bs K => match xs, bs with
  | [.v (.c (.d (.int .u64 a))), .v (.c (.d (.int .u64 b))), .v (.c (.d (.int .u64 c))), .v (.c (.d (.int .u64 d)))], [] => K (rI (compareI a b c d)) []
  | _, _ => none
def T_frac_compare : Nat → List AV → List Blk → (AV → List Blk → Ans) → Ans := upd T_frac_Make 93 s_frac_compare
theorem g_frac_compare : GOK Tryd.prog GT gbT T_frac_compare XT := by
  refine GOK.upd g_frac_Make (fun args w => Tryd.call93 args w) fun xs bs K r h => ?_
  unfold s_frac_compare at h
  split at h
  · exact ⟨_, _, c_frac_compare _ _ _ _, h⟩
  · cases h


set_option maxRecDepth 100000 in
/-- frac.order -/
theorem w_frac_order (a1 a2 b1 b2 : Int) (K : AV → List Blk → Ans) : evFn Tryd.prog GT EQT T_frac_compare XT noL 60 79 [.v (.agg [.int .i64 a1, .int .i64 a2]), .v (.agg [.int .i64 b1, .int .i64 b2])] [] (fun v M => K v (M.take ([] : List Blk).length)) = orderAns K ⟨a1, a2⟩ ⟨b1, b2⟩ := by
  kernel_rfl
set_option maxRecDepth 100000 in
theorem c_frac_order (a1 a2 b1 b2 : Int) (hd : (fracOkB ⟨a1, a2⟩ && fracOkB ⟨b1, b2⟩) = true) : CallsA Tryd.prog GT gbT 79 [.v (.agg [.int .i64 a1, .int .i64 a2]), .v (.agg [.int .i64 b1, .int .i64 b2])] [] (rI (orderI ⟨a1, a2⟩ ⟨b1, b2⟩)) [] := by
  refine CallsA.ofOk fun hok => ?_
  have hw := w_frac_order a1 a2 b1 b2 (fun v M => some (Res.fin v M))
  refine CallsA.ofEv (Γ := T_frac_compare) (X := XT) (Λ := noL) (EQ := EQT) (n := 60) g_frac_compare hEQT hmT (fun _ _ _ _ => noL_ok _) (hw.trans ?_)
  have h_a1 := inR_i64 (hok (.int .i64 a1) (by simp [datasL, datas]))
  have h_a2 := inR_i64 (hok (.int .i64 a2) (by simp [datasL, datas]))
  have h_b1 := inR_i64 (hok (.int .i64 b1) (by simp [datasL, datas]))
  have h_b2 := inR_i64 (hok (.int .i64 b2) (by simp [datasL, datas]))
  clear hok hw
  simp only [Bool.and_eq_true] at hd
  exact orderAns_ok (K := fun v M => some (Res.fin v M)) (fracOkB_iff.1 hd.1) (fracOkB_iff.1 hd.2)
def s_frac_order : List AV → List Blk → (AV → List Blk → Ans) → Ans := fun xs bs K => match xs, bs with
  | [.v (.agg [.int .i64 a1, .int .i64 a2]), .v (.agg [.int .i64 b1, .int .i64 b2])], [] => bif fracOkB ⟨a1, a2⟩ && fracOkB ⟨b1, b2⟩ then K (rI (orderI ⟨a1, a2⟩ ⟨b1, b2⟩)) [] else none
  | _, _ => none
def T_frac_order : Nat → List AV → List Blk → (AV → List Blk → Ans) → Ans := upd T_frac_compare 79 s_frac_order
theorem g_frac_order : GOK Tryd.prog GT gbT T_frac_order XT := by
  refine GOK.upd g_frac_compare (fun args w => Tryd.call79 args w) fun xs bs K r h => ?_
  unfold s_frac_order at h
  split at h
  · simp only [cond_eq_ite] at h
    split at h
    · exact ⟨_, _, c_frac_order _ _ _ _ ‹_›, h⟩
    · cases h
  · cases h


set_option maxRecDepth 100000 in
/-- frac.Cmp -/
theorem w_frac_Cmp (a1 a2 b1 b2 : Int) (K : AV → List Blk → Ans) : evFn Tryd.prog GT EQT T_frac_order XT noL 60 43 [.v (.agg [.int .i64 a1, .int .i64 a2]), .v (.agg [.int .i64 b1, .int .i64 b2])] [] (fun v M => K v (M.take ([] : List Blk).length)) = cmpAns K ⟨a1, a2⟩ ⟨b1, b2⟩ := by
  kernel_rfl
set_option maxRecDepth 100000 in
theorem c_frac_Cmp (a1 a2 b1 b2 : Int) : CallsA Tryd.prog GT gbT 43 [.v (.agg [.int .i64 a1, .int .i64 a2]), .v (.agg [.int .i64 b1, .int .i64 b2])] [] (rIntE (cmpF ⟨a1, a2⟩ ⟨b1, b2⟩)) [] := by
  refine CallsA.ofOk fun hok => ?_
  have hw := w_frac_Cmp a1 a2 b1 b2 (fun v M => some (Res.fin v M))
  refine CallsA.ofEv (Γ := T_frac_order) (X := XT) (Λ := noL) (EQ := EQT) (n := 60) g_frac_order hEQT hmT (fun _ _ _ _ => noL_ok _) (hw.trans ?_)
  have h_a1 := inR_i64 (hok (.int .i64 a1) (by simp [datasL, datas]))
  have h_a2 := inR_i64 (hok (.int .i64 a2) (by simp [datasL, datas]))
  have h_b1 := inR_i64 (hok (.int .i64 b1) (by simp [datasL, datas]))
  have h_b2 := inR_i64 (hok (.int .i64 b2) (by simp [datasL, datas]))
  clear hok hw
  exact cmpAns_ok (K := fun v M => some (Res.fin v M))
def s_frac_Cmp : List AV → List Blk → (AV → List Blk → Ans) → Ans := fun xs bs K => match xs, bs with
  | [.v (.agg [.int .i64 a1, .int .i64 a2]), .v (.agg [.int .i64 b1, .int .i64 b2])], [] => K (rIntE (cmpF ⟨a1, a2⟩ ⟨b1, b2⟩)) []
  | _, _ => none
def T_frac_Cmp : Nat → List AV → List Blk → (AV → List Blk → Ans) → Ans := upd T_frac_order 43 s_frac_Cmp
theorem g_frac_Cmp : GOK Tryd.prog GT gbT T_frac_Cmp XT := by
  refine GOK.upd g_frac_order (fun args w => Tryd.call43 args w) fun xs bs K r h => ?_
  unfold s_frac_Cmp at h
  split at h
  · exact ⟨_, _, c_frac_Cmp _ _ _ _, h⟩
  · cases h


set_option maxRecDepth 100000 in
/-- geoid.Check -/
theorem w_geoid_Check (g1 g2 : Int) (K : AV → List Blk → Ans) : evFn Tryd.prog GT EQT T_frac_Cmp XT noL 60 16 [.v (.agg [.int .i64 g1, .int .i64 g2])] [] (fun v M => K v (M.take ([] : List Blk).length)) = K (rI (checkGRaw ⟨g1, g2⟩)) [] := by
  simp only [checkGRaw, pullK K]
  kernel_rfl
set_option maxRecDepth 100000 in
theorem c_geoid_Check (g1 g2 : Int) : CallsA Tryd.prog GT gbT 16 [.v (.agg [.int .i64 g1, .int .i64 g2])] [] (rI (checkG ⟨g1, g2⟩)) [] := by
  refine CallsA.ofOk fun hok => ?_
  have hw := w_geoid_Check g1 g2 (fun v M => some (Res.fin v M))
  refine CallsA.ofEv (Γ := T_frac_Cmp) (X := XT) (Λ := noL) (EQ := EQT) (n := 60) g_frac_Cmp hEQT hmT (fun _ _ _ _ => noL_ok _) (hw.trans ?_)
  have h_g1 := inR_i64 (hok (.int .i64 g1) (by simp [datasL, datas]))
  have h_g2 := inR_i64 (hok (.int .i64 g2) (by simp [datasL, datas]))
  clear hok hw
  refine congrArg (fun v => some (Res.fin v [])) ?_
  rw [checkGRaw_ok]
def s_geoid_Check : List AV → List Blk → (AV → List Blk → Ans) → Ans := fun xs bs K => match xs, bs with
  | [.v (.agg [.int .i64 g1, .int .i64 g2])], [] => K (rI (checkG ⟨g1, g2⟩)) []
  | _, _ => none
def T_geoid_Check : Nat → List AV → List Blk → (AV → List Blk → Ans) → Ans := upd T_frac_Cmp 16 s_geoid_Check
theorem g_geoid_Check : GOK Tryd.prog GT gbT T_geoid_Check XT := by
  refine GOK.upd g_frac_Cmp (fun args w => Tryd.call16 args w) fun xs bs K r h => ?_
  unfold s_geoid_Check at h
  split at h
  · exact ⟨_, _, c_geoid_Check _ _, h⟩
  · cases h


set_option maxRecDepth 100000 in
/-- geoid.param -/
theorem w_geoid_param (f1 f2 : Int) (K : AV → List Blk → Ans) : evFn Tryd.prog GT EQT T_geoid_Check XT noL 60 36 [.v (.agg [.int .i64 f1, .int .i64 f2])] [] (fun v M => K v (M.take ([] : List Blk).length)) = paramAns K ⟨f1, f2⟩ := by
  kernel_rfl
set_option maxRecDepth 100000 in
theorem c_geoid_param (f1 f2 : Int) : CallsA Tryd.prog GT gbT 36 [.v (.agg [.int .i64 f1, .int .i64 f2])] [] (rB (paramB ⟨f1, f2⟩)) [] := by
  refine CallsA.ofOk fun hok => ?_
  have hw := w_geoid_param f1 f2 (fun v M => some (Res.fin v M))
  refine CallsA.ofEv (Γ := T_geoid_Check) (X := XT) (Λ := noL) (EQ := EQT) (n := 60) g_geoid_Check hEQT hmT (fun _ _ _ _ => noL_ok _) (hw.trans ?_)
  have h_f1 := inR_i64 (hok (.int .i64 f1) (by simp [datasL, datas]))
  have h_f2 := inR_i64 (hok (.int .i64 f2) (by simp [datasL, datas]))
  clear hok hw
  exact paramAns_ok (K := fun v M => some (Res.fin v M))
def s_geoid_param : List AV → List Blk → (AV → List Blk → Ans) → Ans := fun xs bs K => match xs, bs with
  | [.v (.agg [.int .i64 f1, .int .i64 f2])], [] => K (rB (paramB ⟨f1, f2⟩)) []
  | _, _ => none
def T_geoid_param : Nat → List AV → List Blk → (AV → List Blk → Ans) → Ans := upd T_geoid_Check 36 s_geoid_param
theorem g_geoid_param : GOK Tryd.prog GT gbT T_geoid_param XT := by
  refine GOK.upd g_geoid_Check (fun args w => Tryd.call36 args w) fun xs bs K r h => ?_
  unfold s_geoid_param at h
  split at h
  · exact ⟨_, _, c_geoid_param _ _, h⟩
  · cases h


set_option maxRecDepth 100000 in
/-- geoid.whole -/
theorem w_geoid_whole (n : Int) (K : AV → List Blk → Ans) : evFn Tryd.prog GT EQT T_geoid_param XT noL 60 39 [.v (.c (.d (.int .i64 n)))] [] (fun v M => K v (M.take ([] : List Blk).length)) = K (rFrac (wholeF n)) [] := by
  kernel_rfl
set_option maxRecDepth 100000 in
theorem c_geoid_whole (n : Int) : CallsA Tryd.prog GT gbT 39 [.v (.c (.d (.int .i64 n)))] [] (rFrac (wholeF n)) [] := by
  refine CallsA.ofOk fun hok => ?_
  have hw := w_geoid_whole n (fun v M => some (Res.fin v M))
  refine CallsA.ofEv (Γ := T_geoid_param) (X := XT) (Λ := noL) (EQ := EQT) (n := 60) g_geoid_param hEQT hmT (fun _ _ _ _ => noL_ok _) (hw.trans ?_)
  rfl
def s_geoid_whole : List AV → List Blk → (AV → List Blk → Ans) → Ans := fun xs bs K => match xs, bs with
  | [.v (.c (.d (.int .i64 n)))], [] => K (rFrac (wholeF n)) []
  | _, _ => none
def T_geoid_whole : Nat → List AV → List Blk → (AV → List Blk → Ans) → Ans := upd T_geoid_param 39 s_geoid_whole
theorem g_geoid_whole : GOK Tryd.prog GT gbT T_geoid_whole XT := by
  refine GOK.upd g_geoid_param (fun args w => Tryd.call39 args w) fun xs bs K r h => ?_
  unfold s_geoid_whole at h
  split at h
  · exact ⟨_, _, c_geoid_whole _, h⟩
  · cases h


set_option maxRecDepth 100000 in
/-- geoid.around -/
theorem w_geoid_around (u1 u2 : Int) (K : AV → List Blk → Ans) : evFn Tryd.prog GT EQT T_geoid_whole XT noL 60 37 [.v (.agg [.int .i64 u1, .int .i64 u2])] [] (fun v M => K v (M.take ([] : List Blk).length)) = aroundRaw K ⟨u1, u2⟩ := by
  kernel_rfl
set_option maxRecDepth 100000 in
theorem c_geoid_around (u1 u2 : Int) (hd : (paramB ⟨u1, u2⟩) = true) : CallsA Tryd.prog GT gbT 37 [.v (.agg [.int .i64 u1, .int .i64 u2])] [] (rFF (cosU ⟨u1, u2⟩) (sinU ⟨u1, u2⟩)) [] := by
  refine CallsA.ofOk fun hok => ?_
  have hw := w_geoid_around u1 u2 (fun v M => some (Res.fin v M))
  refine CallsA.ofEv (Γ := T_geoid_whole) (X := XT) (Λ := noL) (EQ := EQT) (n := 60) g_geoid_whole hEQT hmT (fun _ _ _ _ => noL_ok _) (hw.trans ?_)
  have h_u1 := inR_i64 (hok (.int .i64 u1) (by simp [datasL, datas]))
  have h_u2 := inR_i64 (hok (.int .i64 u2) (by simp [datasL, datas]))
  clear hok hw
  exact around_ok (K := fun v M => some (Res.fin v M)) (paramB_iff.1 hd)
def s_geoid_around : List AV → List Blk → (AV → List Blk → Ans) → Ans := fun xs bs K => match xs, bs with
  | [.v (.agg [.int .i64 u1, .int .i64 u2])], [] => bif paramB ⟨u1, u2⟩ then K (rFF (cosU ⟨u1, u2⟩) (sinU ⟨u1, u2⟩)) [] else none
  | _, _ => none
def T_geoid_around : Nat → List AV → List Blk → (AV → List Blk → Ans) → Ans := upd T_geoid_whole 37 s_geoid_around
theorem g_geoid_around : GOK Tryd.prog GT gbT T_geoid_around XT := by
  refine GOK.upd g_geoid_whole (fun args w => Tryd.call37 args w) fun xs bs K r h => ?_
  unfold s_geoid_around at h
  split at h
  · simp only [cond_eq_ite] at h
    split at h
    · exact ⟨_, _, c_geoid_around _ _ ‹_›, h⟩
    · cases h
  · cases h


set_option maxRecDepth 100000 in
/-- geoid.over -/
theorem w_geoid_over (p1 p2 p3 p4 p5 p6 a b : Int) (K : AV → List Blk → Ans) : evFn Tryd.prog GT EQT T_geoid_around XT noL 100 42 [.v (.agg [.int .i64 p1, .int .i64 p2, .int .i64 p3, .int .i64 p4, .int .i64 p5, .int .i64 p6]), .v (.c (.d (.int .i64 a))), .v (.c (.d (.int .i64 b)))] [] (fun v M => K v (M.take ([] : List Blk).length)) = overAnsV K ⟨⟨p1, p2⟩, ⟨p3, p4⟩, ⟨p5, p6⟩⟩ a b := by
  kernel_rfl
set_option maxRecDepth 100000 in
theorem c_geoid_over (p1 p2 p3 p4 p5 p6 a b : Int) : CallsA Tryd.prog GT gbT 42 [.v (.agg [.int .i64 p1, .int .i64 p2, .int .i64 p3, .int .i64 p4, .int .i64 p5, .int .i64 p6]), .v (.c (.d (.int .i64 a))), .v (.c (.d (.int .i64 b)))] [] (rVecE (overV ⟨⟨p1, p2⟩, ⟨p3, p4⟩, ⟨p5, p6⟩⟩ a b)) [] := by
  refine CallsA.ofOk fun hok => ?_
  have hw := w_geoid_over p1 p2 p3 p4 p5 p6 a b (fun v M => some (Res.fin v M))
  refine CallsA.ofEv (Γ := T_geoid_around) (X := XT) (Λ := noL) (EQ := EQT) (n := 100) g_geoid_around hEQT hmT (fun _ _ _ _ => noL_ok _) (hw.trans ?_)
  have h_p1 := inR_i64 (hok (.int .i64 p1) (by simp [datasL, datas]))
  have h_p2 := inR_i64 (hok (.int .i64 p2) (by simp [datasL, datas]))
  have h_p3 := inR_i64 (hok (.int .i64 p3) (by simp [datasL, datas]))
  have h_p4 := inR_i64 (hok (.int .i64 p4) (by simp [datasL, datas]))
  have h_p5 := inR_i64 (hok (.int .i64 p5) (by simp [datasL, datas]))
  have h_p6 := inR_i64 (hok (.int .i64 p6) (by simp [datasL, datas]))
  have h_a := inR_i64 (hok (.int .i64 a) (by simp [datasL, datas]))
  have h_b := inR_i64 (hok (.int .i64 b) (by simp [datasL, datas]))
  clear hok hw
  exact overAnsV_ok (K := fun v M => some (Res.fin v M))
def s_geoid_over : List AV → List Blk → (AV → List Blk → Ans) → Ans := fun xs bs K => match xs, bs with
  | [.v (.agg [.int .i64 p1, .int .i64 p2, .int .i64 p3, .int .i64 p4, .int .i64 p5, .int .i64 p6]), .v (.c (.d (.int .i64 a))), .v (.c (.d (.int .i64 b)))], [] => K (rVecE (overV ⟨⟨p1, p2⟩, ⟨p3, p4⟩, ⟨p5, p6⟩⟩ a b)) []
  | _, _ => none
def T_geoid_over : Nat → List AV → List Blk → (AV → List Blk → Ans) → Ans := upd T_geoid_around 42 s_geoid_over
theorem g_geoid_over : GOK Tryd.prog GT gbT T_geoid_over XT := by
  refine GOK.upd g_geoid_around (fun args w => Tryd.call42 args w) fun xs bs K r h => ?_
  unfold s_geoid_over at h
  split at h
  · exact ⟨_, _, c_geoid_over _ _ _ _ _ _ _ _, h⟩
  · cases h


set_option maxRecDepth 100000 in
/-- geoid.At -/
theorem w_geoid_At (g1 g2 s1 s2 t1 t2 : Int) (K : AV → List Blk → Ans) : evFn Tryd.prog GT EQT T_geoid_over XT noL 100 10 [.v (.agg [.int .i64 g1, .int .i64 g2]), .v (.agg [.int .i64 s1, .int .i64 s2]), .v (.agg [.int .i64 t1, .int .i64 t2])] [] (fun v M => K v (M.take ([] : List Blk).length)) = atAns K ⟨g1, g2⟩ ⟨s1, s2⟩ ⟨t1, t2⟩ := by
  kernel_rfl
set_option maxRecDepth 100000 in
theorem c_geoid_At (g1 g2 s1 s2 t1 t2 : Int) : CallsA Tryd.prog GT gbT 10 [.v (.agg [.int .i64 g1, .int .i64 g2]), .v (.agg [.int .i64 s1, .int .i64 s2]), .v (.agg [.int .i64 t1, .int .i64 t2])] [] (rVecE (atV ⟨g1, g2⟩ ⟨s1, s2⟩ ⟨t1, t2⟩)) [] := by
  refine CallsA.ofOk fun hok => ?_
  have hw := w_geoid_At g1 g2 s1 s2 t1 t2 (fun v M => some (Res.fin v M))
  refine CallsA.ofEv (Γ := T_geoid_over) (X := XT) (Λ := noL) (EQ := EQT) (n := 100) g_geoid_over hEQT hmT (fun _ _ _ _ => noL_ok _) (hw.trans ?_)
  have h_g1 := inR_i64 (hok (.int .i64 g1) (by simp [datasL, datas]))
  have h_g2 := inR_i64 (hok (.int .i64 g2) (by simp [datasL, datas]))
  have h_s1 := inR_i64 (hok (.int .i64 s1) (by simp [datasL, datas]))
  have h_s2 := inR_i64 (hok (.int .i64 s2) (by simp [datasL, datas]))
  have h_t1 := inR_i64 (hok (.int .i64 t1) (by simp [datasL, datas]))
  have h_t2 := inR_i64 (hok (.int .i64 t2) (by simp [datasL, datas]))
  clear hok hw
  exact atAns_ok (K := fun v M => some (Res.fin v M))
def s_geoid_At : List AV → List Blk → (AV → List Blk → Ans) → Ans := fun xs bs K => match xs, bs with
  | [.v (.agg [.int .i64 g1, .int .i64 g2]), .v (.agg [.int .i64 s1, .int .i64 s2]), .v (.agg [.int .i64 t1, .int .i64 t2])], [] => K (rVecE (atV ⟨g1, g2⟩ ⟨s1, s2⟩ ⟨t1, t2⟩)) []
  | _, _ => none
def T_geoid_At : Nat → List AV → List Blk → (AV → List Blk → Ans) → Ans := upd T_geoid_over 10 s_geoid_At
theorem g_geoid_At : GOK Tryd.prog GT gbT T_geoid_At XT := by
  refine GOK.upd g_geoid_over (fun args w => Tryd.call10 args w) fun xs bs K r h => ?_
  unfold s_geoid_At at h
  split at h
  · exact ⟨_, _, c_geoid_At _ _ _ _ _ _, h⟩
  · cases h


set_option maxRecDepth 100000 in
/-- geoid.Inside -/
theorem w_geoid_Inside (g1 g2 q1 q2 q3 q4 q5 q6 : Int) (K : AV → List Blk → Ans) : evFn Tryd.prog GT EQT (inl Tryd.prog GT EQT XT [41] T_geoid_At 100 2) XT noL 100 14 [.v (.agg [.int .i64 g1, .int .i64 g2]), .v (.agg [.int .i64 q1, .int .i64 q2, .int .i64 q3, .int .i64 q4, .int .i64 q5, .int .i64 q6])] [] (fun v M => K v (M.take ([] : List Blk).length)) = insideAns K ⟨g1, g2⟩ ⟨⟨q1, q2⟩, ⟨q3, q4⟩, ⟨q5, q6⟩⟩ := by
  kernel_rfl
set_option maxRecDepth 100000 in
theorem c_geoid_Inside (g1 g2 q1 q2 q3 q4 q5 q6 : Int) : CallsA Tryd.prog GT gbT 14 [.v (.agg [.int .i64 g1, .int .i64 g2]), .v (.agg [.int .i64 q1, .int .i64 q2, .int .i64 q3, .int .i64 q4, .int .i64 q5, .int .i64 q6])] [] (rIntE (insideV ⟨g1, g2⟩ ⟨⟨q1, q2⟩, ⟨q3, q4⟩, ⟨q5, q6⟩⟩)) [] := by
  refine CallsA.ofOk fun hok => ?_
  have hw := w_geoid_Inside g1 g2 q1 q2 q3 q4 q5 q6 (fun v M => some (Res.fin v M))
  refine CallsA.ofEv (Γ := (inl Tryd.prog GT EQT XT [41] T_geoid_At 100 2)) (X := XT) (Λ := noL) (EQ := EQT) (n := 100) (g_geoid_At.inl hEQT hmT (fun f hf => by simp only [List.mem_cons, List.not_mem_nil, or_false] at hf; subst hf; exact (fun args w => Tryd.call41 args w)) 100 2) hEQT hmT (fun _ _ _ _ => noL_ok _) (hw.trans ?_)
  have h_g1 := inR_i64 (hok (.int .i64 g1) (by simp [datasL, datas]))
  have h_g2 := inR_i64 (hok (.int .i64 g2) (by simp [datasL, datas]))
  have h_q1 := inR_i64 (hok (.int .i64 q1) (by simp [datasL, datas]))
  have h_q2 := inR_i64 (hok (.int .i64 q2) (by simp [datasL, datas]))
  have h_q3 := inR_i64 (hok (.int .i64 q3) (by simp [datasL, datas]))
  have h_q4 := inR_i64 (hok (.int .i64 q4) (by simp [datasL, datas]))
  have h_q5 := inR_i64 (hok (.int .i64 q5) (by simp [datasL, datas]))
  have h_q6 := inR_i64 (hok (.int .i64 q6) (by simp [datasL, datas]))
  clear hok hw
  exact insideAns_ok (K := fun v M => some (Res.fin v M))
def s_geoid_Inside : List AV → List Blk → (AV → List Blk → Ans) → Ans := fun xs bs K => match xs, bs with
  | [.v (.agg [.int .i64 g1, .int .i64 g2]), .v (.agg [.int .i64 q1, .int .i64 q2, .int .i64 q3, .int .i64 q4, .int .i64 q5, .int .i64 q6])], [] => K (rIntE (insideV ⟨g1, g2⟩ ⟨⟨q1, q2⟩, ⟨q3, q4⟩, ⟨q5, q6⟩⟩)) []
  | _, _ => none
def T_geoid_Inside : Nat → List AV → List Blk → (AV → List Blk → Ans) → Ans := upd T_geoid_At 14 s_geoid_Inside
theorem g_geoid_Inside : GOK Tryd.prog GT gbT T_geoid_Inside XT := by
  refine GOK.upd g_geoid_At (fun args w => Tryd.call14 args w) fun xs bs K r h => ?_
  unfold s_geoid_Inside at h
  split at h
  · exact ⟨_, _, c_geoid_Inside _ _ _ _ _ _ _ _, h⟩
  · cases h


set_option maxRecDepth 100000 in
/-- geoid.On -/
theorem w_geoid_On (g1 g2 p1 p2 p3 p4 p5 p6 : Int) (K : AV → List Blk → Ans) : evFn Tryd.prog GT EQT T_geoid_Inside XT noL 60 12 [.v (.agg [.int .i64 g1, .int .i64 g2]), .v (.agg [.int .i64 p1, .int .i64 p2, .int .i64 p3, .int .i64 p4, .int .i64 p5, .int .i64 p6])] [] (fun v M => K v (M.take ([] : List Blk).length)) = onAns K ⟨g1, g2⟩ ⟨⟨p1, p2⟩, ⟨p3, p4⟩, ⟨p5, p6⟩⟩ := by
  kernel_rfl
set_option maxRecDepth 100000 in
theorem c_geoid_On (g1 g2 p1 p2 p3 p4 p5 p6 : Int) : CallsA Tryd.prog GT gbT 12 [.v (.agg [.int .i64 g1, .int .i64 g2]), .v (.agg [.int .i64 p1, .int .i64 p2, .int .i64 p3, .int .i64 p4, .int .i64 p5, .int .i64 p6])] [] (rBoolE (onV ⟨g1, g2⟩ ⟨⟨p1, p2⟩, ⟨p3, p4⟩, ⟨p5, p6⟩⟩)) [] := by
  refine CallsA.ofOk fun hok => ?_
  have hw := w_geoid_On g1 g2 p1 p2 p3 p4 p5 p6 (fun v M => some (Res.fin v M))
  refine CallsA.ofEv (Γ := T_geoid_Inside) (X := XT) (Λ := noL) (EQ := EQT) (n := 60) g_geoid_Inside hEQT hmT (fun _ _ _ _ => noL_ok _) (hw.trans ?_)
  have h_g1 := inR_i64 (hok (.int .i64 g1) (by simp [datasL, datas]))
  have h_g2 := inR_i64 (hok (.int .i64 g2) (by simp [datasL, datas]))
  have h_p1 := inR_i64 (hok (.int .i64 p1) (by simp [datasL, datas]))
  have h_p2 := inR_i64 (hok (.int .i64 p2) (by simp [datasL, datas]))
  have h_p3 := inR_i64 (hok (.int .i64 p3) (by simp [datasL, datas]))
  have h_p4 := inR_i64 (hok (.int .i64 p4) (by simp [datasL, datas]))
  have h_p5 := inR_i64 (hok (.int .i64 p5) (by simp [datasL, datas]))
  have h_p6 := inR_i64 (hok (.int .i64 p6) (by simp [datasL, datas]))
  clear hok hw
  exact onAns_ok (K := fun v M => some (Res.fin v M))
def s_geoid_On : List AV → List Blk → (AV → List Blk → Ans) → Ans := fun xs bs K => match xs, bs with
  | [.v (.agg [.int .i64 g1, .int .i64 g2]), .v (.agg [.int .i64 p1, .int .i64 p2, .int .i64 p3, .int .i64 p4, .int .i64 p5, .int .i64 p6])], [] => K (rBoolE (onV ⟨g1, g2⟩ ⟨⟨p1, p2⟩, ⟨p3, p4⟩, ⟨p5, p6⟩⟩)) []
  | _, _ => none
def T_geoid_On : Nat → List AV → List Blk → (AV → List Blk → Ans) → Ans := upd T_geoid_Inside 12 s_geoid_On
theorem g_geoid_On : GOK Tryd.prog GT gbT T_geoid_On XT := by
  refine GOK.upd g_geoid_Inside (fun args w => Tryd.call12 args w) fun xs bs K r h => ?_
  unfold s_geoid_On at h
  split at h
  · exact ⟨_, _, c_geoid_On _ _ _ _ _ _ _ _, h⟩
  · cases h


set_option maxRecDepth 100000 in
/-- geoid.Normal -/
theorem w_geoid_Normal (g1 g2 p1 p2 p3 p4 p5 p6 : Int) (K : AV → List Blk → Ans) : evFn Tryd.prog GT EQT (inl Tryd.prog GT EQT XT [41] T_geoid_On 100 2) XT noL 100 23 [.v (.agg [.int .i64 g1, .int .i64 g2]), .v (.agg [.int .i64 p1, .int .i64 p2, .int .i64 p3, .int .i64 p4, .int .i64 p5, .int .i64 p6])] [] (fun v M => K v (M.take ([] : List Blk).length)) = normalAns K ⟨g1, g2⟩ ⟨⟨p1, p2⟩, ⟨p3, p4⟩, ⟨p5, p6⟩⟩ := by
  kernel_rfl
set_option maxRecDepth 100000 in
theorem c_geoid_Normal (g1 g2 p1 p2 p3 p4 p5 p6 : Int) : CallsA Tryd.prog GT gbT 23 [.v (.agg [.int .i64 g1, .int .i64 g2]), .v (.agg [.int .i64 p1, .int .i64 p2, .int .i64 p3, .int .i64 p4, .int .i64 p5, .int .i64 p6])] [] (rVecE (normalV ⟨g1, g2⟩ ⟨⟨p1, p2⟩, ⟨p3, p4⟩, ⟨p5, p6⟩⟩)) [] := by
  refine CallsA.ofOk fun hok => ?_
  have hw := w_geoid_Normal g1 g2 p1 p2 p3 p4 p5 p6 (fun v M => some (Res.fin v M))
  refine CallsA.ofEv (Γ := (inl Tryd.prog GT EQT XT [41] T_geoid_On 100 2)) (X := XT) (Λ := noL) (EQ := EQT) (n := 100) (g_geoid_On.inl hEQT hmT (fun f hf => by simp only [List.mem_cons, List.not_mem_nil, or_false] at hf; subst hf; exact (fun args w => Tryd.call41 args w)) 100 2) hEQT hmT (fun _ _ _ _ => noL_ok _) (hw.trans ?_)
  have h_g1 := inR_i64 (hok (.int .i64 g1) (by simp [datasL, datas]))
  have h_g2 := inR_i64 (hok (.int .i64 g2) (by simp [datasL, datas]))
  have h_p1 := inR_i64 (hok (.int .i64 p1) (by simp [datasL, datas]))
  have h_p2 := inR_i64 (hok (.int .i64 p2) (by simp [datasL, datas]))
  have h_p3 := inR_i64 (hok (.int .i64 p3) (by simp [datasL, datas]))
  have h_p4 := inR_i64 (hok (.int .i64 p4) (by simp [datasL, datas]))
  have h_p5 := inR_i64 (hok (.int .i64 p5) (by simp [datasL, datas]))
  have h_p6 := inR_i64 (hok (.int .i64 p6) (by simp [datasL, datas]))
  clear hok hw
  exact normalAns_ok (K := fun v M => some (Res.fin v M))
def s_geoid_Normal : List AV → List Blk → (AV → List Blk → Ans) → Ans := fun xs bs K => match xs, bs with
  | [.v (.agg [.int .i64 g1, .int .i64 g2]), .v (.agg [.int .i64 p1, .int .i64 p2, .int .i64 p3, .int .i64 p4, .int .i64 p5, .int .i64 p6])], [] => K (rVecE (normalV ⟨g1, g2⟩ ⟨⟨p1, p2⟩, ⟨p3, p4⟩, ⟨p5, p6⟩⟩)) []
  | _, _ => none
def T_geoid_Normal : Nat → List AV → List Blk → (AV → List Blk → Ans) → Ans := upd T_geoid_On 23 s_geoid_Normal
theorem g_geoid_Normal : GOK Tryd.prog GT gbT T_geoid_Normal XT := by
  refine GOK.upd g_geoid_On (fun args w => Tryd.call23 args w) fun xs bs K r h => ?_
  unfold s_geoid_Normal at h
  split at h
  · exact ⟨_, _, c_geoid_Normal _ _ _ _ _ _ _ _, h⟩
  · cases h


set_option maxRecDepth 100000 in
/-- geoid.Side -/
theorem w_geoid_Side (g1 g2 p1 p2 p3 p4 p5 p6 q1 q2 q3 q4 q5 q6 : Int) (K : AV → List Blk → Ans) : evFn Tryd.prog GT EQT (inl Tryd.prog GT EQT XT [41] T_geoid_Normal 100 2) XT noL 100 22 [.v (.agg [.int .i64 g1, .int .i64 g2]), .v (.agg [.int .i64 p1, .int .i64 p2, .int .i64 p3, .int .i64 p4, .int .i64 p5, .int .i64 p6]), .v (.agg [.int .i64 q1, .int .i64 q2, .int .i64 q3, .int .i64 q4, .int .i64 q5, .int .i64 q6])] [] (fun v M => K v (M.take ([] : List Blk).length)) = sideAns K ⟨g1, g2⟩ ⟨⟨p1, p2⟩, ⟨p3, p4⟩, ⟨p5, p6⟩⟩ ⟨⟨q1, q2⟩, ⟨q3, q4⟩, ⟨q5, q6⟩⟩ := by
  kernel_rfl
set_option maxRecDepth 100000 in
theorem c_geoid_Side (g1 g2 p1 p2 p3 p4 p5 p6 q1 q2 q3 q4 q5 q6 : Int) : CallsA Tryd.prog GT gbT 22 [.v (.agg [.int .i64 g1, .int .i64 g2]), .v (.agg [.int .i64 p1, .int .i64 p2, .int .i64 p3, .int .i64 p4, .int .i64 p5, .int .i64 p6]), .v (.agg [.int .i64 q1, .int .i64 q2, .int .i64 q3, .int .i64 q4, .int .i64 q5, .int .i64 q6])] [] (rIntE (sideV ⟨g1, g2⟩ ⟨⟨p1, p2⟩, ⟨p3, p4⟩, ⟨p5, p6⟩⟩ ⟨⟨q1, q2⟩, ⟨q3, q4⟩, ⟨q5, q6⟩⟩)) [] := by
  refine CallsA.ofOk fun hok => ?_
  have hw := w_geoid_Side g1 g2 p1 p2 p3 p4 p5 p6 q1 q2 q3 q4 q5 q6 (fun v M => some (Res.fin v M))
  refine CallsA.ofEv (Γ := (inl Tryd.prog GT EQT XT [41] T_geoid_Normal 100 2)) (X := XT) (Λ := noL) (EQ := EQT) (n := 100) (g_geoid_Normal.inl hEQT hmT (fun f hf => by simp only [List.mem_cons, List.not_mem_nil, or_false] at hf; subst hf; exact (fun args w => Tryd.call41 args w)) 100 2) hEQT hmT (fun _ _ _ _ => noL_ok _) (hw.trans ?_)
  have h_g1 := inR_i64 (hok (.int .i64 g1) (by simp [datasL, datas]))
  have h_g2 := inR_i64 (hok (.int .i64 g2) (by simp [datasL, datas]))
  have h_p1 := inR_i64 (hok (.int .i64 p1) (by simp [datasL, datas]))
  have h_p2 := inR_i64 (hok (.int .i64 p2) (by simp [datasL, datas]))
  have h_p3 := inR_i64 (hok (.int .i64 p3) (by simp [datasL, datas]))
  have h_p4 := inR_i64 (hok (.int .i64 p4) (by simp [datasL, datas]))
  have h_p5 := inR_i64 (hok (.int .i64 p5) (by simp [datasL, datas]))
  have h_p6 := inR_i64 (hok (.int .i64 p6) (by simp [datasL, datas]))
  have h_q1 := inR_i64 (hok (.int .i64 q1) (by simp [datasL, datas]))
  have h_q2 := inR_i64 (hok (.int .i64 q2) (by simp [datasL, datas]))
  have h_q3 := inR_i64 (hok (.int .i64 q3) (by simp [datasL, datas]))
  have h_q4 := inR_i64 (hok (.int .i64 q4) (by simp [datasL, datas]))
  have h_q5 := inR_i64 (hok (.int .i64 q5) (by simp [datasL, datas]))
  have h_q6 := inR_i64 (hok (.int .i64 q6) (by simp [datasL, datas]))
  clear hok hw
  exact sideAns_ok (K := fun v M => some (Res.fin v M))
def s_geoid_Side : List AV → List Blk → (AV → List Blk → Ans) → Ans := fun xs bs K => match xs, bs with
  | [.v (.agg [.int .i64 g1, .int .i64 g2]), .v (.agg [.int .i64 p1, .int .i64 p2, .int .i64 p3, .int .i64 p4, .int .i64 p5, .int .i64 p6]), .v (.agg [.int .i64 q1, .int .i64 q2, .int .i64 q3, .int .i64 q4, .int .i64 q5, .int .i64 q6])], [] => K (rIntE (sideV ⟨g1, g2⟩ ⟨⟨p1, p2⟩, ⟨p3, p4⟩, ⟨p5, p6⟩⟩ ⟨⟨q1, q2⟩, ⟨q3, q4⟩, ⟨q5, q6⟩⟩)) []
  | _, _ => none
def T_geoid_Side : Nat → List AV → List Blk → (AV → List Blk → Ans) → Ans := upd T_geoid_Normal 22 s_geoid_Side
theorem g_geoid_Side : GOK Tryd.prog GT gbT T_geoid_Side XT := by
  refine GOK.upd g_geoid_Normal (fun args w => Tryd.call22 args w) fun xs bs K r h => ?_
  unfold s_geoid_Side at h
  split at h
  · exact ⟨_, _, c_geoid_Side _ _ _ _ _ _ _ _ _ _ _ _ _ _, h⟩
  · cases h


set_option maxRecDepth 100000 in
/-- fringeref03.Check -/
theorem w_fringeref03_Check (g1 g2 : Int) (K : AV → List Blk → Ans) : evFn Tryd.prog GT EQT T_geoid_Side XT noL 60 17 [.v (.agg [.int .i64 g1, .int .i64 g2])] [] (fun v M => K v (M.take ([] : List Blk).length)) = K (rI (checkGRaw ⟨g1, g2⟩)) [] := by
  simp only [checkGRaw, pullK K]
  kernel_rfl
set_option maxRecDepth 100000 in
theorem c_fringeref03_Check (g1 g2 : Int) : CallsA Tryd.prog GT gbT 17 [.v (.agg [.int .i64 g1, .int .i64 g2])] [] (rI (checkG ⟨g1, g2⟩)) [] := by
  refine CallsA.ofOk fun hok => ?_
  have hw := w_fringeref03_Check g1 g2 (fun v M => some (Res.fin v M))
  refine CallsA.ofEv (Γ := T_geoid_Side) (X := XT) (Λ := noL) (EQ := EQT) (n := 60) g_geoid_Side hEQT hmT (fun _ _ _ _ => noL_ok _) (hw.trans ?_)
  have h_g1 := inR_i64 (hok (.int .i64 g1) (by simp [datasL, datas]))
  have h_g2 := inR_i64 (hok (.int .i64 g2) (by simp [datasL, datas]))
  clear hok hw
  refine congrArg (fun v => some (Res.fin v [])) ?_
  rw [checkGRaw_ok]
def s_fringeref03_Check : List AV → List Blk → (AV → List Blk → Ans) → Ans := fun xs bs K => match xs, bs with
  | [.v (.agg [.int .i64 g1, .int .i64 g2])], [] => K (rI (checkG ⟨g1, g2⟩)) []
  | _, _ => none
def T_fringeref03_Check : Nat → List AV → List Blk → (AV → List Blk → Ans) → Ans := upd T_geoid_Side 17 s_fringeref03_Check
theorem g_fringeref03_Check : GOK Tryd.prog GT gbT T_fringeref03_Check XT := by
  refine GOK.upd g_geoid_Side (fun args w => Tryd.call17 args w) fun xs bs K r h => ?_
  unfold s_fringeref03_Check at h
  split at h
  · exact ⟨_, _, c_fringeref03_Check _ _, h⟩
  · cases h


end Go.Ev
