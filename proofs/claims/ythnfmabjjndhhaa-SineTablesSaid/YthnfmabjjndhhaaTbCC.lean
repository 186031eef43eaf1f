/-
  Contracts of functions: what each returns. No condition beyond those of the statements.
-/
import Derived.Test.YthnfmabjjndhhaaTbCB
namespace Go.Ev
open Go Go.Proofs

abbrev lv_series : List (Nat × IntKind) := [(7, .u64), (8, .u64), (9, .u64), (2, .u64), (10, .u64)]
def L_series := Lam1 3 40 0 lv_series seriesDom seriesFin
set_option maxRecDepth 100000 in
theorem b_series (sq s t k i : Int) (M : List Blk) (N : Nat) : evCode Try.prog GT EQT T_fringeref05_times XT noL 40 (loopB Try.prog 74 0) (mkT lv_series 40 [s, t, sq, k, i]) M N (fun x T M N => some (.st x (forget [2, 7, 8, 9, 10] 0 T) M N)) =
    bif decide (i < 12) then (bif wu64 (k * wu64 (k + 1)) == 0 then none else bif i.tmod 2 == 0 then some (.st .normal (mkT lv_series 40 [wu64 (s - termI t sq k), termI t sq k, sq, wu64 (k + 2), wu64 (i + 1)]) M N) else some (.st .normal (mkT lv_series 40 [wu64 (s + termI t sq k), termI t sq k, sq, wu64 (k + 2), wu64 (i + 1)]) M N))
    else some (.st (.exit 0) (mkT lv_series 40 [s, t, sq, k, i]) M N) := by kernel_rfl
theorem l_series (s t sq k i : Int) : Less (mkT lv_series 40 [s]) (mkT lv_series 40 [s, t, sq, k, i]) := by
  have h : mkT lv_series 40 [s] = mkT (lv_series.take 1) 40 [s] := by kernel_rfl
  rw [h]
  exact less_mkT (by kernel_rfl) (by kernel_rfl)
theorem LL_series : ∀ fn c, Try.prog.funcs[74]? = some fn → fn.body = some c → LOK Try.prog GT gbT L_series (loopsIn c) := by
  refine LOK.ofF fun b hb => ?_
  have e : loopsF Try.prog 74 = [loopB Try.prog 74 0] := by kernel_rfl
  have k0 : loopKey (loopB Try.prog 74 0) = 3 := by kernel_rfl
  rw [e, List.mem_singleton] at hb
  subst hb
  unfold L_series
  rw [← k0]
  refine LOKb.lam1 (n := 40) (e := 0) (live := lv_series) fun xs M N hl hd => ?_
  match xs, hl with
  | [s, t, sq, k, i], _ =>
    simp only [seriesDom, serOn, Bool.and_eq_true, decide_eq_true_eq, beq_iff_eq] at hd
    obtain ⟨⟨h1, h2⟩, rfl⟩ := hd
    exact ref_rounds (c := loopB Try.prog 74 0) g_fringeref05_times hEQT hmT (fun s t k i => mkT lv_series 40 [s, t, sq, k, i]) (fun s => mkT lv_series 40 [s]) sq (fun s t k i => l_series s t sq k i) (fun s t k i => b_series sq s t k i M N) 12 s t k 0 (by omega) (by omega) h1 (by omega)

set_option maxRecDepth 100000 in
/-- fringeref05.series -/
theorem w_fringeref05_series (x y k : Int) (K : AV → List Blk → Ans) : evFn Try.prog GT EQT T_fringeref05_times XT L_series 60 74 [.v (.c (.d (.int .u64 x))), .v (.c (.d (.int .u64 y))), .v (.c (.d (.int .u64 k)))] [] (fun v M => K v (M.take ([] : List Blk).length)) = bif seriesDom [y, y, timesI x x, k, 0] then K (rU (serI 12 y y (timesI x x) k true)) [] else none := by
  kernel_rfl
theorem c_fringeref05_series (x y k : Int) (hd : (serOn k) = true) : CallsA Try.prog GT gbT 74 [.v (.c (.d (.int .u64 x))), .v (.c (.d (.int .u64 y))), .v (.c (.d (.int .u64 k)))] [] (rU (serI 12 y y (timesI x x) k true)) [] := by
  refine CallsA.ofOk fun hok => ?_
  have hw := w_fringeref05_series x y k (fun v M => some (Res.fin v M))
  refine CallsA.ofEv (Γ := T_fringeref05_times) (X := XT) (Λ := L_series) (EQ := EQT) (n := 60) g_fringeref05_times hEQT hmT (LL_series) (hw.trans ?_)
  have h_x := inR_u64 (hok (.int .u64 x) (by simp [datasL, datas]))
  have h_y := inR_u64 (hok (.int .u64 y) (by simp [datasL, datas]))
  have h_k := inR_u64 (hok (.int .u64 k) (by simp [datasL, datas]))
  clear hok hw
  have : seriesDom [y, y, timesI x x, k, 0] = true := by simp only [seriesDom, hd]; rfl
  rw [this]
  rfl
def s_fringeref05_series : List AV → List Blk → (AV → List Blk → Ans) → Ans := fun xs bs K => match xs, bs with
  | [.v (.c (.d (.int .u64 x))), .v (.c (.d (.int .u64 y))), .v (.c (.d (.int .u64 k)))], [] => bif serOn k then K (rU (serI 12 y y (timesI x x) k true)) [] else none
  | _, _ => none
def T_fringeref05_series : Nat → List AV → List Blk → (AV → List Blk → Ans) → Ans := upd T_fringeref05_times 74 s_fringeref05_series
theorem g_fringeref05_series : GOK Try.prog GT gbT T_fringeref05_series XT := by
  refine GOK.upd g_fringeref05_times (fun args w => Try.call74 args w) fun xs bs K r h => ?_
  unfold s_fringeref05_series at h
  split at h
  · simp only [cond_eq_ite] at h
    split at h
    · exact ⟨_, _, c_fringeref05_series _ _ _ ‹_›, h⟩
    · cases h
  · cases h


set_option maxRecDepth 100000 in
/-- fringeref05.eighth -/
theorem w_fringeref05_eighth (k n : Int) (K : AV → List Blk → Ans) : evFn Try.prog GT EQT T_fringeref05_series XT noL 60 69 [.v (.c (.d (.int .u64 k))), .v (.c (.d (.int .u64 n)))] [] (fun v M => K v (M.take ([] : List Blk).length)) = eighthAns K k n := by
  kernel_rfl
theorem c_fringeref05_eighth (k n : Int) (hd : (eighthOn k n) = true) : CallsA Try.prog GT gbT 69 [.v (.c (.d (.int .u64 k))), .v (.c (.d (.int .u64 n)))] [] (rUU (cosSer (partI k n), sinSer (partI k n))) [] := by
  refine CallsA.ofOk fun hok => ?_
  have hw := w_fringeref05_eighth k n (fun v M => some (Res.fin v M))
  refine CallsA.ofEv (Γ := T_fringeref05_series) (X := XT) (Λ := noL) (EQ := EQT) (n := 60) g_fringeref05_series hEQT hmT (fun _ _ _ _ => noL_ok _) (hw.trans ?_)
  have h_k := inR_u64 (hok (.int .u64 k) (by simp [datasL, datas]))
  have h_n := inR_u64 (hok (.int .u64 n) (by simp [datasL, datas]))
  clear hok hw
  exact eighthAns_ok (K := fun v M => some (Res.fin v M)) hd
def s_fringeref05_eighth : List AV → List Blk → (AV → List Blk → Ans) → Ans := fun xs bs K => match xs, bs with
  | [.v (.c (.d (.int .u64 k))), .v (.c (.d (.int .u64 n)))], [] => bif eighthOn k n then K (rUU (cosSer (partI k n), sinSer (partI k n))) [] else none
  | _, _ => none
def T_fringeref05_eighth : Nat → List AV → List Blk → (AV → List Blk → Ans) → Ans := upd T_fringeref05_series 69 s_fringeref05_eighth
theorem g_fringeref05_eighth : GOK Try.prog GT gbT T_fringeref05_eighth XT := by
  refine GOK.upd g_fringeref05_series (fun args w => Try.call69 args w) fun xs bs K r h => ?_
  unfold s_fringeref05_eighth at h
  split at h
  · simp only [cond_eq_ite] at h
    split at h
    · exact ⟨_, _, c_fringeref05_eighth _ _ ‹_›, h⟩
    · cases h
  · cases h


set_option maxRecDepth 100000 in
/-- fringeref05.exact -/
theorem w_fringeref05_exact (k n : Int) (s : Bool) (K : AV → List Blk → Ans) : evFn Try.prog GT EQT T_fringeref05_eighth XT noL 60 70 [.v (.c (.d (.int .i64 k))), .v (.c (.d (.int .i64 n))), .v (.c (.d (.bool s)))] [] (fun v M => K v (M.take ([] : List Blk).length)) = K (rB (exactI k n s)) [] := by
  simp only [exactI, pullK K]
  kernel_rfl
theorem c_fringeref05_exact (k n : Int) (s : Bool) : CallsA Try.prog GT gbT 70 [.v (.c (.d (.int .i64 k))), .v (.c (.d (.int .i64 n))), .v (.c (.d (.bool s)))] [] (rB (exactI k n s)) [] := by
  refine CallsA.ofOk fun hok => ?_
  have hw := w_fringeref05_exact k n s (fun v M => some (Res.fin v M))
  refine CallsA.ofEv (Γ := T_fringeref05_eighth) (X := XT) (Λ := noL) (EQ := EQT) (n := 60) g_fringeref05_eighth hEQT hmT (fun _ _ _ _ => noL_ok _) (hw.trans ?_)
  rfl
def s_fringeref05_exact : List AV → List Blk → (AV → List Blk → Ans) → Ans := fun xs bs K => match xs, bs with
  | [.v (.c (.d (.int .i64 k))), .v (.c (.d (.int .i64 n))), .v (.c (.d (.bool s)))], [] => K (rB (exactI k n s)) []
  | _, _ => none
def T_fringeref05_exact : Nat → List AV → List Blk → (AV → List Blk → Ans) → Ans := upd T_fringeref05_eighth 70 s_fringeref05_exact
theorem g_fringeref05_exact : GOK Try.prog GT gbT T_fringeref05_exact XT := by
  refine GOK.upd g_fringeref05_eighth (fun args w => Try.call70 args w) fun xs bs K r h => ?_
  unfold s_fringeref05_exact at h
  split at h
  · exact ⟨_, _, c_fringeref05_exact _ _ _, h⟩
  · cases h


set_option maxRecDepth 100000 in
/-- fringeref05.round -/
theorem w_fringeref05_round (n : Int) (K : AV → List Blk → Ans) : evFn Try.prog GT EQT T_fringeref05_exact XT noL 60 71 [.v (.c (.d (.int .i64 n)))] [] (fun v M => K v (M.take ([] : List Blk).length)) = K (rSpan ⟨n, n⟩) [] := by
  kernel_rfl
theorem c_fringeref05_round (n : Int) : CallsA Try.prog GT gbT 71 [.v (.c (.d (.int .i64 n)))] [] (rSpan ⟨n, n⟩) [] := by
  refine CallsA.ofOk fun hok => ?_
  have hw := w_fringeref05_round n (fun v M => some (Res.fin v M))
  refine CallsA.ofEv (Γ := T_fringeref05_exact) (X := XT) (Λ := noL) (EQ := EQT) (n := 60) g_fringeref05_exact hEQT hmT (fun _ _ _ _ => noL_ok _) (hw.trans ?_)
  rfl
def s_fringeref05_round : List AV → List Blk → (AV → List Blk → Ans) → Ans := fun xs bs K => match xs, bs with
  | [.v (.c (.d (.int .i64 n)))], [] => K (rSpan ⟨n, n⟩) []
  | _, _ => none
def T_fringeref05_round : Nat → List AV → List Blk → (AV → List Blk → Ans) → Ans := upd T_fringeref05_exact 71 s_fringeref05_round
theorem g_fringeref05_round : GOK Try.prog GT gbT T_fringeref05_round XT := by
  refine GOK.upd g_fringeref05_exact (fun args w => Try.call71 args w) fun xs bs K r h => ?_
  unfold s_fringeref05_round at h
  split at h
  · exact ⟨_, _, c_fringeref05_round _, h⟩
  · cases h


set_option maxRecDepth 100000 in
/-- fringeref05.quarter -/
theorem w_fringeref05_quarter (k n : Int) (K : AV → List Blk → Ans) : evFn Try.prog GT EQT T_fringeref05_round XT noL 60 59 [.v (.c (.d (.int .i64 k))), .v (.c (.d (.int .i64 n)))] [] (fun v M => K v (M.take ([] : List Blk).length)) = quarterAns K k n := by
  kernel_rfl
theorem c_fringeref05_quarter (k n : Int) (hd : (quarterOn k n) = true) : CallsA Try.prog GT gbT 59 [.v (.c (.d (.int .i64 k))), .v (.c (.d (.int .i64 n)))] [] (rSpan (refI (n - 4 * k) n)) [] := by
  refine CallsA.ofOk fun hok => ?_
  have hw := w_fringeref05_quarter k n (fun v M => some (Res.fin v M))
  refine CallsA.ofEv (Γ := T_fringeref05_round) (X := XT) (Λ := noL) (EQ := EQT) (n := 60) g_fringeref05_round hEQT hmT (fun _ _ _ _ => noL_ok _) (hw.trans ?_)
  have h_k := inR_i64 (hok (.int .i64 k) (by simp [datasL, datas]))
  have h_n := inR_i64 (hok (.int .i64 n) (by simp [datasL, datas]))
  clear hok hw
  exact quarterAns_ok (K := fun v M => some (Res.fin v M)) hd
def s_fringeref05_quarter : List AV → List Blk → (AV → List Blk → Ans) → Ans := fun xs bs K => match xs, bs with
  | [.v (.c (.d (.int .i64 k))), .v (.c (.d (.int .i64 n)))], [] => bif quarterOn k n then K (rSpan (refI (n - 4 * k) n)) [] else none
  | _, _ => none
def T_fringeref05_quarter : Nat → List AV → List Blk → (AV → List Blk → Ans) → Ans := upd T_fringeref05_round 59 s_fringeref05_quarter
theorem g_fringeref05_quarter : GOK Try.prog GT gbT T_fringeref05_quarter XT := by
  refine GOK.upd g_fringeref05_round (fun args w => Try.call59 args w) fun xs bs K r h => ?_
  unfold s_fringeref05_quarter at h
  split at h
  · simp only [cond_eq_ite] at h
    split at h
    · exact ⟨_, _, c_fringeref05_quarter _ _ ‹_›, h⟩
    · cases h
  · cases h


set_option maxRecDepth 100000 in
/-- fringeref05.Neg -/
theorem w_fringeref05_Neg (lo hi : Int) (K : AV → List Blk → Ans) : evFn Try.prog GT EQT T_fringeref05_quarter XT noL 60 26 [.v (.agg [.int .i64 lo, .int .i64 hi])] [] (fun v M => K v (M.take ([] : List Blk).length)) = K (rSpan (negRaw ⟨lo, hi⟩)) [] := by
  kernel_rfl
theorem c_fringeref05_Neg (lo hi : Int) : CallsA Try.prog GT gbT 26 [.v (.agg [.int .i64 lo, .int .i64 hi])] [] (rSpan (negRaw ⟨lo, hi⟩)) [] := by
  refine CallsA.ofOk fun hok => ?_
  have hw := w_fringeref05_Neg lo hi (fun v M => some (Res.fin v M))
  refine CallsA.ofEv (Γ := T_fringeref05_quarter) (X := XT) (Λ := noL) (EQ := EQT) (n := 60) g_fringeref05_quarter hEQT hmT (fun _ _ _ _ => noL_ok _) (hw.trans ?_)
  rfl
def s_fringeref05_Neg : List AV → List Blk → (AV → List Blk → Ans) → Ans := fun xs bs K => match xs, bs with
  | [.v (.agg [.int .i64 lo, .int .i64 hi])], [] => K (rSpan (negRaw ⟨lo, hi⟩)) []
  | _, _ => none
def T_fringeref05_Neg : Nat → List AV → List Blk → (AV → List Blk → Ans) → Ans := upd T_fringeref05_quarter 26 s_fringeref05_Neg
theorem g_fringeref05_Neg : GOK Try.prog GT gbT T_fringeref05_Neg XT := by
  refine GOK.upd g_fringeref05_quarter (fun args w => Try.call26 args w) fun xs bs K r h => ?_
  unfold s_fringeref05_Neg at h
  split at h
  · exact ⟨_, _, c_fringeref05_Neg _ _, h⟩
  · cases h


set_option maxRecDepth 100000 in
/-- fringeref05.Cosine -/
theorem w_fringeref05_Cosine (k n : Int) (K : AV → List Blk → Ans) : evFn Try.prog GT EQT T_fringeref05_Neg XT noL 60 38 [.v (.c (.d (.int .i64 k))), .v (.c (.d (.int .i64 n)))] [] (fun v M => K v (M.take ([] : List Blk).length)) = cosineAns K k n := by
  kernel_rfl
theorem c_fringeref05_Cosine (k n : Int) (hd : (cosineOn n) = true) : CallsA Try.prog GT gbT 38 [.v (.c (.d (.int .i64 k))), .v (.c (.d (.int .i64 n)))] [] (rSpan (turnR (4 * k + n) n)) [] := by
  refine CallsA.ofOk fun hok => ?_
  have hw := w_fringeref05_Cosine k n (fun v M => some (Res.fin v M))
  refine CallsA.ofEv (Γ := T_fringeref05_Neg) (X := XT) (Λ := noL) (EQ := EQT) (n := 60) g_fringeref05_Neg hEQT hmT (fun _ _ _ _ => noL_ok _) (hw.trans ?_)
  have h_k := inR_i64 (hok (.int .i64 k) (by simp [datasL, datas]))
  have h_n := inR_i64 (hok (.int .i64 n) (by simp [datasL, datas]))
  clear hok hw
  exact cosineAns_ok (K := fun v M => some (Res.fin v M)) hd
def s_fringeref05_Cosine : List AV → List Blk → (AV → List Blk → Ans) → Ans := fun xs bs K => match xs, bs with
  | [.v (.c (.d (.int .i64 k))), .v (.c (.d (.int .i64 n)))], [] => bif cosineOn n then K (rSpan (turnR (4 * k + n) n)) [] else none
  | _, _ => none
def T_fringeref05_Cosine : Nat → List AV → List Blk → (AV → List Blk → Ans) → Ans := upd T_fringeref05_Neg 38 s_fringeref05_Cosine
theorem g_fringeref05_Cosine : GOK Try.prog GT gbT T_fringeref05_Cosine XT := by
  refine GOK.upd g_fringeref05_Neg (fun args w => Try.call38 args w) fun xs bs K r h => ?_
  unfold s_fringeref05_Cosine at h
  split at h
  · simp only [cond_eq_ite] at h
    split at h
    · exact ⟨_, _, c_fringeref05_Cosine _ _ ‹_›, h⟩
    · cases h
  · cases h


set_option maxRecDepth 100000 in
/-- fringeref05.Cos -/
theorem w_fringeref05_Cos (k n : Int) (K : AV → List Blk → Ans) : evFn Try.prog GT EQT T_fringeref05_Cosine XT noL 60 10 [.v (.c (.d (.int .i64 k))), .v (.c (.d (.int .i64 n)))] [] (fun v M => K v (M.take ([] : List Blk).length)) = cosRAns K k n := by
  kernel_rfl
theorem c_fringeref05_Cos (k n : Int) : CallsA Try.prog GT gbT 10 [.v (.c (.d (.int .i64 k))), .v (.c (.d (.int .i64 n)))] [] (rSpanE (cosR k n)) [] := by
  refine CallsA.ofOk fun hok => ?_
  have hw := w_fringeref05_Cos k n (fun v M => some (Res.fin v M))
  refine CallsA.ofEv (Γ := T_fringeref05_Cosine) (X := XT) (Λ := noL) (EQ := EQT) (n := 60) g_fringeref05_Cosine hEQT hmT (fun _ _ _ _ => noL_ok _) (hw.trans ?_)
  have h_k := inR_i64 (hok (.int .i64 k) (by simp [datasL, datas]))
  have h_n := inR_i64 (hok (.int .i64 n) (by simp [datasL, datas]))
  clear hok hw
  exact cosRAns_ok (K := fun v M => some (Res.fin v M))
def s_fringeref05_Cos : List AV → List Blk → (AV → List Blk → Ans) → Ans := fun xs bs K => match xs, bs with
  | [.v (.c (.d (.int .i64 k))), .v (.c (.d (.int .i64 n)))], [] => K (rSpanE (cosR k n)) []
  | _, _ => none
def T_fringeref05_Cos : Nat → List AV → List Blk → (AV → List Blk → Ans) → Ans := upd T_fringeref05_Cosine 10 s_fringeref05_Cos
theorem g_fringeref05_Cos : GOK Try.prog GT gbT T_fringeref05_Cos XT := by
  refine GOK.upd g_fringeref05_Cosine (fun args w => Try.call10 args w) fun xs bs K r h => ?_
  unfold s_fringeref05_Cos at h
  split at h
  · exact ⟨_, _, c_fringeref05_Cos _ _, h⟩
  · cases h


set_option maxRecDepth 100000 in
/-- fringeref05.Sin -/
theorem w_fringeref05_Sin (k n : Int) (K : AV → List Blk → Ans) : evFn Try.prog GT EQT T_fringeref05_Cos XT noL 60 12 [.v (.c (.d (.int .i64 k))), .v (.c (.d (.int .i64 n)))] [] (fun v M => K v (M.take ([] : List Blk).length)) = sinRAns K k n := by
  kernel_rfl
theorem c_fringeref05_Sin (k n : Int) : CallsA Try.prog GT gbT 12 [.v (.c (.d (.int .i64 k))), .v (.c (.d (.int .i64 n)))] [] (rSpanE (sinR k n)) [] := by
  refine CallsA.ofOk fun hok => ?_
  have hw := w_fringeref05_Sin k n (fun v M => some (Res.fin v M))
  refine CallsA.ofEv (Γ := T_fringeref05_Cos) (X := XT) (Λ := noL) (EQ := EQT) (n := 60) g_fringeref05_Cos hEQT hmT (fun _ _ _ _ => noL_ok _) (hw.trans ?_)
  have h_k := inR_i64 (hok (.int .i64 k) (by simp [datasL, datas]))
  have h_n := inR_i64 (hok (.int .i64 n) (by simp [datasL, datas]))
  clear hok hw
  exact sinRAns_ok (K := fun v M => some (Res.fin v M))
def s_fringeref05_Sin : List AV → List Blk → (AV → List Blk → Ans) → Ans := fun xs bs K => match xs, bs with
  | [.v (.c (.d (.int .i64 k))), .v (.c (.d (.int .i64 n)))], [] => K (rSpanE (sinR k n)) []
  | _, _ => none
def T_fringeref05_Sin : Nat → List AV → List Blk → (AV → List Blk → Ans) → Ans := upd T_fringeref05_Cos 12 s_fringeref05_Sin
theorem g_fringeref05_Sin : GOK Try.prog GT gbT T_fringeref05_Sin XT := by
  refine GOK.upd g_fringeref05_Cos (fun args w => Try.call12 args w) fun xs bs K r h => ?_
  unfold s_fringeref05_Sin at h
  split at h
  · exact ⟨_, _, c_fringeref05_Sin _ _, h⟩
  · cases h


set_option maxRecDepth 100000 in
/-- fringelaw05.SineTables -/
theorem w_fringelaw05_SineTables (k n : Int) (K : AV → List Blk → Ans) : evFn Try.prog GT EQT T_fringeref05_Sin XT noL 60 3 [.v (.c (.d (.int .i64 k))), .v (.c (.d (.int .i64 n)))] [] (fun v M => K v (M.take ([] : List Blk).length)) = K (rB (lawSineTables k n)) [] := by
  simp only [lawSineTables, pullK K]
  kernel_rfl
theorem c_fringelaw05_SineTables (k n : Int) : CallsA Try.prog GT gbT 3 [.v (.c (.d (.int .i64 k))), .v (.c (.d (.int .i64 n)))] [] (rB true) [] := by
  refine CallsA.ofOk fun hok => ?_
  have hw := w_fringelaw05_SineTables k n (fun v M => some (Res.fin v M))
  refine CallsA.ofEv (Γ := T_fringeref05_Sin) (X := XT) (Λ := noL) (EQ := EQT) (n := 60) g_fringeref05_Sin hEQT hmT (fun _ _ _ _ => noL_ok _) (hw.trans ?_)
  have h_k := inR_i64 (hok (.int .i64 k) (by simp [datasL, datas]))
  have h_n := inR_i64 (hok (.int .i64 n) (by simp [datasL, datas]))
  clear hok hw
  refine congrArg (fun v => some (Res.fin v [])) ?_
  rw [lawSineTables_ok]
def s_fringelaw05_SineTables : List AV → List Blk → (AV → List Blk → Ans) → Ans := fun xs bs K => match xs, bs with
  | [.v (.c (.d (.int .i64 _))), .v (.c (.d (.int .i64 _)))], [] => K (rB true) []
  | _, _ => none
def T_fringelaw05_SineTables : Nat → List AV → List Blk → (AV → List Blk → Ans) → Ans := upd T_fringeref05_Sin 3 s_fringelaw05_SineTables
theorem g_fringelaw05_SineTables : GOK Try.prog GT gbT T_fringelaw05_SineTables XT := by
  refine GOK.upd g_fringeref05_Sin (fun args w => Try.call3 args w) fun xs bs K r h => ?_
  unfold s_fringelaw05_SineTables at h
  split at h
  · exact ⟨_, _, c_fringelaw05_SineTables _ _, h⟩
  · cases h


end Go.Ev
