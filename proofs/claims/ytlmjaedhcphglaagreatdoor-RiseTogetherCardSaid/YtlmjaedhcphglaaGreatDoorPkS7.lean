/-
  Contracts of functions: what each returns. No condition beyond those of the statements.
-/
import Derived.Test.YtlmjaedhcphglaaGreatDoorPkS6
set_option maxRecDepth 100000
namespace Go.Ev
open Go Go.Proofs
theorem w_bits_Mul64 (x y : Int) (K : AV → List Blk → Ans) : evFn Tryz.prog GT EQT T0 XT noL 60 72 [.v (.c (.d (.int .u64 x))), .v (.c (.d (.int .u64 y)))] [] (fun v M => K v (M.take ([] : List Blk).length)) = K (rUU (mulRaw x y)) [] := by
  kernel_rfl
theorem c_bits_Mul64 (x y : Int) : CallsA Tryz.prog GT gbT 72 [.v (.c (.d (.int .u64 x))), .v (.c (.d (.int .u64 y)))] [] (rUU (mul64 x y)) [] := by
  refine CallsA.ofOk fun hok => ?_
  have hw := w_bits_Mul64 x y (fun v M => some (Res.fin v M))
  refine CallsA.ofEv (Γ := T0) (X := XT) (Λ := noL) (EQ := EQT) (n := 60) g0 hEQT hmT (fun _ _ _ _ => noL_ok _) (hw.trans ?_)
  have h_x := inR_u64 (hok (.int .u64 x) (by simp [datasL, datas]))
  have h_y := inR_u64 (hok (.int .u64 y) (by simp [datasL, datas]))
  clear hok hw
  refine congrArg (fun v => some (Res.fin v [])) ?_
  rw [mul64_ok h_x h_y]
def s_bits_Mul64 : List AV → List Blk → (AV → List Blk → Ans) → Ans := fun xs bs K => match xs, bs with
  | [.v (.c (.d (.int .u64 x))), .v (.c (.d (.int .u64 y)))], [] => K (rUU (mul64 x y)) []
  | _, _ => none
def T_bits_Mul64 : Nat → List AV → List Blk → (AV → List Blk → Ans) → Ans := upd T0 72 s_bits_Mul64
theorem g_bits_Mul64 : GOK Tryz.prog GT gbT T_bits_Mul64 XT := by
  refine GOK.upd g0 (fun args w => Tryz.call72 args w) fun xs bs K r h => ?_
  unfold s_bits_Mul64 at h
  split at h
  · exact ⟨_, _, c_bits_Mul64 _ _, h⟩
  · cases h
abbrev lv_frac_gcd : List (Nat × IntKind) := [(0, .u64), (1, .u64)]
def L_frac_gcd := Lam1 1 12 0 lv_frac_gcd (fun l => match l with | [a, b] => decide (0 ≤ a) && decide (0 ≤ b) | _ => false) (fun l => match l with | [a, b] => [gcdI a b, 0] | _ => [])
theorem b_frac_gcd (a b : Int) (M : List Blk) (N : Nat) : evCode Tryz.prog GT EQT T_bits_Mul64 XT noL 20 (loopB Tryz.prog 46 0) (mkT lv_frac_gcd 12 [a, b]) M N (fun x T M N => some (.st x (forget [0, 1] T) M N)) =
    bif b != 0 then (bif b == 0 then none else some (.st .normal (mkT lv_frac_gcd 12 [b, a.tmod b]) M N)) else some (.st (.exit 0) (mkT lv_frac_gcd 12 [a, b]) M N) := by kernel_rfl
theorem r_frac_gcd (M : List Blk) (N : Nat) : ∀ (n : Nat) (a b : Int), 0 ≤ a → 0 ≤ b → b.toNat ≤ n → ∃ k, RoundsOK Tryz.prog GT gbT (loopB Tryz.prog 46 0) k (mkT lv_frac_gcd 12 [a, b]) M N (.exit 0) (mkT lv_frac_gcd 12 [gcdI a b, 0]) M N := by
  intro n
  induction n with
  | zero =>
    intro a b ha hb hn
    have e : b = 0 := by omega
    subst e
    rw [gcdI_zero a ha]
    exact ⟨1, RoundsOK.fin (Λ := noL) g_bits_Mul64 hEQT hmT (noL_ok _) (b_frac_gcd a 0 M N)⟩
  | succ n ih =>
    intro a b ha hb hn
    by_cases e : b = 0
    · subst e
      rw [gcdI_zero a ha]
      exact ⟨1, RoundsOK.fin (Λ := noL) g_bits_Mul64 hEQT hmT (noL_ok _) (b_frac_gcd a 0 M N)⟩
    · have h1 : 0 ≤ a.tmod b := Int.tmod_nonneg b ha
      have h2 : a.tmod b < b := Int.tmod_lt_of_pos a (by omega)
      obtain ⟨k, hk⟩ := ih b (a.tmod b) hb h1 (by omega)
      rw [gcdI_step] at hk
      refine ⟨k + 1, RoundsOK.go (Λ := noL) g_bits_Mul64 hEQT hmT (noL_ok _) ((b_frac_gcd a b M N).trans ?_) hk⟩
      have e' : (b == 0) = false := by simpa using e
      simp only [bne, e', Bool.not_false, cond_true, cond_false]
theorem LL_frac_gcd : ∀ fn c, Tryz.prog.funcs[46]? = some fn → fn.body = some c → LOK Tryz.prog GT gbT L_frac_gcd (loopsIn c) := by
  refine LOK.ofF fun b hb => ?_
  have e : loopsF Tryz.prog 46 = [loopB Tryz.prog 46 0] := by kernel_rfl
  rw [e, List.mem_singleton] at hb
  subst hb
  refine LOKb.lam1 (b := loopB Tryz.prog 46 0) (n := 12) (e := 0) (live := lv_frac_gcd) fun xs M N hl hd => ?_
  match xs, hl with
  | [a, b], _ =>
    simp only [Bool.and_eq_true, decide_eq_true_eq] at hd
    exact r_frac_gcd M N _ a b hd.1 hd.2 (Nat.le_refl _)
theorem w_frac_gcd (a b : Int) (K : AV → List Blk → Ans) : evFn Tryz.prog GT EQT T_bits_Mul64 XT L_frac_gcd 60 46 [.v (.c (.d (.int .u64 a))), .v (.c (.d (.int .u64 b)))] [] (fun v M => K v (M.take ([] : List Blk).length)) = bif decide (0 ≤ a) && decide (0 ≤ b) then K (rU (gcdI a b)) [] else none := by
  kernel_rfl
theorem c_frac_gcd (a b : Int) : CallsA Tryz.prog GT gbT 46 [.v (.c (.d (.int .u64 a))), .v (.c (.d (.int .u64 b)))] [] (rU (gcdI a b)) [] := by
  refine CallsA.ofOk fun hok => ?_
  have hw := w_frac_gcd a b (fun v M => some (Res.fin v M))
  refine CallsA.ofEv (Γ := T_bits_Mul64) (X := XT) (Λ := L_frac_gcd) (EQ := EQT) (n := 60) g_bits_Mul64 hEQT hmT (LL_frac_gcd) (hw.trans ?_)
  have h_a := inR_u64 (hok (.int .u64 a) (by simp [datasL, datas]))
  have h_b := inR_u64 (hok (.int .u64 b) (by simp [datasL, datas]))
  clear hok hw
  simp only [h_a.1, h_b.1, decide_true, Bool.and_self, cond_true]
def s_frac_gcd : List AV → List Blk → (AV → List Blk → Ans) → Ans := fun xs bs K => match xs, bs with
  | [.v (.c (.d (.int .u64 a))), .v (.c (.d (.int .u64 b)))], [] => K (rU (gcdI a b)) []
  | _, _ => none
def T_frac_gcd : Nat → List AV → List Blk → (AV → List Blk → Ans) → Ans := upd T_bits_Mul64 46 s_frac_gcd
theorem g_frac_gcd : GOK Tryz.prog GT gbT T_frac_gcd XT := by
  refine GOK.upd g_bits_Mul64 (fun args w => Tryz.call46 args w) fun xs bs K r h => ?_
  unfold s_frac_gcd at h
  split at h
  · exact ⟨_, _, c_frac_gcd _ _, h⟩
  · cases h
abbrev lv_ref01_gcd : List (Nat × IntKind) := [(0, .u64), (1, .u64)]
def L_ref01_gcd := Lam1 1 12 0 lv_ref01_gcd (fun l => match l with | [a, b] => decide (0 ≤ a) && decide (0 ≤ b) | _ => false) (fun l => match l with | [a, b] => [gcdI a b, 0] | _ => [])
theorem b_ref01_gcd (a b : Int) (M : List Blk) (N : Nat) : evCode Tryz.prog GT EQT T_frac_gcd XT noL 20 (loopB Tryz.prog 42 0) (mkT lv_ref01_gcd 12 [a, b]) M N (fun x T M N => some (.st x (forget [0, 1] T) M N)) =
    bif b != 0 then (bif b == 0 then none else some (.st .normal (mkT lv_ref01_gcd 12 [b, a.tmod b]) M N)) else some (.st (.exit 0) (mkT lv_ref01_gcd 12 [a, b]) M N) := by kernel_rfl
theorem r_ref01_gcd (M : List Blk) (N : Nat) : ∀ (n : Nat) (a b : Int), 0 ≤ a → 0 ≤ b → b.toNat ≤ n → ∃ k, RoundsOK Tryz.prog GT gbT (loopB Tryz.prog 42 0) k (mkT lv_ref01_gcd 12 [a, b]) M N (.exit 0) (mkT lv_ref01_gcd 12 [gcdI a b, 0]) M N := by
  intro n
  induction n with
  | zero =>
    intro a b ha hb hn
    have e : b = 0 := by omega
    subst e
    rw [gcdI_zero a ha]
    exact ⟨1, RoundsOK.fin (Λ := noL) g_frac_gcd hEQT hmT (noL_ok _) (b_ref01_gcd a 0 M N)⟩
  | succ n ih =>
    intro a b ha hb hn
    by_cases e : b = 0
    · subst e
      rw [gcdI_zero a ha]
      exact ⟨1, RoundsOK.fin (Λ := noL) g_frac_gcd hEQT hmT (noL_ok _) (b_ref01_gcd a 0 M N)⟩
    · have h1 : 0 ≤ a.tmod b := Int.tmod_nonneg b ha
      have h2 : a.tmod b < b := Int.tmod_lt_of_pos a (by omega)
      obtain ⟨k, hk⟩ := ih b (a.tmod b) hb h1 (by omega)
      rw [gcdI_step] at hk
      refine ⟨k + 1, RoundsOK.go (Λ := noL) g_frac_gcd hEQT hmT (noL_ok _) ((b_ref01_gcd a b M N).trans ?_) hk⟩
      have e' : (b == 0) = false := by simpa using e
      simp only [bne, e', Bool.not_false, cond_true, cond_false]
theorem LL_ref01_gcd : ∀ fn c, Tryz.prog.funcs[42]? = some fn → fn.body = some c → LOK Tryz.prog GT gbT L_ref01_gcd (loopsIn c) := by
  refine LOK.ofF fun b hb => ?_
  have e : loopsF Tryz.prog 42 = [loopB Tryz.prog 42 0] := by kernel_rfl
  rw [e, List.mem_singleton] at hb
  subst hb
  refine LOKb.lam1 (b := loopB Tryz.prog 42 0) (n := 12) (e := 0) (live := lv_ref01_gcd) fun xs M N hl hd => ?_
  match xs, hl with
  | [a, b], _ =>
    simp only [Bool.and_eq_true, decide_eq_true_eq] at hd
    exact r_ref01_gcd M N _ a b hd.1 hd.2 (Nat.le_refl _)
theorem w_Q1_gcd (a b : Int) (K : AV → List Blk → Ans) : evFn Tryz.prog GT EQT T_frac_gcd XT L_ref01_gcd 60 42 [.v (.c (.d (.int .u64 a))), .v (.c (.d (.int .u64 b)))] [] (fun v M => K v (M.take ([] : List Blk).length)) = bif decide (0 ≤ a) && decide (0 ≤ b) then K (rU (gcdI a b)) [] else none := by
  kernel_rfl
theorem c_Q1_gcd (a b : Int) : CallsA Tryz.prog GT gbT 42 [.v (.c (.d (.int .u64 a))), .v (.c (.d (.int .u64 b)))] [] (rU (gcdI a b)) [] := by
  refine CallsA.ofOk fun hok => ?_
  have hw := w_Q1_gcd a b (fun v M => some (Res.fin v M))
  refine CallsA.ofEv (Γ := T_frac_gcd) (X := XT) (Λ := L_ref01_gcd) (EQ := EQT) (n := 60) g_frac_gcd hEQT hmT (LL_ref01_gcd) (hw.trans ?_)
  have h_a := inR_u64 (hok (.int .u64 a) (by simp [datasL, datas]))
  have h_b := inR_u64 (hok (.int .u64 b) (by simp [datasL, datas]))
  clear hok hw
  simp only [h_a.1, h_b.1, decide_true, Bool.and_self, cond_true]
def s_Q1_gcd : List AV → List Blk → (AV → List Blk → Ans) → Ans := fun xs bs K => match xs, bs with
  | [.v (.c (.d (.int .u64 a))), .v (.c (.d (.int .u64 b)))], [] => K (rU (gcdI a b)) []
  | _, _ => none
def T_Q1_gcd : Nat → List AV → List Blk → (AV → List Blk → Ans) → Ans := upd T_frac_gcd 42 s_Q1_gcd
theorem g_Q1_gcd : GOK Tryz.prog GT gbT T_Q1_gcd XT := by
  refine GOK.upd g_frac_gcd (fun args w => Tryz.call42 args w) fun xs bs K r h => ?_
  unfold s_Q1_gcd at h
  split at h
  · exact ⟨_, _, c_Q1_gcd _ _, h⟩
  · cases h
theorem w_bits_Len64 (x : Int) (K : AV → List Blk → Ans) : evFn Tryz.prog GT EQT T_Q1_gcd XT noL 60 107 [.v (.c (.d (.int .u64 x)))] [] (fun v M => K v (M.take ([] : List Blk).length)) = lenAns K x := by
  kernel_rfl
theorem c_bits_Len64 (x : Int) : CallsA Tryz.prog GT gbT 107 [.v (.c (.d (.int .u64 x)))] [] (rI (lenI x)) [] := by
  refine CallsA.ofOk fun hok => ?_
  have hw := w_bits_Len64 x (fun v M => some (Res.fin v M))
  refine CallsA.ofEv (Γ := T_Q1_gcd) (X := XT) (Λ := noL) (EQ := EQT) (n := 60) g_Q1_gcd hEQT hmT (fun _ _ _ _ => noL_ok _) (hw.trans ?_)
  have h_x := inR_u64 (hok (.int .u64 x) (by simp [datasL, datas]))
  clear hok hw
  exact lenAns_ok (K := fun v M => some (Res.fin v M)) h_x.1 (by omega)
def s_bits_Len64 : List AV → List Blk → (AV → List Blk → Ans) → Ans := fun xs bs K => match xs, bs with
  | [.v (.c (.d (.int .u64 x)))], [] => K (rI (lenI x)) []
  | _, _ => none
def T_bits_Len64 : Nat → List AV → List Blk → (AV → List Blk → Ans) → Ans := upd T_Q1_gcd 107 s_bits_Len64
theorem g_bits_Len64 : GOK Tryz.prog GT gbT T_bits_Len64 XT := by
  refine GOK.upd g_Q1_gcd (fun args w => Tryz.call107 args w) fun xs bs K r h => ?_
  unfold s_bits_Len64 at h
  split at h
  · exact ⟨_, _, c_bits_Len64 _, h⟩
  · cases h
theorem w_bits_LeadingZeros64 (x : Int) (K : AV → List Blk → Ans) : evFn Tryz.prog GT EQT T_bits_Len64 XT noL 60 90 [.v (.c (.d (.int .u64 x)))] [] (fun v M => K v (M.take ([] : List Blk).length)) = K (rI (w64 (64 - lenI x))) [] := by
  kernel_rfl
theorem c_bits_LeadingZeros64 (x : Int) : CallsA Tryz.prog GT gbT 90 [.v (.c (.d (.int .u64 x)))] [] (rI (64 - lenI x)) [] := by
  refine CallsA.ofOk fun hok => ?_
  have hw := w_bits_LeadingZeros64 x (fun v M => some (Res.fin v M))
  refine CallsA.ofEv (Γ := T_bits_Len64) (X := XT) (Λ := noL) (EQ := EQT) (n := 60) g_bits_Len64 hEQT hmT (fun _ _ _ _ => noL_ok _) (hw.trans ?_)
  have h_x := inR_u64 (hok (.int .u64 x) (by simp [datasL, datas]))
  clear hok hw
  refine congrArg (fun v => some (Res.fin v [])) ?_
  rw [w64_id (by have := lenI_le h_x.1 (by omega); omega)]
def s_bits_LeadingZeros64 : List AV → List Blk → (AV → List Blk → Ans) → Ans := fun xs bs K => match xs, bs with
  | [.v (.c (.d (.int .u64 x)))], [] => K (rI (64 - lenI x)) []
  | _, _ => none
def T_bits_LeadingZeros64 : Nat → List AV → List Blk → (AV → List Blk → Ans) → Ans := upd T_bits_Len64 90 s_bits_LeadingZeros64
theorem g_bits_LeadingZeros64 : GOK Tryz.prog GT gbT T_bits_LeadingZeros64 XT := by
  refine GOK.upd g_bits_Len64 (fun args w => Tryz.call90 args w) fun xs bs K r h => ?_
  unfold s_bits_LeadingZeros64 at h
  split at h
  · exact ⟨_, _, c_bits_LeadingZeros64 _, h⟩
  · cases h
abbrev lv_Div1 : List (Nat × IntKind) := [(15, .u64), (9, .u64), (10, .u64), (13, .u64), (2, .u64), (8, .u64), (11, .u64), (14, .u64), (16, .u64)]
abbrev lv_Div2 : List (Nat × IntKind) := [(18, .u64), (9, .u64), (10, .u64), (14, .u64), (2, .u64), (8, .u64), (15, .u64), (17, .u64), (16, .u64)]
def digDom (l : List Int) : Bool := match l with | [q, y1, y0, d, _, _, _, _, r] => digOk q y1 y0 d r | _ => false
def digFin (l : List Int) : List Int := match l with | [q, y1, y0, d, y, s, u, z, r] => [digQ q y1 y0 d r, y1, y0, d, y, s, u, z] | _ => []
def L_Div64 := orL (Lam1 17 135 0 lv_Div1 digDom digFin) (Lam1 24 135 2 lv_Div2 digDom digFin)
theorem b_Div1 (q y1 y0 d y s u z r : Int) (M : List Blk) (N : Nat) : evCode Tryz.prog GT EQT T_bits_LeadingZeros64 XT noL 40 (loopB Tryz.prog 75 0) (mkT lv_Div1 135 [q, y1, y0, d, y, s, u, z, r]) M N (fun x T M N => some (.st x (forget [15, 9, 10, 13, 2, 8, 11, 14, 16] T) M N)) =
    bif decide (4294967296 ≤ q) then (bif decide (4294967296 ≤ wu64 (r + y1)) then some (.st (.exit 0) (mkT lv_Div1 135 [wu64 (q - 1), y1, y0, d, y, s, u, z, wu64 (r + y1)]) M N) else some (.st .normal (mkT lv_Div1 135 [wu64 (q - 1), y1, y0, d, y, s, u, z, wu64 (r + y1)]) M N))
    else bif decide (wu64 (wu64 (4294967296 * r) + d) < wu64 (q * y0)) then (bif decide (4294967296 ≤ wu64 (r + y1)) then some (.st (.exit 0) (mkT lv_Div1 135 [wu64 (q - 1), y1, y0, d, y, s, u, z, wu64 (r + y1)]) M N) else some (.st .normal (mkT lv_Div1 135 [wu64 (q - 1), y1, y0, d, y, s, u, z, wu64 (r + y1)]) M N))
    else some (.st (.exit 0) (mkT lv_Div1 135 [q, y1, y0, d, y, s, u, z, r]) M N) := by kernel_rfl
theorem b_Div2 (q y1 y0 d y s u z r : Int) (M : List Blk) (N : Nat) : evCode Tryz.prog GT EQT T_bits_LeadingZeros64 XT noL 40 (loopB Tryz.prog 75 1) (mkT lv_Div2 135 [q, y1, y0, d, y, s, u, z, r]) M N (fun x T M N => some (.st x (forget [18, 9, 10, 14, 2, 8, 15, 17, 16] T) M N)) =
    bif decide (4294967296 ≤ q) then (bif decide (4294967296 ≤ wu64 (r + y1)) then some (.st (.exit 2) (mkT lv_Div2 135 [wu64 (q - 1), y1, y0, d, y, s, u, z, wu64 (r + y1)]) M N) else some (.st .normal (mkT lv_Div2 135 [wu64 (q - 1), y1, y0, d, y, s, u, z, wu64 (r + y1)]) M N))
    else bif decide (wu64 (wu64 (4294967296 * r) + d) < wu64 (q * y0)) then (bif decide (4294967296 ≤ wu64 (r + y1)) then some (.st (.exit 2) (mkT lv_Div2 135 [wu64 (q - 1), y1, y0, d, y, s, u, z, wu64 (r + y1)]) M N) else some (.st .normal (mkT lv_Div2 135 [wu64 (q - 1), y1, y0, d, y, s, u, z, wu64 (r + y1)]) M N))
    else some (.st (.exit 2) (mkT lv_Div2 135 [q, y1, y0, d, y, s, u, z, r]) M N) := by kernel_rfl
theorem r_Div (i e : Nat) (lv : List (Nat × IntKind)) (keep : List Nat) (M : List Blk) (N : Nat) (hless : ∀ q y1 y0 d y s u z r : Int, Less (mkT lv 135 [q, y1, y0, d, y, s, u, z]) (mkT lv 135 [q, y1, y0, d, y, s, u, z, r]))
    (hb : ∀ q y1 y0 d y s u z r : Int, evCode Tryz.prog GT EQT T_bits_LeadingZeros64 XT noL 40 (loopB Tryz.prog 75 i) (mkT lv 135 [q, y1, y0, d, y, s, u, z, r]) M N (fun x T M N => some (.st x (forget keep T) M N)) =
    bif decide (4294967296 ≤ q) then (bif decide (4294967296 ≤ wu64 (r + y1)) then some (.st (.exit e) (mkT lv 135 [wu64 (q - 1), y1, y0, d, y, s, u, z, wu64 (r + y1)]) M N) else some (.st .normal (mkT lv 135 [wu64 (q - 1), y1, y0, d, y, s, u, z, wu64 (r + y1)]) M N))
    else bif decide (wu64 (wu64 (4294967296 * r) + d) < wu64 (q * y0)) then (bif decide (4294967296 ≤ wu64 (r + y1)) then some (.st (.exit e) (mkT lv 135 [wu64 (q - 1), y1, y0, d, y, s, u, z, wu64 (r + y1)]) M N) else some (.st .normal (mkT lv 135 [wu64 (q - 1), y1, y0, d, y, s, u, z, wu64 (r + y1)]) M N))
    else some (.st (.exit e) (mkT lv 135 [q, y1, y0, d, y, s, u, z, r]) M N)) :
    ∀ (n : Nat) (q y1 y0 d y s u z r : Int), DigOk q y1 y0 d r → (q - digQ q y1 y0 d r).toNat ≤ n → ∃ k, RoundsOK Tryz.prog GT gbT (loopB Tryz.prog 75 i) k (mkT lv 135 [q, y1, y0, d, y, s, u, z, r]) M N (.exit e) (mkT lv 135 [digQ q y1 y0 d r, y1, y0, d, y, s, u, z]) M N := by
  have out : ∀ (q y1 y0 d y s u z r : Int), DigOk q y1 y0 d r → q ≤ digQ q y1 y0 d r → ∃ k, RoundsOK Tryz.prog GT gbT (loopB Tryz.prog 75 i) k (mkT lv 135 [q, y1, y0, d, y, s, u, z, r]) M N (.exit e) (mkT lv 135 [digQ q y1 y0 d r, y1, y0, d, y, s, u, z]) M N := by
    intro q y1 y0 d y s u z r h hq
    obtain ⟨h1, h2, h3, h4, h5, h6, h7, h8, h9, h10, h11, h12⟩ := h
    have hv : 0 < y1 * 4294967296 + y0 := by omega
    have eq : digQ q y1 y0 d r = q := by omega
    have ht := (digQ_test hv).1 hq
    have hqy : 0 ≤ q * y0 := Int.mul_nonneg (by omega) h3
    rw [eq]
    refine ⟨1, (RoundsOK.fin (Λ := noL) g_bits_LeadingZeros64 hEQT hmT (noL_ok _) ((hb q y1 y0 d y s u z r).trans ?_)).weak (hless q y1 y0 d y s u z r)⟩
    rw [decide_eq_false (show ¬ (4294967296 : Int) ≤ q by omega), wu64_id (n := 4294967296 * r) (by omega), wu64_id (n := 4294967296 * r + d) (by omega), wu64_id (n := q * y0) (by omega), decide_eq_false (show ¬ 4294967296 * r + d < q * y0 by omega)]
    rfl
  have next : ∀ (q y1 y0 d y s u z r : Int), DigOk q y1 y0 d r → digQ q y1 y0 d r < q → evCode Tryz.prog GT EQT T_bits_LeadingZeros64 XT noL 40 (loopB Tryz.prog 75 i) (mkT lv 135 [q, y1, y0, d, y, s, u, z, r]) M N (fun x T M N => some (.st x (forget keep T) M N)) =
      bif decide (4294967296 ≤ r + y1) then some (.st (.exit e) (mkT lv 135 [q - 1, y1, y0, d, y, s, u, z, r + y1]) M N) else some (.st .normal (mkT lv 135 [q - 1, y1, y0, d, y, s, u, z, r + y1]) M N) := by
    intro q y1 y0 d y s u z r h hq
    obtain ⟨h1, h2, h3, h4, h5, h6, h7, h8, h9, h10, h11, h12⟩ := h
    have hv : 0 < y1 * 4294967296 + y0 := by omega
    rw [hb, wu64_id (n := r + y1) (by omega), wu64_id (n := q - 1) (by omega)]
    by_cases hB : 4294967296 ≤ q
    · rw [decide_eq_true hB]
      rfl
    · have ht : ¬ q * y0 ≤ 4294967296 * r + d := fun hh => by have := (digQ_test (q := q) (d := d) (r := r) hv).2 hh; omega
      have hqy : 0 ≤ q * y0 := Int.mul_nonneg (by omega) h3
      have hqy2 : q * y0 ≤ 4294967295 * 4294967295 := Int.mul_le_mul (by omega) (by omega) h3 (by omega)
      rw [decide_eq_false hB, wu64_id (n := 4294967296 * r) (by omega), wu64_id (n := 4294967296 * r + d) (by omega), wu64_id (n := q * y0) (by omega), decide_eq_true (show 4294967296 * r + d < q * y0 by omega)]
      rfl
  intro n
  induction n with
  | zero => intro q y1 y0 d y s u z r h hn; exact out q y1 y0 d y s u z r h (by omega)
  | succ n ih =>
    intro q y1 y0 d y s u z r h hn
    by_cases hq : q ≤ digQ q y1 y0 d r
    · exact out q y1 y0 d y s u z r h hq
    · by_cases hr : 4294967296 ≤ r + y1
      · refine ⟨1, (RoundsOK.fin (Λ := noL) g_bits_LeadingZeros64 hEQT hmT (noL_ok _) ((next q y1 y0 d y s u z r h (by omega)).trans ?_)).weak (hless _ y1 y0 d y s u z (r + y1))⟩
        rw [decide_eq_true hr, h.stop (by omega) hr]
        rfl
      · have hs := digQ_step q y1 y0 d r
        obtain ⟨k, hk⟩ := ih (q - 1) y1 y0 d y s u z (r + y1) (h.next (by omega) (by omega)) (by omega)
        rw [hs] at hk
        refine ⟨k + 1, RoundsOK.go (Λ := noL) g_bits_LeadingZeros64 hEQT hmT (noL_ok _) ((next q y1 y0 d y s u z r h (by omega)).trans ?_) hk⟩
        rw [decide_eq_false hr]
        rfl
theorem l_Div1 (q y1 y0 d y s u z r : Int) : Less (mkT lv_Div1 135 [q, y1, y0, d, y, s, u, z]) (mkT lv_Div1 135 [q, y1, y0, d, y, s, u, z, r]) := by
  have h : mkT lv_Div1 135 [q, y1, y0, d, y, s, u, z] = mkT (lv_Div1.take 8) 135 [q, y1, y0, d, y, s, u, z] := by kernel_rfl
  rw [h]
  exact less_mkT (by kernel_rfl) (by kernel_rfl)
theorem l_Div2 (q y1 y0 d y s u z r : Int) : Less (mkT lv_Div2 135 [q, y1, y0, d, y, s, u, z]) (mkT lv_Div2 135 [q, y1, y0, d, y, s, u, z, r]) := by
  have h : mkT lv_Div2 135 [q, y1, y0, d, y, s, u, z] = mkT (lv_Div2.take 8) 135 [q, y1, y0, d, y, s, u, z] := by kernel_rfl
  rw [h]
  exact less_mkT (by kernel_rfl) (by kernel_rfl)
theorem LL_Div64 : ∀ fn c, Tryz.prog.funcs[75]? = some fn → fn.body = some c → LOK Tryz.prog GT gbT L_Div64 (loopsIn c) := by
  refine LOK.ofF fun b hb => ?_
  have e : loopsF Tryz.prog 75 = [loopB Tryz.prog 75 0, loopB Tryz.prog 75 1] := by kernel_rfl
  have k0 : loopKey (loopB Tryz.prog 75 0) = 17 := by kernel_rfl
  have k1 : loopKey (loopB Tryz.prog 75 1) = 24 := by kernel_rfl
  rw [e, List.mem_cons, List.mem_singleton] at hb
  rcases hb with rfl | rfl
  · refine LOKb.or ?_ (LOKb.lam1_other (by rw [k0]; decide))
    rw [← k0]
    refine LOKb.lam1 (n := 135) (e := 0) (live := lv_Div1) fun xs M N hl hd => ?_
    match xs, hl with
    | [q, y1, y0, d, y, s, u, z, r], _ => exact r_Div 0 0 lv_Div1 _ M N l_Div1 (fun q y1 y0 d y s u z r => b_Div1 q y1 y0 d y s u z r M N) _ q y1 y0 d y s u z r (digOk_iff.1 hd) (Nat.le_refl _)
  · refine LOKb.or (LOKb.lam1_other (by rw [k1]; decide)) ?_
    rw [← k1]
    refine LOKb.lam1 (n := 135) (e := 2) (live := lv_Div2) fun xs M N hl hd => ?_
    match xs, hl with
    | [q, y1, y0, d, y, s, u, z, r], _ => exact r_Div 1 2 lv_Div2 _ M N l_Div2 (fun q y1 y0 d y s u z r => b_Div2 q y1 y0 d y s u z r M N) _ q y1 y0 d y s u z r (digOk_iff.1 hd) (Nat.le_refl _)
theorem w_bits_Div64 (hi lo y : Int) (K : AV → List Blk → Ans) : evFn Tryz.prog GT EQT T_bits_LeadingZeros64 XT L_Div64 60 75 [.v (.c (.d (.int .u64 hi))), .v (.c (.d (.int .u64 lo))), .v (.c (.d (.int .u64 y)))] [] (fun v M => K v (M.take ([] : List Blk).length)) = divAns K hi lo y := by
  kernel_rfl
theorem c_bits_Div64 (hi lo y : Int) (hd : (decide (hi < y)) = true) : CallsA Tryz.prog GT gbT 75 [.v (.c (.d (.int .u64 hi))), .v (.c (.d (.int .u64 lo))), .v (.c (.d (.int .u64 y)))] [] (rUU ((hi * 18446744073709551616 + lo) / y, (hi * 18446744073709551616 + lo) % y)) [] := by
  refine CallsA.ofOk fun hok => ?_
  have hw := w_bits_Div64 hi lo y (fun v M => some (Res.fin v M))
  refine CallsA.ofEv (Γ := T_bits_LeadingZeros64) (X := XT) (Λ := L_Div64) (EQ := EQT) (n := 60) g_bits_LeadingZeros64 hEQT hmT (LL_Div64) (hw.trans ?_)
  have h_hi := inR_u64 (hok (.int .u64 hi) (by simp [datasL, datas]))
  have h_lo := inR_u64 (hok (.int .u64 lo) (by simp [datasL, datas]))
  have h_y := inR_u64 (hok (.int .u64 y) (by simp [datasL, datas]))
  clear hok hw
  exact divAns_ok (K := fun v M => some (Res.fin v M)) h_hi h_lo h_y (of_decide_eq_true hd)
def s_bits_Div64 : List AV → List Blk → (AV → List Blk → Ans) → Ans := fun xs bs K => match xs, bs with
  | [.v (.c (.d (.int .u64 hi))), .v (.c (.d (.int .u64 lo))), .v (.c (.d (.int .u64 y)))], [] => bif decide (hi < y) then K (rUU ((hi * 18446744073709551616 + lo) / y, (hi * 18446744073709551616 + lo) % y)) [] else none
  | _, _ => none
def T_bits_Div64 : Nat → List AV → List Blk → (AV → List Blk → Ans) → Ans := upd T_bits_LeadingZeros64 75 s_bits_Div64
theorem g_bits_Div64 : GOK Tryz.prog GT gbT T_bits_Div64 XT := by
  refine GOK.upd g_bits_LeadingZeros64 (fun args w => Tryz.call75 args w) fun xs bs K r h => ?_
  unfold s_bits_Div64 at h
  split at h
  · simp only [cond_eq_ite] at h
    split at h
    · exact ⟨_, _, c_bits_Div64 _ _ _ ‹_›, h⟩
    · cases h
  · cases h
theorem w_sine_next (t s j : Int) (K : AV → List Blk → Ans) : evFn Tryz.prog GT EQT T_bits_Div64 XT noL 60 119 [.v (.c (.d (.int .u64 t))), .v (.c (.d (.int .u64 s))), .v (.c (.d (.int .u64 j)))] [] (fun v M => K v (M.take ([] : List Blk).length)) = bif wu64 (j * wu64 (j + 1)) == 0 then none else K (rU (wu64 ((mul64 t s).1.tdiv (wu64 (j * wu64 (j + 1)))))) [] := by
  kernel_rfl
theorem c_sine_next (t s j : Int) (hd : (nextOn j) = true) : CallsA Tryz.prog GT gbT 119 [.v (.c (.d (.int .u64 t))), .v (.c (.d (.int .u64 s))), .v (.c (.d (.int .u64 j)))] [] (rU (nextI t s j)) [] := by
  refine CallsA.ofOk fun hok => ?_
  have hw := w_sine_next t s j (fun v M => some (Res.fin v M))
  refine CallsA.ofEv (Γ := T_bits_Div64) (X := XT) (Λ := noL) (EQ := EQT) (n := 60) g_bits_Div64 hEQT hmT (fun _ _ _ _ => noL_ok _) (hw.trans ?_)
  have h_t := inR_u64 (hok (.int .u64 t) (by simp [datasL, datas]))
  have h_s := inR_u64 (hok (.int .u64 s) (by simp [datasL, datas]))
  have h_j := inR_u64 (hok (.int .u64 j) (by simp [datasL, datas]))
  clear hok hw
  rw [(next_ok h_t h_s hd).1, (next_ok h_t h_s hd).2]
  rfl
def s_sine_next : List AV → List Blk → (AV → List Blk → Ans) → Ans := fun xs bs K => match xs, bs with
  | [.v (.c (.d (.int .u64 t))), .v (.c (.d (.int .u64 s))), .v (.c (.d (.int .u64 j)))], [] => bif nextOn j then K (rU (nextI t s j)) [] else none
  | _, _ => none
def T_sine_next : Nat → List AV → List Blk → (AV → List Blk → Ans) → Ans := upd T_bits_Div64 119 s_sine_next
theorem g_sine_next : GOK Tryz.prog GT gbT T_sine_next XT := by
  refine GOK.upd g_bits_Div64 (fun args w => Tryz.call119 args w) fun xs bs K r h => ?_
  unfold s_sine_next at h
  split at h
  · simp only [cond_eq_ite] at h
    split at h
    · exact ⟨_, _, c_sine_next _ _ _ ‹_›, h⟩
    · cases h
  · cases h
abbrev lv_sineOf : List (Nat × IntKind) := [(5, .u64), (6, .u64), (3, .u64), (7, .u64)]
def L_sineOf := Lam1 4 36 0 lv_sineOf (serDom 2) serFin
theorem b_sineOf (sq s t j : Int) (M : List Blk) (N : Nat) : evCode Tryz.prog GT EQT T_sine_next XT noL 40 (loopB Tryz.prog 116 0) (mkT lv_sineOf 36 [s, t, sq, j]) M N (fun x T M N => some (.st x (forget [5, 6, 3, 7] T) M N)) =
    bif t != 0 then (bif nextOn j then bif nextOn (wu64 (j + 2)) then some (.st .normal (mkT lv_sineOf 36 [wu64 (wu64 (s - nextI t sq j) + nextI (nextI t sq j) sq (wu64 (j + 2))), nextI (nextI t sq j) sq (wu64 (j + 2)), sq, wu64 (j + 4)]) M N) else none else none)
    else some (.st (.exit 0) (mkT lv_sineOf 36 [s, t, sq, j]) M N) := by kernel_rfl
theorem l_sineOf (s t sq j : Int) : Less (mkT lv_sineOf 36 [s]) (mkT lv_sineOf 36 [s, t, sq, j]) := by
  have h : mkT lv_sineOf 36 [s] = mkT (lv_sineOf.take 1) 36 [s] := by kernel_rfl
  rw [h]
  exact less_mkT (by kernel_rfl) (by kernel_rfl)
theorem LL_sineOf : ∀ fn c, Tryz.prog.funcs[116]? = some fn → fn.body = some c → LOK Tryz.prog GT gbT L_sineOf (loopsIn c) := by
  refine LOK.ofF fun b hb => ?_
  have e : loopsF Tryz.prog 116 = [loopB Tryz.prog 116 0] := by kernel_rfl
  have k0 : loopKey (loopB Tryz.prog 116 0) = 4 := by kernel_rfl
  rw [e, List.mem_singleton] at hb
  subst hb
  unfold L_sineOf
  rw [← k0]
  refine LOKb.lam1 (n := 36) (e := 0) (live := lv_sineOf) fun xs M N hl hd => ?_
  match xs, hl with
  | [s, t, sq, j], _ =>
    simp only [serDom, Bool.and_eq_true, decide_eq_true_eq, beq_iff_eq] at hd
    obtain ⟨h1, h2, h3, h4, h5⟩ := hd
    exact series_rounds (c := loopB Tryz.prog 116 0) g_sine_next hEQT hmT (fun s t j => mkT lv_sineOf 36 [s, t, sq, j]) (fun s => mkT lv_sineOf 36 [s]) sq ⟨h3, h4⟩ (fun s t j => l_sineOf s t sq j) (fun s t j => b_sineOf sq s t j M N) 16 s t j h1 (by simpa using h2) (by omega) (by omega)
theorem w_sine_sineOf (x : Int) (K : AV → List Blk → Ans) : evFn Tryz.prog GT EQT T_sine_next XT L_sineOf 60 116 [.v (.c (.d (.int .u64 x)))] [] (fun v M => K v (M.take ([] : List Blk).length)) = bif serDom 2 [x, x, (mul64 x x).1, 2] then K (rU (sinI 16 x x (mul64 x x).1 2)) [] else none := by
  kernel_rfl
theorem c_sine_sineOf (x : Int) : CallsA Tryz.prog GT gbT 116 [.v (.c (.d (.int .u64 x)))] [] (rU (sineI x)) [] := by
  refine CallsA.ofOk fun hok => ?_
  have hw := w_sine_sineOf x (fun v M => some (Res.fin v M))
  refine CallsA.ofEv (Γ := T_sine_next) (X := XT) (Λ := L_sineOf) (EQ := EQT) (n := 60) g_sine_next hEQT hmT (LL_sineOf) (hw.trans ?_)
  have h_x := inR_u64 (hok (.int .u64 x) (by simp [datasL, datas]))
  clear hok hw
  have hq := sqI_range h_x
  have e : (mul64 x x).1 = sqI x := rfl
  rw [e, show serDom 2 [x, x, sqI x, 2] = true by clear e; simp only [serDom, Bool.and_eq_true, decide_eq_true_eq, beq_iff_eq, and_true]; omega]
  rfl
def s_sine_sineOf : List AV → List Blk → (AV → List Blk → Ans) → Ans := fun xs bs K => match xs, bs with
  | [.v (.c (.d (.int .u64 x)))], [] => K (rU (sineI x)) []
  | _, _ => none
def T_sine_sineOf : Nat → List AV → List Blk → (AV → List Blk → Ans) → Ans := upd T_sine_next 116 s_sine_sineOf
theorem g_sine_sineOf : GOK Tryz.prog GT gbT T_sine_sineOf XT := by
  refine GOK.upd g_sine_next (fun args w => Tryz.call116 args w) fun xs bs K r h => ?_
  unfold s_sine_sineOf at h
  split at h
  · exact ⟨_, _, c_sine_sineOf _, h⟩
  · cases h
abbrev lv_cosineOf : List (Nat × IntKind) := [(6, .u64), (5, .u64), (3, .u64), (7, .u64)]
def L_cosineOf := Lam1 5 38 0 lv_cosineOf (serDom 3) serFin
theorem b_cosineOf (sq s t j : Int) (M : List Blk) (N : Nat) : evCode Tryz.prog GT EQT T_sine_sineOf XT noL 40 (loopB Tryz.prog 118 0) (mkT lv_cosineOf 38 [s, t, sq, j]) M N (fun x T M N => some (.st x (forget [6, 5, 3, 7] T) M N)) =
    bif t != 0 then (bif nextOn j then bif nextOn (wu64 (j + 2)) then some (.st .normal (mkT lv_cosineOf 38 [wu64 (wu64 (s - nextI t sq j) + nextI (nextI t sq j) sq (wu64 (j + 2))), nextI (nextI t sq j) sq (wu64 (j + 2)), sq, wu64 (j + 4)]) M N) else none else none)
    else some (.st (.exit 0) (mkT lv_cosineOf 38 [s, t, sq, j]) M N) := by kernel_rfl
theorem l_cosineOf (s t sq j : Int) : Less (mkT lv_cosineOf 38 [s]) (mkT lv_cosineOf 38 [s, t, sq, j]) := by
  have h : mkT lv_cosineOf 38 [s] = mkT (lv_cosineOf.take 1) 38 [s] := by kernel_rfl
  rw [h]
  exact less_mkT (by kernel_rfl) (by kernel_rfl)
theorem LL_cosineOf : ∀ fn c, Tryz.prog.funcs[118]? = some fn → fn.body = some c → LOK Tryz.prog GT gbT L_cosineOf (loopsIn c) := by
  refine LOK.ofF fun b hb => ?_
  have e : loopsF Tryz.prog 118 = [loopB Tryz.prog 118 0] := by kernel_rfl
  have k0 : loopKey (loopB Tryz.prog 118 0) = 5 := by kernel_rfl
  rw [e, List.mem_singleton] at hb
  subst hb
  unfold L_cosineOf
  rw [← k0]
  refine LOKb.lam1 (n := 38) (e := 0) (live := lv_cosineOf) fun xs M N hl hd => ?_
  match xs, hl with
  | [s, t, sq, j], _ =>
    simp only [serDom, Bool.and_eq_true, decide_eq_true_eq, beq_iff_eq] at hd
    obtain ⟨h1, h2, h3, h4, h5⟩ := hd
    exact series_rounds (c := loopB Tryz.prog 118 0) g_sine_sineOf hEQT hmT (fun s t j => mkT lv_cosineOf 38 [s, t, sq, j]) (fun s => mkT lv_cosineOf 38 [s]) sq ⟨h3, h4⟩ (fun s t j => l_cosineOf s t sq j) (fun s t j => b_cosineOf sq s t j M N) 16 s t j h1 (by simpa using h2) (by omega) (by omega)
theorem w_sine_cosineOf (x : Int) (K : AV → List Blk → Ans) : evFn Tryz.prog GT EQT T_sine_sineOf XT L_cosineOf 60 118 [.v (.c (.d (.int .u64 x)))] [] (fun v M => K v (M.take ([] : List Blk).length)) = bif serDom 3 [wu64 ((mul64 x x).1.tdiv 2), wu64 ((mul64 x x).1.tdiv 2), (mul64 x x).1, 3] then K (rU (wu64 (0 - sinI 16 (wu64 ((mul64 x x).1.tdiv 2)) (wu64 ((mul64 x x).1.tdiv 2)) (mul64 x x).1 3))) [] else none := by
  kernel_rfl
theorem c_sine_cosineOf (x : Int) : CallsA Tryz.prog GT gbT 118 [.v (.c (.d (.int .u64 x)))] [] (rU (cosiI x)) [] := by
  refine CallsA.ofOk fun hok => ?_
  have hw := w_sine_cosineOf x (fun v M => some (Res.fin v M))
  refine CallsA.ofEv (Γ := T_sine_sineOf) (X := XT) (Λ := L_cosineOf) (EQ := EQT) (n := 60) g_sine_sineOf hEQT hmT (LL_cosineOf) (hw.trans ?_)
  have h_x := inR_u64 (hok (.int .u64 x) (by simp [datasL, datas]))
  clear hok hw
  have hq := sqI_range h_x
  have e : (mul64 x x).1 = sqI x := rfl
  rw [e, Int.tdiv_eq_ediv_of_nonneg hq.1, wu64_id (n := sqI x / 2) (by omega), show serDom 3 [sqI x / 2, sqI x / 2, sqI x, 3] = true by clear e; simp only [serDom, Bool.and_eq_true, decide_eq_true_eq, beq_iff_eq, and_true]; omega]
  rfl
def s_sine_cosineOf : List AV → List Blk → (AV → List Blk → Ans) → Ans := fun xs bs K => match xs, bs with
  | [.v (.c (.d (.int .u64 x)))], [] => K (rU (cosiI x)) []
  | _, _ => none
def T_sine_cosineOf : Nat → List AV → List Blk → (AV → List Blk → Ans) → Ans := upd T_sine_sineOf 118 s_sine_cosineOf
theorem g_sine_cosineOf : GOK Tryz.prog GT gbT T_sine_cosineOf XT := by
  refine GOK.upd g_sine_sineOf (fun args w => Tryz.call118 args w) fun xs bs K r h => ?_
  unfold s_sine_cosineOf at h
  split at h
  · exact ⟨_, _, c_sine_cosineOf _, h⟩
  · cases h
theorem w_sine_angle (w n : Int) (K : AV → List Blk → Ans) : evFn Tryz.prog GT EQT T_sine_cosineOf XT noL 60 117 [.v (.c (.d (.int .i64 w))), .v (.c (.d (.int .i64 n)))] [] (fun v M => K v (M.take ([] : List Blk).length)) = bif decide (wu64 ((mul64 10529333758598939753 (wu64 w)).1 + wu64 w) < wu64 n) then K (rU ((wu64 ((mul64 10529333758598939753 (wu64 w)).1 + wu64 w) * 18446744073709551616 + (mul64 10529333758598939753 (wu64 w)).2) / wu64 n)) [] else none := by
  kernel_rfl
theorem c_sine_angle (w n : Int) (hd : (angOn w n) = true) : CallsA Tryz.prog GT gbT 117 [.v (.c (.d (.int .i64 w))), .v (.c (.d (.int .i64 n)))] [] (rU (angI w n)) [] := by
  refine CallsA.ofOk fun hok => ?_
  have hw := w_sine_angle w n (fun v M => some (Res.fin v M))
  refine CallsA.ofEv (Γ := T_sine_cosineOf) (X := XT) (Λ := noL) (EQ := EQT) (n := 60) g_sine_cosineOf hEQT hmT (fun _ _ _ _ => noL_ok _) (hw.trans ?_)
  have h_w := inR_i64 (hok (.int .i64 w) (by simp [datasL, datas]))
  have h_n := inR_i64 (hok (.int .i64 n) (by simp [datasL, datas]))
  clear hok hw
  rw [(ang_ok hd).1, (ang_ok hd).2]
  rfl
def s_sine_angle : List AV → List Blk → (AV → List Blk → Ans) → Ans := fun xs bs K => match xs, bs with
  | [.v (.c (.d (.int .i64 w))), .v (.c (.d (.int .i64 n)))], [] => bif angOn w n then K (rU (angI w n)) [] else none
  | _, _ => none
def T_sine_angle : Nat → List AV → List Blk → (AV → List Blk → Ans) → Ans := upd T_sine_cosineOf 117 s_sine_angle
theorem g_sine_angle : GOK Tryz.prog GT gbT T_sine_angle XT := by
  refine GOK.upd g_sine_cosineOf (fun args w => Tryz.call117 args w) fun xs bs K r h => ?_
  unfold s_sine_angle at h
  split at h
  · simp only [cond_eq_ite] at h
    split at h
    · exact ⟨_, _, c_sine_angle _ _ ‹_›, h⟩
    · cases h
  · cases h
theorem w_sine_rising (w n : Int) (K : AV → List Blk → Ans) : evFn Tryz.prog GT EQT T_sine_angle XT noL 60 115 [.v (.c (.d (.int .i64 w))), .v (.c (.d (.int .i64 n)))] [] (fun v M => K v (M.take ([] : List Blk).length)) = riseAns K w n := by
  kernel_rfl
theorem c_sine_rising (w n : Int) (hd : (riseOn w n) = true) : CallsA Tryz.prog GT gbT 115 [.v (.c (.d (.int .i64 w))), .v (.c (.d (.int .i64 n)))] [] (rSpan (riseI w n)) [] := by
  refine CallsA.ofOk fun hok => ?_
  have hw := w_sine_rising w n (fun v M => some (Res.fin v M))
  refine CallsA.ofEv (Γ := T_sine_angle) (X := XT) (Λ := noL) (EQ := EQT) (n := 60) g_sine_angle hEQT hmT (fun _ _ _ _ => noL_ok _) (hw.trans ?_)
  have h_w := inR_i64 (hok (.int .i64 w) (by simp [datasL, datas]))
  have h_n := inR_i64 (hok (.int .i64 n) (by simp [datasL, datas]))
  clear hok hw
  exact riseAns_ok (K := fun v M => some (Res.fin v M)) hd
def s_sine_rising : List AV → List Blk → (AV → List Blk → Ans) → Ans := fun xs bs K => match xs, bs with
  | [.v (.c (.d (.int .i64 w))), .v (.c (.d (.int .i64 n)))], [] => bif riseOn w n then K (rSpan (riseI w n)) [] else none
  | _, _ => none
def T_sine_rising : Nat → List AV → List Blk → (AV → List Blk → Ans) → Ans := upd T_sine_angle 115 s_sine_rising
theorem g_sine_rising : GOK Tryz.prog GT gbT T_sine_rising XT := by
  refine GOK.upd g_sine_angle (fun args w => Tryz.call115 args w) fun xs bs K r h => ?_
  unfold s_sine_rising at h
  split at h
  · simp only [cond_eq_ite] at h
    split at h
    · exact ⟨_, _, c_sine_rising _ _ ‹_›, h⟩
    · cases h
  · cases h
theorem w_sine_turned (u n : Int) (K : AV → List Blk → Ans) : evFn Tryz.prog GT EQT T_sine_rising XT noL 60 108 [.v (.c (.d (.int .i64 u))), .v (.c (.d (.int .i64 n)))] [] (fun v M => K v (M.take ([] : List Blk).length)) = turnAns K u n := by
  kernel_rfl
theorem c_sine_turned (u n : Int) (hd : (turnOn u n) = true) : CallsA Tryz.prog GT gbT 108 [.v (.c (.d (.int .i64 u))), .v (.c (.d (.int .i64 n)))] [] (rSpan (turnS u n)) [] := by
  refine CallsA.ofOk fun hok => ?_
  have hw := w_sine_turned u n (fun v M => some (Res.fin v M))
  refine CallsA.ofEv (Γ := T_sine_rising) (X := XT) (Λ := noL) (EQ := EQT) (n := 60) g_sine_rising hEQT hmT (fun _ _ _ _ => noL_ok _) (hw.trans ?_)
  have h_u := inR_i64 (hok (.int .i64 u) (by simp [datasL, datas]))
  have h_n := inR_i64 (hok (.int .i64 n) (by simp [datasL, datas]))
  clear hok hw
  exact turnAns_ok (K := fun v M => some (Res.fin v M)) hd
def s_sine_turned : List AV → List Blk → (AV → List Blk → Ans) → Ans := fun xs bs K => match xs, bs with
  | [.v (.c (.d (.int .i64 u))), .v (.c (.d (.int .i64 n)))], [] => bif turnOn u n then K (rSpan (turnS u n)) [] else none
  | _, _ => none
def T_sine_turned : Nat → List AV → List Blk → (AV → List Blk → Ans) → Ans := upd T_sine_rising 108 s_sine_turned
theorem g_sine_turned : GOK Tryz.prog GT gbT T_sine_turned XT := by
  refine GOK.upd g_sine_rising (fun args w => Tryz.call108 args w) fun xs bs K r h => ?_
  unfold s_sine_turned at h
  split at h
  · simp only [cond_eq_ite] at h
    split at h
    · exact ⟨_, _, c_sine_turned _ _ ‹_›, h⟩
    · cases h
  · cases h
theorem w_sine_Cos (k n : Int) (K : AV → List Blk → Ans) : evFn Tryz.prog GT EQT T_sine_turned XT noL 60 92 [.v (.c (.d (.int .i64 k))), .v (.c (.d (.int .i64 n)))] [] (fun v M => K v (M.take ([] : List Blk).length)) = cosAns K k n := by
  kernel_rfl
theorem c_sine_Cos (k n : Int) : CallsA Tryz.prog GT gbT 92 [.v (.c (.d (.int .i64 k))), .v (.c (.d (.int .i64 n)))] [] (rSpanE (cosS k n)) [] := by
  refine CallsA.ofOk fun hok => ?_
  have hw := w_sine_Cos k n (fun v M => some (Res.fin v M))
  refine CallsA.ofEv (Γ := T_sine_turned) (X := XT) (Λ := noL) (EQ := EQT) (n := 60) g_sine_turned hEQT hmT (fun _ _ _ _ => noL_ok _) (hw.trans ?_)
  have h_k := inR_i64 (hok (.int .i64 k) (by simp [datasL, datas]))
  have h_n := inR_i64 (hok (.int .i64 n) (by simp [datasL, datas]))
  clear hok hw
  exact cosAns_ok (K := fun v M => some (Res.fin v M))
def s_sine_Cos : List AV → List Blk → (AV → List Blk → Ans) → Ans := fun xs bs K => match xs, bs with
  | [.v (.c (.d (.int .i64 k))), .v (.c (.d (.int .i64 n)))], [] => K (rSpanE (cosS k n)) []
  | _, _ => none
def T_sine_Cos : Nat → List AV → List Blk → (AV → List Blk → Ans) → Ans := upd T_sine_turned 92 s_sine_Cos
theorem g_sine_Cos : GOK Tryz.prog GT gbT T_sine_Cos XT := by
  refine GOK.upd g_sine_turned (fun args w => Tryz.call92 args w) fun xs bs K r h => ?_
  unfold s_sine_Cos at h
  split at h
  · exact ⟨_, _, c_sine_Cos _ _, h⟩
  · cases h
theorem w_sine_Sin (k n : Int) (K : AV → List Blk → Ans) : evFn Tryz.prog GT EQT T_sine_Cos XT noL 60 91 [.v (.c (.d (.int .i64 k))), .v (.c (.d (.int .i64 n)))] [] (fun v M => K v (M.take ([] : List Blk).length)) = sinAns K k n := by
  kernel_rfl
theorem c_sine_Sin (k n : Int) : CallsA Tryz.prog GT gbT 91 [.v (.c (.d (.int .i64 k))), .v (.c (.d (.int .i64 n)))] [] (rSpanE (sinS k n)) [] := by
  refine CallsA.ofOk fun hok => ?_
  have hw := w_sine_Sin k n (fun v M => some (Res.fin v M))
  refine CallsA.ofEv (Γ := T_sine_Cos) (X := XT) (Λ := noL) (EQ := EQT) (n := 60) g_sine_Cos hEQT hmT (fun _ _ _ _ => noL_ok _) (hw.trans ?_)
  have h_k := inR_i64 (hok (.int .i64 k) (by simp [datasL, datas]))
  have h_n := inR_i64 (hok (.int .i64 n) (by simp [datasL, datas]))
  clear hok hw
  exact sinAns_ok (K := fun v M => some (Res.fin v M))
def s_sine_Sin : List AV → List Blk → (AV → List Blk → Ans) → Ans := fun xs bs K => match xs, bs with
  | [.v (.c (.d (.int .i64 k))), .v (.c (.d (.int .i64 n)))], [] => K (rSpanE (sinS k n)) []
  | _, _ => none
def T_sine_Sin : Nat → List AV → List Blk → (AV → List Blk → Ans) → Ans := upd T_sine_Cos 91 s_sine_Sin
theorem g_sine_Sin : GOK Tryz.prog GT gbT T_sine_Sin XT := by
  refine GOK.upd g_sine_Cos (fun args w => Tryz.call91 args w) fun xs bs K r h => ?_
  unfold s_sine_Sin at h
  split at h
  · exact ⟨_, _, c_sine_Sin _ _, h⟩
  · cases h
theorem w_frac_size (n : Int) (K : AV → List Blk → Ans) : evFn Tryz.prog GT EQT T_sine_Sin XT noL 60 47 [.v (.c (.d (.int .i64 n)))] [] (fun v M => K v (M.take ([] : List Blk).length)) = K (rU (sizeRaw n)) [] := by
  simp only [sizeRaw, pullK K]
  kernel_rfl
theorem c_frac_size (n : Int) : CallsA Tryz.prog GT gbT 47 [.v (.c (.d (.int .i64 n)))] [] (rU (absI n)) [] := by
  refine CallsA.ofOk fun hok => ?_
  have hw := w_frac_size n (fun v M => some (Res.fin v M))
  refine CallsA.ofEv (Γ := T_sine_Sin) (X := XT) (Λ := noL) (EQ := EQT) (n := 60) g_sine_Sin hEQT hmT (fun _ _ _ _ => noL_ok _) (hw.trans ?_)
  have h_n := inR_i64 (hok (.int .i64 n) (by simp [datasL, datas]))
  clear hok hw
  refine congrArg (fun v => some (Res.fin v [])) ?_
  rw [sizeRaw_ok h_n]
def s_frac_size : List AV → List Blk → (AV → List Blk → Ans) → Ans := fun xs bs K => match xs, bs with
  | [.v (.c (.d (.int .i64 n)))], [] => K (rU (absI n)) []
  | _, _ => none
def T_frac_size : Nat → List AV → List Blk → (AV → List Blk → Ans) → Ans := upd T_sine_Sin 47 s_frac_size
theorem g_frac_size : GOK Tryz.prog GT gbT T_frac_size XT := by
  refine GOK.upd g_sine_Sin (fun args w => Tryz.call47 args w) fun xs bs K r h => ?_
  unfold s_frac_size at h
  split at h
  · exact ⟨_, _, c_frac_size _, h⟩
  · cases h
theorem w_Q1_abs (n : Int) (K : AV → List Blk → Ans) : evFn Tryz.prog GT EQT T_frac_size XT noL 60 43 [.v (.c (.d (.int .i64 n)))] [] (fun v M => K v (M.take ([] : List Blk).length)) = K (rU (absRaw n)) [] := by
  simp only [absRaw, pullK K]
  kernel_rfl
theorem c_Q1_abs (n : Int) : CallsA Tryz.prog GT gbT 43 [.v (.c (.d (.int .i64 n)))] [] (rU (absI n)) [] := by
  refine CallsA.ofOk fun hok => ?_
  have hw := w_Q1_abs n (fun v M => some (Res.fin v M))
  refine CallsA.ofEv (Γ := T_frac_size) (X := XT) (Λ := noL) (EQ := EQT) (n := 60) g_frac_size hEQT hmT (fun _ _ _ _ => noL_ok _) (hw.trans ?_)
  have h_n := inR_i64 (hok (.int .i64 n) (by simp [datasL, datas]))
  clear hok hw
  refine congrArg (fun v => some (Res.fin v [])) ?_
  rw [absRaw_ok h_n]
def s_Q1_abs : List AV → List Blk → (AV → List Blk → Ans) → Ans := fun xs bs K => match xs, bs with
  | [.v (.c (.d (.int .i64 n)))], [] => K (rU (absI n)) []
  | _, _ => none
def T_Q1_abs : Nat → List AV → List Blk → (AV → List Blk → Ans) → Ans := upd T_frac_size 43 s_Q1_abs
theorem g_Q1_abs : GOK Tryz.prog GT gbT T_Q1_abs XT := by
  refine GOK.upd g_frac_size (fun args w => Tryz.call43 args w) fun xs bs K r h => ?_
  unfold s_Q1_abs at h
  split at h
  · exact ⟨_, _, c_Q1_abs _, h⟩
  · cases h
theorem w_frac_Check (num den : Int) (K : AV → List Blk → Ans) : evFn Tryz.prog GT EQT T_Q1_abs XT noL 60 31 [.v (.agg [.int .i64 num, .int .i64 den])] [] (fun v M => K v (M.take ([] : List Blk).length)) = K (rI (checkRaw num den (absI den))) [] := by
  simp only [checkRaw, pullK K]
  kernel_rfl
theorem c_frac_Check (num den : Int) : CallsA Tryz.prog GT gbT 31 [.v (.agg [.int .i64 num, .int .i64 den])] [] (rI (checkF ⟨num, den⟩)) [] := by
  refine CallsA.ofOk fun hok => ?_
  have hw := w_frac_Check num den (fun v M => some (Res.fin v M))
  refine CallsA.ofEv (Γ := T_Q1_abs) (X := XT) (Λ := noL) (EQ := EQT) (n := 60) g_Q1_abs hEQT hmT (fun _ _ _ _ => noL_ok _) (hw.trans ?_)
  have h_num := inR_i64 (hok (.int .i64 num) (by simp [datasL, datas]))
  have h_den := inR_i64 (hok (.int .i64 den) (by simp [datasL, datas]))
  clear hok hw
  refine congrArg (fun v => some (Res.fin v [])) ?_
  rw [checkRaw_abs]
def s_frac_Check : List AV → List Blk → (AV → List Blk → Ans) → Ans := fun xs bs K => match xs, bs with
  | [.v (.agg [.int .i64 num, .int .i64 den])], [] => K (rI (checkF ⟨num, den⟩)) []
  | _, _ => none
def T_frac_Check : Nat → List AV → List Blk → (AV → List Blk → Ans) → Ans := upd T_Q1_abs 31 s_frac_Check
theorem g_frac_Check : GOK Tryz.prog GT gbT T_frac_Check XT := by
  refine GOK.upd g_Q1_abs (fun args w => Tryz.call31 args w) fun xs bs K r h => ?_
  unfold s_frac_Check at h
  split at h
  · exact ⟨_, _, c_frac_Check _ _, h⟩
  · cases h
theorem w_Q1_Check (num den : Int) (K : AV → List Blk → Ans) : evFn Tryz.prog GT EQT T_frac_Check XT noL 60 26 [.v (.agg [.int .i64 num, .int .i64 den])] [] (fun v M => K v (M.take ([] : List Blk).length)) = K (rI (checkRaw num den (wu64 den))) [] := by
  simp only [checkRaw, pullK K]
  kernel_rfl
theorem c_Q1_Check (num den : Int) : CallsA Tryz.prog GT gbT 26 [.v (.agg [.int .i64 num, .int .i64 den])] [] (rI (checkF ⟨num, den⟩)) [] := by
  refine CallsA.ofOk fun hok => ?_
  have hw := w_Q1_Check num den (fun v M => some (Res.fin v M))
  refine CallsA.ofEv (Γ := T_frac_Check) (X := XT) (Λ := noL) (EQ := EQT) (n := 60) g_frac_Check hEQT hmT (fun _ _ _ _ => noL_ok _) (hw.trans ?_)
  have h_num := inR_i64 (hok (.int .i64 num) (by simp [datasL, datas]))
  have h_den := inR_i64 (hok (.int .i64 den) (by simp [datasL, datas]))
  clear hok hw
  refine congrArg (fun v => some (Res.fin v [])) ?_
  rw [checkRaw_wu num den h_den.2]
def s_Q1_Check : List AV → List Blk → (AV → List Blk → Ans) → Ans := fun xs bs K => match xs, bs with
  | [.v (.agg [.int .i64 num, .int .i64 den])], [] => K (rI (checkF ⟨num, den⟩)) []
  | _, _ => none
def T_Q1_Check : Nat → List AV → List Blk → (AV → List Blk → Ans) → Ans := upd T_frac_Check 26 s_Q1_Check
theorem g_Q1_Check : GOK Tryz.prog GT gbT T_Q1_Check XT := by
  refine GOK.upd g_frac_Check (fun args w => Tryz.call26 args w) fun xs bs K r h => ?_
  unfold s_Q1_Check at h
  split at h
  · exact ⟨_, _, c_Q1_Check _ _, h⟩
  · cases h
theorem w_Q1_big (n : Int) (K : AV → List Blk → Ans) : evFn Tryz.prog GT EQT T_Q1_Check XT noL 60 109 [.v (.c (.d (.int .u64 n)))] [] (fun v M => K v (M.take ([] : List Blk).length)) = K (rBig (bigRaw n)) [] := by
  kernel_rfl
theorem c_Q1_big (n : Int) : CallsA Tryz.prog GT gbT 109 [.v (.c (.d (.int .u64 n)))] [] (rBig (bigOf n)) [] := by
  refine CallsA.ofOk fun hok => ?_
  have hw := w_Q1_big n (fun v M => some (Res.fin v M))
  refine CallsA.ofEv (Γ := T_Q1_Check) (X := XT) (Λ := noL) (EQ := EQT) (n := 60) g_Q1_Check hEQT hmT (fun _ _ _ _ => noL_ok _) (hw.trans ?_)
  have h_n := inR_u64 (hok (.int .u64 n) (by simp [datasL, datas]))
  clear hok hw
  refine congrArg (fun v => some (Res.fin v [])) ?_
  rw [bigRaw_ok h_n]
def s_Q1_big : List AV → List Blk → (AV → List Blk → Ans) → Ans := fun xs bs K => match xs, bs with
  | [.v (.c (.d (.int .u64 n)))], [] => K (rBig (bigOf n)) []
  | _, _ => none
def T_Q1_big : Nat → List AV → List Blk → (AV → List Blk → Ans) → Ans := upd T_Q1_Check 109 s_Q1_big
theorem g_Q1_big : GOK Tryz.prog GT gbT T_Q1_big XT := by
  refine GOK.upd g_Q1_Check (fun args w => Tryz.call109 args w) fun xs bs K r h => ?_
  unfold s_Q1_big at h
  split at h
  · exact ⟨_, _, c_Q1_big _, h⟩
  · cases h
theorem w_Q1_Product (x y : Int) (K : AV → List Blk → Ans) : evFn Tryz.prog GT EQT T_Q1_big XT noL 60 95 [.v (.c (.d (.int .u64 x))), .v (.c (.d (.int .u64 y)))] [] (fun v M => K v (M.take ([] : List Blk).length)) = K (rBig (prodRaw (bigOf x) (bigOf y))) [] := by
  kernel_rfl
theorem c_Q1_Product (x y : Int) : CallsA Tryz.prog GT gbT 95 [.v (.c (.d (.int .u64 x))), .v (.c (.d (.int .u64 y)))] [] (rBig (bigOf (x * y))) [] := by
  refine CallsA.ofOk fun hok => ?_
  have hw := w_Q1_Product x y (fun v M => some (Res.fin v M))
  refine CallsA.ofEv (Γ := T_Q1_big) (X := XT) (Λ := noL) (EQ := EQT) (n := 60) g_Q1_big hEQT hmT (fun _ _ _ _ => noL_ok _) (hw.trans ?_)
  have h_x := inR_u64 (hok (.int .u64 x) (by simp [datasL, datas]))
  have h_y := inR_u64 (hok (.int .u64 y) (by simp [datasL, datas]))
  clear hok hw
  refine congrArg (fun v => some (Res.fin v [])) ?_
  rw [prodRaw_ok h_x h_y]
def s_Q1_Product : List AV → List Blk → (AV → List Blk → Ans) → Ans := fun xs bs K => match xs, bs with
  | [.v (.c (.d (.int .u64 x))), .v (.c (.d (.int .u64 y)))], [] => K (rBig (bigOf (x * y))) []
  | _, _ => none
def T_Q1_Product : Nat → List AV → List Blk → (AV → List Blk → Ans) → Ans := upd T_Q1_big 95 s_Q1_Product
theorem g_Q1_Product : GOK Tryz.prog GT gbT T_Q1_Product XT := by
  refine GOK.upd g_Q1_big (fun args w => Tryz.call95 args w) fun xs bs K r h => ?_
  unfold s_Q1_Product at h
  split at h
  · exact ⟨_, _, c_Q1_Product _ _, h⟩
  · cases h
end Go.Ev

namespace Go.Ev
open Go Go.Proofs
theorem w_Q1_below (a b c d e f g h : Int) (K : AV → List Blk → Ans) : evFn Tryz.prog GT EQT T_Q1_Product XT noL 80 96 [.v (.agg [.int .u64 a, .int .u64 b, .int .u64 c, .int .u64 d]), .v (.agg [.int .u64 e, .int .u64 f, .int .u64 g, .int .u64 h])] [] (fun v M => K v (M.take ([] : List Blk).length)) = K (rB (belowRaw ⟨a, b, c, d⟩ ⟨e, f, g, h⟩)) [] := by
  simp only [belowRaw, pullK K]
  kernel_rfl
theorem c_Q1_below (a b c d e f g h : Int) : CallsA Tryz.prog GT gbT 96 [.v (.agg [.int .u64 a, .int .u64 b, .int .u64 c, .int .u64 d]), .v (.agg [.int .u64 e, .int .u64 f, .int .u64 g, .int .u64 h])] [] (rB (belowRaw ⟨a, b, c, d⟩ ⟨e, f, g, h⟩)) [] := by
  refine CallsA.ofOk fun hok => ?_
  have hw := w_Q1_below a b c d e f g h (fun v M => some (Res.fin v M))
  refine CallsA.ofEv (Γ := T_Q1_Product) (X := XT) (Λ := noL) (EQ := EQT) (n := 80) g_Q1_Product hEQT hmT (fun _ _ _ _ => noL_ok _) (hw.trans ?_)
  rfl
def s_Q1_below : List AV → List Blk → (AV → List Blk → Ans) → Ans := fun xs bs K => match xs, bs with
  | [.v (.agg [.int .u64 a, .int .u64 b, .int .u64 c, .int .u64 d]), .v (.agg [.int .u64 e, .int .u64 f, .int .u64 g, .int .u64 h])], [] => K (rB (belowRaw ⟨a, b, c, d⟩ ⟨e, f, g, h⟩)) []
  | _, _ => none
def T_Q1_below : Nat → List AV → List Blk → (AV → List Blk → Ans) → Ans := upd T_Q1_Product 96 s_Q1_below
theorem g_Q1_below : GOK Tryz.prog GT gbT T_Q1_below XT := by
  refine GOK.upd g_Q1_Product (fun args w => Tryz.call96 args w) fun xs bs K r h => ?_
  unfold s_Q1_below at h
  split at h
  · exact ⟨_, _, c_Q1_below _ _ _ _ _ _ _ _, h⟩
  · cases h
theorem w_Q1_Small (a b c d : Int) (K : AV → List Blk → Ans) : evFn Tryz.prog GT EQT T_Q1_below XT noL 60 114 [.v (.agg [.int .u64 a, .int .u64 b, .int .u64 c, .int .u64 d])] [] (fun v M => K v (M.take ([] : List Blk).length)) = bif c == 0 then (bif d == 0 then K (rIB ((smallRaw ⟨a, b, c, d⟩).1, decide (borU (shlU b 32) a ≤ 1000000000000000000))) [] else K (rIB ((smallRaw ⟨a, b, c, d⟩).1, false)) []) else K (rIB ((smallRaw ⟨a, b, c, d⟩).1, false)) [] := by
  kernel_rfl
theorem c_Q1_Small (a b c d : Int) : CallsA Tryz.prog GT gbT 114 [.v (.agg [.int .u64 a, .int .u64 b, .int .u64 c, .int .u64 d])] [] (rIB (smallRaw ⟨a, b, c, d⟩)) [] := by
  refine CallsA.ofOk fun hok => ?_
  have hw := w_Q1_Small a b c d (fun v M => some (Res.fin v M))
  refine CallsA.ofEv (Γ := T_Q1_below) (X := XT) (Λ := noL) (EQ := EQT) (n := 60) g_Q1_below hEQT hmT (fun _ _ _ _ => noL_ok _) (hw.trans ?_)
  have h_a := inR_u64 (hok (.int .u64 a) (by simp [datasL, datas]))
  have h_b := inR_u64 (hok (.int .u64 b) (by simp [datasL, datas]))
  have h_c := inR_u64 (hok (.int .u64 c) (by simp [datasL, datas]))
  have h_d := inR_u64 (hok (.int .u64 d) (by simp [datasL, datas]))
  clear hok hw
  unfold smallRaw
  simp only
  cases c == 0 <;> cases d == 0 <;> rfl
def s_Q1_Small : List AV → List Blk → (AV → List Blk → Ans) → Ans := fun xs bs K => match xs, bs with
  | [.v (.agg [.int .u64 a, .int .u64 b, .int .u64 c, .int .u64 d])], [] => K (rIB (smallRaw ⟨a, b, c, d⟩)) []
  | _, _ => none
def T_Q1_Small : Nat → List AV → List Blk → (AV → List Blk → Ans) → Ans := upd T_Q1_below 114 s_Q1_Small
theorem g_Q1_Small : GOK Tryz.prog GT gbT T_Q1_Small XT := by
  refine GOK.upd g_Q1_below (fun args w => Tryz.call114 args w) fun xs bs K r h => ?_
  unfold s_Q1_Small at h
  split at h
  · exact ⟨_, _, c_Q1_Small _ _ _ _, h⟩
  · cases h
abbrev sh_Over : List (Nat × Sh) := [(1, .int .u64), (2, .ptr 0 0), (4, .ptr 1 0), (6, .ptr 2 0), (7, .int .u64), (8, .int .i64), (9, .int .i64)]
abbrev ms_Over : List (Nat × List IntKind) := [(160, [.u64, .u64, .u64, .u64]), (160, [.u64, .u64, .u64, .u64]), (160, [.u64, .u64, .u64, .u64])]
abbrev T_OverIn (n i r b : Int) : TS := maskT (mkS sh_Over [n, r, i, b]) 46
abbrev T_OverOut (n i r : Int) : TS := maskT (mkS (sh_Over.take 6) [n, r, i]) 46
abbrev M_Over (l : List Int) : List Blk := mkM ms_Over l
def f_Over (xs ys : List Int) : LT := match xs, ys with
  | [n, r, i, b], [a0, a1, a2, a3, z0, z1, z2, z3, o0, o1, o2, o3] =>
    bif b == 31 then bif i == 3 && o3 == 0 then .br (digOn n r a3) (.st (.exit 2) (T_OverOut n 3 (dR n r a3)) (M_Over [a0, a1, a2, a3, z0, z1, z2, z3, o0, o1, o2, dQ n r a3]) 3) .no else bif i == 2 && o2 == 0 then .br (digOn n r a2) (.st (.exit 2) (T_OverOut n 2 (dR n r a2)) (M_Over [a0, a1, a2, a3, z0, z1, z2, z3, o0, o1, dQ n r a2, o3]) 3) .no else bif i == 1 && o1 == 0 then .br (digOn n r a1) (.st (.exit 2) (T_OverOut n 1 (dR n r a1)) (M_Over [a0, a1, a2, a3, z0, z1, z2, z3, o0, dQ n r a1, o2, o3]) 3) .no else bif i == 0 && o0 == 0 then .br (digOn n r a0) (.st (.exit 2) (T_OverOut n 0 (dR n r a0)) (M_Over [a0, a1, a2, a3, z0, z1, z2, z3, dQ n r a0, o1, o2, o3]) 3) .no else .no else .no
  | _, _ => .no
def L_Over := LamS 6 46 3 sh_Over ms_Over f_Over
theorem b_Over0 (n r b a0 a1 a2 a3 z0 z1 z2 z3 o0 o1 o2 o3 : Int) : evCode Tryz.prog GT EQT T_Q1_Small XT noL 40 (loopB Tryz.prog 113 1) (T_OverIn n 0 r b) (M_Over [a0, a1, a2, a3, z0, z1, z2, z3, o0, o1, o2, o3]) 3 (fun x T M N => some (.st x (forget [1, 2, 4, 6, 7, 8, 9] T) M N)) =
    bif decide (0 ≤ b) then (bif decide (b < 0) then none else bif decide (n ≤ bitIn r a0 b) then (bif decide (b < 0) then none else some (.st .normal (T_OverIn n 0 (wu64 (bitIn r a0 b - n)) (w64 (b - 1))) (M_Over [a0, a1, a2, a3, z0, z1, z2, z3, borU o0 (shlU 1 b), o1, o2, o3]) 3)) else some (.st .normal (T_OverIn n 0 (bitIn r a0 b) (w64 (b - 1))) (M_Over [a0, a1, a2, a3, z0, z1, z2, z3, o0, o1, o2, o3]) 3))
    else some (.st (.exit 2) (T_OverIn n 0 r b) (M_Over [a0, a1, a2, a3, z0, z1, z2, z3, o0, o1, o2, o3]) 3) := by kernel_rfl
theorem b_Over1 (n r b a0 a1 a2 a3 z0 z1 z2 z3 o0 o1 o2 o3 : Int) : evCode Tryz.prog GT EQT T_Q1_Small XT noL 40 (loopB Tryz.prog 113 1) (T_OverIn n 1 r b) (M_Over [a0, a1, a2, a3, z0, z1, z2, z3, o0, o1, o2, o3]) 3 (fun x T M N => some (.st x (forget [1, 2, 4, 6, 7, 8, 9] T) M N)) =
    bif decide (0 ≤ b) then (bif decide (b < 0) then none else bif decide (n ≤ bitIn r a1 b) then (bif decide (b < 0) then none else some (.st .normal (T_OverIn n 1 (wu64 (bitIn r a1 b - n)) (w64 (b - 1))) (M_Over [a0, a1, a2, a3, z0, z1, z2, z3, o0, borU o1 (shlU 1 b), o2, o3]) 3)) else some (.st .normal (T_OverIn n 1 (bitIn r a1 b) (w64 (b - 1))) (M_Over [a0, a1, a2, a3, z0, z1, z2, z3, o0, o1, o2, o3]) 3))
    else some (.st (.exit 2) (T_OverIn n 1 r b) (M_Over [a0, a1, a2, a3, z0, z1, z2, z3, o0, o1, o2, o3]) 3) := by kernel_rfl
theorem b_Over2 (n r b a0 a1 a2 a3 z0 z1 z2 z3 o0 o1 o2 o3 : Int) : evCode Tryz.prog GT EQT T_Q1_Small XT noL 40 (loopB Tryz.prog 113 1) (T_OverIn n 2 r b) (M_Over [a0, a1, a2, a3, z0, z1, z2, z3, o0, o1, o2, o3]) 3 (fun x T M N => some (.st x (forget [1, 2, 4, 6, 7, 8, 9] T) M N)) =
    bif decide (0 ≤ b) then (bif decide (b < 0) then none else bif decide (n ≤ bitIn r a2 b) then (bif decide (b < 0) then none else some (.st .normal (T_OverIn n 2 (wu64 (bitIn r a2 b - n)) (w64 (b - 1))) (M_Over [a0, a1, a2, a3, z0, z1, z2, z3, o0, o1, borU o2 (shlU 1 b), o3]) 3)) else some (.st .normal (T_OverIn n 2 (bitIn r a2 b) (w64 (b - 1))) (M_Over [a0, a1, a2, a3, z0, z1, z2, z3, o0, o1, o2, o3]) 3))
    else some (.st (.exit 2) (T_OverIn n 2 r b) (M_Over [a0, a1, a2, a3, z0, z1, z2, z3, o0, o1, o2, o3]) 3) := by kernel_rfl
theorem b_Over3 (n r b a0 a1 a2 a3 z0 z1 z2 z3 o0 o1 o2 o3 : Int) : evCode Tryz.prog GT EQT T_Q1_Small XT noL 40 (loopB Tryz.prog 113 1) (T_OverIn n 3 r b) (M_Over [a0, a1, a2, a3, z0, z1, z2, z3, o0, o1, o2, o3]) 3 (fun x T M N => some (.st x (forget [1, 2, 4, 6, 7, 8, 9] T) M N)) =
    bif decide (0 ≤ b) then (bif decide (b < 0) then none else bif decide (n ≤ bitIn r a3 b) then (bif decide (b < 0) then none else some (.st .normal (T_OverIn n 3 (wu64 (bitIn r a3 b - n)) (w64 (b - 1))) (M_Over [a0, a1, a2, a3, z0, z1, z2, z3, o0, o1, o2, borU o3 (shlU 1 b)]) 3)) else some (.st .normal (T_OverIn n 3 (bitIn r a3 b) (w64 (b - 1))) (M_Over [a0, a1, a2, a3, z0, z1, z2, z3, o0, o1, o2, o3]) 3))
    else some (.st (.exit 2) (T_OverIn n 3 r b) (M_Over [a0, a1, a2, a3, z0, z1, z2, z3, o0, o1, o2, o3]) 3) := by kernel_rfl
theorem l_Over (n i r b : Int) : Less (T_OverOut n i r) (T_OverIn n i r b) := less_of (by kernel_rfl) (readS_gets (by kernel_rfl))
theorem r_Over0 (n r a0 a1 a2 a3 z0 z1 z2 z3 o1 o2 o3 : Int) (h : digOn n r a0 = true) : ∃ k, RoundsOK Tryz.prog GT gbT (loopB Tryz.prog 113 1) k (T_OverIn n 0 r 31) (M_Over [a0, a1, a2, a3, z0, z1, z2, z3, 0, o1, o2, o3]) 3 (.exit 2) (T_OverOut n 0 (dR n r a0)) (M_Over [a0, a1, a2, a3, z0, z1, z2, z3, dQ n r a0, o1, o2, o3]) 3 := by
  simp only [digOn, Bool.and_eq_true, decide_eq_true_eq] at h
  obtain ⟨h1, h2, h3, h4, h5, h6⟩ := h
  obtain ⟨n', rfl⟩ := Int.eq_ofNat_of_zero_le (Int.le_of_lt h1)
  obtain ⟨r', rfl⟩ := Int.eq_ofNat_of_zero_le h3
  obtain ⟨a', rfl⟩ := Int.eq_ofNat_of_zero_le h5
  have hh := over_rounds (c := loopB Tryz.prog 113 1) (e := 2) g_Q1_Small hEQT hmT (fun r b => T_OverIn n' 0 r b) (fun r => T_OverOut n' 0 r) (fun o => M_Over [(a' : Int), a1, a2, a3, z0, z1, z2, z3, o, o1, o2, o3]) a' n' (by omega) (by omega) (by omega) (fun r b => l_Over n' 0 r b) (fun r b o => b_Over0 n' r b (a' : Int) a1 a2 a3 z0 z1 z2 z3 o o1 o2 o3) 32 r' 0 (by omega) (by omega) (by omega)
  rw [Nat.zero_mul, Nat.zero_add, dR_nat _ _ _ (by omega), dQ_nat _ _ _ (by omega)] at hh
  exact hh
theorem r_Over1 (n r a0 a1 a2 a3 z0 z1 z2 z3 o0 o2 o3 : Int) (h : digOn n r a1 = true) : ∃ k, RoundsOK Tryz.prog GT gbT (loopB Tryz.prog 113 1) k (T_OverIn n 1 r 31) (M_Over [a0, a1, a2, a3, z0, z1, z2, z3, o0, 0, o2, o3]) 3 (.exit 2) (T_OverOut n 1 (dR n r a1)) (M_Over [a0, a1, a2, a3, z0, z1, z2, z3, o0, dQ n r a1, o2, o3]) 3 := by
  simp only [digOn, Bool.and_eq_true, decide_eq_true_eq] at h
  obtain ⟨h1, h2, h3, h4, h5, h6⟩ := h
  obtain ⟨n', rfl⟩ := Int.eq_ofNat_of_zero_le (Int.le_of_lt h1)
  obtain ⟨r', rfl⟩ := Int.eq_ofNat_of_zero_le h3
  obtain ⟨a', rfl⟩ := Int.eq_ofNat_of_zero_le h5
  have hh := over_rounds (c := loopB Tryz.prog 113 1) (e := 2) g_Q1_Small hEQT hmT (fun r b => T_OverIn n' 1 r b) (fun r => T_OverOut n' 1 r) (fun o => M_Over [a0, (a' : Int), a2, a3, z0, z1, z2, z3, o0, o, o2, o3]) a' n' (by omega) (by omega) (by omega) (fun r b => l_Over n' 1 r b) (fun r b o => b_Over1 n' r b a0 (a' : Int) a2 a3 z0 z1 z2 z3 o0 o o2 o3) 32 r' 0 (by omega) (by omega) (by omega)
  rw [Nat.zero_mul, Nat.zero_add, dR_nat _ _ _ (by omega), dQ_nat _ _ _ (by omega)] at hh
  exact hh
theorem r_Over2 (n r a0 a1 a2 a3 z0 z1 z2 z3 o0 o1 o3 : Int) (h : digOn n r a2 = true) : ∃ k, RoundsOK Tryz.prog GT gbT (loopB Tryz.prog 113 1) k (T_OverIn n 2 r 31) (M_Over [a0, a1, a2, a3, z0, z1, z2, z3, o0, o1, 0, o3]) 3 (.exit 2) (T_OverOut n 2 (dR n r a2)) (M_Over [a0, a1, a2, a3, z0, z1, z2, z3, o0, o1, dQ n r a2, o3]) 3 := by
  simp only [digOn, Bool.and_eq_true, decide_eq_true_eq] at h
  obtain ⟨h1, h2, h3, h4, h5, h6⟩ := h
  obtain ⟨n', rfl⟩ := Int.eq_ofNat_of_zero_le (Int.le_of_lt h1)
  obtain ⟨r', rfl⟩ := Int.eq_ofNat_of_zero_le h3
  obtain ⟨a', rfl⟩ := Int.eq_ofNat_of_zero_le h5
  have hh := over_rounds (c := loopB Tryz.prog 113 1) (e := 2) g_Q1_Small hEQT hmT (fun r b => T_OverIn n' 2 r b) (fun r => T_OverOut n' 2 r) (fun o => M_Over [a0, a1, (a' : Int), a3, z0, z1, z2, z3, o0, o1, o, o3]) a' n' (by omega) (by omega) (by omega) (fun r b => l_Over n' 2 r b) (fun r b o => b_Over2 n' r b a0 a1 (a' : Int) a3 z0 z1 z2 z3 o0 o1 o o3) 32 r' 0 (by omega) (by omega) (by omega)
  rw [Nat.zero_mul, Nat.zero_add, dR_nat _ _ _ (by omega), dQ_nat _ _ _ (by omega)] at hh
  exact hh
theorem r_Over3 (n r a0 a1 a2 a3 z0 z1 z2 z3 o0 o1 o2 : Int) (h : digOn n r a3 = true) : ∃ k, RoundsOK Tryz.prog GT gbT (loopB Tryz.prog 113 1) k (T_OverIn n 3 r 31) (M_Over [a0, a1, a2, a3, z0, z1, z2, z3, o0, o1, o2, 0]) 3 (.exit 2) (T_OverOut n 3 (dR n r a3)) (M_Over [a0, a1, a2, a3, z0, z1, z2, z3, o0, o1, o2, dQ n r a3]) 3 := by
  simp only [digOn, Bool.and_eq_true, decide_eq_true_eq] at h
  obtain ⟨h1, h2, h3, h4, h5, h6⟩ := h
  obtain ⟨n', rfl⟩ := Int.eq_ofNat_of_zero_le (Int.le_of_lt h1)
  obtain ⟨r', rfl⟩ := Int.eq_ofNat_of_zero_le h3
  obtain ⟨a', rfl⟩ := Int.eq_ofNat_of_zero_le h5
  have hh := over_rounds (c := loopB Tryz.prog 113 1) (e := 2) g_Q1_Small hEQT hmT (fun r b => T_OverIn n' 3 r b) (fun r => T_OverOut n' 3 r) (fun o => M_Over [a0, a1, a2, (a' : Int), z0, z1, z2, z3, o0, o1, o2, o]) a' n' (by omega) (by omega) (by omega) (fun r b => l_Over n' 3 r b) (fun r b o => b_Over3 n' r b a0 a1 a2 (a' : Int) z0 z1 z2 z3 o0 o1 o2 o) 32 r' 0 (by omega) (by omega) (by omega)
  rw [Nat.zero_mul, Nat.zero_add, dR_nat _ _ _ (by omega), dQ_nat _ _ _ (by omega)] at hh
  exact hh
theorem LL_Over : ∀ fn c, Tryz.prog.funcs[113]? = some fn → fn.body = some c → LOK Tryz.prog GT gbT L_Over (loopsIn c) := by
  refine LOK.ofF fun b hb => ?_
  have e : loopsF Tryz.prog 113 = [loopB Tryz.prog 113 0, loopB Tryz.prog 113 1] := by kernel_rfl
  have k0 : loopKey (loopB Tryz.prog 113 0) = 3 := by kernel_rfl
  have k1 : loopKey (loopB Tryz.prog 113 1) = 6 := by kernel_rfl
  rw [e, List.mem_cons, List.mem_singleton] at hb
  rcases hb with rfl | rfl
  · exact LOKb.lamS_other (by rw [k0]; decide)
  · unfold L_Over
    rw [← k1]
    refine LOKb.lamS fun xs ys x T' M' N' hr => ?_
    unfold f_Over at hr
    split at hr
    · rename_i n r i b a0 a1 a2 a3 z0 z1 z2 z3 o0 o1 o2 o3
      simp only [cond_eq_ite, beq_iff_eq, Bool.and_eq_true] at hr
      split at hr
      · rename_i hb
        subst hb
        split at hr
        · rename_i hi
          obtain ⟨rfl, rfl⟩ := hi
          rcases hr with ⟨hd, rfl, rfl, rfl, rfl⟩ | ⟨_, hf⟩
          · exact ⟨by simp, r_Over3 n r a0 a1 a2 a3 z0 z1 z2 z3 o0 o1 o2 hd⟩
          · exact hf.elim
        split at hr
        · rename_i hi
          obtain ⟨rfl, rfl⟩ := hi
          rcases hr with ⟨hd, rfl, rfl, rfl, rfl⟩ | ⟨_, hf⟩
          · exact ⟨by simp, r_Over2 n r a0 a1 a2 a3 z0 z1 z2 z3 o0 o1 o3 hd⟩
          · exact hf.elim
        split at hr
        · rename_i hi
          obtain ⟨rfl, rfl⟩ := hi
          rcases hr with ⟨hd, rfl, rfl, rfl, rfl⟩ | ⟨_, hf⟩
          · exact ⟨by simp, r_Over1 n r a0 a1 a2 a3 z0 z1 z2 z3 o0 o2 o3 hd⟩
          · exact hf.elim
        split at hr
        · rename_i hi
          obtain ⟨rfl, rfl⟩ := hi
          rcases hr with ⟨hd, rfl, rfl, rfl, rfl⟩ | ⟨_, hf⟩
          · exact ⟨by simp, r_Over0 n r a0 a1 a2 a3 z0 z1 z2 z3 o1 o2 o3 hd⟩
          · exact hf.elim
        exact hr.elim
      · exact hr.elim
    · exact hr.elim
theorem w_Q1_Over (a b c d n : Int) (K : AV → List Blk → Ans) : evFn Tryz.prog GT EQT T_Q1_Small XT L_Over 90 113 [.v (.agg [.int .u64 a, .int .u64 b, .int .u64 c, .int .u64 d]), .v (.c (.d (.int .u64 n)))] [] (fun v M => K v (M.take ([] : List Blk).length)) = overAns K a b c d n := by
  kernel_rfl
theorem c_Q1_Over (a b c d n : Int) (hd : (overOn ⟨a, b, c, d⟩ n) = true) : CallsA Tryz.prog GT gbT 113 [.v (.agg [.int .u64 a, .int .u64 b, .int .u64 c, .int .u64 d]), .v (.c (.d (.int .u64 n)))] [] (rBigU (overI (valOf ⟨a, b, c, d⟩) n)) [] := by
  refine CallsA.ofOk fun hok => ?_
  have hw := w_Q1_Over a b c d n (fun v M => some (Res.fin v M))
  refine CallsA.ofEv (Γ := T_Q1_Small) (X := XT) (Λ := L_Over) (EQ := EQT) (n := 90) g_Q1_Small hEQT hmT (LL_Over) (hw.trans ?_)
  have h_a := inR_u64 (hok (.int .u64 a) (by simp [datasL, datas]))
  have h_b := inR_u64 (hok (.int .u64 b) (by simp [datasL, datas]))
  have h_c := inR_u64 (hok (.int .u64 c) (by simp [datasL, datas]))
  have h_d := inR_u64 (hok (.int .u64 d) (by simp [datasL, datas]))
  have h_n := inR_u64 (hok (.int .u64 n) (by simp [datasL, datas]))
  clear hok hw
  exact overAns_ok (K := fun v M => some (Res.fin v M)) hd
def s_Q1_Over : List AV → List Blk → (AV → List Blk → Ans) → Ans := fun xs bs K => match xs, bs with
  | [.v (.agg [.int .u64 a, .int .u64 b, .int .u64 c, .int .u64 d]), .v (.c (.d (.int .u64 n)))], [] => bif overOn ⟨a, b, c, d⟩ n then K (rBigU (overI (valOf ⟨a, b, c, d⟩) n)) [] else none
  | _, _ => none
def T_Q1_Over : Nat → List AV → List Blk → (AV → List Blk → Ans) → Ans := upd T_Q1_Small 113 s_Q1_Over
theorem g_Q1_Over : GOK Tryz.prog GT gbT T_Q1_Over XT := by
  refine GOK.upd g_Q1_Small (fun args w => Tryz.call113 args w) fun xs bs K r h => ?_
  unfold s_Q1_Over at h
  split at h
  · simp only [cond_eq_ite] at h
    split at h
    · exact ⟨_, _, c_Q1_Over _ _ _ _ _ ‹_›, h⟩
    · cases h
  · cases h
theorem w_Q1_lowest (m : Bool) (a b c d e f g h : Int) (K : AV → List Blk → Ans) : evFn Tryz.prog GT EQT T_Q1_Over XT noL 60 102 [.v (.c (.d (.bool m))), .v (.agg [.int .u64 a, .int .u64 b, .int .u64 c, .int .u64 d]), .v (.agg [.int .u64 e, .int .u64 f, .int .u64 g, .int .u64 h])] [] (fun v M => K v (M.take ([] : List Blk).length)) = K (rFracE (lowestRaw m ⟨a, b, c, d⟩ ⟨e, f, g, h⟩)) [] := by
  simp only [lowestRaw, pullK K]
  kernel_rfl
theorem c_Q1_lowest (m : Bool) (a b c d e f g h : Int) : CallsA Tryz.prog GT gbT 102 [.v (.c (.d (.bool m))), .v (.agg [.int .u64 a, .int .u64 b, .int .u64 c, .int .u64 d]), .v (.agg [.int .u64 e, .int .u64 f, .int .u64 g, .int .u64 h])] [] (rFracE (lowestRaw m ⟨a, b, c, d⟩ ⟨e, f, g, h⟩)) [] := by
  refine CallsA.ofOk fun hok => ?_
  have hw := w_Q1_lowest m a b c d e f g h (fun v M => some (Res.fin v M))
  refine CallsA.ofEv (Γ := T_Q1_Over) (X := XT) (Λ := noL) (EQ := EQT) (n := 60) g_Q1_Over hEQT hmT (fun _ _ _ _ => noL_ok _) (hw.trans ?_)
  rfl
def s_Q1_lowest : List AV → List Blk → (AV → List Blk → Ans) → Ans := fun xs bs K => match xs, bs with
  | [.v (.c (.d (.bool m))), .v (.agg [.int .u64 a, .int .u64 b, .int .u64 c, .int .u64 d]), .v (.agg [.int .u64 e, .int .u64 f, .int .u64 g, .int .u64 h])], [] => K (rFracE (lowestRaw m ⟨a, b, c, d⟩ ⟨e, f, g, h⟩)) []
  | _, _ => none
def T_Q1_lowest : Nat → List AV → List Blk → (AV → List Blk → Ans) → Ans := upd T_Q1_Over 102 s_Q1_lowest
theorem g_Q1_lowest : GOK Tryz.prog GT gbT T_Q1_lowest XT := by
  refine GOK.upd g_Q1_Over (fun args w => Tryz.call102 args w) fun xs bs K r h => ?_
  unfold s_Q1_lowest at h
  split at h
  · exact ⟨_, _, c_Q1_lowest _ _ _ _ _ _ _ _ _, h⟩
  · cases h
theorem w_Q1_Less (a b c d : Int) (K : AV → List Blk → Ans) : evFn Tryz.prog GT EQT T_Q1_lowest XT noL 60 80 [.v (.agg [.int .i64 a, .int .i64 b]), .v (.agg [.int .i64 c, .int .i64 d])] [] (fun v M => K v (M.take ([] : List Blk).length)) = K (rB (lessRaw ⟨a, b⟩ ⟨c, d⟩)) [] := by
  simp only [lessRaw, diffSign, pullK K]
  kernel_rfl
theorem c_Q1_Less (a b c d : Int) : CallsA Tryz.prog GT gbT 80 [.v (.agg [.int .i64 a, .int .i64 b]), .v (.agg [.int .i64 c, .int .i64 d])] [] (rB (lessN ⟨a, b⟩ ⟨c, d⟩)) [] := by
  refine CallsA.ofOk fun hok => ?_
  have hw := w_Q1_Less a b c d (fun v M => some (Res.fin v M))
  refine CallsA.ofEv (Γ := T_Q1_lowest) (X := XT) (Λ := noL) (EQ := EQT) (n := 60) g_Q1_lowest hEQT hmT (fun _ _ _ _ => noL_ok _) (hw.trans ?_)
  have h_a := inR_i64 (hok (.int .i64 a) (by simp [datasL, datas]))
  have h_b := inR_i64 (hok (.int .i64 b) (by simp [datasL, datas]))
  have h_c := inR_i64 (hok (.int .i64 c) (by simp [datasL, datas]))
  have h_d := inR_i64 (hok (.int .i64 d) (by simp [datasL, datas]))
  clear hok hw
  refine congrArg (fun v => some (Res.fin v [])) ?_
  rw [lessRaw_ok]
def s_Q1_Less : List AV → List Blk → (AV → List Blk → Ans) → Ans := fun xs bs K => match xs, bs with
  | [.v (.agg [.int .i64 a, .int .i64 b]), .v (.agg [.int .i64 c, .int .i64 d])], [] => K (rB (lessN ⟨a, b⟩ ⟨c, d⟩)) []
  | _, _ => none
def T_Q1_Less : Nat → List AV → List Blk → (AV → List Blk → Ans) → Ans := upd T_Q1_lowest 80 s_Q1_Less
theorem g_Q1_Less : GOK Tryz.prog GT gbT T_Q1_Less XT := by
  refine GOK.upd g_Q1_lowest (fun args w => Tryz.call80 args w) fun xs bs K r h => ?_
  unfold s_Q1_Less at h
  split at h
  · exact ⟨_, _, c_Q1_Less _ _ _ _, h⟩
  · cases h
theorem w_sine_valid (lo hi : Int) (K : AV → List Blk → Ans) : evFn Tryz.prog GT EQT T_Q1_Less XT noL 60 57 [.v (.agg [.int .i64 lo, .int .i64 hi])] [] (fun v M => K v (M.take ([] : List Blk).length)) = K (rB (spanValid ⟨lo, hi⟩)) [] := by
  simp only [spanValid, pullK K]
  kernel_rfl
theorem c_sine_valid (lo hi : Int) : CallsA Tryz.prog GT gbT 57 [.v (.agg [.int .i64 lo, .int .i64 hi])] [] (rB (spanValid ⟨lo, hi⟩)) [] := by
  refine CallsA.ofOk fun hok => ?_
  have hw := w_sine_valid lo hi (fun v M => some (Res.fin v M))
  refine CallsA.ofEv (Γ := T_Q1_Less) (X := XT) (Λ := noL) (EQ := EQT) (n := 60) g_Q1_Less hEQT hmT (fun _ _ _ _ => noL_ok _) (hw.trans ?_)
  rfl
def s_sine_valid : List AV → List Blk → (AV → List Blk → Ans) → Ans := fun xs bs K => match xs, bs with
  | [.v (.agg [.int .i64 lo, .int .i64 hi])], [] => K (rB (spanValid ⟨lo, hi⟩)) []
  | _, _ => none
def T_sine_valid : Nat → List AV → List Blk → (AV → List Blk → Ans) → Ans := upd T_Q1_Less 57 s_sine_valid
theorem g_sine_valid : GOK Tryz.prog GT gbT T_sine_valid XT := by
  refine GOK.upd g_Q1_Less (fun args w => Tryz.call57 args w) fun xs bs K r h => ?_
  unfold s_sine_valid at h
  split at h
  · exact ⟨_, _, c_sine_valid _ _, h⟩
  · cases h
theorem w_sine_ranged (lo hi : Int) (K : AV → List Blk → Ans) : evFn Tryz.prog GT EQT T_sine_valid XT noL 60 56 [.v (.agg [.int .i64 lo, .int .i64 hi])] [] (fun v M => K v (M.take ([] : List Blk).length)) = K (rSpanE (rangedS ⟨lo, hi⟩)) [] := by
  simp only [rangedS, pullK K]
  kernel_rfl
theorem c_sine_ranged (lo hi : Int) : CallsA Tryz.prog GT gbT 56 [.v (.agg [.int .i64 lo, .int .i64 hi])] [] (rSpanE (rangedS ⟨lo, hi⟩)) [] := by
  refine CallsA.ofOk fun hok => ?_
  have hw := w_sine_ranged lo hi (fun v M => some (Res.fin v M))
  refine CallsA.ofEv (Γ := T_sine_valid) (X := XT) (Λ := noL) (EQ := EQT) (n := 60) g_sine_valid hEQT hmT (fun _ _ _ _ => noL_ok _) (hw.trans ?_)
  rfl
def s_sine_ranged : List AV → List Blk → (AV → List Blk → Ans) → Ans := fun xs bs K => match xs, bs with
  | [.v (.agg [.int .i64 lo, .int .i64 hi])], [] => K (rSpanE (rangedS ⟨lo, hi⟩)) []
  | _, _ => none
def T_sine_ranged : Nat → List AV → List Blk → (AV → List Blk → Ans) → Ans := upd T_sine_valid 56 s_sine_ranged
theorem g_sine_ranged : GOK Tryz.prog GT gbT T_sine_ranged XT := by
  refine GOK.upd g_sine_valid (fun args w => Tryz.call56 args w) fun xs bs K r h => ?_
  unfold s_sine_ranged at h
  split at h
  · exact ⟨_, _, c_sine_ranged _ _, h⟩
  · cases h
theorem w_sine_down (n : Int) (K : AV → List Blk → Ans) : evFn Tryz.prog GT EQT T_sine_ranged XT noL 60 58 [.v (.c (.d (.int .i64 n)))] [] (fun v M => K v (M.take ([] : List Blk).length)) = K (rI (floorRaw n 1000000)) [] := by
  simp only [floorRaw, pullK K]
  kernel_rfl
theorem c_sine_down (n : Int) : CallsA Tryz.prog GT gbT 58 [.v (.c (.d (.int .i64 n)))] [] (rI (n / 1000000)) [] := by
  refine CallsA.ofOk fun hok => ?_
  have hw := w_sine_down n (fun v M => some (Res.fin v M))
  refine CallsA.ofEv (Γ := T_sine_ranged) (X := XT) (Λ := noL) (EQ := EQT) (n := 60) g_sine_ranged hEQT hmT (fun _ _ _ _ => noL_ok _) (hw.trans ?_)
  have h_n := inR_i64 (hok (.int .i64 n) (by simp [datasL, datas]))
  clear hok hw
  refine congrArg (fun v => some (Res.fin v [])) ?_
  rw [floorRaw_ok (by omega) h_n]
def s_sine_down : List AV → List Blk → (AV → List Blk → Ans) → Ans := fun xs bs K => match xs, bs with
  | [.v (.c (.d (.int .i64 n)))], [] => K (rI (n / 1000000)) []
  | _, _ => none
def T_sine_down : Nat → List AV → List Blk → (AV → List Blk → Ans) → Ans := upd T_sine_ranged 58 s_sine_down
theorem g_sine_down : GOK Tryz.prog GT gbT T_sine_down XT := by
  refine GOK.upd g_sine_ranged (fun args w => Tryz.call58 args w) fun xs bs K r h => ?_
  unfold s_sine_down at h
  split at h
  · exact ⟨_, _, c_sine_down _, h⟩
  · cases h
theorem w_sine_Add (a b c d : Int) (K : AV → List Blk → Ans) : evFn Tryz.prog GT EQT T_sine_down XT noL 60 94 [.v (.agg [.int .i64 a, .int .i64 b]), .v (.agg [.int .i64 c, .int .i64 d])] [] (fun v M => K v (M.take ([] : List Blk).length)) = K (rSpanE (addRaw ⟨a, b⟩ ⟨c, d⟩)) [] := by
  simp only [addRaw, pullK K]
  kernel_rfl
theorem c_sine_Add (a b c d : Int) : CallsA Tryz.prog GT gbT 94 [.v (.agg [.int .i64 a, .int .i64 b]), .v (.agg [.int .i64 c, .int .i64 d])] [] (rSpanE (addS ⟨a, b⟩ ⟨c, d⟩)) [] := by
  refine CallsA.ofOk fun hok => ?_
  have hw := w_sine_Add a b c d (fun v M => some (Res.fin v M))
  refine CallsA.ofEv (Γ := T_sine_down) (X := XT) (Λ := noL) (EQ := EQT) (n := 60) g_sine_down hEQT hmT (fun _ _ _ _ => noL_ok _) (hw.trans ?_)
  have h_a := inR_i64 (hok (.int .i64 a) (by simp [datasL, datas]))
  have h_b := inR_i64 (hok (.int .i64 b) (by simp [datasL, datas]))
  have h_c := inR_i64 (hok (.int .i64 c) (by simp [datasL, datas]))
  have h_d := inR_i64 (hok (.int .i64 d) (by simp [datasL, datas]))
  clear hok hw
  refine congrArg (fun v => some (Res.fin v [])) ?_
  rw [addRaw_ok]
def s_sine_Add : List AV → List Blk → (AV → List Blk → Ans) → Ans := fun xs bs K => match xs, bs with
  | [.v (.agg [.int .i64 a, .int .i64 b]), .v (.agg [.int .i64 c, .int .i64 d])], [] => K (rSpanE (addS ⟨a, b⟩ ⟨c, d⟩)) []
  | _, _ => none
def T_sine_Add : Nat → List AV → List Blk → (AV → List Blk → Ans) → Ans := upd T_sine_down 94 s_sine_Add
theorem g_sine_Add : GOK Tryz.prog GT gbT T_sine_Add XT := by
  refine GOK.upd g_sine_down (fun args w => Tryz.call94 args w) fun xs bs K r h => ?_
  unfold s_sine_Add at h
  split at h
  · exact ⟨_, _, c_sine_Add _ _ _ _, h⟩
  · cases h
theorem w_sine_Mul (a b c d : Int) (K : AV → List Blk → Ans) : evFn Tryz.prog GT EQT T_sine_Add XT noL 60 36 [.v (.agg [.int .i64 a, .int .i64 b]), .v (.agg [.int .i64 c, .int .i64 d])] [] (fun v M => K v (M.take ([] : List Blk).length)) = K (rSpanE (mulRaw' ⟨a, b⟩ ⟨c, d⟩)) [] := by
  simp only [mulRaw', pullK K]
  kernel_rfl
theorem c_sine_Mul (a b c d : Int) : CallsA Tryz.prog GT gbT 36 [.v (.agg [.int .i64 a, .int .i64 b]), .v (.agg [.int .i64 c, .int .i64 d])] [] (rSpanE (mulS ⟨a, b⟩ ⟨c, d⟩)) [] := by
  refine CallsA.ofOk fun hok => ?_
  have hw := w_sine_Mul a b c d (fun v M => some (Res.fin v M))
  refine CallsA.ofEv (Γ := T_sine_Add) (X := XT) (Λ := noL) (EQ := EQT) (n := 60) g_sine_Add hEQT hmT (fun _ _ _ _ => noL_ok _) (hw.trans ?_)
  have h_a := inR_i64 (hok (.int .i64 a) (by simp [datasL, datas]))
  have h_b := inR_i64 (hok (.int .i64 b) (by simp [datasL, datas]))
  have h_c := inR_i64 (hok (.int .i64 c) (by simp [datasL, datas]))
  have h_d := inR_i64 (hok (.int .i64 d) (by simp [datasL, datas]))
  clear hok hw
  refine congrArg (fun v => some (Res.fin v [])) ?_
  rw [mulRaw'_ok]
def s_sine_Mul : List AV → List Blk → (AV → List Blk → Ans) → Ans := fun xs bs K => match xs, bs with
  | [.v (.agg [.int .i64 a, .int .i64 b]), .v (.agg [.int .i64 c, .int .i64 d])], [] => K (rSpanE (mulS ⟨a, b⟩ ⟨c, d⟩)) []
  | _, _ => none
def T_sine_Mul : Nat → List AV → List Blk → (AV → List Blk → Ans) → Ans := upd T_sine_Add 36 s_sine_Mul
theorem g_sine_Mul : GOK Tryz.prog GT gbT T_sine_Mul XT := by
  refine GOK.upd g_sine_Add (fun args w => Tryz.call36 args w) fun xs bs K r h => ?_
  unfold s_sine_Mul at h
  split at h
  · exact ⟨_, _, c_sine_Mul _ _ _ _, h⟩
  · cases h
theorem w_sine_around (num den : Int) (K : AV → List Blk → Ans) : evFn Tryz.prog GT EQT T_sine_Mul XT noL 60 55 [.v (.agg [.int .i64 num, .int .i64 den])] [] (fun v M => K v (M.take ([] : List Blk).length)) = bif decide (num < 0) then aroundAns K num den (w64 (0 - num)) else aroundAns K num den num := by
  simp only [aroundAns, aroundTail, pullK K]
  kernel_rfl
theorem c_sine_around (num den : Int) (hd : (fracOkB ⟨num, den⟩) = true) : CallsA Tryz.prog GT gbT 55 [.v (.agg [.int .i64 num, .int .i64 den])] [] (rSpanB (aroundB ⟨num, den⟩)) [] := by
  refine CallsA.ofOk fun hok => ?_
  have hw := w_sine_around num den (fun v M => some (Res.fin v M))
  refine CallsA.ofEv (Γ := T_sine_Mul) (X := XT) (Λ := noL) (EQ := EQT) (n := 60) g_sine_Mul hEQT hmT (fun _ _ _ _ => noL_ok _) (hw.trans ?_)
  have h_num := inR_i64 (hok (.int .i64 num) (by simp [datasL, datas]))
  have h_den := inR_i64 (hok (.int .i64 den) (by simp [datasL, datas]))
  clear hok hw
  have hk := fracOkB_iff.1 hd
  have h1 := hk.numlo
  have h2 := hk.numhi
  simp only at h1 h2
  by_cases hn : num < 0
  · rw [decide_eq_true hn, cond_true, w64_id (by omega)]
    exact aroundAns_ok (K := fun v M => some (Res.fin v M)) hk (by rw [absI_of_neg hn]; omega)
  · rw [decide_eq_false hn, cond_false]
    exact aroundAns_ok (K := fun v M => some (Res.fin v M)) hk (absI_of_nonneg (by omega)).symm
def s_sine_around : List AV → List Blk → (AV → List Blk → Ans) → Ans := fun xs bs K => match xs, bs with
  | [.v (.agg [.int .i64 num, .int .i64 den])], [] => bif fracOkB ⟨num, den⟩ then K (rSpanB (aroundB ⟨num, den⟩)) [] else none
  | _, _ => none
def T_sine_around : Nat → List AV → List Blk → (AV → List Blk → Ans) → Ans := upd T_sine_Mul 55 s_sine_around
theorem g_sine_around : GOK Tryz.prog GT gbT T_sine_around XT := by
  refine GOK.upd g_sine_Mul (fun args w => Tryz.call55 args w) fun xs bs K r h => ?_
  unfold s_sine_around at h
  split at h
  · simp only [cond_eq_ite] at h
    split at h
    · exact ⟨_, _, c_sine_around _ _ ‹_›, h⟩
    · cases h
  · cases h
theorem w_sine_Of (num den : Int) (K : AV → List Blk → Ans) : evFn Tryz.prog GT EQT T_sine_around XT noL 60 35 [.v (.agg [.int .i64 num, .int .i64 den])] [] (fun v M => K v (M.take ([] : List Blk).length)) = bif checkF ⟨num, den⟩ != 0 then K (rSpanE (spanZ, 8)) [] else bif fracOkB ⟨num, den⟩ then (bif !(aroundB ⟨num, den⟩).2 then K (rSpanE (spanZ, 16)) [] else K (rSpanE (rangedS (aroundB ⟨num, den⟩).1)) []) else none := by
  kernel_rfl
theorem c_sine_Of (num den : Int) : CallsA Tryz.prog GT gbT 35 [.v (.agg [.int .i64 num, .int .i64 den])] [] (rSpanE (ofS ⟨num, den⟩)) [] := by
  refine CallsA.ofOk fun hok => ?_
  have hw := w_sine_Of num den (fun v M => some (Res.fin v M))
  refine CallsA.ofEv (Γ := T_sine_around) (X := XT) (Λ := noL) (EQ := EQT) (n := 60) g_sine_around hEQT hmT (fun _ _ _ _ => noL_ok _) (hw.trans ?_)
  have h_num := inR_i64 (hok (.int .i64 num) (by simp [datasL, datas]))
  have h_den := inR_i64 (hok (.int .i64 den) (by simp [datasL, datas]))
  clear hok hw
  exact sineOf_ok (K := fun v M => some (Res.fin v M))
def s_sine_Of : List AV → List Blk → (AV → List Blk → Ans) → Ans := fun xs bs K => match xs, bs with
  | [.v (.agg [.int .i64 num, .int .i64 den])], [] => K (rSpanE (ofS ⟨num, den⟩)) []
  | _, _ => none
def T_sine_Of : Nat → List AV → List Blk → (AV → List Blk → Ans) → Ans := upd T_sine_around 35 s_sine_Of
theorem g_sine_Of : GOK Tryz.prog GT gbT T_sine_Of XT := by
  refine GOK.upd g_sine_around (fun args w => Tryz.call35 args w) fun xs bs K r h => ?_
  unfold s_sine_Of at h
  split at h
  · exact ⟨_, _, c_sine_Of _ _, h⟩
  · cases h
theorem w_bits_Rem64 (hi lo y : Int) (K : AV → List Blk → Ans) : evFn Tryz.prog GT EQT T_sine_Of XT noL 60 106 [.v (.c (.d (.int .u64 hi))), .v (.c (.d (.int .u64 lo))), .v (.c (.d (.int .u64 y)))] [] (fun v M => K v (M.take ([] : List Blk).length)) = remAns K hi lo y := by
  kernel_rfl
theorem c_bits_Rem64 (hi lo y : Int) (hd : (decide (0 < y)) = true) : CallsA Tryz.prog GT gbT 106 [.v (.c (.d (.int .u64 hi))), .v (.c (.d (.int .u64 lo))), .v (.c (.d (.int .u64 y)))] [] (rU ((hi * 18446744073709551616 + lo) % y)) [] := by
  refine CallsA.ofOk fun hok => ?_
  have hw := w_bits_Rem64 hi lo y (fun v M => some (Res.fin v M))
  refine CallsA.ofEv (Γ := T_sine_Of) (X := XT) (Λ := noL) (EQ := EQT) (n := 60) g_sine_Of hEQT hmT (fun _ _ _ _ => noL_ok _) (hw.trans ?_)
  have h_hi := inR_u64 (hok (.int .u64 hi) (by simp [datasL, datas]))
  have h_lo := inR_u64 (hok (.int .u64 lo) (by simp [datasL, datas]))
  have h_y := inR_u64 (hok (.int .u64 y) (by simp [datasL, datas]))
  clear hok hw
  exact remAns_ok (K := fun v M => some (Res.fin v M)) h_hi.1 (of_decide_eq_true hd)
def s_bits_Rem64 : List AV → List Blk → (AV → List Blk → Ans) → Ans := fun xs bs K => match xs, bs with
  | [.v (.c (.d (.int .u64 hi))), .v (.c (.d (.int .u64 lo))), .v (.c (.d (.int .u64 y)))], [] => bif decide (0 < y) then K (rU ((hi * 18446744073709551616 + lo) % y)) [] else none
  | _, _ => none
def T_bits_Rem64 : Nat → List AV → List Blk → (AV → List Blk → Ans) → Ans := upd T_sine_Of 106 s_bits_Rem64
theorem g_bits_Rem64 : GOK Tryz.prog GT gbT T_bits_Rem64 XT := by
  refine GOK.upd g_sine_Of (fun args w => Tryz.call106 args w) fun xs bs K r h => ?_
  unfold s_bits_Rem64 at h
  split at h
  · simp only [cond_eq_ite] at h
    split at h
    · exact ⟨_, _, c_bits_Rem64 _ _ _ ‹_›, h⟩
    · cases h
  · cases h
theorem w_frac_wider (a b c d : Int) (K : AV → List Blk → Ans) : evFn Tryz.prog GT EQT T_bits_Rem64 XT noL 60 104 [.v (.c (.d (.int .u64 a))), .v (.c (.d (.int .u64 b))), .v (.c (.d (.int .u64 c))), .v (.c (.d (.int .u64 d)))] [] (fun v M => K v (M.take ([] : List Blk).length)) = K (rI (widerRaw a b c d)) [] := by
  simp only [widerRaw, widerTail, pullK K]
  kernel_rfl
theorem c_frac_wider (a b c d : Int) : CallsA Tryz.prog GT gbT 104 [.v (.c (.d (.int .u64 a))), .v (.c (.d (.int .u64 b))), .v (.c (.d (.int .u64 c))), .v (.c (.d (.int .u64 d)))] [] (rI (cmpI (a * 18446744073709551616 + b) (c * 18446744073709551616 + d))) [] := by
  refine CallsA.ofOk fun hok => ?_
  have hw := w_frac_wider a b c d (fun v M => some (Res.fin v M))
  refine CallsA.ofEv (Γ := T_bits_Rem64) (X := XT) (Λ := noL) (EQ := EQT) (n := 60) g_bits_Rem64 hEQT hmT (fun _ _ _ _ => noL_ok _) (hw.trans ?_)
  have h_a := inR_u64 (hok (.int .u64 a) (by simp [datasL, datas]))
  have h_b := inR_u64 (hok (.int .u64 b) (by simp [datasL, datas]))
  have h_c := inR_u64 (hok (.int .u64 c) (by simp [datasL, datas]))
  have h_d := inR_u64 (hok (.int .u64 d) (by simp [datasL, datas]))
  clear hok hw
  refine congrArg (fun v => some (Res.fin v [])) ?_
  rw [widerRaw_ok h_b h_d]
def s_frac_wider : List AV → List Blk → (AV → List Blk → Ans) → Ans := fun xs bs K => match xs, bs with
  | [.v (.c (.d (.int .u64 a))), .v (.c (.d (.int .u64 b))), .v (.c (.d (.int .u64 c))), .v (.c (.d (.int .u64 d)))], [] => K (rI (cmpI (a * 18446744073709551616 + b) (c * 18446744073709551616 + d))) []
  | _, _ => none
def T_frac_wider : Nat → List AV → List Blk → (AV → List Blk → Ans) → Ans := upd T_bits_Rem64 104 s_frac_wider
theorem g_frac_wider : GOK Tryz.prog GT gbT T_frac_wider XT := by
  refine GOK.upd g_bits_Rem64 (fun args w => Tryz.call104 args w) fun xs bs K r h => ?_
  unfold s_frac_wider at h
  split at h
  · exact ⟨_, _, c_frac_wider _ _ _ _, h⟩
  · cases h
theorem w_frac_build (m : Bool) (n d : Int) (K : AV → List Blk → Ans) : evFn Tryz.prog GT EQT T_frac_wider XT noL 60 68 [.v (.c (.d (.bool m))), .v (.c (.d (.int .u64 n))), .v (.c (.d (.int .u64 d)))] [] (fun v M => K v (M.take ([] : List Blk).length)) = K (rFracE (buildRaw m n d)) [] := by
  simp only [buildRaw, pullK K]
  kernel_rfl
theorem c_frac_build (m : Bool) (n d : Int) : CallsA Tryz.prog GT gbT 68 [.v (.c (.d (.bool m))), .v (.c (.d (.int .u64 n))), .v (.c (.d (.int .u64 d)))] [] (rFracE (lowF m n d)) [] := by
  refine CallsA.ofOk fun hok => ?_
  have hw := w_frac_build m n d (fun v M => some (Res.fin v M))
  refine CallsA.ofEv (Γ := T_frac_wider) (X := XT) (Λ := noL) (EQ := EQT) (n := 60) g_frac_wider hEQT hmT (fun _ _ _ _ => noL_ok _) (hw.trans ?_)
  have h_n := inR_u64 (hok (.int .u64 n) (by simp [datasL, datas]))
  have h_d := inR_u64 (hok (.int .u64 d) (by simp [datasL, datas]))
  clear hok hw
  refine congrArg (fun v => some (Res.fin v [])) ?_
  rw [buildRaw_ok h_n.1 h_d.1]
def s_frac_build : List AV → List Blk → (AV → List Blk → Ans) → Ans := fun xs bs K => match xs, bs with
  | [.v (.c (.d (.bool m))), .v (.c (.d (.int .u64 n))), .v (.c (.d (.int .u64 d)))], [] => K (rFracE (lowF m n d)) []
  | _, _ => none
def T_frac_build : Nat → List AV → List Blk → (AV → List Blk → Ans) → Ans := upd T_frac_wider 68 s_frac_build
theorem g_frac_build : GOK Tryz.prog GT gbT T_frac_build XT := by
  refine GOK.upd g_frac_wider (fun args w => Tryz.call68 args w) fun xs bs K r h => ?_
  unfold s_frac_build at h
  split at h
  · exact ⟨_, _, c_frac_build _ _ _, h⟩
  · cases h
theorem w_frac_both (a b c d : Int) (K : AV → List Blk → Ans) : evFn Tryz.prog GT EQT T_frac_build XT noL 60 50 [.v (.agg [.int .i64 a, .int .i64 b]), .v (.agg [.int .i64 c, .int .i64 d])] [] (fun v M => K v (M.take ([] : List Blk).length)) = K (rI (bothE ⟨a, b⟩ ⟨c, d⟩)) [] := by
  simp only [bothE, pullK K]
  kernel_rfl
theorem c_frac_both (a b c d : Int) : CallsA Tryz.prog GT gbT 50 [.v (.agg [.int .i64 a, .int .i64 b]), .v (.agg [.int .i64 c, .int .i64 d])] [] (rI (bothE ⟨a, b⟩ ⟨c, d⟩)) [] := by
  refine CallsA.ofOk fun hok => ?_
  have hw := w_frac_both a b c d (fun v M => some (Res.fin v M))
  refine CallsA.ofEv (Γ := T_frac_build) (X := XT) (Λ := noL) (EQ := EQT) (n := 60) g_frac_build hEQT hmT (fun _ _ _ _ => noL_ok _) (hw.trans ?_)
  rfl
def s_frac_both : List AV → List Blk → (AV → List Blk → Ans) → Ans := fun xs bs K => match xs, bs with
  | [.v (.agg [.int .i64 a, .int .i64 b]), .v (.agg [.int .i64 c, .int .i64 d])], [] => K (rI (bothE ⟨a, b⟩ ⟨c, d⟩)) []
  | _, _ => none
def T_frac_both : Nat → List AV → List Blk → (AV → List Blk → Ans) → Ans := upd T_frac_build 50 s_frac_both
theorem g_frac_both : GOK Tryz.prog GT gbT T_frac_both XT := by
  refine GOK.upd g_frac_build (fun args w => Tryz.call50 args w) fun xs bs K r h => ?_
  unfold s_frac_both at h
  split at h
  · exact ⟨_, _, c_frac_both _ _ _ _, h⟩
  · cases h
theorem w_frac_sum (a b c d : Int) (K : AV → List Blk → Ans) : evFn Tryz.prog GT EQT T_frac_both XT noL 120 89 [.v (.agg [.int .i64 a, .int .i64 b]), .v (.agg [.int .i64 c, .int .i64 d])] [] (fun v M => K v (M.take ([] : List Blk).length)) = sumAns K ⟨a, b⟩ ⟨c, d⟩ := by
  kernel_rfl
theorem c_frac_sum (a b c d : Int) (hd : (fracOkB ⟨a, b⟩ && fracOkB ⟨c, d⟩) = true) : CallsA Tryz.prog GT gbT 89 [.v (.agg [.int .i64 a, .int .i64 b]), .v (.agg [.int .i64 c, .int .i64 d])] [] (rFracE (fracOf (a * d + c * b) (b * d))) [] := by
  refine CallsA.ofOk fun hok => ?_
  have hw := w_frac_sum a b c d (fun v M => some (Res.fin v M))
  refine CallsA.ofEv (Γ := T_frac_both) (X := XT) (Λ := noL) (EQ := EQT) (n := 120) g_frac_both hEQT hmT (fun _ _ _ _ => noL_ok _) (hw.trans ?_)
  have h_a := inR_i64 (hok (.int .i64 a) (by simp [datasL, datas]))
  have h_b := inR_i64 (hok (.int .i64 b) (by simp [datasL, datas]))
  have h_c := inR_i64 (hok (.int .i64 c) (by simp [datasL, datas]))
  have h_d := inR_i64 (hok (.int .i64 d) (by simp [datasL, datas]))
  clear hok hw
  simp only [Bool.and_eq_true] at hd
  exact sumAns_ok (K := fun v M => some (Res.fin v M)) (fracOkB_iff.1 hd.1) (fracOkB_iff.1 hd.2)
def s_frac_sum : List AV → List Blk → (AV → List Blk → Ans) → Ans := fun xs bs K => match xs, bs with
  | [.v (.agg [.int .i64 a, .int .i64 b]), .v (.agg [.int .i64 c, .int .i64 d])], [] => bif fracOkB ⟨a, b⟩ && fracOkB ⟨c, d⟩ then K (rFracE (fracOf (a * d + c * b) (b * d))) [] else none
  | _, _ => none
def T_frac_sum : Nat → List AV → List Blk → (AV → List Blk → Ans) → Ans := upd T_frac_both 89 s_frac_sum
theorem g_frac_sum : GOK Tryz.prog GT gbT T_frac_sum XT := by
  refine GOK.upd g_frac_both (fun args w => Tryz.call89 args w) fun xs bs K r h => ?_
  unfold s_frac_sum at h
  split at h
  · simp only [cond_eq_ite] at h
    split at h
    · exact ⟨_, _, c_frac_sum _ _ _ _ ‹_›, h⟩
    · cases h
  · cases h
theorem w_frac_Add (a b c d : Int) (K : AV → List Blk → Ans) : evFn Tryz.prog GT EQT T_frac_sum XT noL 60 74 [.v (.agg [.int .i64 a, .int .i64 b]), .v (.agg [.int .i64 c, .int .i64 d])] [] (fun v M => K v (M.take ([] : List Blk).length)) = addAns K ⟨a, b⟩ ⟨c, d⟩ := by
  kernel_rfl
theorem c_frac_Add (a b c d : Int) : CallsA Tryz.prog GT gbT 74 [.v (.agg [.int .i64 a, .int .i64 b]), .v (.agg [.int .i64 c, .int .i64 d])] [] (rFracE (addF ⟨a, b⟩ ⟨c, d⟩)) [] := by
  refine CallsA.ofOk fun hok => ?_
  have hw := w_frac_Add a b c d (fun v M => some (Res.fin v M))
  refine CallsA.ofEv (Γ := T_frac_sum) (X := XT) (Λ := noL) (EQ := EQT) (n := 60) g_frac_sum hEQT hmT (fun _ _ _ _ => noL_ok _) (hw.trans ?_)
  have h_a := inR_i64 (hok (.int .i64 a) (by simp [datasL, datas]))
  have h_b := inR_i64 (hok (.int .i64 b) (by simp [datasL, datas]))
  have h_c := inR_i64 (hok (.int .i64 c) (by simp [datasL, datas]))
  have h_d := inR_i64 (hok (.int .i64 d) (by simp [datasL, datas]))
  clear hok hw
  exact addAns_ok (K := fun v M => some (Res.fin v M))
def s_frac_Add : List AV → List Blk → (AV → List Blk → Ans) → Ans := fun xs bs K => match xs, bs with
  | [.v (.agg [.int .i64 a, .int .i64 b]), .v (.agg [.int .i64 c, .int .i64 d])], [] => K (rFracE (addF ⟨a, b⟩ ⟨c, d⟩)) []
  | _, _ => none
def T_frac_Add : Nat → List AV → List Blk → (AV → List Blk → Ans) → Ans := upd T_frac_sum 74 s_frac_Add
theorem g_frac_Add : GOK Tryz.prog GT gbT T_frac_Add XT := by
  refine GOK.upd g_frac_sum (fun args w => Tryz.call74 args w) fun xs bs K r h => ?_
  unfold s_frac_Add at h
  split at h
  · exact ⟨_, _, c_frac_Add _ _ _ _, h⟩
  · cases h
theorem w_frac_product (a b c d : Int) (K : AV → List Blk → Ans) : evFn Tryz.prog GT EQT T_frac_Add XT noL 120 51 [.v (.agg [.int .i64 a, .int .i64 b]), .v (.agg [.int .i64 c, .int .i64 d])] [] (fun v M => K v (M.take ([] : List Blk).length)) = prodAns K ⟨a, b⟩ ⟨c, d⟩ := by
  kernel_rfl
theorem c_frac_product (a b c d : Int) (hd : (fracOkB ⟨a, b⟩ && fracOkB ⟨c, d⟩) = true) : CallsA Tryz.prog GT gbT 51 [.v (.agg [.int .i64 a, .int .i64 b]), .v (.agg [.int .i64 c, .int .i64 d])] [] (rFracE (fracOf (a * c) (b * d))) [] := by
  refine CallsA.ofOk fun hok => ?_
  have hw := w_frac_product a b c d (fun v M => some (Res.fin v M))
  refine CallsA.ofEv (Γ := T_frac_Add) (X := XT) (Λ := noL) (EQ := EQT) (n := 120) g_frac_Add hEQT hmT (fun _ _ _ _ => noL_ok _) (hw.trans ?_)
  have h_a := inR_i64 (hok (.int .i64 a) (by simp [datasL, datas]))
  have h_b := inR_i64 (hok (.int .i64 b) (by simp [datasL, datas]))
  have h_c := inR_i64 (hok (.int .i64 c) (by simp [datasL, datas]))
  have h_d := inR_i64 (hok (.int .i64 d) (by simp [datasL, datas]))
  clear hok hw
  simp only [Bool.and_eq_true] at hd
  exact prodAns_ok (K := fun v M => some (Res.fin v M)) (fracOkB_iff.1 hd.1) (fracOkB_iff.1 hd.2)
def s_frac_product : List AV → List Blk → (AV → List Blk → Ans) → Ans := fun xs bs K => match xs, bs with
  | [.v (.agg [.int .i64 a, .int .i64 b]), .v (.agg [.int .i64 c, .int .i64 d])], [] => bif fracOkB ⟨a, b⟩ && fracOkB ⟨c, d⟩ then K (rFracE (fracOf (a * c) (b * d))) [] else none
  | _, _ => none
def T_frac_product : Nat → List AV → List Blk → (AV → List Blk → Ans) → Ans := upd T_frac_Add 51 s_frac_product
theorem g_frac_product : GOK Tryz.prog GT gbT T_frac_product XT := by
  refine GOK.upd g_frac_Add (fun args w => Tryz.call51 args w) fun xs bs K r h => ?_
  unfold s_frac_product at h
  split at h
  · simp only [cond_eq_ite] at h
    split at h
    · exact ⟨_, _, c_frac_product _ _ _ _ ‹_›, h⟩
    · cases h
  · cases h
theorem w_frac_Mul (a b c d : Int) (K : AV → List Blk → Ans) : evFn Tryz.prog GT EQT T_frac_product XT noL 60 33 [.v (.agg [.int .i64 a, .int .i64 b]), .v (.agg [.int .i64 c, .int .i64 d])] [] (fun v M => K v (M.take ([] : List Blk).length)) = mulAns K ⟨a, b⟩ ⟨c, d⟩ := by
  kernel_rfl
theorem c_frac_Mul (a b c d : Int) : CallsA Tryz.prog GT gbT 33 [.v (.agg [.int .i64 a, .int .i64 b]), .v (.agg [.int .i64 c, .int .i64 d])] [] (rFracE (mulF ⟨a, b⟩ ⟨c, d⟩)) [] := by
  refine CallsA.ofOk fun hok => ?_
  have hw := w_frac_Mul a b c d (fun v M => some (Res.fin v M))
  refine CallsA.ofEv (Γ := T_frac_product) (X := XT) (Λ := noL) (EQ := EQT) (n := 60) g_frac_product hEQT hmT (fun _ _ _ _ => noL_ok _) (hw.trans ?_)
  have h_a := inR_i64 (hok (.int .i64 a) (by simp [datasL, datas]))
  have h_b := inR_i64 (hok (.int .i64 b) (by simp [datasL, datas]))
  have h_c := inR_i64 (hok (.int .i64 c) (by simp [datasL, datas]))
  have h_d := inR_i64 (hok (.int .i64 d) (by simp [datasL, datas]))
  clear hok hw
  exact mulAns_ok (K := fun v M => some (Res.fin v M))
def s_frac_Mul : List AV → List Blk → (AV → List Blk → Ans) → Ans := fun xs bs K => match xs, bs with
  | [.v (.agg [.int .i64 a, .int .i64 b]), .v (.agg [.int .i64 c, .int .i64 d])], [] => K (rFracE (mulF ⟨a, b⟩ ⟨c, d⟩)) []
  | _, _ => none
def T_frac_Mul : Nat → List AV → List Blk → (AV → List Blk → Ans) → Ans := upd T_frac_product 33 s_frac_Mul
theorem g_frac_Mul : GOK Tryz.prog GT gbT T_frac_Mul XT := by
  refine GOK.upd g_frac_product (fun args w => Tryz.call33 args w) fun xs bs K r h => ?_
  unfold s_frac_Mul at h
  split at h
  · exact ⟨_, _, c_frac_Mul _ _ _ _, h⟩
  · cases h
end Go.Ev

