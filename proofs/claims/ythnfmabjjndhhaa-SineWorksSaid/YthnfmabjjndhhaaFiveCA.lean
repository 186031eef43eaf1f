/-
  Contracts of functions: what each returns. No condition beyond those of the statements.
-/
import Derived.Test.YthnfmabjjndhhaaFiveTab
namespace Go.Ev
open Go Go.Proofs

set_option maxRecDepth 100000 in
/-- math/bits.Mul64 -/
theorem w_bits_Mul64 (x y : Int) (K : AV → List Blk → Ans) : evFn Try.prog GT EQT T0 XT noL 60 62 [.v (.c (.d (.int .u64 x))), .v (.c (.d (.int .u64 y)))] [] (fun v M => K v (M.take ([] : List Blk).length)) = K (rUU (mulRaw x y)) [] := by
  kernel_rfl
theorem c_bits_Mul64 (x y : Int) : CallsA Try.prog GT gbT 62 [.v (.c (.d (.int .u64 x))), .v (.c (.d (.int .u64 y)))] [] (rUU (mul64 x y)) [] := by
  refine CallsA.ofOk fun hok => ?_
  have hw := w_bits_Mul64 x y (fun v M => some (Res.fin v M))
  refine CallsA.ofEv (Γ := T0) (X := XT) (Λ := noL) (EQ := EQT) (n := 60) g0 hEQT hmT (fun _ _ _ _ => noL_ok _) (hw.trans ?_)
  have h_x := inR_u64 (hok (.int .u64 x) (by simp [datasL, datas]))
  have h_y := inR_u64 (hok (.int .u64 y) (by simp [datasL, datas]))
  clear hok hw
  refine congrArg (fun v => some (Res.fin v [])) ?_
  rw [mul64_ok h_x h_y]
def s_bits_Mul64 : List AV → List Blk → (AV → List Blk → Ans) → Ans := fun xs bs K => match xs, bs with
  | [.v (.c (.d (.int .u64 x))), .v (.c (.d (.int .u64 y)))], [] => K (rUU (mul64 x y)) []
  | _, _ => none
def T_bits_Mul64 : Nat → List AV → List Blk → (AV → List Blk → Ans) → Ans := upd T0 62 s_bits_Mul64
theorem g_bits_Mul64 : GOK Try.prog GT gbT T_bits_Mul64 XT := by
  refine GOK.upd g0 (fun args w => Try.call62 args w) fun xs bs K r h => ?_
  unfold s_bits_Mul64 at h
  split at h
  · exact ⟨_, _, c_bits_Mul64 _ _, h⟩
  · cases h


abbrev lv_frac_gcd : List (Nat × IntKind) := [(0, .u64), (1, .u64)]
def L_frac_gcd := Lam1 1 12 0 lv_frac_gcd (fun l => match l with | [a, b] => decide (0 ≤ a) && decide (0 ≤ b) | _ => false) (fun l => match l with | [a, b] => [gcdI a b, 0] | _ => [])
set_option maxRecDepth 100000 in
theorem b_frac_gcd (a b : Int) (M : List Blk) (N : Nat) : evCode Try.prog GT EQT T_bits_Mul64 XT noL 20 (loopB Try.prog 60 0) (mkT lv_frac_gcd 12 [a, b]) M N (fun x T M N => some (.st x (forget [0, 1] 0 T) M N)) =
    bif b != 0 then (bif b == 0 then none else some (.st .normal (mkT lv_frac_gcd 12 [b, a.tmod b]) M N)) else some (.st (.exit 0) (mkT lv_frac_gcd 12 [a, b]) M N) := by kernel_rfl
theorem r_frac_gcd (M : List Blk) (N : Nat) : ∀ (n : Nat) (a b : Int), 0 ≤ a → 0 ≤ b → b.toNat ≤ n → ∃ k, RoundsOK Try.prog GT gbT (loopB Try.prog 60 0) k (mkT lv_frac_gcd 12 [a, b]) M N (.exit 0) (mkT lv_frac_gcd 12 [gcdI a b, 0]) M N := by
  intro n
  induction n with
  | zero =>
    intro a b ha hb hn
    have e : b = 0 := by omega
    subst e
    rw [gcdI_zero a ha]
    exact ⟨1, RoundsOK.fin (Λ := noL) g_bits_Mul64 hEQT hmT (noL_ok _) (b_frac_gcd a 0 M N)⟩
  | succ n ih =>
    intro a b ha hb hn
    by_cases e : b = 0
    · subst e
      rw [gcdI_zero a ha]
      exact ⟨1, RoundsOK.fin (Λ := noL) g_bits_Mul64 hEQT hmT (noL_ok _) (b_frac_gcd a 0 M N)⟩
    · have h1 : 0 ≤ a.tmod b := Int.tmod_nonneg b ha
      have h2 : a.tmod b < b := Int.tmod_lt_of_pos a (by omega)
      obtain ⟨k, hk⟩ := ih b (a.tmod b) hb h1 (by omega)
      rw [gcdI_step] at hk
      refine ⟨k + 1, RoundsOK.go (Λ := noL) g_bits_Mul64 hEQT hmT (noL_ok _) ((b_frac_gcd a b M N).trans ?_) hk⟩
      have e' : (b == 0) = false := by simpa using e
      simp only [bne, e', Bool.not_false, cond_true, cond_false]
theorem LL_frac_gcd : ∀ fn c, Try.prog.funcs[60]? = some fn → fn.body = some c → LOK Try.prog GT gbT L_frac_gcd (loopsIn c) := by
  refine LOK.ofF fun b hb => ?_
  have e : loopsF Try.prog 60 = [loopB Try.prog 60 0] := by kernel_rfl
  rw [e, List.mem_singleton] at hb
  subst hb
  refine LOKb.lam1 (b := loopB Try.prog 60 0) (n := 12) (e := 0) (live := lv_frac_gcd) fun xs M N hl hd => ?_
  match xs, hl with
  | [a, b], _ =>
    simp only [Bool.and_eq_true, decide_eq_true_eq] at hd
    exact r_frac_gcd M N _ a b hd.1 hd.2 (Nat.le_refl _)

set_option maxRecDepth 100000 in
/-- frac.gcd -/
theorem w_frac_gcd (a b : Int) (K : AV → List Blk → Ans) : evFn Try.prog GT EQT T_bits_Mul64 XT L_frac_gcd 60 60 [.v (.c (.d (.int .u64 a))), .v (.c (.d (.int .u64 b)))] [] (fun v M => K v (M.take ([] : List Blk).length)) = bif decide (0 ≤ a) && decide (0 ≤ b) then K (rU (gcdI a b)) [] else none := by
  kernel_rfl
theorem c_frac_gcd (a b : Int) : CallsA Try.prog GT gbT 60 [.v (.c (.d (.int .u64 a))), .v (.c (.d (.int .u64 b)))] [] (rU (gcdI a b)) [] := by
  refine CallsA.ofOk fun hok => ?_
  have hw := w_frac_gcd a b (fun v M => some (Res.fin v M))
  refine CallsA.ofEv (Γ := T_bits_Mul64) (X := XT) (Λ := L_frac_gcd) (EQ := EQT) (n := 60) g_bits_Mul64 hEQT hmT (LL_frac_gcd) (hw.trans ?_)
  have h_a := inR_u64 (hok (.int .u64 a) (by simp [datasL, datas]))
  have h_b := inR_u64 (hok (.int .u64 b) (by simp [datasL, datas]))
  clear hok hw
  simp only [h_a.1, h_b.1, decide_true, Bool.and_self, cond_true]
def s_frac_gcd : List AV → List Blk → (AV → List Blk → Ans) → Ans := fun xs bs K => match xs, bs with
  | [.v (.c (.d (.int .u64 a))), .v (.c (.d (.int .u64 b)))], [] => K (rU (gcdI a b)) []
  | _, _ => none
def T_frac_gcd : Nat → List AV → List Blk → (AV → List Blk → Ans) → Ans := upd T_bits_Mul64 60 s_frac_gcd
theorem g_frac_gcd : GOK Try.prog GT gbT T_frac_gcd XT := by
  refine GOK.upd g_bits_Mul64 (fun args w => Try.call60 args w) fun xs bs K r h => ?_
  unfold s_frac_gcd at h
  split at h
  · exact ⟨_, _, c_frac_gcd _ _, h⟩
  · cases h


abbrev lv_ref01_gcd : List (Nat × IntKind) := [(0, .u64), (1, .u64)]
def L_ref01_gcd := Lam1 1 12 0 lv_ref01_gcd (fun l => match l with | [a, b] => decide (0 ≤ a) && decide (0 ≤ b) | _ => false) (fun l => match l with | [a, b] => [gcdI a b, 0] | _ => [])
set_option maxRecDepth 100000 in
theorem b_ref01_gcd (a b : Int) (M : List Blk) (N : Nat) : evCode Try.prog GT EQT T_frac_gcd XT noL 20 (loopB Try.prog 49 0) (mkT lv_ref01_gcd 12 [a, b]) M N (fun x T M N => some (.st x (forget [0, 1] 0 T) M N)) =
    bif b != 0 then (bif b == 0 then none else some (.st .normal (mkT lv_ref01_gcd 12 [b, a.tmod b]) M N)) else some (.st (.exit 0) (mkT lv_ref01_gcd 12 [a, b]) M N) := by kernel_rfl
theorem r_ref01_gcd (M : List Blk) (N : Nat) : ∀ (n : Nat) (a b : Int), 0 ≤ a → 0 ≤ b → b.toNat ≤ n → ∃ k, RoundsOK Try.prog GT gbT (loopB Try.prog 49 0) k (mkT lv_ref01_gcd 12 [a, b]) M N (.exit 0) (mkT lv_ref01_gcd 12 [gcdI a b, 0]) M N := by
  intro n
  induction n with
  | zero =>
    intro a b ha hb hn
    have e : b = 0 := by omega
    subst e
    rw [gcdI_zero a ha]
    exact ⟨1, RoundsOK.fin (Λ := noL) g_frac_gcd hEQT hmT (noL_ok _) (b_ref01_gcd a 0 M N)⟩
  | succ n ih =>
    intro a b ha hb hn
    by_cases e : b = 0
    · subst e
      rw [gcdI_zero a ha]
      exact ⟨1, RoundsOK.fin (Λ := noL) g_frac_gcd hEQT hmT (noL_ok _) (b_ref01_gcd a 0 M N)⟩
    · have h1 : 0 ≤ a.tmod b := Int.tmod_nonneg b ha
      have h2 : a.tmod b < b := Int.tmod_lt_of_pos a (by omega)
      obtain ⟨k, hk⟩ := ih b (a.tmod b) hb h1 (by omega)
      rw [gcdI_step] at hk
      refine ⟨k + 1, RoundsOK.go (Λ := noL) g_frac_gcd hEQT hmT (noL_ok _) ((b_ref01_gcd a b M N).trans ?_) hk⟩
      have e' : (b == 0) = false := by simpa using e
      simp only [bne, e', Bool.not_false, cond_true, cond_false]
theorem LL_ref01_gcd : ∀ fn c, Try.prog.funcs[49]? = some fn → fn.body = some c → LOK Try.prog GT gbT L_ref01_gcd (loopsIn c) := by
  refine LOK.ofF fun b hb => ?_
  have e : loopsF Try.prog 49 = [loopB Try.prog 49 0] := by kernel_rfl
  rw [e, List.mem_singleton] at hb
  subst hb
  refine LOKb.lam1 (b := loopB Try.prog 49 0) (n := 12) (e := 0) (live := lv_ref01_gcd) fun xs M N hl hd => ?_
  match xs, hl with
  | [a, b], _ =>
    simp only [Bool.and_eq_true, decide_eq_true_eq] at hd
    exact r_ref01_gcd M N _ a b hd.1 hd.2 (Nat.le_refl _)

set_option maxRecDepth 100000 in
/-- fringeref01.gcd -/
theorem w_fringeref01_gcd (a b : Int) (K : AV → List Blk → Ans) : evFn Try.prog GT EQT T_frac_gcd XT L_ref01_gcd 60 49 [.v (.c (.d (.int .u64 a))), .v (.c (.d (.int .u64 b)))] [] (fun v M => K v (M.take ([] : List Blk).length)) = bif decide (0 ≤ a) && decide (0 ≤ b) then K (rU (gcdI a b)) [] else none := by
  kernel_rfl
theorem c_fringeref01_gcd (a b : Int) : CallsA Try.prog GT gbT 49 [.v (.c (.d (.int .u64 a))), .v (.c (.d (.int .u64 b)))] [] (rU (gcdI a b)) [] := by
  refine CallsA.ofOk fun hok => ?_
  have hw := w_fringeref01_gcd a b (fun v M => some (Res.fin v M))
  refine CallsA.ofEv (Γ := T_frac_gcd) (X := XT) (Λ := L_ref01_gcd) (EQ := EQT) (n := 60) g_frac_gcd hEQT hmT (LL_ref01_gcd) (hw.trans ?_)
  have h_a := inR_u64 (hok (.int .u64 a) (by simp [datasL, datas]))
  have h_b := inR_u64 (hok (.int .u64 b) (by simp [datasL, datas]))
  clear hok hw
  simp only [h_a.1, h_b.1, decide_true, Bool.and_self, cond_true]
def s_fringeref01_gcd : List AV → List Blk → (AV → List Blk → Ans) → Ans := fun xs bs K => match xs, bs with
  | [.v (.c (.d (.int .u64 a))), .v (.c (.d (.int .u64 b)))], [] => K (rU (gcdI a b)) []
  | _, _ => none
def T_fringeref01_gcd : Nat → List AV → List Blk → (AV → List Blk → Ans) → Ans := upd T_frac_gcd 49 s_fringeref01_gcd
theorem g_fringeref01_gcd : GOK Try.prog GT gbT T_fringeref01_gcd XT := by
  refine GOK.upd g_frac_gcd (fun args w => Try.call49 args w) fun xs bs K r h => ?_
  unfold s_fringeref01_gcd at h
  split at h
  · exact ⟨_, _, c_fringeref01_gcd _ _, h⟩
  · cases h


set_option maxRecDepth 100000 in
/-- math/bits.Len64 -/
theorem w_bits_Len64 (x : Int) (K : AV → List Blk → Ans) : evFn Try.prog GT EQT T_fringeref01_gcd XT noL 60 75 [.v (.c (.d (.int .u64 x)))] [] (fun v M => K v (M.take ([] : List Blk).length)) = lenAns K x := by
  kernel_rfl
theorem c_bits_Len64 (x : Int) : CallsA Try.prog GT gbT 75 [.v (.c (.d (.int .u64 x)))] [] (rI (lenI x)) [] := by
  refine CallsA.ofOk fun hok => ?_
  have hw := w_bits_Len64 x (fun v M => some (Res.fin v M))
  refine CallsA.ofEv (Γ := T_fringeref01_gcd) (X := XT) (Λ := noL) (EQ := EQT) (n := 60) g_fringeref01_gcd hEQT hmT (fun _ _ _ _ => noL_ok _) (hw.trans ?_)
  have h_x := inR_u64 (hok (.int .u64 x) (by simp [datasL, datas]))
  clear hok hw
  exact lenAns_ok (K := fun v M => some (Res.fin v M)) h_x.1 (by omega)
def s_bits_Len64 : List AV → List Blk → (AV → List Blk → Ans) → Ans := fun xs bs K => match xs, bs with
  | [.v (.c (.d (.int .u64 x)))], [] => K (rI (lenI x)) []
  | _, _ => none
def T_bits_Len64 : Nat → List AV → List Blk → (AV → List Blk → Ans) → Ans := upd T_fringeref01_gcd 75 s_bits_Len64
theorem g_bits_Len64 : GOK Try.prog GT gbT T_bits_Len64 XT := by
  refine GOK.upd g_fringeref01_gcd (fun args w => Try.call75 args w) fun xs bs K r h => ?_
  unfold s_bits_Len64 at h
  split at h
  · exact ⟨_, _, c_bits_Len64 _, h⟩
  · cases h


set_option maxRecDepth 100000 in
/-- math/bits.LeadingZeros64 -/
theorem w_bits_LeadingZeros64 (x : Int) (K : AV → List Blk → Ans) : evFn Try.prog GT EQT T_bits_Len64 XT noL 60 72 [.v (.c (.d (.int .u64 x)))] [] (fun v M => K v (M.take ([] : List Blk).length)) = K (rI (w64 (64 - lenI x))) [] := by
  kernel_rfl
theorem c_bits_LeadingZeros64 (x : Int) : CallsA Try.prog GT gbT 72 [.v (.c (.d (.int .u64 x)))] [] (rI (64 - lenI x)) [] := by
  refine CallsA.ofOk fun hok => ?_
  have hw := w_bits_LeadingZeros64 x (fun v M => some (Res.fin v M))
  refine CallsA.ofEv (Γ := T_bits_Len64) (X := XT) (Λ := noL) (EQ := EQT) (n := 60) g_bits_Len64 hEQT hmT (fun _ _ _ _ => noL_ok _) (hw.trans ?_)
  have h_x := inR_u64 (hok (.int .u64 x) (by simp [datasL, datas]))
  clear hok hw
  refine congrArg (fun v => some (Res.fin v [])) ?_
  rw [w64_id (by have := lenI_le h_x.1 (by omega); omega)]
def s_bits_LeadingZeros64 : List AV → List Blk → (AV → List Blk → Ans) → Ans := fun xs bs K => match xs, bs with
  | [.v (.c (.d (.int .u64 x)))], [] => K (rI (64 - lenI x)) []
  | _, _ => none
def T_bits_LeadingZeros64 : Nat → List AV → List Blk → (AV → List Blk → Ans) → Ans := upd T_bits_Len64 72 s_bits_LeadingZeros64
theorem g_bits_LeadingZeros64 : GOK Try.prog GT gbT T_bits_LeadingZeros64 XT := by
  refine GOK.upd g_bits_Len64 (fun args w => Try.call72 args w) fun xs bs K r h => ?_
  unfold s_bits_LeadingZeros64 at h
  split at h
  · exact ⟨_, _, c_bits_LeadingZeros64 _, h⟩
  · cases h


abbrev lv_Div1 : List (Nat × IntKind) := [(15, .u64), (9, .u64), (10, .u64), (13, .u64), (2, .u64), (8, .u64), (11, .u64), (14, .u64), (16, .u64)]
abbrev lv_Div2 : List (Nat × IntKind) := [(18, .u64), (9, .u64), (10, .u64), (14, .u64), (2, .u64), (8, .u64), (15, .u64), (17, .u64), (16, .u64)]
def digDom (l : List Int) : Bool := match l with | [q, y1, y0, d, _, _, _, _, r] => digOk q y1 y0 d r | _ => false
def digFin (l : List Int) : List Int := match l with | [q, y1, y0, d, y, s, u, z, r] => [digQ q y1 y0 d r, y1, y0, d, y, s, u, z] | _ => []
def L_Div64 := orL (Lam1 17 135 0 lv_Div1 digDom digFin) (Lam1 24 135 2 lv_Div2 digDom digFin)
set_option maxRecDepth 100000 in
theorem b_Div1 (q y1 y0 d y s u z r : Int) (M : List Blk) (N : Nat) : evCode Try.prog GT EQT T_bits_LeadingZeros64 XT noL 40 (loopB Try.prog 63 0) (mkT lv_Div1 135 [q, y1, y0, d, y, s, u, z, r]) M N (fun x T M N => some (.st x (forget [15, 9, 10, 13, 2, 8, 11, 14, 16] 0 T) M N)) =
    bif decide (4294967296 ≤ q) then (bif decide (4294967296 ≤ wu64 (r + y1)) then some (.st (.exit 0) (mkT lv_Div1 135 [wu64 (q - 1), y1, y0, d, y, s, u, z, wu64 (r + y1)]) M N) else some (.st .normal (mkT lv_Div1 135 [wu64 (q - 1), y1, y0, d, y, s, u, z, wu64 (r + y1)]) M N))
    else bif decide (wu64 (wu64 (4294967296 * r) + d) < wu64 (q * y0)) then (bif decide (4294967296 ≤ wu64 (r + y1)) then some (.st (.exit 0) (mkT lv_Div1 135 [wu64 (q - 1), y1, y0, d, y, s, u, z, wu64 (r + y1)]) M N) else some (.st .normal (mkT lv_Div1 135 [wu64 (q - 1), y1, y0, d, y, s, u, z, wu64 (r + y1)]) M N))
    else some (.st (.exit 0) (mkT lv_Div1 135 [q, y1, y0, d, y, s, u, z, r]) M N) := by kernel_rfl
set_option maxRecDepth 100000 in
theorem b_Div2 (q y1 y0 d y s u z r : Int) (M : List Blk) (N : Nat) : evCode Try.prog GT EQT T_bits_LeadingZeros64 XT noL 40 (loopB Try.prog 63 1) (mkT lv_Div2 135 [q, y1, y0, d, y, s, u, z, r]) M N (fun x T M N => some (.st x (forget [18, 9, 10, 14, 2, 8, 15, 17, 16] 0 T) M N)) =
    bif decide (4294967296 ≤ q) then (bif decide (4294967296 ≤ wu64 (r + y1)) then some (.st (.exit 2) (mkT lv_Div2 135 [wu64 (q - 1), y1, y0, d, y, s, u, z, wu64 (r + y1)]) M N) else some (.st .normal (mkT lv_Div2 135 [wu64 (q - 1), y1, y0, d, y, s, u, z, wu64 (r + y1)]) M N))
    else bif decide (wu64 (wu64 (4294967296 * r) + d) < wu64 (q * y0)) then (bif decide (4294967296 ≤ wu64 (r + y1)) then some (.st (.exit 2) (mkT lv_Div2 135 [wu64 (q - 1), y1, y0, d, y, s, u, z, wu64 (r + y1)]) M N) else some (.st .normal (mkT lv_Div2 135 [wu64 (q - 1), y1, y0, d, y, s, u, z, wu64 (r + y1)]) M N))
    else some (.st (.exit 2) (mkT lv_Div2 135 [q, y1, y0, d, y, s, u, z, r]) M N) := by kernel_rfl
theorem r_Div (i e : Nat) (lv : List (Nat × IntKind)) (keep : List Nat) (M : List Blk) (N : Nat) (hless : ∀ q y1 y0 d y s u z r : Int, Less (mkT lv 135 [q, y1, y0, d, y, s, u, z]) (mkT lv 135 [q, y1, y0, d, y, s, u, z, r]))
    (hb : ∀ q y1 y0 d y s u z r : Int, evCode Try.prog GT EQT T_bits_LeadingZeros64 XT noL 40 (loopB Try.prog 63 i) (mkT lv 135 [q, y1, y0, d, y, s, u, z, r]) M N (fun x T M N => some (.st x (forget keep 0 T) M N)) =
    bif decide (4294967296 ≤ q) then (bif decide (4294967296 ≤ wu64 (r + y1)) then some (.st (.exit e) (mkT lv 135 [wu64 (q - 1), y1, y0, d, y, s, u, z, wu64 (r + y1)]) M N) else some (.st .normal (mkT lv 135 [wu64 (q - 1), y1, y0, d, y, s, u, z, wu64 (r + y1)]) M N))
    else bif decide (wu64 (wu64 (4294967296 * r) + d) < wu64 (q * y0)) then (bif decide (4294967296 ≤ wu64 (r + y1)) then some (.st (.exit e) (mkT lv 135 [wu64 (q - 1), y1, y0, d, y, s, u, z, wu64 (r + y1)]) M N) else some (.st .normal (mkT lv 135 [wu64 (q - 1), y1, y0, d, y, s, u, z, wu64 (r + y1)]) M N))
    else some (.st (.exit e) (mkT lv 135 [q, y1, y0, d, y, s, u, z, r]) M N)) :
    ∀ (n : Nat) (q y1 y0 d y s u z r : Int), DigOk q y1 y0 d r → (q - digQ q y1 y0 d r).toNat ≤ n → ∃ k, RoundsOK Try.prog GT gbT (loopB Try.prog 63 i) k (mkT lv 135 [q, y1, y0, d, y, s, u, z, r]) M N (.exit e) (mkT lv 135 [digQ q y1 y0 d r, y1, y0, d, y, s, u, z]) M N := by
  have out : ∀ (q y1 y0 d y s u z r : Int), DigOk q y1 y0 d r → q ≤ digQ q y1 y0 d r → ∃ k, RoundsOK Try.prog GT gbT (loopB Try.prog 63 i) k (mkT lv 135 [q, y1, y0, d, y, s, u, z, r]) M N (.exit e) (mkT lv 135 [digQ q y1 y0 d r, y1, y0, d, y, s, u, z]) M N := by
    intro q y1 y0 d y s u z r h hq
    obtain ⟨h1, h2, h3, h4, h5, h6, h7, h8, h9, h10, h11, h12⟩ := h
    have hv : 0 < y1 * 4294967296 + y0 := by omega
    have eq : digQ q y1 y0 d r = q := by omega
    have ht := (digQ_test hv).1 hq
    have hqy : 0 ≤ q * y0 := Int.mul_nonneg (by omega) h3
    rw [eq]
    refine ⟨1, (RoundsOK.fin (Λ := noL) g_bits_LeadingZeros64 hEQT hmT (noL_ok _) ((hb q y1 y0 d y s u z r).trans ?_)).weak (hless q y1 y0 d y s u z r)⟩
    rw [decide_eq_false (show ¬ (4294967296 : Int) ≤ q by omega), wu64_id (n := 4294967296 * r) (by omega), wu64_id (n := 4294967296 * r + d) (by omega), wu64_id (n := q * y0) (by omega), decide_eq_false (show ¬ 4294967296 * r + d < q * y0 by omega)]
    rfl
  have next : ∀ (q y1 y0 d y s u z r : Int), DigOk q y1 y0 d r → digQ q y1 y0 d r < q → evCode Try.prog GT EQT T_bits_LeadingZeros64 XT noL 40 (loopB Try.prog 63 i) (mkT lv 135 [q, y1, y0, d, y, s, u, z, r]) M N (fun x T M N => some (.st x (forget keep 0 T) M N)) =
      bif decide (4294967296 ≤ r + y1) then some (.st (.exit e) (mkT lv 135 [q - 1, y1, y0, d, y, s, u, z, r + y1]) M N) else some (.st .normal (mkT lv 135 [q - 1, y1, y0, d, y, s, u, z, r + y1]) M N) := by
    intro q y1 y0 d y s u z r h hq
    obtain ⟨h1, h2, h3, h4, h5, h6, h7, h8, h9, h10, h11, h12⟩ := h
    have hv : 0 < y1 * 4294967296 + y0 := by omega
    rw [hb, wu64_id (n := r + y1) (by omega), wu64_id (n := q - 1) (by omega)]
    by_cases hB : 4294967296 ≤ q
    · rw [decide_eq_true hB]
      rfl
    · have ht : ¬ q * y0 ≤ 4294967296 * r + d := fun hh => by have := (digQ_test (q := q) (d := d) (r := r) hv).2 hh; omega
      have hqy : 0 ≤ q * y0 := Int.mul_nonneg (by omega) h3
      have hqy2 : q * y0 ≤ 4294967295 * 4294967295 := Int.mul_le_mul (by omega) (by omega) h3 (by omega)
      rw [decide_eq_false hB, wu64_id (n := 4294967296 * r) (by omega), wu64_id (n := 4294967296 * r + d) (by omega), wu64_id (n := q * y0) (by omega), decide_eq_true (show 4294967296 * r + d < q * y0 by omega)]
      rfl
  intro n
  induction n with
  | zero => intro q y1 y0 d y s u z r h hn; exact out q y1 y0 d y s u z r h (by omega)
  | succ n ih =>
    intro q y1 y0 d y s u z r h hn
    by_cases hq : q ≤ digQ q y1 y0 d r
    · exact out q y1 y0 d y s u z r h hq
    · by_cases hr : 4294967296 ≤ r + y1
      · refine ⟨1, (RoundsOK.fin (Λ := noL) g_bits_LeadingZeros64 hEQT hmT (noL_ok _) ((next q y1 y0 d y s u z r h (by omega)).trans ?_)).weak (hless _ y1 y0 d y s u z (r + y1))⟩
        rw [decide_eq_true hr, h.stop (by omega) hr]
        rfl
      · have hs := digQ_step q y1 y0 d r
        obtain ⟨k, hk⟩ := ih (q - 1) y1 y0 d y s u z (r + y1) (h.next (by omega) (by omega)) (by omega)
        rw [hs] at hk
        refine ⟨k + 1, RoundsOK.go (Λ := noL) g_bits_LeadingZeros64 hEQT hmT (noL_ok _) ((next q y1 y0 d y s u z r h (by omega)).trans ?_) hk⟩
        rw [decide_eq_false hr]
        rfl
theorem l_Div1 (q y1 y0 d y s u z r : Int) : Less (mkT lv_Div1 135 [q, y1, y0, d, y, s, u, z]) (mkT lv_Div1 135 [q, y1, y0, d, y, s, u, z, r]) := by
  have h : mkT lv_Div1 135 [q, y1, y0, d, y, s, u, z] = mkT (lv_Div1.take 8) 135 [q, y1, y0, d, y, s, u, z] := by kernel_rfl
  rw [h]
  exact less_mkT (by kernel_rfl) (by kernel_rfl)
theorem l_Div2 (q y1 y0 d y s u z r : Int) : Less (mkT lv_Div2 135 [q, y1, y0, d, y, s, u, z]) (mkT lv_Div2 135 [q, y1, y0, d, y, s, u, z, r]) := by
  have h : mkT lv_Div2 135 [q, y1, y0, d, y, s, u, z] = mkT (lv_Div2.take 8) 135 [q, y1, y0, d, y, s, u, z] := by kernel_rfl
  rw [h]
  exact less_mkT (by kernel_rfl) (by kernel_rfl)
theorem LL_Div64 : ∀ fn c, Try.prog.funcs[63]? = some fn → fn.body = some c → LOK Try.prog GT gbT L_Div64 (loopsIn c) := by
  refine LOK.ofF fun b hb => ?_
  have e : loopsF Try.prog 63 = [loopB Try.prog 63 0, loopB Try.prog 63 1] := by kernel_rfl
  have k0 : loopKey (loopB Try.prog 63 0) = 17 := by kernel_rfl
  have k1 : loopKey (loopB Try.prog 63 1) = 24 := by kernel_rfl
  rw [e, List.mem_cons, List.mem_singleton] at hb
  rcases hb with rfl | rfl
  · refine LOKb.or ?_ (LOKb.lam1_other (by rw [k0]; decide))
    rw [← k0]
    refine LOKb.lam1 (n := 135) (e := 0) (live := lv_Div1) fun xs M N hl hd => ?_
    match xs, hl with
    | [q, y1, y0, d, y, s, u, z, r], _ => exact r_Div 0 0 lv_Div1 _ M N l_Div1 (fun q y1 y0 d y s u z r => b_Div1 q y1 y0 d y s u z r M N) _ q y1 y0 d y s u z r (digOk_iff.1 hd) (Nat.le_refl _)
  · refine LOKb.or (LOKb.lam1_other (by rw [k1]; decide)) ?_
    rw [← k1]
    refine LOKb.lam1 (n := 135) (e := 2) (live := lv_Div2) fun xs M N hl hd => ?_
    match xs, hl with
    | [q, y1, y0, d, y, s, u, z, r], _ => exact r_Div 1 2 lv_Div2 _ M N l_Div2 (fun q y1 y0 d y s u z r => b_Div2 q y1 y0 d y s u z r M N) _ q y1 y0 d y s u z r (digOk_iff.1 hd) (Nat.le_refl _)

set_option maxRecDepth 100000 in
/-- math/bits.Div64 -/
theorem w_bits_Div64 (hi lo y : Int) (K : AV → List Blk → Ans) : evFn Try.prog GT EQT T_bits_LeadingZeros64 XT L_Div64 60 63 [.v (.c (.d (.int .u64 hi))), .v (.c (.d (.int .u64 lo))), .v (.c (.d (.int .u64 y)))] [] (fun v M => K v (M.take ([] : List Blk).length)) = divAns K hi lo y := by
  kernel_rfl
theorem c_bits_Div64 (hi lo y : Int) (hd : (decide (hi < y)) = true) : CallsA Try.prog GT gbT 63 [.v (.c (.d (.int .u64 hi))), .v (.c (.d (.int .u64 lo))), .v (.c (.d (.int .u64 y)))] [] (rUU ((hi * 18446744073709551616 + lo) / y, (hi * 18446744073709551616 + lo) % y)) [] := by
  refine CallsA.ofOk fun hok => ?_
  have hw := w_bits_Div64 hi lo y (fun v M => some (Res.fin v M))
  refine CallsA.ofEv (Γ := T_bits_LeadingZeros64) (X := XT) (Λ := L_Div64) (EQ := EQT) (n := 60) g_bits_LeadingZeros64 hEQT hmT (LL_Div64) (hw.trans ?_)
  have h_hi := inR_u64 (hok (.int .u64 hi) (by simp [datasL, datas]))
  have h_lo := inR_u64 (hok (.int .u64 lo) (by simp [datasL, datas]))
  have h_y := inR_u64 (hok (.int .u64 y) (by simp [datasL, datas]))
  clear hok hw
  exact divAns_ok (K := fun v M => some (Res.fin v M)) h_hi h_lo h_y (of_decide_eq_true hd)
def s_bits_Div64 : List AV → List Blk → (AV → List Blk → Ans) → Ans := fun xs bs K => match xs, bs with
  | [.v (.c (.d (.int .u64 hi))), .v (.c (.d (.int .u64 lo))), .v (.c (.d (.int .u64 y)))], [] => bif decide (hi < y) then K (rUU ((hi * 18446744073709551616 + lo) / y, (hi * 18446744073709551616 + lo) % y)) [] else none
  | _, _ => none
def T_bits_Div64 : Nat → List AV → List Blk → (AV → List Blk → Ans) → Ans := upd T_bits_LeadingZeros64 63 s_bits_Div64
theorem g_bits_Div64 : GOK Try.prog GT gbT T_bits_Div64 XT := by
  refine GOK.upd g_bits_LeadingZeros64 (fun args w => Try.call63 args w) fun xs bs K r h => ?_
  unfold s_bits_Div64 at h
  split at h
  · simp only [cond_eq_ite] at h
    split at h
    · exact ⟨_, _, c_bits_Div64 _ _ _ ‹_›, h⟩
    · cases h
  · cases h


set_option maxRecDepth 100000 in
/-- frac.size -/
theorem w_frac_size (n : Int) (K : AV → List Blk → Ans) : evFn Try.prog GT EQT T_bits_Div64 XT noL 60 61 [.v (.c (.d (.int .i64 n)))] [] (fun v M => K v (M.take ([] : List Blk).length)) = K (rU (sizeRaw n)) [] := by
  simp only [sizeRaw, pullK K]
  kernel_rfl
theorem c_frac_size (n : Int) : CallsA Try.prog GT gbT 61 [.v (.c (.d (.int .i64 n)))] [] (rU (absI n)) [] := by
  refine CallsA.ofOk fun hok => ?_
  have hw := w_frac_size n (fun v M => some (Res.fin v M))
  refine CallsA.ofEv (Γ := T_bits_Div64) (X := XT) (Λ := noL) (EQ := EQT) (n := 60) g_bits_Div64 hEQT hmT (fun _ _ _ _ => noL_ok _) (hw.trans ?_)
  have h_n := inR_i64 (hok (.int .i64 n) (by simp [datasL, datas]))
  clear hok hw
  refine congrArg (fun v => some (Res.fin v [])) ?_
  rw [sizeRaw_ok h_n]
def s_frac_size : List AV → List Blk → (AV → List Blk → Ans) → Ans := fun xs bs K => match xs, bs with
  | [.v (.c (.d (.int .i64 n)))], [] => K (rU (absI n)) []
  | _, _ => none
def T_frac_size : Nat → List AV → List Blk → (AV → List Blk → Ans) → Ans := upd T_bits_Div64 61 s_frac_size
theorem g_frac_size : GOK Try.prog GT gbT T_frac_size XT := by
  refine GOK.upd g_bits_Div64 (fun args w => Try.call61 args w) fun xs bs K r h => ?_
  unfold s_frac_size at h
  split at h
  · exact ⟨_, _, c_frac_size _, h⟩
  · cases h


set_option maxRecDepth 100000 in
/-- fringeref01.abs -/
theorem w_fringeref01_abs (n : Int) (K : AV → List Blk → Ans) : evFn Try.prog GT EQT T_frac_size XT noL 60 51 [.v (.c (.d (.int .i64 n)))] [] (fun v M => K v (M.take ([] : List Blk).length)) = K (rU (absRaw n)) [] := by
  simp only [absRaw, pullK K]
  kernel_rfl
theorem c_fringeref01_abs (n : Int) : CallsA Try.prog GT gbT 51 [.v (.c (.d (.int .i64 n)))] [] (rU (absI n)) [] := by
  refine CallsA.ofOk fun hok => ?_
  have hw := w_fringeref01_abs n (fun v M => some (Res.fin v M))
  refine CallsA.ofEv (Γ := T_frac_size) (X := XT) (Λ := noL) (EQ := EQT) (n := 60) g_frac_size hEQT hmT (fun _ _ _ _ => noL_ok _) (hw.trans ?_)
  have h_n := inR_i64 (hok (.int .i64 n) (by simp [datasL, datas]))
  clear hok hw
  refine congrArg (fun v => some (Res.fin v [])) ?_
  rw [absRaw_ok h_n]
def s_fringeref01_abs : List AV → List Blk → (AV → List Blk → Ans) → Ans := fun xs bs K => match xs, bs with
  | [.v (.c (.d (.int .i64 n)))], [] => K (rU (absI n)) []
  | _, _ => none
def T_fringeref01_abs : Nat → List AV → List Blk → (AV → List Blk → Ans) → Ans := upd T_frac_size 51 s_fringeref01_abs
theorem g_fringeref01_abs : GOK Try.prog GT gbT T_fringeref01_abs XT := by
  refine GOK.upd g_frac_size (fun args w => Try.call51 args w) fun xs bs K r h => ?_
  unfold s_fringeref01_abs at h
  split at h
  · exact ⟨_, _, c_fringeref01_abs _, h⟩
  · cases h


set_option maxRecDepth 100000 in
/-- frac.Check -/
theorem w_frac_Check (num den : Int) (K : AV → List Blk → Ans) : evFn Try.prog GT EQT T_fringeref01_abs XT noL 60 44 [.v (.agg [.int .i64 num, .int .i64 den])] [] (fun v M => K v (M.take ([] : List Blk).length)) = K (rI (checkRaw num den (absI den))) [] := by
  simp only [checkRaw, pullK K]
  kernel_rfl
theorem c_frac_Check (num den : Int) : CallsA Try.prog GT gbT 44 [.v (.agg [.int .i64 num, .int .i64 den])] [] (rI (checkF ⟨num, den⟩)) [] := by
  refine CallsA.ofOk fun hok => ?_
  have hw := w_frac_Check num den (fun v M => some (Res.fin v M))
  refine CallsA.ofEv (Γ := T_fringeref01_abs) (X := XT) (Λ := noL) (EQ := EQT) (n := 60) g_fringeref01_abs hEQT hmT (fun _ _ _ _ => noL_ok _) (hw.trans ?_)
  have h_num := inR_i64 (hok (.int .i64 num) (by simp [datasL, datas]))
  have h_den := inR_i64 (hok (.int .i64 den) (by simp [datasL, datas]))
  clear hok hw
  refine congrArg (fun v => some (Res.fin v [])) ?_
  rw [checkRaw_abs]
def s_frac_Check : List AV → List Blk → (AV → List Blk → Ans) → Ans := fun xs bs K => match xs, bs with
  | [.v (.agg [.int .i64 num, .int .i64 den])], [] => K (rI (checkF ⟨num, den⟩)) []
  | _, _ => none
def T_frac_Check : Nat → List AV → List Blk → (AV → List Blk → Ans) → Ans := upd T_fringeref01_abs 44 s_frac_Check
theorem g_frac_Check : GOK Try.prog GT gbT T_frac_Check XT := by
  refine GOK.upd g_fringeref01_abs (fun args w => Try.call44 args w) fun xs bs K r h => ?_
  unfold s_frac_Check at h
  split at h
  · exact ⟨_, _, c_frac_Check _ _, h⟩
  · cases h


set_option maxRecDepth 100000 in
/-- fringeref01.Check -/
theorem w_fringeref01_Check (num den : Int) (K : AV → List Blk → Ans) : evFn Try.prog GT EQT T_frac_Check XT noL 60 46 [.v (.agg [.int .i64 num, .int .i64 den])] [] (fun v M => K v (M.take ([] : List Blk).length)) = K (rI (checkRaw num den (wu64 den))) [] := by
  simp only [checkRaw, pullK K]
  kernel_rfl
theorem c_fringeref01_Check (num den : Int) : CallsA Try.prog GT gbT 46 [.v (.agg [.int .i64 num, .int .i64 den])] [] (rI (checkF ⟨num, den⟩)) [] := by
  refine CallsA.ofOk fun hok => ?_
  have hw := w_fringeref01_Check num den (fun v M => some (Res.fin v M))
  refine CallsA.ofEv (Γ := T_frac_Check) (X := XT) (Λ := noL) (EQ := EQT) (n := 60) g_frac_Check hEQT hmT (fun _ _ _ _ => noL_ok _) (hw.trans ?_)
  have h_num := inR_i64 (hok (.int .i64 num) (by simp [datasL, datas]))
  have h_den := inR_i64 (hok (.int .i64 den) (by simp [datasL, datas]))
  clear hok hw
  refine congrArg (fun v => some (Res.fin v [])) ?_
  rw [checkRaw_wu num den h_den.2]
def s_fringeref01_Check : List AV → List Blk → (AV → List Blk → Ans) → Ans := fun xs bs K => match xs, bs with
  | [.v (.agg [.int .i64 num, .int .i64 den])], [] => K (rI (checkF ⟨num, den⟩)) []
  | _, _ => none
def T_fringeref01_Check : Nat → List AV → List Blk → (AV → List Blk → Ans) → Ans := upd T_frac_Check 46 s_fringeref01_Check
theorem g_fringeref01_Check : GOK Try.prog GT gbT T_fringeref01_Check XT := by
  refine GOK.upd g_frac_Check (fun args w => Try.call46 args w) fun xs bs K r h => ?_
  unfold s_fringeref01_Check at h
  split at h
  · exact ⟨_, _, c_fringeref01_Check _ _, h⟩
  · cases h


set_option maxRecDepth 100000 in
/-- fringeref01.big -/
theorem w_fringeref01_big (n : Int) (K : AV → List Blk → Ans) : evFn Try.prog GT EQT T_fringeref01_Check XT noL 60 64 [.v (.c (.d (.int .u64 n)))] [] (fun v M => K v (M.take ([] : List Blk).length)) = K (rBig (bigRaw n)) [] := by
  kernel_rfl
theorem c_fringeref01_big (n : Int) : CallsA Try.prog GT gbT 64 [.v (.c (.d (.int .u64 n)))] [] (rBig (bigOf n)) [] := by
  refine CallsA.ofOk fun hok => ?_
  have hw := w_fringeref01_big n (fun v M => some (Res.fin v M))
  refine CallsA.ofEv (Γ := T_fringeref01_Check) (X := XT) (Λ := noL) (EQ := EQT) (n := 60) g_fringeref01_Check hEQT hmT (fun _ _ _ _ => noL_ok _) (hw.trans ?_)
  have h_n := inR_u64 (hok (.int .u64 n) (by simp [datasL, datas]))
  clear hok hw
  refine congrArg (fun v => some (Res.fin v [])) ?_
  rw [bigRaw_ok h_n]
def s_fringeref01_big : List AV → List Blk → (AV → List Blk → Ans) → Ans := fun xs bs K => match xs, bs with
  | [.v (.c (.d (.int .u64 n)))], [] => K (rBig (bigOf n)) []
  | _, _ => none
def T_fringeref01_big : Nat → List AV → List Blk → (AV → List Blk → Ans) → Ans := upd T_fringeref01_Check 64 s_fringeref01_big
theorem g_fringeref01_big : GOK Try.prog GT gbT T_fringeref01_big XT := by
  refine GOK.upd g_fringeref01_Check (fun args w => Try.call64 args w) fun xs bs K r h => ?_
  unfold s_fringeref01_big at h
  split at h
  · exact ⟨_, _, c_fringeref01_big _, h⟩
  · cases h


set_option maxRecDepth 100000 in
/-- fringeref01.Product -/
theorem w_fringeref01_Product (x y : Int) (K : AV → List Blk → Ans) : evFn Try.prog GT EQT T_fringeref01_big XT noL 60 50 [.v (.c (.d (.int .u64 x))), .v (.c (.d (.int .u64 y)))] [] (fun v M => K v (M.take ([] : List Blk).length)) = K (rBig (prodRaw (bigOf x) (bigOf y))) [] := by
  kernel_rfl
theorem c_fringeref01_Product (x y : Int) : CallsA Try.prog GT gbT 50 [.v (.c (.d (.int .u64 x))), .v (.c (.d (.int .u64 y)))] [] (rBig (bigOf (x * y))) [] := by
  refine CallsA.ofOk fun hok => ?_
  have hw := w_fringeref01_Product x y (fun v M => some (Res.fin v M))
  refine CallsA.ofEv (Γ := T_fringeref01_big) (X := XT) (Λ := noL) (EQ := EQT) (n := 60) g_fringeref01_big hEQT hmT (fun _ _ _ _ => noL_ok _) (hw.trans ?_)
  have h_x := inR_u64 (hok (.int .u64 x) (by simp [datasL, datas]))
  have h_y := inR_u64 (hok (.int .u64 y) (by simp [datasL, datas]))
  clear hok hw
  refine congrArg (fun v => some (Res.fin v [])) ?_
  rw [prodRaw_ok h_x h_y]
def s_fringeref01_Product : List AV → List Blk → (AV → List Blk → Ans) → Ans := fun xs bs K => match xs, bs with
  | [.v (.c (.d (.int .u64 x))), .v (.c (.d (.int .u64 y)))], [] => K (rBig (bigOf (x * y))) []
  | _, _ => none
def T_fringeref01_Product : Nat → List AV → List Blk → (AV → List Blk → Ans) → Ans := upd T_fringeref01_big 50 s_fringeref01_Product
theorem g_fringeref01_Product : GOK Try.prog GT gbT T_fringeref01_Product XT := by
  refine GOK.upd g_fringeref01_big (fun args w => Try.call50 args w) fun xs bs K r h => ?_
  unfold s_fringeref01_Product at h
  split at h
  · exact ⟨_, _, c_fringeref01_Product _ _, h⟩
  · cases h


set_option maxRecDepth 100000 in
/-- fringeref01.below -/
theorem w_fringeref01_below (a b c d e f g h : Int) (K : AV → List Blk → Ans) : evFn Try.prog GT EQT T_fringeref01_Product XT noL 80 53 [.v (.agg [.int .u64 a, .int .u64 b, .int .u64 c, .int .u64 d]), .v (.agg [.int .u64 e, .int .u64 f, .int .u64 g, .int .u64 h])] [] (fun v M => K v (M.take ([] : List Blk).length)) = K (rB (belowRaw ⟨a, b, c, d⟩ ⟨e, f, g, h⟩)) [] := by
  simp only [belowRaw, pullK K]
  kernel_rfl
theorem c_fringeref01_below (a b c d e f g h : Int) : CallsA Try.prog GT gbT 53 [.v (.agg [.int .u64 a, .int .u64 b, .int .u64 c, .int .u64 d]), .v (.agg [.int .u64 e, .int .u64 f, .int .u64 g, .int .u64 h])] [] (rB (belowRaw ⟨a, b, c, d⟩ ⟨e, f, g, h⟩)) [] := by
  refine CallsA.ofOk fun hok => ?_
  have hw := w_fringeref01_below a b c d e f g h (fun v M => some (Res.fin v M))
  refine CallsA.ofEv (Γ := T_fringeref01_Product) (X := XT) (Λ := noL) (EQ := EQT) (n := 80) g_fringeref01_Product hEQT hmT (fun _ _ _ _ => noL_ok _) (hw.trans ?_)
  rfl
def s_fringeref01_below : List AV → List Blk → (AV → List Blk → Ans) → Ans := fun xs bs K => match xs, bs with
  | [.v (.agg [.int .u64 a, .int .u64 b, .int .u64 c, .int .u64 d]), .v (.agg [.int .u64 e, .int .u64 f, .int .u64 g, .int .u64 h])], [] => K (rB (belowRaw ⟨a, b, c, d⟩ ⟨e, f, g, h⟩)) []
  | _, _ => none
def T_fringeref01_below : Nat → List AV → List Blk → (AV → List Blk → Ans) → Ans := upd T_fringeref01_Product 53 s_fringeref01_below
theorem g_fringeref01_below : GOK Try.prog GT gbT T_fringeref01_below XT := by
  refine GOK.upd g_fringeref01_Product (fun args w => Try.call53 args w) fun xs bs K r h => ?_
  unfold s_fringeref01_below at h
  split at h
  · exact ⟨_, _, c_fringeref01_below _ _ _ _ _ _ _ _, h⟩
  · cases h


set_option maxRecDepth 100000 in
/-- fringeref01.Small -/
theorem w_fringeref01_Small (a b c d : Int) (K : AV → List Blk → Ans) : evFn Try.prog GT EQT T_fringeref01_below XT noL 60 65 [.v (.agg [.int .u64 a, .int .u64 b, .int .u64 c, .int .u64 d])] [] (fun v M => K v (M.take ([] : List Blk).length)) = bif c == 0 then (bif d == 0 then K (rIB ((smallRaw ⟨a, b, c, d⟩).1, decide (borU (shlU b 32) a ≤ 1000000000000000000))) [] else K (rIB ((smallRaw ⟨a, b, c, d⟩).1, false)) []) else K (rIB ((smallRaw ⟨a, b, c, d⟩).1, false)) [] := by
  kernel_rfl
theorem c_fringeref01_Small (a b c d : Int) : CallsA Try.prog GT gbT 65 [.v (.agg [.int .u64 a, .int .u64 b, .int .u64 c, .int .u64 d])] [] (rIB (smallRaw ⟨a, b, c, d⟩)) [] := by
  refine CallsA.ofOk fun hok => ?_
  have hw := w_fringeref01_Small a b c d (fun v M => some (Res.fin v M))
  refine CallsA.ofEv (Γ := T_fringeref01_below) (X := XT) (Λ := noL) (EQ := EQT) (n := 60) g_fringeref01_below hEQT hmT (fun _ _ _ _ => noL_ok _) (hw.trans ?_)
  have h_a := inR_u64 (hok (.int .u64 a) (by simp [datasL, datas]))
  have h_b := inR_u64 (hok (.int .u64 b) (by simp [datasL, datas]))
  have h_c := inR_u64 (hok (.int .u64 c) (by simp [datasL, datas]))
  have h_d := inR_u64 (hok (.int .u64 d) (by simp [datasL, datas]))
  clear hok hw
  unfold smallRaw
  simp only
  cases c == 0 <;> cases d == 0 <;> rfl
def s_fringeref01_Small : List AV → List Blk → (AV → List Blk → Ans) → Ans := fun xs bs K => match xs, bs with
  | [.v (.agg [.int .u64 a, .int .u64 b, .int .u64 c, .int .u64 d])], [] => K (rIB (smallRaw ⟨a, b, c, d⟩)) []
  | _, _ => none
def T_fringeref01_Small : Nat → List AV → List Blk → (AV → List Blk → Ans) → Ans := upd T_fringeref01_below 65 s_fringeref01_Small
theorem g_fringeref01_Small : GOK Try.prog GT gbT T_fringeref01_Small XT := by
  refine GOK.upd g_fringeref01_below (fun args w => Try.call65 args w) fun xs bs K r h => ?_
  unfold s_fringeref01_Small at h
  split at h
  · exact ⟨_, _, c_fringeref01_Small _ _ _ _, h⟩
  · cases h


end Go.Ev
