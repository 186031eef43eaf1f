/-
  Contracts of functions: what each returns. No condition beyond those of the statements.
-/
import Derived.Test.YtckjflbbilideaaDoorGyTab
namespace Go.Ev
open Go Go.Proofs

set_option maxRecDepth 100000 in
/-- math/bits.Mul64 -/
theorem w_bits_Mul64 (x y : Int) (K : AV → List Blk → Ans) : evFn Tryd.prog GT EQT T0 XT noL 60 92 [.v (.c (.d (.int .u64 x))), .v (.c (.d (.int .u64 y)))] [] (fun v M => K v (M.take ([] : List Blk).length)) = K (rUU (mulRaw x y)) [] := by
  kernel_rfl
set_option maxRecDepth 100000 in
theorem c_bits_Mul64 (x y : Int) : CallsA Tryd.prog GT gbT 92 [.v (.c (.d (.int .u64 x))), .v (.c (.d (.int .u64 y)))] [] (rUU (mul64 x y)) [] := by
  refine CallsA.ofOk fun hok => ?_
  have hw := w_bits_Mul64 x y (fun v M => some (Res.fin v M))
  refine CallsA.ofEv (Γ := T0) (X := XT) (Λ := noL) (EQ := EQT) (n := 60) g0 hEQT hmT (fun _ _ _ _ => noL_ok _) (hw.trans ?_)
  have h_x := inR_u64 (hok (.int .u64 x) (by simp [datasL, datas]))
  have h_y := inR_u64 (hok (.int .u64 y) (by simp [datasL, datas]))
  clear hok hw
  refine congrArg (fun v => some (Res.fin v [])) ?_
  rw [mul64_ok h_x h_y]
def s_bits_Mul64 : List AV → List Blk → (AV → List Blk → Ans) → Ans := fun xs bs K => match xs, bs with
  | [.v (.c (.d (.int .u64 x))), .v (.c (.d (.int .u64 y)))], [] => K (rUU (mul64 x y)) []
  | _, _ => none
def T_bits_Mul64 : Nat → List AV → List Blk → (AV → List Blk → Ans) → Ans := upd T0 92 s_bits_Mul64
theorem g_bits_Mul64 : GOK Tryd.prog GT gbT T_bits_Mul64 XT := by
  refine GOK.upd g0 (fun args w => Tryd.call92 args w) fun xs bs K r h => ?_
  unfold s_bits_Mul64 at h
  split at h
  · exact ⟨_, _, c_bits_Mul64 _ _, h⟩
  · cases h


abbrev lv_frac_gcd : List (Nat × IntKind) := [(0, .u64), (1, .u64)]
def L_frac_gcd := Lam1 1 12 0 lv_frac_gcd (fun l => match l with | [a, b] => decide (0 ≤ a) && decide (0 ≤ b) | _ => false) (fun l => match l with | [a, b] => [gcdI a b, 0] | _ => [])
set_option maxRecDepth 100000 in
theorem b_frac_gcd (a b : Int) (M : List Blk) (N : Nat) : evCode Tryd.prog GT EQT T_bits_Mul64 XT noL 20 (loopB Tryd.prog 89 0) (mkT lv_frac_gcd 12 [a, b]) M N (fun x T M N => some (.st x (forget [0, 1] T) M N)) =
    bif b != 0 then (bif b == 0 then none else some (.st .normal (mkT lv_frac_gcd 12 [b, a.tmod b]) M N)) else some (.st (.exit 0) (mkT lv_frac_gcd 12 [a, b]) M N) := by kernel_rfl
theorem r_frac_gcd (M : List Blk) (N : Nat) : ∀ (n : Nat) (a b : Int), 0 ≤ a → 0 ≤ b → b.toNat ≤ n → ∃ k, RoundsOK Tryd.prog GT gbT (loopB Tryd.prog 89 0) k (mkT lv_frac_gcd 12 [a, b]) M N (.exit 0) (mkT lv_frac_gcd 12 [gcdI a b, 0]) M N := by
  intro n
  induction n with
  | zero =>
    intro a b ha hb hn
    have e : b = 0 := by omega
    subst e
    rw [gcdI_zero a ha]
    exact ⟨1, RoundsOK.fin (Λ := noL) g_bits_Mul64 hEQT hmT (noL_ok _) (b_frac_gcd a 0 M N)⟩
  | succ n ih =>
    intro a b ha hb hn
    by_cases e : b = 0
    · subst e
      rw [gcdI_zero a ha]
      exact ⟨1, RoundsOK.fin (Λ := noL) g_bits_Mul64 hEQT hmT (noL_ok _) (b_frac_gcd a 0 M N)⟩
    · have h1 : 0 ≤ a.tmod b := Int.tmod_nonneg b ha
      have h2 : a.tmod b < b := Int.tmod_lt_of_pos a (by omega)
      obtain ⟨k, hk⟩ := ih b (a.tmod b) hb h1 (by omega)
      rw [gcdI_step] at hk
      refine ⟨k + 1, RoundsOK.go (Λ := noL) g_bits_Mul64 hEQT hmT (noL_ok _) ((b_frac_gcd a b M N).trans ?_) hk⟩
      have e' : (b == 0) = false := by simpa using e
      simp only [bne, e', Bool.not_false, cond_true, cond_false]
set_option maxRecDepth 100000 in
theorem LL_frac_gcd : ∀ fn c, Tryd.prog.funcs[89]? = some fn → fn.body = some c → LOK Tryd.prog GT gbT L_frac_gcd (loopsIn c) := by
  refine LOK.ofF fun b hb => ?_
  have e : loopsF Tryd.prog 89 = [loopB Tryd.prog 89 0] := by kernel_rfl
  rw [e, List.mem_singleton] at hb
  subst hb
  refine LOKb.lam1 (b := loopB Tryd.prog 89 0) (n := 12) (e := 0) (live := lv_frac_gcd) fun xs M N hl hd => ?_
  match xs, hl with
  | [a, b], _ =>
    simp only [Bool.and_eq_true, decide_eq_true_eq] at hd
    exact r_frac_gcd M N _ a b hd.1 hd.2 (Nat.le_refl _)

set_option maxRecDepth 100000 in
/-- frac.gcd -/
theorem w_frac_gcd (a b : Int) (K : AV → List Blk → Ans) : evFn Tryd.prog GT EQT T_bits_Mul64 XT L_frac_gcd 60 89 [.v (.c (.d (.int .u64 a))), .v (.c (.d (.int .u64 b)))] [] (fun v M => K v (M.take ([] : List Blk).length)) = bif decide (0 ≤ a) && decide (0 ≤ b) then K (rU (gcdI a b)) [] else none := by
  kernel_rfl
set_option maxRecDepth 100000 in
theorem c_frac_gcd (a b : Int) : CallsA Tryd.prog GT gbT 89 [.v (.c (.d (.int .u64 a))), .v (.c (.d (.int .u64 b)))] [] (rU (gcdI a b)) [] := by
  refine CallsA.ofOk fun hok => ?_
  have hw := w_frac_gcd a b (fun v M => some (Res.fin v M))
  refine CallsA.ofEv (Γ := T_bits_Mul64) (X := XT) (Λ := L_frac_gcd) (EQ := EQT) (n := 60) g_bits_Mul64 hEQT hmT (LL_frac_gcd) (hw.trans ?_)
  have h_a := inR_u64 (hok (.int .u64 a) (by simp [datasL, datas]))
  have h_b := inR_u64 (hok (.int .u64 b) (by simp [datasL, datas]))
  clear hok hw
  simp only [h_a.1, h_b.1, decide_true, Bool.and_self, cond_true]
def s_frac_gcd : List AV → List Blk → (AV → List Blk → Ans) → Ans := fun xs bs K => match xs, bs with
  | [.v (.c (.d (.int .u64 a))), .v (.c (.d (.int .u64 b)))], [] => K (rU (gcdI a b)) []
  | _, _ => none
def T_frac_gcd : Nat → List AV → List Blk → (AV → List Blk → Ans) → Ans := upd T_bits_Mul64 89 s_frac_gcd
theorem g_frac_gcd : GOK Tryd.prog GT gbT T_frac_gcd XT := by
  refine GOK.upd g_bits_Mul64 (fun args w => Tryd.call89 args w) fun xs bs K r h => ?_
  unfold s_frac_gcd at h
  split at h
  · exact ⟨_, _, c_frac_gcd _ _, h⟩
  · cases h


abbrev lv_ref01_gcd : List (Nat × IntKind) := [(0, .u64), (1, .u64)]
def L_ref01_gcd := Lam1 1 12 0 lv_ref01_gcd (fun l => match l with | [a, b] => decide (0 ≤ a) && decide (0 ≤ b) | _ => false) (fun l => match l with | [a, b] => [gcdI a b, 0] | _ => [])
set_option maxRecDepth 100000 in
theorem b_ref01_gcd (a b : Int) (M : List Blk) (N : Nat) : evCode Tryd.prog GT EQT T_frac_gcd XT noL 20 (loopB Tryd.prog 59 0) (mkT lv_ref01_gcd 12 [a, b]) M N (fun x T M N => some (.st x (forget [0, 1] T) M N)) =
    bif b != 0 then (bif b == 0 then none else some (.st .normal (mkT lv_ref01_gcd 12 [b, a.tmod b]) M N)) else some (.st (.exit 0) (mkT lv_ref01_gcd 12 [a, b]) M N) := by kernel_rfl
theorem r_ref01_gcd (M : List Blk) (N : Nat) : ∀ (n : Nat) (a b : Int), 0 ≤ a → 0 ≤ b → b.toNat ≤ n → ∃ k, RoundsOK Tryd.prog GT gbT (loopB Tryd.prog 59 0) k (mkT lv_ref01_gcd 12 [a, b]) M N (.exit 0) (mkT lv_ref01_gcd 12 [gcdI a b, 0]) M N := by
  intro n
  induction n with
  | zero =>
    intro a b ha hb hn
    have e : b = 0 := by omega
    subst e
    rw [gcdI_zero a ha]
    exact ⟨1, RoundsOK.fin (Λ := noL) g_frac_gcd hEQT hmT (noL_ok _) (b_ref01_gcd a 0 M N)⟩
  | succ n ih =>
    intro a b ha hb hn
    by_cases e : b = 0
    · subst e
      rw [gcdI_zero a ha]
      exact ⟨1, RoundsOK.fin (Λ := noL) g_frac_gcd hEQT hmT (noL_ok _) (b_ref01_gcd a 0 M N)⟩
    · have h1 : 0 ≤ a.tmod b := Int.tmod_nonneg b ha
      have h2 : a.tmod b < b := Int.tmod_lt_of_pos a (by omega)
      obtain ⟨k, hk⟩ := ih b (a.tmod b) hb h1 (by omega)
      rw [gcdI_step] at hk
      refine ⟨k + 1, RoundsOK.go (Λ := noL) g_frac_gcd hEQT hmT (noL_ok _) ((b_ref01_gcd a b M N).trans ?_) hk⟩
      have e' : (b == 0) = false := by simpa using e
      simp only [bne, e', Bool.not_false, cond_true, cond_false]
set_option maxRecDepth 100000 in
theorem LL_ref01_gcd : ∀ fn c, Tryd.prog.funcs[59]? = some fn → fn.body = some c → LOK Tryd.prog GT gbT L_ref01_gcd (loopsIn c) := by
  refine LOK.ofF fun b hb => ?_
  have e : loopsF Tryd.prog 59 = [loopB Tryd.prog 59 0] := by kernel_rfl
  rw [e, List.mem_singleton] at hb
  subst hb
  refine LOKb.lam1 (b := loopB Tryd.prog 59 0) (n := 12) (e := 0) (live := lv_ref01_gcd) fun xs M N hl hd => ?_
  match xs, hl with
  | [a, b], _ =>
    simp only [Bool.and_eq_true, decide_eq_true_eq] at hd
    exact r_ref01_gcd M N _ a b hd.1 hd.2 (Nat.le_refl _)

set_option maxRecDepth 100000 in
/-- fringeref01.gcd -/
theorem w_fringeref01_gcd (a b : Int) (K : AV → List Blk → Ans) : evFn Tryd.prog GT EQT T_frac_gcd XT L_ref01_gcd 60 59 [.v (.c (.d (.int .u64 a))), .v (.c (.d (.int .u64 b)))] [] (fun v M => K v (M.take ([] : List Blk).length)) = bif decide (0 ≤ a) && decide (0 ≤ b) then K (rU (gcdI a b)) [] else none := by
  kernel_rfl
set_option maxRecDepth 100000 in
theorem c_fringeref01_gcd (a b : Int) : CallsA Tryd.prog GT gbT 59 [.v (.c (.d (.int .u64 a))), .v (.c (.d (.int .u64 b)))] [] (rU (gcdI a b)) [] := by
  refine CallsA.ofOk fun hok => ?_
  have hw := w_fringeref01_gcd a b (fun v M => some (Res.fin v M))
  refine CallsA.ofEv (Γ := T_frac_gcd) (X := XT) (Λ := L_ref01_gcd) (EQ := EQT) (n := 60) g_frac_gcd hEQT hmT (LL_ref01_gcd) (hw.trans ?_)
  have h_a := inR_u64 (hok (.int .u64 a) (by simp [datasL, datas]))
  have h_b := inR_u64 (hok (.int .u64 b) (by simp [datasL, datas]))
  clear hok hw
  simp only [h_a.1, h_b.1, decide_true, Bool.and_self, cond_true]
def s_fringeref01_gcd : List AV → List Blk → (AV → List Blk → Ans) → Ans := fun xs bs K => match xs, bs with
  | [.v (.c (.d (.int .u64 a))), .v (.c (.d (.int .u64 b)))], [] => K (rU (gcdI a b)) []
  | _, _ => none
def T_fringeref01_gcd : Nat → List AV → List Blk → (AV → List Blk → Ans) → Ans := upd T_frac_gcd 59 s_fringeref01_gcd
theorem g_fringeref01_gcd : GOK Tryd.prog GT gbT T_fringeref01_gcd XT := by
  refine GOK.upd g_frac_gcd (fun args w => Tryd.call59 args w) fun xs bs K r h => ?_
  unfold s_fringeref01_gcd at h
  split at h
  · exact ⟨_, _, c_fringeref01_gcd _ _, h⟩
  · cases h


set_option maxRecDepth 100000 in
/-- math/bits.Len64 -/
theorem w_bits_Len64 (x : Int) (K : AV → List Blk → Ans) : evFn Tryd.prog GT EQT T_fringeref01_gcd XT noL 60 103 [.v (.c (.d (.int .u64 x)))] [] (fun v M => K v (M.take ([] : List Blk).length)) = lenAns K x := by
  kernel_rfl
set_option maxRecDepth 100000 in
theorem c_bits_Len64 (x : Int) : CallsA Tryd.prog GT gbT 103 [.v (.c (.d (.int .u64 x)))] [] (rI (lenI x)) [] := by
  refine CallsA.ofOk fun hok => ?_
  have hw := w_bits_Len64 x (fun v M => some (Res.fin v M))
  refine CallsA.ofEv (Γ := T_fringeref01_gcd) (X := XT) (Λ := noL) (EQ := EQT) (n := 60) g_fringeref01_gcd hEQT hmT (fun _ _ _ _ => noL_ok _) (hw.trans ?_)
  have h_x := inR_u64 (hok (.int .u64 x) (by simp [datasL, datas]))
  clear hok hw
  exact lenAns_ok (K := fun v M => some (Res.fin v M)) h_x.1 (by omega)
def s_bits_Len64 : List AV → List Blk → (AV → List Blk → Ans) → Ans := fun xs bs K => match xs, bs with
  | [.v (.c (.d (.int .u64 x)))], [] => K (rI (lenI x)) []
  | _, _ => none
def T_bits_Len64 : Nat → List AV → List Blk → (AV → List Blk → Ans) → Ans := upd T_fringeref01_gcd 103 s_bits_Len64
theorem g_bits_Len64 : GOK Tryd.prog GT gbT T_bits_Len64 XT := by
  refine GOK.upd g_fringeref01_gcd (fun args w => Tryd.call103 args w) fun xs bs K r h => ?_
  unfold s_bits_Len64 at h
  split at h
  · exact ⟨_, _, c_bits_Len64 _, h⟩
  · cases h


set_option maxRecDepth 100000 in
/-- math/bits.LeadingZeros64 -/
theorem w_bits_LeadingZeros64 (x : Int) (K : AV → List Blk → Ans) : evFn Tryd.prog GT EQT T_bits_Len64 XT noL 60 102 [.v (.c (.d (.int .u64 x)))] [] (fun v M => K v (M.take ([] : List Blk).length)) = K (rI (w64 (64 - lenI x))) [] := by
  kernel_rfl
set_option maxRecDepth 100000 in
theorem c_bits_LeadingZeros64 (x : Int) : CallsA Tryd.prog GT gbT 102 [.v (.c (.d (.int .u64 x)))] [] (rI (64 - lenI x)) [] := by
  refine CallsA.ofOk fun hok => ?_
  have hw := w_bits_LeadingZeros64 x (fun v M => some (Res.fin v M))
  refine CallsA.ofEv (Γ := T_bits_Len64) (X := XT) (Λ := noL) (EQ := EQT) (n := 60) g_bits_Len64 hEQT hmT (fun _ _ _ _ => noL_ok _) (hw.trans ?_)
  have h_x := inR_u64 (hok (.int .u64 x) (by simp [datasL, datas]))
  clear hok hw
  refine congrArg (fun v => some (Res.fin v [])) ?_
  rw [w64_id (by have := lenI_le h_x.1 (by omega); omega)]
def s_bits_LeadingZeros64 : List AV → List Blk → (AV → List Blk → Ans) → Ans := fun xs bs K => match xs, bs with
  | [.v (.c (.d (.int .u64 x)))], [] => K (rI (64 - lenI x)) []
  | _, _ => none
def T_bits_LeadingZeros64 : Nat → List AV → List Blk → (AV → List Blk → Ans) → Ans := upd T_bits_Len64 102 s_bits_LeadingZeros64
theorem g_bits_LeadingZeros64 : GOK Tryd.prog GT gbT T_bits_LeadingZeros64 XT := by
  refine GOK.upd g_bits_Len64 (fun args w => Tryd.call102 args w) fun xs bs K r h => ?_
  unfold s_bits_LeadingZeros64 at h
  split at h
  · exact ⟨_, _, c_bits_LeadingZeros64 _, h⟩
  · cases h


abbrev lv_Div1 : List (Nat × IntKind) := [(15, .u64), (9, .u64), (10, .u64), (13, .u64), (2, .u64), (8, .u64), (11, .u64), (14, .u64), (16, .u64)]
abbrev lv_Div2 : List (Nat × IntKind) := [(18, .u64), (9, .u64), (10, .u64), (14, .u64), (2, .u64), (8, .u64), (15, .u64), (17, .u64), (16, .u64)]
def digDom (l : List Int) : Bool := match l with | [q, y1, y0, d, _, _, _, _, r] => digOk q y1 y0 d r | _ => false
def digFin (l : List Int) : List Int := match l with | [q, y1, y0, d, y, s, u, z, r] => [digQ q y1 y0 d r, y1, y0, d, y, s, u, z] | _ => []
def L_Div64 := orL (Lam1 17 135 0 lv_Div1 digDom digFin) (Lam1 24 135 2 lv_Div2 digDom digFin)
set_option maxRecDepth 100000 in
theorem b_Div1 (q y1 y0 d y s u z r : Int) (M : List Blk) (N : Nat) : evCode Tryd.prog GT EQT T_bits_LeadingZeros64 XT noL 40 (loopB Tryd.prog 101 0) (mkT lv_Div1 135 [q, y1, y0, d, y, s, u, z, r]) M N (fun x T M N => some (.st x (forget [15, 9, 10, 13, 2, 8, 11, 14, 16] T) M N)) =
    bif decide (4294967296 ≤ q) then (bif decide (4294967296 ≤ wu64 (r + y1)) then some (.st (.exit 0) (mkT lv_Div1 135 [wu64 (q - 1), y1, y0, d, y, s, u, z, wu64 (r + y1)]) M N) else some (.st .normal (mkT lv_Div1 135 [wu64 (q - 1), y1, y0, d, y, s, u, z, wu64 (r + y1)]) M N))
    else bif decide (wu64 (wu64 (4294967296 * r) + d) < wu64 (q * y0)) then (bif decide (4294967296 ≤ wu64 (r + y1)) then some (.st (.exit 0) (mkT lv_Div1 135 [wu64 (q - 1), y1, y0, d, y, s, u, z, wu64 (r + y1)]) M N) else some (.st .normal (mkT lv_Div1 135 [wu64 (q - 1), y1, y0, d, y, s, u, z, wu64 (r + y1)]) M N))
    else some (.st (.exit 0) (mkT lv_Div1 135 [q, y1, y0, d, y, s, u, z, r]) M N) := by kernel_rfl
set_option maxRecDepth 100000 in
theorem b_Div2 (q y1 y0 d y s u z r : Int) (M : List Blk) (N : Nat) : evCode Tryd.prog GT EQT T_bits_LeadingZeros64 XT noL 40 (loopB Tryd.prog 101 1) (mkT lv_Div2 135 [q, y1, y0, d, y, s, u, z, r]) M N (fun x T M N => some (.st x (forget [18, 9, 10, 14, 2, 8, 15, 17, 16] T) M N)) =
    bif decide (4294967296 ≤ q) then (bif decide (4294967296 ≤ wu64 (r + y1)) then some (.st (.exit 2) (mkT lv_Div2 135 [wu64 (q - 1), y1, y0, d, y, s, u, z, wu64 (r + y1)]) M N) else some (.st .normal (mkT lv_Div2 135 [wu64 (q - 1), y1, y0, d, y, s, u, z, wu64 (r + y1)]) M N))
    else bif decide (wu64 (wu64 (4294967296 * r) + d) < wu64 (q * y0)) then (bif decide (4294967296 ≤ wu64 (r + y1)) then some (.st (.exit 2) (mkT lv_Div2 135 [wu64 (q - 1), y1, y0, d, y, s, u, z, wu64 (r + y1)]) M N) else some (.st .normal (mkT lv_Div2 135 [wu64 (q - 1), y1, y0, d, y, s, u, z, wu64 (r + y1)]) M N))
    else some (.st (.exit 2) (mkT lv_Div2 135 [q, y1, y0, d, y, s, u, z, r]) M N) := by kernel_rfl
theorem r_Div (i e : Nat) (lv : List (Nat × IntKind)) (keep : List Nat) (M : List Blk) (N : Nat) (hless : ∀ q y1 y0 d y s u z r : Int, Less (mkT lv 135 [q, y1, y0, d, y, s, u, z]) (mkT lv 135 [q, y1, y0, d, y, s, u, z, r]))
    (hb : ∀ q y1 y0 d y s u z r : Int, evCode Tryd.prog GT EQT T_bits_LeadingZeros64 XT noL 40 (loopB Tryd.prog 101 i) (mkT lv 135 [q, y1, y0, d, y, s, u, z, r]) M N (fun x T M N => some (.st x (forget keep T) M N)) =
    bif decide (4294967296 ≤ q) then (bif decide (4294967296 ≤ wu64 (r + y1)) then some (.st (.exit e) (mkT lv 135 [wu64 (q - 1), y1, y0, d, y, s, u, z, wu64 (r + y1)]) M N) else some (.st .normal (mkT lv 135 [wu64 (q - 1), y1, y0, d, y, s, u, z, wu64 (r + y1)]) M N))
    else bif decide (wu64 (wu64 (4294967296 * r) + d) < wu64 (q * y0)) then (bif decide (4294967296 ≤ wu64 (r + y1)) then some (.st (.exit e) (mkT lv 135 [wu64 (q - 1), y1, y0, d, y, s, u, z, wu64 (r + y1)]) M N) else some (.st .normal (mkT lv 135 [wu64 (q - 1), y1, y0, d, y, s, u, z, wu64 (r + y1)]) M N))
    else some (.st (.exit e) (mkT lv 135 [q, y1, y0, d, y, s, u, z, r]) M N)) :
    ∀ (n : Nat) (q y1 y0 d y s u z r : Int), DigOk q y1 y0 d r → (q - digQ q y1 y0 d r).toNat ≤ n → ∃ k, RoundsOK Tryd.prog GT gbT (loopB Tryd.prog 101 i) k (mkT lv 135 [q, y1, y0, d, y, s, u, z, r]) M N (.exit e) (mkT lv 135 [digQ q y1 y0 d r, y1, y0, d, y, s, u, z]) M N := by
  have out : ∀ (q y1 y0 d y s u z r : Int), DigOk q y1 y0 d r → q ≤ digQ q y1 y0 d r → ∃ k, RoundsOK Tryd.prog GT gbT (loopB Tryd.prog 101 i) k (mkT lv 135 [q, y1, y0, d, y, s, u, z, r]) M N (.exit e) (mkT lv 135 [digQ q y1 y0 d r, y1, y0, d, y, s, u, z]) M N := by
    intro q y1 y0 d y s u z r h hq
    obtain ⟨h1, h2, h3, h4, h5, h6, h7, h8, h9, h10, h11, h12⟩ := h
    have hv : 0 < y1 * 4294967296 + y0 := by omega
    have eq : digQ q y1 y0 d r = q := by omega
    have ht := (digQ_test hv).1 hq
    have hqy : 0 ≤ q * y0 := Int.mul_nonneg (by omega) h3
    rw [eq]
    refine ⟨1, (RoundsOK.fin (Λ := noL) g_bits_LeadingZeros64 hEQT hmT (noL_ok _) ((hb q y1 y0 d y s u z r).trans ?_)).weak (hless q y1 y0 d y s u z r)⟩
    rw [decide_eq_false (show ¬ (4294967296 : Int) ≤ q by omega), wu64_id (n := 4294967296 * r) (by omega), wu64_id (n := 4294967296 * r + d) (by omega), wu64_id (n := q * y0) (by omega), decide_eq_false (show ¬ 4294967296 * r + d < q * y0 by omega)]
    rfl
  have next : ∀ (q y1 y0 d y s u z r : Int), DigOk q y1 y0 d r → digQ q y1 y0 d r < q → evCode Tryd.prog GT EQT T_bits_LeadingZeros64 XT noL 40 (loopB Tryd.prog 101 i) (mkT lv 135 [q, y1, y0, d, y, s, u, z, r]) M N (fun x T M N => some (.st x (forget keep T) M N)) =
      bif decide (4294967296 ≤ r + y1) then some (.st (.exit e) (mkT lv 135 [q - 1, y1, y0, d, y, s, u, z, r + y1]) M N) else some (.st .normal (mkT lv 135 [q - 1, y1, y0, d, y, s, u, z, r + y1]) M N) := by
    intro q y1 y0 d y s u z r h hq
    obtain ⟨h1, h2, h3, h4, h5, h6, h7, h8, h9, h10, h11, h12⟩ := h
    have hv : 0 < y1 * 4294967296 + y0 := by omega
    rw [hb, wu64_id (n := r + y1) (by omega), wu64_id (n := q - 1) (by omega)]
    by_cases hB : 4294967296 ≤ q
    · rw [decide_eq_true hB]
      rfl
    · have ht : ¬ q * y0 ≤ 4294967296 * r + d := fun hh => by have := (digQ_test (q := q) (d := d) (r := r) hv).2 hh; omega
      have hqy : 0 ≤ q * y0 := Int.mul_nonneg (by omega) h3
      have hqy2 : q * y0 ≤ 4294967295 * 4294967295 := Int.mul_le_mul (by omega) (by omega) h3 (by omega)
      rw [decide_eq_false hB, wu64_id (n := 4294967296 * r) (by omega), wu64_id (n := 4294967296 * r + d) (by omega), wu64_id (n := q * y0) (by omega), decide_eq_true (show 4294967296 * r + d < q * y0 by omega)]
      rfl
  intro n
  induction n with
  | zero => intro q y1 y0 d y s u z r h hn; exact out q y1 y0 d y s u z r h (by omega)
  | succ n ih =>
    intro q y1 y0 d y s u z r h hn
    by_cases hq : q ≤ digQ q y1 y0 d r
    · exact out q y1 y0 d y s u z r h hq
    · by_cases hr : 4294967296 ≤ r + y1
      · refine ⟨1, (RoundsOK.fin (Λ := noL) g_bits_LeadingZeros64 hEQT hmT (noL_ok _) ((next q y1 y0 d y s u z r h (by omega)).trans ?_)).weak (hless _ y1 y0 d y s u z (r + y1))⟩
        rw [decide_eq_true hr, h.stop (by omega) hr]
        rfl
      · have hs := digQ_step q y1 y0 d r
        obtain ⟨k, hk⟩ := ih (q - 1) y1 y0 d y s u z (r + y1) (h.next (by omega) (by omega)) (by omega)
        rw [hs] at hk
        refine ⟨k + 1, RoundsOK.go (Λ := noL) g_bits_LeadingZeros64 hEQT hmT (noL_ok _) ((next q y1 y0 d y s u z r h (by omega)).trans ?_) hk⟩
        rw [decide_eq_false hr]
        rfl
theorem l_Div1 (q y1 y0 d y s u z r : Int) : Less (mkT lv_Div1 135 [q, y1, y0, d, y, s, u, z]) (mkT lv_Div1 135 [q, y1, y0, d, y, s, u, z, r]) := by
  have h : mkT lv_Div1 135 [q, y1, y0, d, y, s, u, z] = mkT (lv_Div1.take 8) 135 [q, y1, y0, d, y, s, u, z] := by kernel_rfl
  rw [h]
  exact less_mkT (by kernel_rfl) (by kernel_rfl)
theorem l_Div2 (q y1 y0 d y s u z r : Int) : Less (mkT lv_Div2 135 [q, y1, y0, d, y, s, u, z]) (mkT lv_Div2 135 [q, y1, y0, d, y, s, u, z, r]) := by
  have h : mkT lv_Div2 135 [q, y1, y0, d, y, s, u, z] = mkT (lv_Div2.take 8) 135 [q, y1, y0, d, y, s, u, z] := by kernel_rfl
  rw [h]
  exact less_mkT (by kernel_rfl) (by kernel_rfl)
set_option maxRecDepth 100000 in
theorem LL_Div64 : ∀ fn c, Tryd.prog.funcs[101]? = some fn → fn.body = some c → LOK Tryd.prog GT gbT L_Div64 (loopsIn c) := by
  refine LOK.ofF fun b hb => ?_
  have e : loopsF Tryd.prog 101 = [loopB Tryd.prog 101 0, loopB Tryd.prog 101 1] := by kernel_rfl
  have k0 : loopKey (loopB Tryd.prog 101 0) = 17 := by kernel_rfl
  have k1 : loopKey (loopB Tryd.prog 101 1) = 24 := by kernel_rfl
  rw [e, List.mem_cons, List.mem_singleton] at hb
  rcases hb with rfl | rfl
  · refine LOKb.or ?_ (LOKb.lam1_other (by rw [k0]; decide))
    rw [← k0]
    refine LOKb.lam1 (n := 135) (e := 0) (live := lv_Div1) fun xs M N hl hd => ?_
    match xs, hl with
    | [q, y1, y0, d, y, s, u, z, r], _ => exact r_Div 0 0 lv_Div1 _ M N l_Div1 (fun q y1 y0 d y s u z r => b_Div1 q y1 y0 d y s u z r M N) _ q y1 y0 d y s u z r (digOk_iff.1 hd) (Nat.le_refl _)
  · refine LOKb.or (LOKb.lam1_other (by rw [k1]; decide)) ?_
    rw [← k1]
    refine LOKb.lam1 (n := 135) (e := 2) (live := lv_Div2) fun xs M N hl hd => ?_
    match xs, hl with
    | [q, y1, y0, d, y, s, u, z, r], _ => exact r_Div 1 2 lv_Div2 _ M N l_Div2 (fun q y1 y0 d y s u z r => b_Div2 q y1 y0 d y s u z r M N) _ q y1 y0 d y s u z r (digOk_iff.1 hd) (Nat.le_refl _)

set_option maxRecDepth 100000 in
/-- math/bits.Div64 -/
theorem w_bits_Div64 (hi lo y : Int) (K : AV → List Blk → Ans) : evFn Tryd.prog GT EQT T_bits_LeadingZeros64 XT L_Div64 60 101 [.v (.c (.d (.int .u64 hi))), .v (.c (.d (.int .u64 lo))), .v (.c (.d (.int .u64 y)))] [] (fun v M => K v (M.take ([] : List Blk).length)) = divAns K hi lo y := by
  kernel_rfl
set_option maxRecDepth 100000 in
theorem c_bits_Div64 (hi lo y : Int) (hd : (decide (hi < y)) = true) : CallsA Tryd.prog GT gbT 101 [.v (.c (.d (.int .u64 hi))), .v (.c (.d (.int .u64 lo))), .v (.c (.d (.int .u64 y)))] [] (rUU ((hi * 18446744073709551616 + lo) / y, (hi * 18446744073709551616 + lo) % y)) [] := by
  refine CallsA.ofOk fun hok => ?_
  have hw := w_bits_Div64 hi lo y (fun v M => some (Res.fin v M))
  refine CallsA.ofEv (Γ := T_bits_LeadingZeros64) (X := XT) (Λ := L_Div64) (EQ := EQT) (n := 60) g_bits_LeadingZeros64 hEQT hmT (LL_Div64) (hw.trans ?_)
  have h_hi := inR_u64 (hok (.int .u64 hi) (by simp [datasL, datas]))
  have h_lo := inR_u64 (hok (.int .u64 lo) (by simp [datasL, datas]))
  have h_y := inR_u64 (hok (.int .u64 y) (by simp [datasL, datas]))
  clear hok hw
  exact divAns_ok (K := fun v M => some (Res.fin v M)) h_hi h_lo h_y (of_decide_eq_true hd)
def s_bits_Div64 : List AV → List Blk → (AV → List Blk → Ans) → Ans := fun xs bs K => match xs, bs with
  | [.v (.c (.d (.int .u64 hi))), .v (.c (.d (.int .u64 lo))), .v (.c (.d (.int .u64 y)))], [] => bif decide (hi < y) then K (rUU ((hi * 18446744073709551616 + lo) / y, (hi * 18446744073709551616 + lo) % y)) [] else none
  | _, _ => none
def T_bits_Div64 : Nat → List AV → List Blk → (AV → List Blk → Ans) → Ans := upd T_bits_LeadingZeros64 101 s_bits_Div64
theorem g_bits_Div64 : GOK Tryd.prog GT gbT T_bits_Div64 XT := by
  refine GOK.upd g_bits_LeadingZeros64 (fun args w => Tryd.call101 args w) fun xs bs K r h => ?_
  unfold s_bits_Div64 at h
  split at h
  · simp only [cond_eq_ite] at h
    split at h
    · exact ⟨_, _, c_bits_Div64 _ _ _ ‹_›, h⟩
    · cases h
  · cases h


set_option maxRecDepth 100000 in
/-- frac.size -/
theorem w_frac_size (n : Int) (K : AV → List Blk → Ans) : evFn Tryd.prog GT EQT T_bits_Div64 XT noL 60 90 [.v (.c (.d (.int .i64 n)))] [] (fun v M => K v (M.take ([] : List Blk).length)) = K (rU (sizeRaw n)) [] := by
  simp only [sizeRaw, pullK K]
  kernel_rfl
set_option maxRecDepth 100000 in
theorem c_frac_size (n : Int) : CallsA Tryd.prog GT gbT 90 [.v (.c (.d (.int .i64 n)))] [] (rU (absI n)) [] := by
  refine CallsA.ofOk fun hok => ?_
  have hw := w_frac_size n (fun v M => some (Res.fin v M))
  refine CallsA.ofEv (Γ := T_bits_Div64) (X := XT) (Λ := noL) (EQ := EQT) (n := 60) g_bits_Div64 hEQT hmT (fun _ _ _ _ => noL_ok _) (hw.trans ?_)
  have h_n := inR_i64 (hok (.int .i64 n) (by simp [datasL, datas]))
  clear hok hw
  refine congrArg (fun v => some (Res.fin v [])) ?_
  rw [sizeRaw_ok h_n]
def s_frac_size : List AV → List Blk → (AV → List Blk → Ans) → Ans := fun xs bs K => match xs, bs with
  | [.v (.c (.d (.int .i64 n)))], [] => K (rU (absI n)) []
  | _, _ => none
def T_frac_size : Nat → List AV → List Blk → (AV → List Blk → Ans) → Ans := upd T_bits_Div64 90 s_frac_size
theorem g_frac_size : GOK Tryd.prog GT gbT T_frac_size XT := by
  refine GOK.upd g_bits_Div64 (fun args w => Tryd.call90 args w) fun xs bs K r h => ?_
  unfold s_frac_size at h
  split at h
  · exact ⟨_, _, c_frac_size _, h⟩
  · cases h


set_option maxRecDepth 100000 in
/-- fringeref01.abs -/
theorem w_fringeref01_abs (n : Int) (K : AV → List Blk → Ans) : evFn Tryd.prog GT EQT T_frac_size XT noL 60 60 [.v (.c (.d (.int .i64 n)))] [] (fun v M => K v (M.take ([] : List Blk).length)) = K (rU (absRaw n)) [] := by
  simp only [absRaw, pullK K]
  kernel_rfl
set_option maxRecDepth 100000 in
theorem c_fringeref01_abs (n : Int) : CallsA Tryd.prog GT gbT 60 [.v (.c (.d (.int .i64 n)))] [] (rU (absI n)) [] := by
  refine CallsA.ofOk fun hok => ?_
  have hw := w_fringeref01_abs n (fun v M => some (Res.fin v M))
  refine CallsA.ofEv (Γ := T_frac_size) (X := XT) (Λ := noL) (EQ := EQT) (n := 60) g_frac_size hEQT hmT (fun _ _ _ _ => noL_ok _) (hw.trans ?_)
  have h_n := inR_i64 (hok (.int .i64 n) (by simp [datasL, datas]))
  clear hok hw
  refine congrArg (fun v => some (Res.fin v [])) ?_
  rw [absRaw_ok h_n]
def s_fringeref01_abs : List AV → List Blk → (AV → List Blk → Ans) → Ans := fun xs bs K => match xs, bs with
  | [.v (.c (.d (.int .i64 n)))], [] => K (rU (absI n)) []
  | _, _ => none
def T_fringeref01_abs : Nat → List AV → List Blk → (AV → List Blk → Ans) → Ans := upd T_frac_size 60 s_fringeref01_abs
theorem g_fringeref01_abs : GOK Tryd.prog GT gbT T_fringeref01_abs XT := by
  refine GOK.upd g_frac_size (fun args w => Tryd.call60 args w) fun xs bs K r h => ?_
  unfold s_fringeref01_abs at h
  split at h
  · exact ⟨_, _, c_fringeref01_abs _, h⟩
  · cases h


set_option maxRecDepth 100000 in
/-- frac.Check -/
theorem w_frac_Check (num den : Int) (K : AV → List Blk → Ans) : evFn Tryd.prog GT EQT T_fringeref01_abs XT noL 60 74 [.v (.agg [.int .i64 num, .int .i64 den])] [] (fun v M => K v (M.take ([] : List Blk).length)) = K (rI (checkRaw num den (absI den))) [] := by
  simp only [checkRaw, pullK K]
  kernel_rfl
set_option maxRecDepth 100000 in
theorem c_frac_Check (num den : Int) : CallsA Tryd.prog GT gbT 74 [.v (.agg [.int .i64 num, .int .i64 den])] [] (rI (checkF ⟨num, den⟩)) [] := by
  refine CallsA.ofOk fun hok => ?_
  have hw := w_frac_Check num den (fun v M => some (Res.fin v M))
  refine CallsA.ofEv (Γ := T_fringeref01_abs) (X := XT) (Λ := noL) (EQ := EQT) (n := 60) g_fringeref01_abs hEQT hmT (fun _ _ _ _ => noL_ok _) (hw.trans ?_)
  have h_num := inR_i64 (hok (.int .i64 num) (by simp [datasL, datas]))
  have h_den := inR_i64 (hok (.int .i64 den) (by simp [datasL, datas]))
  clear hok hw
  refine congrArg (fun v => some (Res.fin v [])) ?_
  rw [checkRaw_abs]
def s_frac_Check : List AV → List Blk → (AV → List Blk → Ans) → Ans := fun xs bs K => match xs, bs with
  | [.v (.agg [.int .i64 num, .int .i64 den])], [] => K (rI (checkF ⟨num, den⟩)) []
  | _, _ => none
def T_frac_Check : Nat → List AV → List Blk → (AV → List Blk → Ans) → Ans := upd T_fringeref01_abs 74 s_frac_Check
theorem g_frac_Check : GOK Tryd.prog GT gbT T_frac_Check XT := by
  refine GOK.upd g_fringeref01_abs (fun args w => Tryd.call74 args w) fun xs bs K r h => ?_
  unfold s_frac_Check at h
  split at h
  · exact ⟨_, _, c_frac_Check _ _, h⟩
  · cases h


set_option maxRecDepth 100000 in
/-- fringeref01.Check -/
theorem w_fringeref01_Check (num den : Int) (K : AV → List Blk → Ans) : evFn Tryd.prog GT EQT T_frac_Check XT noL 60 63 [.v (.agg [.int .i64 num, .int .i64 den])] [] (fun v M => K v (M.take ([] : List Blk).length)) = K (rI (checkRaw num den (wu64 den))) [] := by
  simp only [checkRaw, pullK K]
  kernel_rfl
set_option maxRecDepth 100000 in
theorem c_fringeref01_Check (num den : Int) : CallsA Tryd.prog GT gbT 63 [.v (.agg [.int .i64 num, .int .i64 den])] [] (rI (checkF ⟨num, den⟩)) [] := by
  refine CallsA.ofOk fun hok => ?_
  have hw := w_fringeref01_Check num den (fun v M => some (Res.fin v M))
  refine CallsA.ofEv (Γ := T_frac_Check) (X := XT) (Λ := noL) (EQ := EQT) (n := 60) g_frac_Check hEQT hmT (fun _ _ _ _ => noL_ok _) (hw.trans ?_)
  have h_num := inR_i64 (hok (.int .i64 num) (by simp [datasL, datas]))
  have h_den := inR_i64 (hok (.int .i64 den) (by simp [datasL, datas]))
  clear hok hw
  refine congrArg (fun v => some (Res.fin v [])) ?_
  rw [checkRaw_wu num den h_den.2]
def s_fringeref01_Check : List AV → List Blk → (AV → List Blk → Ans) → Ans := fun xs bs K => match xs, bs with
  | [.v (.agg [.int .i64 num, .int .i64 den])], [] => K (rI (checkF ⟨num, den⟩)) []
  | _, _ => none
def T_fringeref01_Check : Nat → List AV → List Blk → (AV → List Blk → Ans) → Ans := upd T_frac_Check 63 s_fringeref01_Check
theorem g_fringeref01_Check : GOK Tryd.prog GT gbT T_fringeref01_Check XT := by
  refine GOK.upd g_frac_Check (fun args w => Tryd.call63 args w) fun xs bs K r h => ?_
  unfold s_fringeref01_Check at h
  split at h
  · exact ⟨_, _, c_fringeref01_Check _ _, h⟩
  · cases h


set_option maxRecDepth 100000 in
/-- fringeref01.big -/
theorem w_fringeref01_big (n : Int) (K : AV → List Blk → Ans) : evFn Tryd.prog GT EQT T_fringeref01_Check XT noL 60 87 [.v (.c (.d (.int .u64 n)))] [] (fun v M => K v (M.take ([] : List Blk).length)) = K (rBig (bigRaw n)) [] := by
  kernel_rfl
set_option maxRecDepth 100000 in
theorem c_fringeref01_big (n : Int) : CallsA Tryd.prog GT gbT 87 [.v (.c (.d (.int .u64 n)))] [] (rBig (bigOf n)) [] := by
  refine CallsA.ofOk fun hok => ?_
  have hw := w_fringeref01_big n (fun v M => some (Res.fin v M))
  refine CallsA.ofEv (Γ := T_fringeref01_Check) (X := XT) (Λ := noL) (EQ := EQT) (n := 60) g_fringeref01_Check hEQT hmT (fun _ _ _ _ => noL_ok _) (hw.trans ?_)
  have h_n := inR_u64 (hok (.int .u64 n) (by simp [datasL, datas]))
  clear hok hw
  refine congrArg (fun v => some (Res.fin v [])) ?_
  rw [bigRaw_ok h_n]
def s_fringeref01_big : List AV → List Blk → (AV → List Blk → Ans) → Ans := fun xs bs K => match xs, bs with
  | [.v (.c (.d (.int .u64 n)))], [] => K (rBig (bigOf n)) []
  | _, _ => none
def T_fringeref01_big : Nat → List AV → List Blk → (AV → List Blk → Ans) → Ans := upd T_fringeref01_Check 87 s_fringeref01_big
theorem g_fringeref01_big : GOK Tryd.prog GT gbT T_fringeref01_big XT := by
  refine GOK.upd g_fringeref01_Check (fun args w => Tryd.call87 args w) fun xs bs K r h => ?_
  unfold s_fringeref01_big at h
  split at h
  · exact ⟨_, _, c_fringeref01_big _, h⟩
  · cases h


set_option maxRecDepth 100000 in
/-- fringeref01.Product -/
theorem w_fringeref01_Product (x y : Int) (K : AV → List Blk → Ans) : evFn Tryd.prog GT EQT T_fringeref01_big XT noL 60 62 [.v (.c (.d (.int .u64 x))), .v (.c (.d (.int .u64 y)))] [] (fun v M => K v (M.take ([] : List Blk).length)) = K (rBig (prodRaw (bigOf x) (bigOf y))) [] := by
  kernel_rfl
set_option maxRecDepth 100000 in
theorem c_fringeref01_Product (x y : Int) : CallsA Tryd.prog GT gbT 62 [.v (.c (.d (.int .u64 x))), .v (.c (.d (.int .u64 y)))] [] (rBig (bigOf (x * y))) [] := by
  refine CallsA.ofOk fun hok => ?_
  have hw := w_fringeref01_Product x y (fun v M => some (Res.fin v M))
  refine CallsA.ofEv (Γ := T_fringeref01_big) (X := XT) (Λ := noL) (EQ := EQT) (n := 60) g_fringeref01_big hEQT hmT (fun _ _ _ _ => noL_ok _) (hw.trans ?_)
  have h_x := inR_u64 (hok (.int .u64 x) (by simp [datasL, datas]))
  have h_y := inR_u64 (hok (.int .u64 y) (by simp [datasL, datas]))
  clear hok hw
  refine congrArg (fun v => some (Res.fin v [])) ?_
  rw [prodRaw_ok h_x h_y]
def s_fringeref01_Product : List AV → List Blk → (AV → List Blk → Ans) → Ans := fun xs bs K => match xs, bs with
  | [.v (.c (.d (.int .u64 x))), .v (.c (.d (.int .u64 y)))], [] => K (rBig (bigOf (x * y))) []
  | _, _ => none
def T_fringeref01_Product : Nat → List AV → List Blk → (AV → List Blk → Ans) → Ans := upd T_fringeref01_big 62 s_fringeref01_Product
theorem g_fringeref01_Product : GOK Tryd.prog GT gbT T_fringeref01_Product XT := by
  refine GOK.upd g_fringeref01_big (fun args w => Tryd.call62 args w) fun xs bs K r h => ?_
  unfold s_fringeref01_Product at h
  split at h
  · exact ⟨_, _, c_fringeref01_Product _ _, h⟩
  · cases h


set_option maxRecDepth 100000 in
/-- fringeref01.below -/
theorem w_fringeref01_below (a b c d e f g h : Int) (K : AV → List Blk → Ans) : evFn Tryd.prog GT EQT T_fringeref01_Product XT noL 80 85 [.v (.agg [.int .u64 a, .int .u64 b, .int .u64 c, .int .u64 d]), .v (.agg [.int .u64 e, .int .u64 f, .int .u64 g, .int .u64 h])] [] (fun v M => K v (M.take ([] : List Blk).length)) = K (rB (belowRaw ⟨a, b, c, d⟩ ⟨e, f, g, h⟩)) [] := by
  simp only [belowRaw, pullK K]
  kernel_rfl
set_option maxRecDepth 100000 in
theorem c_fringeref01_below (a b c d e f g h : Int) : CallsA Tryd.prog GT gbT 85 [.v (.agg [.int .u64 a, .int .u64 b, .int .u64 c, .int .u64 d]), .v (.agg [.int .u64 e, .int .u64 f, .int .u64 g, .int .u64 h])] [] (rB (belowRaw ⟨a, b, c, d⟩ ⟨e, f, g, h⟩)) [] := by
  refine CallsA.ofOk fun hok => ?_
  have hw := w_fringeref01_below a b c d e f g h (fun v M => some (Res.fin v M))
  refine CallsA.ofEv (Γ := T_fringeref01_Product) (X := XT) (Λ := noL) (EQ := EQT) (n := 80) g_fringeref01_Product hEQT hmT (fun _ _ _ _ => noL_ok _) (hw.trans ?_)
  rfl
def s_fringeref01_below : List AV → List Blk → (AV → List Blk → Ans) → Ans := fun xs bs K => match xs, bs with
  | [.v (.agg [.int .u64 a, .int .u64 b, .int .u64 c, .int .u64 d]), .v (.agg [.int .u64 e, .int .u64 f, .int .u64 g, .int .u64 h])], [] => K (rB (belowRaw ⟨a, b, c, d⟩ ⟨e, f, g, h⟩)) []
  | _, _ => none
def T_fringeref01_below : Nat → List AV → List Blk → (AV → List Blk → Ans) → Ans := upd T_fringeref01_Product 85 s_fringeref01_below
theorem g_fringeref01_below : GOK Tryd.prog GT gbT T_fringeref01_below XT := by
  refine GOK.upd g_fringeref01_Product (fun args w => Tryd.call85 args w) fun xs bs K r h => ?_
  unfold s_fringeref01_below at h
  split at h
  · exact ⟨_, _, c_fringeref01_below _ _ _ _ _ _ _ _, h⟩
  · cases h


set_option maxRecDepth 100000 in
/-- fringeref01.Small -/
theorem w_fringeref01_Small (a b c d : Int) (K : AV → List Blk → Ans) : evFn Tryd.prog GT EQT T_fringeref01_below XT noL 60 86 [.v (.agg [.int .u64 a, .int .u64 b, .int .u64 c, .int .u64 d])] [] (fun v M => K v (M.take ([] : List Blk).length)) = bif c == 0 then (bif d == 0 then K (rIB ((smallRaw ⟨a, b, c, d⟩).1, decide (borU (shlU b 32) a ≤ 1000000000000000000))) [] else K (rIB ((smallRaw ⟨a, b, c, d⟩).1, false)) []) else K (rIB ((smallRaw ⟨a, b, c, d⟩).1, false)) [] := by
  kernel_rfl
set_option maxRecDepth 100000 in
theorem c_fringeref01_Small (a b c d : Int) : CallsA Tryd.prog GT gbT 86 [.v (.agg [.int .u64 a, .int .u64 b, .int .u64 c, .int .u64 d])] [] (rIB (smallRaw ⟨a, b, c, d⟩)) [] := by
  refine CallsA.ofOk fun hok => ?_
  have hw := w_fringeref01_Small a b c d (fun v M => some (Res.fin v M))
  refine CallsA.ofEv (Γ := T_fringeref01_below) (X := XT) (Λ := noL) (EQ := EQT) (n := 60) g_fringeref01_below hEQT hmT (fun _ _ _ _ => noL_ok _) (hw.trans ?_)
  have h_a := inR_u64 (hok (.int .u64 a) (by simp [datasL, datas]))
  have h_b := inR_u64 (hok (.int .u64 b) (by simp [datasL, datas]))
  have h_c := inR_u64 (hok (.int .u64 c) (by simp [datasL, datas]))
  have h_d := inR_u64 (hok (.int .u64 d) (by simp [datasL, datas]))
  clear hok hw
  unfold smallRaw
  simp only
  cases c == 0 <;> cases d == 0 <;> rfl
def s_fringeref01_Small : List AV → List Blk → (AV → List Blk → Ans) → Ans := fun xs bs K => match xs, bs with
  | [.v (.agg [.int .u64 a, .int .u64 b, .int .u64 c, .int .u64 d])], [] => K (rIB (smallRaw ⟨a, b, c, d⟩)) []
  | _, _ => none
def T_fringeref01_Small : Nat → List AV → List Blk → (AV → List Blk → Ans) → Ans := upd T_fringeref01_below 86 s_fringeref01_Small
theorem g_fringeref01_Small : GOK Tryd.prog GT gbT T_fringeref01_Small XT := by
  refine GOK.upd g_fringeref01_below (fun args w => Tryd.call86 args w) fun xs bs K r h => ?_
  unfold s_fringeref01_Small at h
  split at h
  · exact ⟨_, _, c_fringeref01_Small _ _ _ _, h⟩
  · cases h


abbrev sh_Over : List (Nat × Sh) := [(1, .int .u64), (2, .ptr 0 0), (4, .ptr 1 0), (6, .ptr 2 0), (7, .int .u64), (8, .int .i64), (9, .int .i64)]
abbrev ms_Over : List (Nat × List IntKind) := [(102, [.u64, .u64, .u64, .u64]), (102, [.u64, .u64, .u64, .u64]), (102, [.u64, .u64, .u64, .u64])]
abbrev T_OverIn (n i r b : Int) : TS := maskT (mkS sh_Over [n, r, i, b]) 46
abbrev T_OverOut (n i r : Int) : TS := maskT (mkS (sh_Over.take 6) [n, r, i]) 46
abbrev M_Over (l : List Int) : List Blk := mkM ms_Over l
def f_Over (xs ys : List Int) : LT := match xs, ys with
  | [n, r, i, b], [a0, a1, a2, a3, z0, z1, z2, z3, o0, o1, o2, o3] =>
    bif b == 31 then bif i == 3 && o3 == 0 then .br (digOn n r a3) (.st (.exit 2) (T_OverOut n 3 (dR n r a3)) (M_Over [a0, a1, a2, a3, z0, z1, z2, z3, o0, o1, o2, dQ n r a3]) 3) .no else bif i == 2 && o2 == 0 then .br (digOn n r a2) (.st (.exit 2) (T_OverOut n 2 (dR n r a2)) (M_Over [a0, a1, a2, a3, z0, z1, z2, z3, o0, o1, dQ n r a2, o3]) 3) .no else bif i == 1 && o1 == 0 then .br (digOn n r a1) (.st (.exit 2) (T_OverOut n 1 (dR n r a1)) (M_Over [a0, a1, a2, a3, z0, z1, z2, z3, o0, dQ n r a1, o2, o3]) 3) .no else bif i == 0 && o0 == 0 then .br (digOn n r a0) (.st (.exit 2) (T_OverOut n 0 (dR n r a0)) (M_Over [a0, a1, a2, a3, z0, z1, z2, z3, dQ n r a0, o1, o2, o3]) 3) .no else .no else .no
  | _, _ => .no
def L_Over := LamS 6 46 3 sh_Over ms_Over f_Over
set_option maxRecDepth 100000 in
theorem b_Over0 (n r b a0 a1 a2 a3 z0 z1 z2 z3 o0 o1 o2 o3 : Int) : evCode Tryd.prog GT EQT T_fringeref01_Small XT noL 40 (loopB Tryd.prog 96 1) (T_OverIn n 0 r b) (M_Over [a0, a1, a2, a3, z0, z1, z2, z3, o0, o1, o2, o3]) 3 (fun x T M N => some (.st x (forget [1, 2, 4, 6, 7, 8, 9] T) M N)) =
    bif decide (0 ≤ b) then (bif decide (b < 0) then none else bif decide (n ≤ bitIn r a0 b) then (bif decide (b < 0) then none else some (.st .normal (T_OverIn n 0 (wu64 (bitIn r a0 b - n)) (w64 (b - 1))) (M_Over [a0, a1, a2, a3, z0, z1, z2, z3, borU o0 (shlU 1 b), o1, o2, o3]) 3)) else some (.st .normal (T_OverIn n 0 (bitIn r a0 b) (w64 (b - 1))) (M_Over [a0, a1, a2, a3, z0, z1, z2, z3, o0, o1, o2, o3]) 3))
    else some (.st (.exit 2) (T_OverIn n 0 r b) (M_Over [a0, a1, a2, a3, z0, z1, z2, z3, o0, o1, o2, o3]) 3) := by kernel_rfl
set_option maxRecDepth 100000 in
theorem b_Over1 (n r b a0 a1 a2 a3 z0 z1 z2 z3 o0 o1 o2 o3 : Int) : evCode Tryd.prog GT EQT T_fringeref01_Small XT noL 40 (loopB Tryd.prog 96 1) (T_OverIn n 1 r b) (M_Over [a0, a1, a2, a3, z0, z1, z2, z3, o0, o1, o2, o3]) 3 (fun x T M N => some (.st x (forget [1, 2, 4, 6, 7, 8, 9] T) M N)) =
    bif decide (0 ≤ b) then (bif decide (b < 0) then none else bif decide (n ≤ bitIn r a1 b) then (bif decide (b < 0) then none else some (.st .normal (T_OverIn n 1 (wu64 (bitIn r a1 b - n)) (w64 (b - 1))) (M_Over [a0, a1, a2, a3, z0, z1, z2, z3, o0, borU o1 (shlU 1 b), o2, o3]) 3)) else some (.st .normal (T_OverIn n 1 (bitIn r a1 b) (w64 (b - 1))) (M_Over [a0, a1, a2, a3, z0, z1, z2, z3, o0, o1, o2, o3]) 3))
    else some (.st (.exit 2) (T_OverIn n 1 r b) (M_Over [a0, a1, a2, a3, z0, z1, z2, z3, o0, o1, o2, o3]) 3) := by kernel_rfl
set_option maxRecDepth 100000 in
theorem b_Over2 (n r b a0 a1 a2 a3 z0 z1 z2 z3 o0 o1 o2 o3 : Int) : evCode Tryd.prog GT EQT T_fringeref01_Small XT noL 40 (loopB Tryd.prog 96 1) (T_OverIn n 2 r b) (M_Over [a0, a1, a2, a3, z0, z1, z2, z3, o0, o1, o2, o3]) 3 (fun x T M N => some (.st x (forget [1, 2, 4, 6, 7, 8, 9] T) M N)) =
    bif decide (0 ≤ b) then (bif decide (b < 0) then none else bif decide (n ≤ bitIn r a2 b) then (bif decide (b < 0) then none else some (.st .normal (T_OverIn n 2 (wu64 (bitIn r a2 b - n)) (w64 (b - 1))) (M_Over [a0, a1, a2, a3, z0, z1, z2, z3, o0, o1, borU o2 (shlU 1 b), o3]) 3)) else some (.st .normal (T_OverIn n 2 (bitIn r a2 b) (w64 (b - 1))) (M_Over [a0, a1, a2, a3, z0, z1, z2, z3, o0, o1, o2, o3]) 3))
    else some (.st (.exit 2) (T_OverIn n 2 r b) (M_Over [a0, a1, a2, a3, z0, z1, z2, z3, o0, o1, o2, o3]) 3) := by kernel_rfl
set_option maxRecDepth 100000 in
theorem b_Over3 (n r b a0 a1 a2 a3 z0 z1 z2 z3 o0 o1 o2 o3 : Int) : evCode Tryd.prog GT EQT T_fringeref01_Small XT noL 40 (loopB Tryd.prog 96 1) (T_OverIn n 3 r b) (M_Over [a0, a1, a2, a3, z0, z1, z2, z3, o0, o1, o2, o3]) 3 (fun x T M N => some (.st x (forget [1, 2, 4, 6, 7, 8, 9] T) M N)) =
    bif decide (0 ≤ b) then (bif decide (b < 0) then none else bif decide (n ≤ bitIn r a3 b) then (bif decide (b < 0) then none else some (.st .normal (T_OverIn n 3 (wu64 (bitIn r a3 b - n)) (w64 (b - 1))) (M_Over [a0, a1, a2, a3, z0, z1, z2, z3, o0, o1, o2, borU o3 (shlU 1 b)]) 3)) else some (.st .normal (T_OverIn n 3 (bitIn r a3 b) (w64 (b - 1))) (M_Over [a0, a1, a2, a3, z0, z1, z2, z3, o0, o1, o2, o3]) 3))
    else some (.st (.exit 2) (T_OverIn n 3 r b) (M_Over [a0, a1, a2, a3, z0, z1, z2, z3, o0, o1, o2, o3]) 3) := by kernel_rfl
theorem l_Over (n i r b : Int) : Less (T_OverOut n i r) (T_OverIn n i r b) := less_of (by kernel_rfl) (readS_gets (by kernel_rfl))
theorem r_Over0 (n r a0 a1 a2 a3 z0 z1 z2 z3 o1 o2 o3 : Int) (h : digOn n r a0 = true) : ∃ k, RoundsOK Tryd.prog GT gbT (loopB Tryd.prog 96 1) k (T_OverIn n 0 r 31) (M_Over [a0, a1, a2, a3, z0, z1, z2, z3, 0, o1, o2, o3]) 3 (.exit 2) (T_OverOut n 0 (dR n r a0)) (M_Over [a0, a1, a2, a3, z0, z1, z2, z3, dQ n r a0, o1, o2, o3]) 3 := by
  simp only [digOn, Bool.and_eq_true, decide_eq_true_eq] at h
  obtain ⟨h1, h2, h3, h4, h5, h6⟩ := h
  obtain ⟨n', rfl⟩ := Int.eq_ofNat_of_zero_le (Int.le_of_lt h1)
  obtain ⟨r', rfl⟩ := Int.eq_ofNat_of_zero_le h3
  obtain ⟨a', rfl⟩ := Int.eq_ofNat_of_zero_le h5
  have hh := over_rounds (c := loopB Tryd.prog 96 1) (e := 2) g_fringeref01_Small hEQT hmT (fun r b => T_OverIn n' 0 r b) (fun r => T_OverOut n' 0 r) (fun o => M_Over [(a' : Int), a1, a2, a3, z0, z1, z2, z3, o, o1, o2, o3]) a' n' (by omega) (by omega) (by omega) (fun r b => l_Over n' 0 r b) (fun r b o => b_Over0 n' r b (a' : Int) a1 a2 a3 z0 z1 z2 z3 o o1 o2 o3) 32 r' 0 (by omega) (by omega) (by omega)
  rw [Nat.zero_mul, Nat.zero_add, dR_nat _ _ _ (by omega), dQ_nat _ _ _ (by omega)] at hh
  exact hh
theorem r_Over1 (n r a0 a1 a2 a3 z0 z1 z2 z3 o0 o2 o3 : Int) (h : digOn n r a1 = true) : ∃ k, RoundsOK Tryd.prog GT gbT (loopB Tryd.prog 96 1) k (T_OverIn n 1 r 31) (M_Over [a0, a1, a2, a3, z0, z1, z2, z3, o0, 0, o2, o3]) 3 (.exit 2) (T_OverOut n 1 (dR n r a1)) (M_Over [a0, a1, a2, a3, z0, z1, z2, z3, o0, dQ n r a1, o2, o3]) 3 := by
  simp only [digOn, Bool.and_eq_true, decide_eq_true_eq] at h
  obtain ⟨h1, h2, h3, h4, h5, h6⟩ := h
  obtain ⟨n', rfl⟩ := Int.eq_ofNat_of_zero_le (Int.le_of_lt h1)
  obtain ⟨r', rfl⟩ := Int.eq_ofNat_of_zero_le h3
  obtain ⟨a', rfl⟩ := Int.eq_ofNat_of_zero_le h5
  have hh := over_rounds (c := loopB Tryd.prog 96 1) (e := 2) g_fringeref01_Small hEQT hmT (fun r b => T_OverIn n' 1 r b) (fun r => T_OverOut n' 1 r) (fun o => M_Over [a0, (a' : Int), a2, a3, z0, z1, z2, z3, o0, o, o2, o3]) a' n' (by omega) (by omega) (by omega) (fun r b => l_Over n' 1 r b) (fun r b o => b_Over1 n' r b a0 (a' : Int) a2 a3 z0 z1 z2 z3 o0 o o2 o3) 32 r' 0 (by omega) (by omega) (by omega)
  rw [Nat.zero_mul, Nat.zero_add, dR_nat _ _ _ (by omega), dQ_nat _ _ _ (by omega)] at hh
  exact hh
theorem r_Over2 (n r a0 a1 a2 a3 z0 z1 z2 z3 o0 o1 o3 : Int) (h : digOn n r a2 = true) : ∃ k, RoundsOK Tryd.prog GT gbT (loopB Tryd.prog 96 1) k (T_OverIn n 2 r 31) (M_Over [a0, a1, a2, a3, z0, z1, z2, z3, o0, o1, 0, o3]) 3 (.exit 2) (T_OverOut n 2 (dR n r a2)) (M_Over [a0, a1, a2, a3, z0, z1, z2, z3, o0, o1, dQ n r a2, o3]) 3 := by
  simp only [digOn, Bool.and_eq_true, decide_eq_true_eq] at h
  obtain ⟨h1, h2, h3, h4, h5, h6⟩ := h
  obtain ⟨n', rfl⟩ := Int.eq_ofNat_of_zero_le (Int.le_of_lt h1)
  obtain ⟨r', rfl⟩ := Int.eq_ofNat_of_zero_le h3
  obtain ⟨a', rfl⟩ := Int.eq_ofNat_of_zero_le h5
  have hh := over_rounds (c := loopB Tryd.prog 96 1) (e := 2) g_fringeref01_Small hEQT hmT (fun r b => T_OverIn n' 2 r b) (fun r => T_OverOut n' 2 r) (fun o => M_Over [a0, a1, (a' : Int), a3, z0, z1, z2, z3, o0, o1, o, o3]) a' n' (by omega) (by omega) (by omega) (fun r b => l_Over n' 2 r b) (fun r b o => b_Over2 n' r b a0 a1 (a' : Int) a3 z0 z1 z2 z3 o0 o1 o o3) 32 r' 0 (by omega) (by omega) (by omega)
  rw [Nat.zero_mul, Nat.zero_add, dR_nat _ _ _ (by omega), dQ_nat _ _ _ (by omega)] at hh
  exact hh
theorem r_Over3 (n r a0 a1 a2 a3 z0 z1 z2 z3 o0 o1 o2 : Int) (h : digOn n r a3 = true) : ∃ k, RoundsOK Tryd.prog GT gbT (loopB Tryd.prog 96 1) k (T_OverIn n 3 r 31) (M_Over [a0, a1, a2, a3, z0, z1, z2, z3, o0, o1, o2, 0]) 3 (.exit 2) (T_OverOut n 3 (dR n r a3)) (M_Over [a0, a1, a2, a3, z0, z1, z2, z3, o0, o1, o2, dQ n r a3]) 3 := by
  simp only [digOn, Bool.and_eq_true, decide_eq_true_eq] at h
  obtain ⟨h1, h2, h3, h4, h5, h6⟩ := h
  obtain ⟨n', rfl⟩ := Int.eq_ofNat_of_zero_le (Int.le_of_lt h1)
  obtain ⟨r', rfl⟩ := Int.eq_ofNat_of_zero_le h3
  obtain ⟨a', rfl⟩ := Int.eq_ofNat_of_zero_le h5
  have hh := over_rounds (c := loopB Tryd.prog 96 1) (e := 2) g_fringeref01_Small hEQT hmT (fun r b => T_OverIn n' 3 r b) (fun r => T_OverOut n' 3 r) (fun o => M_Over [a0, a1, a2, (a' : Int), z0, z1, z2, z3, o0, o1, o2, o]) a' n' (by omega) (by omega) (by omega) (fun r b => l_Over n' 3 r b) (fun r b o => b_Over3 n' r b a0 a1 a2 (a' : Int) z0 z1 z2 z3 o0 o1 o2 o) 32 r' 0 (by omega) (by omega) (by omega)
  rw [Nat.zero_mul, Nat.zero_add, dR_nat _ _ _ (by omega), dQ_nat _ _ _ (by omega)] at hh
  exact hh
set_option maxRecDepth 100000 in
theorem LL_Over : ∀ fn c, Tryd.prog.funcs[96]? = some fn → fn.body = some c → LOK Tryd.prog GT gbT L_Over (loopsIn c) := by
  refine LOK.ofF fun b hb => ?_
  have e : loopsF Tryd.prog 96 = [loopB Tryd.prog 96 0, loopB Tryd.prog 96 1] := by kernel_rfl
  have k0 : loopKey (loopB Tryd.prog 96 0) = 3 := by kernel_rfl
  have k1 : loopKey (loopB Tryd.prog 96 1) = 6 := by kernel_rfl
  rw [e, List.mem_cons, List.mem_singleton] at hb
  rcases hb with rfl | rfl
  · exact LOKb.lamS_other (by rw [k0]; decide)
  · unfold L_Over
    rw [← k1]
    refine LOKb.lamS fun xs ys x T' M' N' hr => ?_
    unfold f_Over at hr
    split at hr
    · rename_i n r i b a0 a1 a2 a3 z0 z1 z2 z3 o0 o1 o2 o3
      simp only [cond_eq_ite, beq_iff_eq, Bool.and_eq_true] at hr
      split at hr
      · rename_i hb
        subst hb
        split at hr
        · rename_i hi
          obtain ⟨rfl, rfl⟩ := hi
          rcases hr with ⟨hd, rfl, rfl, rfl, rfl⟩ | ⟨_, hf⟩
          · exact ⟨by simp, r_Over3 n r a0 a1 a2 a3 z0 z1 z2 z3 o0 o1 o2 hd⟩
          · exact hf.elim
        split at hr
        · rename_i hi
          obtain ⟨rfl, rfl⟩ := hi
          rcases hr with ⟨hd, rfl, rfl, rfl, rfl⟩ | ⟨_, hf⟩
          · exact ⟨by simp, r_Over2 n r a0 a1 a2 a3 z0 z1 z2 z3 o0 o1 o3 hd⟩
          · exact hf.elim
        split at hr
        · rename_i hi
          obtain ⟨rfl, rfl⟩ := hi
          rcases hr with ⟨hd, rfl, rfl, rfl, rfl⟩ | ⟨_, hf⟩
          · exact ⟨by simp, r_Over1 n r a0 a1 a2 a3 z0 z1 z2 z3 o0 o2 o3 hd⟩
          · exact hf.elim
        split at hr
        · rename_i hi
          obtain ⟨rfl, rfl⟩ := hi
          rcases hr with ⟨hd, rfl, rfl, rfl, rfl⟩ | ⟨_, hf⟩
          · exact ⟨by simp, r_Over0 n r a0 a1 a2 a3 z0 z1 z2 z3 o1 o2 o3 hd⟩
          · exact hf.elim
        exact hr.elim
      · exact hr.elim
    · exact hr.elim

set_option maxRecDepth 100000 in
/-- fringeref01.Over -/
theorem w_fringeref01_Over (a b c d n : Int) (K : AV → List Blk → Ans) : evFn Tryd.prog GT EQT T_fringeref01_Small XT L_Over 90 96 [.v (.agg [.int .u64 a, .int .u64 b, .int .u64 c, .int .u64 d]), .v (.c (.d (.int .u64 n)))] [] (fun v M => K v (M.take ([] : List Blk).length)) = overAns K a b c d n := by
  kernel_rfl
set_option maxRecDepth 100000 in
theorem c_fringeref01_Over (a b c d n : Int) (hd : (overOn ⟨a, b, c, d⟩ n) = true) : CallsA Tryd.prog GT gbT 96 [.v (.agg [.int .u64 a, .int .u64 b, .int .u64 c, .int .u64 d]), .v (.c (.d (.int .u64 n)))] [] (rBigU (overI (valOf ⟨a, b, c, d⟩) n)) [] := by
  refine CallsA.ofOk fun hok => ?_
  have hw := w_fringeref01_Over a b c d n (fun v M => some (Res.fin v M))
  refine CallsA.ofEv (Γ := T_fringeref01_Small) (X := XT) (Λ := L_Over) (EQ := EQT) (n := 90) g_fringeref01_Small hEQT hmT (LL_Over) (hw.trans ?_)
  have h_a := inR_u64 (hok (.int .u64 a) (by simp [datasL, datas]))
  have h_b := inR_u64 (hok (.int .u64 b) (by simp [datasL, datas]))
  have h_c := inR_u64 (hok (.int .u64 c) (by simp [datasL, datas]))
  have h_d := inR_u64 (hok (.int .u64 d) (by simp [datasL, datas]))
  have h_n := inR_u64 (hok (.int .u64 n) (by simp [datasL, datas]))
  clear hok hw
  exact overAns_ok (K := fun v M => some (Res.fin v M)) hd
def s_fringeref01_Over : List AV → List Blk → (AV → List Blk → Ans) → Ans := fun xs bs K => match xs, bs with
  | [.v (.agg [.int .u64 a, .int .u64 b, .int .u64 c, .int .u64 d]), .v (.c (.d (.int .u64 n)))], [] => bif overOn ⟨a, b, c, d⟩ n then K (rBigU (overI (valOf ⟨a, b, c, d⟩) n)) [] else none
  | _, _ => none
def T_fringeref01_Over : Nat → List AV → List Blk → (AV → List Blk → Ans) → Ans := upd T_fringeref01_Small 96 s_fringeref01_Over
theorem g_fringeref01_Over : GOK Tryd.prog GT gbT T_fringeref01_Over XT := by
  refine GOK.upd g_fringeref01_Small (fun args w => Tryd.call96 args w) fun xs bs K r h => ?_
  unfold s_fringeref01_Over at h
  split at h
  · simp only [cond_eq_ite] at h
    split at h
    · exact ⟨_, _, c_fringeref01_Over _ _ _ _ _ ‹_›, h⟩
    · cases h
  · cases h


set_option maxRecDepth 100000 in
/-- fringeref01.lowest -/
theorem w_fringeref01_lowest (m : Bool) (a b c d e f g h : Int) (K : AV → List Blk → Ans) : evFn Tryd.prog GT EQT T_fringeref01_Over XT noL 60 61 [.v (.c (.d (.bool m))), .v (.agg [.int .u64 a, .int .u64 b, .int .u64 c, .int .u64 d]), .v (.agg [.int .u64 e, .int .u64 f, .int .u64 g, .int .u64 h])] [] (fun v M => K v (M.take ([] : List Blk).length)) = K (rFracE (lowestRaw m ⟨a, b, c, d⟩ ⟨e, f, g, h⟩)) [] := by
  simp only [lowestRaw, pullK K]
  kernel_rfl
set_option maxRecDepth 100000 in
theorem c_fringeref01_lowest (m : Bool) (a b c d e f g h : Int) : CallsA Tryd.prog GT gbT 61 [.v (.c (.d (.bool m))), .v (.agg [.int .u64 a, .int .u64 b, .int .u64 c, .int .u64 d]), .v (.agg [.int .u64 e, .int .u64 f, .int .u64 g, .int .u64 h])] [] (rFracE (lowestRaw m ⟨a, b, c, d⟩ ⟨e, f, g, h⟩)) [] := by
  refine CallsA.ofOk fun hok => ?_
  have hw := w_fringeref01_lowest m a b c d e f g h (fun v M => some (Res.fin v M))
  refine CallsA.ofEv (Γ := T_fringeref01_Over) (X := XT) (Λ := noL) (EQ := EQT) (n := 60) g_fringeref01_Over hEQT hmT (fun _ _ _ _ => noL_ok _) (hw.trans ?_)
  rfl
def s_fringeref01_lowest : List AV → List Blk → (AV → List Blk → Ans) → Ans := fun xs bs K => match xs, bs with
  | [.v (.c (.d (.bool m))), .v (.agg [.int .u64 a, .int .u64 b, .int .u64 c, .int .u64 d]), .v (.agg [.int .u64 e, .int .u64 f, .int .u64 g, .int .u64 h])], [] => K (rFracE (lowestRaw m ⟨a, b, c, d⟩ ⟨e, f, g, h⟩)) []
  | _, _ => none
def T_fringeref01_lowest : Nat → List AV → List Blk → (AV → List Blk → Ans) → Ans := upd T_fringeref01_Over 61 s_fringeref01_lowest
theorem g_fringeref01_lowest : GOK Tryd.prog GT gbT T_fringeref01_lowest XT := by
  refine GOK.upd g_fringeref01_Over (fun args w => Tryd.call61 args w) fun xs bs K r h => ?_
  unfold s_fringeref01_lowest at h
  split at h
  · exact ⟨_, _, c_fringeref01_lowest _ _ _ _ _ _ _ _ _, h⟩
  · cases h


set_option maxRecDepth 100000 in
/-- fringeref01.Less -/
theorem w_fringeref01_Less (a b c d : Int) (K : AV → List Blk → Ans) : evFn Tryd.prog GT EQT T_fringeref01_lowest XT noL 60 54 [.v (.agg [.int .i64 a, .int .i64 b]), .v (.agg [.int .i64 c, .int .i64 d])] [] (fun v M => K v (M.take ([] : List Blk).length)) = K (rB (lessRaw ⟨a, b⟩ ⟨c, d⟩)) [] := by
  simp only [lessRaw, diffSign, pullK K]
  kernel_rfl
set_option maxRecDepth 100000 in
theorem c_fringeref01_Less (a b c d : Int) : CallsA Tryd.prog GT gbT 54 [.v (.agg [.int .i64 a, .int .i64 b]), .v (.agg [.int .i64 c, .int .i64 d])] [] (rB (lessN ⟨a, b⟩ ⟨c, d⟩)) [] := by
  refine CallsA.ofOk fun hok => ?_
  have hw := w_fringeref01_Less a b c d (fun v M => some (Res.fin v M))
  refine CallsA.ofEv (Γ := T_fringeref01_lowest) (X := XT) (Λ := noL) (EQ := EQT) (n := 60) g_fringeref01_lowest hEQT hmT (fun _ _ _ _ => noL_ok _) (hw.trans ?_)
  have h_a := inR_i64 (hok (.int .i64 a) (by simp [datasL, datas]))
  have h_b := inR_i64 (hok (.int .i64 b) (by simp [datasL, datas]))
  have h_c := inR_i64 (hok (.int .i64 c) (by simp [datasL, datas]))
  have h_d := inR_i64 (hok (.int .i64 d) (by simp [datasL, datas]))
  clear hok hw
  refine congrArg (fun v => some (Res.fin v [])) ?_
  rw [lessRaw_ok]
def s_fringeref01_Less : List AV → List Blk → (AV → List Blk → Ans) → Ans := fun xs bs K => match xs, bs with
  | [.v (.agg [.int .i64 a, .int .i64 b]), .v (.agg [.int .i64 c, .int .i64 d])], [] => K (rB (lessN ⟨a, b⟩ ⟨c, d⟩)) []
  | _, _ => none
def T_fringeref01_Less : Nat → List AV → List Blk → (AV → List Blk → Ans) → Ans := upd T_fringeref01_lowest 54 s_fringeref01_Less
theorem g_fringeref01_Less : GOK Tryd.prog GT gbT T_fringeref01_Less XT := by
  refine GOK.upd g_fringeref01_lowest (fun args w => Tryd.call54 args w) fun xs bs K r h => ?_
  unfold s_fringeref01_Less at h
  split at h
  · exact ⟨_, _, c_fringeref01_Less _ _ _ _, h⟩
  · cases h


set_option maxRecDepth 100000 in
/-- math/bits.Rem64 -/
theorem w_bits_Rem64 (hi lo y : Int) (K : AV → List Blk → Ans) : evFn Tryd.prog GT EQT T_fringeref01_Less XT noL 60 100 [.v (.c (.d (.int .u64 hi))), .v (.c (.d (.int .u64 lo))), .v (.c (.d (.int .u64 y)))] [] (fun v M => K v (M.take ([] : List Blk).length)) = remAns K hi lo y := by
  kernel_rfl
set_option maxRecDepth 100000 in
theorem c_bits_Rem64 (hi lo y : Int) (hd : (decide (0 < y)) = true) : CallsA Tryd.prog GT gbT 100 [.v (.c (.d (.int .u64 hi))), .v (.c (.d (.int .u64 lo))), .v (.c (.d (.int .u64 y)))] [] (rU ((hi * 18446744073709551616 + lo) % y)) [] := by
  refine CallsA.ofOk fun hok => ?_
  have hw := w_bits_Rem64 hi lo y (fun v M => some (Res.fin v M))
  refine CallsA.ofEv (Γ := T_fringeref01_Less) (X := XT) (Λ := noL) (EQ := EQT) (n := 60) g_fringeref01_Less hEQT hmT (fun _ _ _ _ => noL_ok _) (hw.trans ?_)
  have h_hi := inR_u64 (hok (.int .u64 hi) (by simp [datasL, datas]))
  have h_lo := inR_u64 (hok (.int .u64 lo) (by simp [datasL, datas]))
  have h_y := inR_u64 (hok (.int .u64 y) (by simp [datasL, datas]))
  clear hok hw
  exact remAns_ok (K := fun v M => some (Res.fin v M)) h_hi.1 (of_decide_eq_true hd)
def s_bits_Rem64 : List AV → List Blk → (AV → List Blk → Ans) → Ans := fun xs bs K => match xs, bs with
  | [.v (.c (.d (.int .u64 hi))), .v (.c (.d (.int .u64 lo))), .v (.c (.d (.int .u64 y)))], [] => bif decide (0 < y) then K (rU ((hi * 18446744073709551616 + lo) % y)) [] else none
  | _, _ => none
def T_bits_Rem64 : Nat → List AV → List Blk → (AV → List Blk → Ans) → Ans := upd T_fringeref01_Less 100 s_bits_Rem64
theorem g_bits_Rem64 : GOK Tryd.prog GT gbT T_bits_Rem64 XT := by
  refine GOK.upd g_fringeref01_Less (fun args w => Tryd.call100 args w) fun xs bs K r h => ?_
  unfold s_bits_Rem64 at h
  split at h
  · simp only [cond_eq_ite] at h
    split at h
    · exact ⟨_, _, c_bits_Rem64 _ _ _ ‹_›, h⟩
    · cases h
  · cases h


set_option maxRecDepth 100000 in
/-- frac.wider -/
theorem w_frac_wider (a b c d : Int) (K : AV → List Blk → Ans) : evFn Tryd.prog GT EQT T_bits_Rem64 XT noL 60 98 [.v (.c (.d (.int .u64 a))), .v (.c (.d (.int .u64 b))), .v (.c (.d (.int .u64 c))), .v (.c (.d (.int .u64 d)))] [] (fun v M => K v (M.take ([] : List Blk).length)) = K (rI (widerRaw a b c d)) [] := by
  simp only [widerRaw, widerTail, pullK K]
  kernel_rfl
set_option maxRecDepth 100000 in
theorem c_frac_wider (a b c d : Int) : CallsA Tryd.prog GT gbT 98 [.v (.c (.d (.int .u64 a))), .v (.c (.d (.int .u64 b))), .v (.c (.d (.int .u64 c))), .v (.c (.d (.int .u64 d)))] [] (rI (cmpI (a * 18446744073709551616 + b) (c * 18446744073709551616 + d))) [] := by
  refine CallsA.ofOk fun hok => ?_
  have hw := w_frac_wider a b c d (fun v M => some (Res.fin v M))
  refine CallsA.ofEv (Γ := T_bits_Rem64) (X := XT) (Λ := noL) (EQ := EQT) (n := 60) g_bits_Rem64 hEQT hmT (fun _ _ _ _ => noL_ok _) (hw.trans ?_)
  have h_a := inR_u64 (hok (.int .u64 a) (by simp [datasL, datas]))
  have h_b := inR_u64 (hok (.int .u64 b) (by simp [datasL, datas]))
  have h_c := inR_u64 (hok (.int .u64 c) (by simp [datasL, datas]))
  have h_d := inR_u64 (hok (.int .u64 d) (by simp [datasL, datas]))
  clear hok hw
  refine congrArg (fun v => some (Res.fin v [])) ?_
  rw [widerRaw_ok h_b h_d]
def s_frac_wider : List AV → List Blk → (AV → List Blk → Ans) → Ans := fun xs bs K => match xs, bs with
  | [.v (.c (.d (.int .u64 a))), .v (.c (.d (.int .u64 b))), .v (.c (.d (.int .u64 c))), .v (.c (.d (.int .u64 d)))], [] => K (rI (cmpI (a * 18446744073709551616 + b) (c * 18446744073709551616 + d))) []
  | _, _ => none
def T_frac_wider : Nat → List AV → List Blk → (AV → List Blk → Ans) → Ans := upd T_bits_Rem64 98 s_frac_wider
theorem g_frac_wider : GOK Tryd.prog GT gbT T_frac_wider XT := by
  refine GOK.upd g_bits_Rem64 (fun args w => Tryd.call98 args w) fun xs bs K r h => ?_
  unfold s_frac_wider at h
  split at h
  · exact ⟨_, _, c_frac_wider _ _ _ _, h⟩
  · cases h


set_option maxRecDepth 100000 in
/-- frac.build -/
theorem w_frac_build (m : Bool) (n d : Int) (K : AV → List Blk → Ans) : evFn Tryd.prog GT EQT T_frac_wider XT noL 60 91 [.v (.c (.d (.bool m))), .v (.c (.d (.int .u64 n))), .v (.c (.d (.int .u64 d)))] [] (fun v M => K v (M.take ([] : List Blk).length)) = K (rFracE (buildRaw m n d)) [] := by
  simp only [buildRaw, pullK K]
  kernel_rfl
set_option maxRecDepth 100000 in
theorem c_frac_build (m : Bool) (n d : Int) : CallsA Tryd.prog GT gbT 91 [.v (.c (.d (.bool m))), .v (.c (.d (.int .u64 n))), .v (.c (.d (.int .u64 d)))] [] (rFracE (lowF m n d)) [] := by
  refine CallsA.ofOk fun hok => ?_
  have hw := w_frac_build m n d (fun v M => some (Res.fin v M))
  refine CallsA.ofEv (Γ := T_frac_wider) (X := XT) (Λ := noL) (EQ := EQT) (n := 60) g_frac_wider hEQT hmT (fun _ _ _ _ => noL_ok _) (hw.trans ?_)
  have h_n := inR_u64 (hok (.int .u64 n) (by simp [datasL, datas]))
  have h_d := inR_u64 (hok (.int .u64 d) (by simp [datasL, datas]))
  clear hok hw
  refine congrArg (fun v => some (Res.fin v [])) ?_
  rw [buildRaw_ok h_n.1 h_d.1]
def s_frac_build : List AV → List Blk → (AV → List Blk → Ans) → Ans := fun xs bs K => match xs, bs with
  | [.v (.c (.d (.bool m))), .v (.c (.d (.int .u64 n))), .v (.c (.d (.int .u64 d)))], [] => K (rFracE (lowF m n d)) []
  | _, _ => none
def T_frac_build : Nat → List AV → List Blk → (AV → List Blk → Ans) → Ans := upd T_frac_wider 91 s_frac_build
theorem g_frac_build : GOK Tryd.prog GT gbT T_frac_build XT := by
  refine GOK.upd g_frac_wider (fun args w => Tryd.call91 args w) fun xs bs K r h => ?_
  unfold s_frac_build at h
  split at h
  · exact ⟨_, _, c_frac_build _ _ _, h⟩
  · cases h


end Go.Ev
