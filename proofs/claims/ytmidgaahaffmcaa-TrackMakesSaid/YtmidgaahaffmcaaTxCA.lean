/-
  Contracts of functions: what each returns. No condition beyond those of the statements.
-/
import Derived.Test.YtmidgaahaffmcaaTxTab
namespace Go.Ev
open Go Go.Proofs

set_option maxRecDepth 100000 in
/-- math/bits.Mul64 -/
theorem w_bits_Mul64 (x y : Int) (K : AV → List Blk → Ans) : evFn Try.prog GT EQT T0 XT noL 60 40 [.v (.c (.d (.int .u64 x))), .v (.c (.d (.int .u64 y)))] [] (fun v M => K v (M.take ([] : List Blk).length)) = K (rUU (mulRaw x y)) [] := by
  kernel_rfl
set_option maxRecDepth 100000 in
theorem c_bits_Mul64 (x y : Int) : CallsA Try.prog GT gbT 40 [.v (.c (.d (.int .u64 x))), .v (.c (.d (.int .u64 y)))] [] (rUU (mul64 x y)) [] := by
  refine CallsA.ofOk fun hok => ?_
  have hw := w_bits_Mul64 x y (fun v M => some (Res.fin v M))
  refine CallsA.ofEv (Γ := T0) (X := XT) (Λ := noL) (EQ := EQT) (n := 60) g0 hEQT hmT (fun _ _ _ _ => noL_ok _) (hw.trans ?_)
  have h_x := inR_u64 (hok (.int .u64 x) (by simp [datasL, datas]))
  have h_y := inR_u64 (hok (.int .u64 y) (by simp [datasL, datas]))
  clear hok hw
  refine congrArg (fun v => some (Res.fin v [])) ?_
  rw [mul64_ok h_x h_y]
def s_bits_Mul64 : List AV → List Blk → (AV → List Blk → Ans) → Ans := fun xs bs K => match xs, bs with
  | [.v (.c (.d (.int .u64 x))), .v (.c (.d (.int .u64 y)))], [] => K (rUU (mul64 x y)) []
  | _, _ => none
def T_bits_Mul64 : Nat → List AV → List Blk → (AV → List Blk → Ans) → Ans := upd T0 40 s_bits_Mul64
theorem g_bits_Mul64 : GOK Try.prog GT gbT T_bits_Mul64 XT := by
  refine GOK.upd g0 (fun args w => Try.call40 args w) fun xs bs K r h => ?_
  unfold s_bits_Mul64 at h
  split at h
  · exact ⟨_, _, c_bits_Mul64 _ _, h⟩
  · cases h


set_option maxRecDepth 100000 in
/-- math/bits.Len64 -/
theorem w_bits_Len64 (x : Int) (K : AV → List Blk → Ans) : evFn Try.prog GT EQT T_bits_Mul64 XT noL 60 53 [.v (.c (.d (.int .u64 x)))] [] (fun v M => K v (M.take ([] : List Blk).length)) = lenAns K x := by
  kernel_rfl
set_option maxRecDepth 100000 in
theorem c_bits_Len64 (x : Int) : CallsA Try.prog GT gbT 53 [.v (.c (.d (.int .u64 x)))] [] (rI (lenI x)) [] := by
  refine CallsA.ofOk fun hok => ?_
  have hw := w_bits_Len64 x (fun v M => some (Res.fin v M))
  refine CallsA.ofEv (Γ := T_bits_Mul64) (X := XT) (Λ := noL) (EQ := EQT) (n := 60) g_bits_Mul64 hEQT hmT (fun _ _ _ _ => noL_ok _) (hw.trans ?_)
  have h_x := inR_u64 (hok (.int .u64 x) (by simp [datasL, datas]))
  clear hok hw
  exact lenAns_ok (K := fun v M => some (Res.fin v M)) h_x.1 (by omega)
def s_bits_Len64 : List AV → List Blk → (AV → List Blk → Ans) → Ans := fun xs bs K => match xs, bs with
  | [.v (.c (.d (.int .u64 x)))], [] => K (rI (lenI x)) []
  | _, _ => none
def T_bits_Len64 : Nat → List AV → List Blk → (AV → List Blk → Ans) → Ans := upd T_bits_Mul64 53 s_bits_Len64
theorem g_bits_Len64 : GOK Try.prog GT gbT T_bits_Len64 XT := by
  refine GOK.upd g_bits_Mul64 (fun args w => Try.call53 args w) fun xs bs K r h => ?_
  unfold s_bits_Len64 at h
  split at h
  · exact ⟨_, _, c_bits_Len64 _, h⟩
  · cases h


set_option maxRecDepth 100000 in
/-- math/bits.LeadingZeros64 -/
theorem w_bits_LeadingZeros64 (x : Int) (K : AV → List Blk → Ans) : evFn Try.prog GT EQT T_bits_Len64 XT noL 60 50 [.v (.c (.d (.int .u64 x)))] [] (fun v M => K v (M.take ([] : List Blk).length)) = K (rI (w64 (64 - lenI x))) [] := by
  kernel_rfl
set_option maxRecDepth 100000 in
theorem c_bits_LeadingZeros64 (x : Int) : CallsA Try.prog GT gbT 50 [.v (.c (.d (.int .u64 x)))] [] (rI (64 - lenI x)) [] := by
  refine CallsA.ofOk fun hok => ?_
  have hw := w_bits_LeadingZeros64 x (fun v M => some (Res.fin v M))
  refine CallsA.ofEv (Γ := T_bits_Len64) (X := XT) (Λ := noL) (EQ := EQT) (n := 60) g_bits_Len64 hEQT hmT (fun _ _ _ _ => noL_ok _) (hw.trans ?_)
  have h_x := inR_u64 (hok (.int .u64 x) (by simp [datasL, datas]))
  clear hok hw
  refine congrArg (fun v => some (Res.fin v [])) ?_
  rw [w64_id (by have := lenI_le h_x.1 (by omega); omega)]
def s_bits_LeadingZeros64 : List AV → List Blk → (AV → List Blk → Ans) → Ans := fun xs bs K => match xs, bs with
  | [.v (.c (.d (.int .u64 x)))], [] => K (rI (64 - lenI x)) []
  | _, _ => none
def T_bits_LeadingZeros64 : Nat → List AV → List Blk → (AV → List Blk → Ans) → Ans := upd T_bits_Len64 50 s_bits_LeadingZeros64
theorem g_bits_LeadingZeros64 : GOK Try.prog GT gbT T_bits_LeadingZeros64 XT := by
  refine GOK.upd g_bits_Len64 (fun args w => Try.call50 args w) fun xs bs K r h => ?_
  unfold s_bits_LeadingZeros64 at h
  split at h
  · exact ⟨_, _, c_bits_LeadingZeros64 _, h⟩
  · cases h


abbrev lv_Div1 : List (Nat × IntKind) := [(15, .u64), (9, .u64), (10, .u64), (13, .u64), (2, .u64), (8, .u64), (11, .u64), (14, .u64), (16, .u64)]
abbrev lv_Div2 : List (Nat × IntKind) := [(18, .u64), (9, .u64), (10, .u64), (14, .u64), (2, .u64), (8, .u64), (15, .u64), (17, .u64), (16, .u64)]
def digDom (l : List Int) : Bool := match l with | [q, y1, y0, d, _, _, _, _, r] => digOk q y1 y0 d r | _ => false
def digFin (l : List Int) : List Int := match l with | [q, y1, y0, d, y, s, u, z, r] => [digQ q y1 y0 d r, y1, y0, d, y, s, u, z] | _ => []
def L_Div64 := orL (Lam1 17 135 0 lv_Div1 digDom digFin) (Lam1 24 135 2 lv_Div2 digDom digFin)
set_option maxRecDepth 100000 in
theorem b_Div1 (q y1 y0 d y s u z r : Int) (M : List Blk) (N : Nat) : evCode Try.prog GT EQT T_bits_LeadingZeros64 XT noL 40 (loopB Try.prog 45 0) (mkT lv_Div1 135 [q, y1, y0, d, y, s, u, z, r]) M N (fun x T M N => some (.st x (forget [15, 9, 10, 13, 2, 8, 11, 14, 16] T) M N)) =
    bif decide (4294967296 ≤ q) then (bif decide (4294967296 ≤ wu64 (r + y1)) then some (.st (.exit 0) (mkT lv_Div1 135 [wu64 (q - 1), y1, y0, d, y, s, u, z, wu64 (r + y1)]) M N) else some (.st .normal (mkT lv_Div1 135 [wu64 (q - 1), y1, y0, d, y, s, u, z, wu64 (r + y1)]) M N))
    else bif decide (wu64 (wu64 (4294967296 * r) + d) < wu64 (q * y0)) then (bif decide (4294967296 ≤ wu64 (r + y1)) then some (.st (.exit 0) (mkT lv_Div1 135 [wu64 (q - 1), y1, y0, d, y, s, u, z, wu64 (r + y1)]) M N) else some (.st .normal (mkT lv_Div1 135 [wu64 (q - 1), y1, y0, d, y, s, u, z, wu64 (r + y1)]) M N))
    else some (.st (.exit 0) (mkT lv_Div1 135 [q, y1, y0, d, y, s, u, z, r]) M N) := by kernel_rfl
set_option maxRecDepth 100000 in
theorem b_Div2 (q y1 y0 d y s u z r : Int) (M : List Blk) (N : Nat) : evCode Try.prog GT EQT T_bits_LeadingZeros64 XT noL 40 (loopB Try.prog 45 1) (mkT lv_Div2 135 [q, y1, y0, d, y, s, u, z, r]) M N (fun x T M N => some (.st x (forget [18, 9, 10, 14, 2, 8, 15, 17, 16] T) M N)) =
    bif decide (4294967296 ≤ q) then (bif decide (4294967296 ≤ wu64 (r + y1)) then some (.st (.exit 2) (mkT lv_Div2 135 [wu64 (q - 1), y1, y0, d, y, s, u, z, wu64 (r + y1)]) M N) else some (.st .normal (mkT lv_Div2 135 [wu64 (q - 1), y1, y0, d, y, s, u, z, wu64 (r + y1)]) M N))
    else bif decide (wu64 (wu64 (4294967296 * r) + d) < wu64 (q * y0)) then (bif decide (4294967296 ≤ wu64 (r + y1)) then some (.st (.exit 2) (mkT lv_Div2 135 [wu64 (q - 1), y1, y0, d, y, s, u, z, wu64 (r + y1)]) M N) else some (.st .normal (mkT lv_Div2 135 [wu64 (q - 1), y1, y0, d, y, s, u, z, wu64 (r + y1)]) M N))
    else some (.st (.exit 2) (mkT lv_Div2 135 [q, y1, y0, d, y, s, u, z, r]) M N) := by kernel_rfl
theorem r_Div (i e : Nat) (lv : List (Nat × IntKind)) (keep : List Nat) (M : List Blk) (N : Nat) (hless : ∀ q y1 y0 d y s u z r : Int, Less (mkT lv 135 [q, y1, y0, d, y, s, u, z]) (mkT lv 135 [q, y1, y0, d, y, s, u, z, r]))
    (hb : ∀ q y1 y0 d y s u z r : Int, evCode Try.prog GT EQT T_bits_LeadingZeros64 XT noL 40 (loopB Try.prog 45 i) (mkT lv 135 [q, y1, y0, d, y, s, u, z, r]) M N (fun x T M N => some (.st x (forget keep T) M N)) =
    bif decide (4294967296 ≤ q) then (bif decide (4294967296 ≤ wu64 (r + y1)) then some (.st (.exit e) (mkT lv 135 [wu64 (q - 1), y1, y0, d, y, s, u, z, wu64 (r + y1)]) M N) else some (.st .normal (mkT lv 135 [wu64 (q - 1), y1, y0, d, y, s, u, z, wu64 (r + y1)]) M N))
    else bif decide (wu64 (wu64 (4294967296 * r) + d) < wu64 (q * y0)) then (bif decide (4294967296 ≤ wu64 (r + y1)) then some (.st (.exit e) (mkT lv 135 [wu64 (q - 1), y1, y0, d, y, s, u, z, wu64 (r + y1)]) M N) else some (.st .normal (mkT lv 135 [wu64 (q - 1), y1, y0, d, y, s, u, z, wu64 (r + y1)]) M N))
    else some (.st (.exit e) (mkT lv 135 [q, y1, y0, d, y, s, u, z, r]) M N)) :
    ∀ (n : Nat) (q y1 y0 d y s u z r : Int), DigOk q y1 y0 d r → (q - digQ q y1 y0 d r).toNat ≤ n → ∃ k, RoundsOK Try.prog GT gbT (loopB Try.prog 45 i) k (mkT lv 135 [q, y1, y0, d, y, s, u, z, r]) M N (.exit e) (mkT lv 135 [digQ q y1 y0 d r, y1, y0, d, y, s, u, z]) M N := by
  have out : ∀ (q y1 y0 d y s u z r : Int), DigOk q y1 y0 d r → q ≤ digQ q y1 y0 d r → ∃ k, RoundsOK Try.prog GT gbT (loopB Try.prog 45 i) k (mkT lv 135 [q, y1, y0, d, y, s, u, z, r]) M N (.exit e) (mkT lv 135 [digQ q y1 y0 d r, y1, y0, d, y, s, u, z]) M N := by
    intro q y1 y0 d y s u z r h hq
    obtain ⟨h1, h2, h3, h4, h5, h6, h7, h8, h9, h10, h11, h12⟩ := h
    have hv : 0 < y1 * 4294967296 + y0 := by omega
    have eq : digQ q y1 y0 d r = q := by omega
    have ht := (digQ_test hv).1 hq
    have hqy : 0 ≤ q * y0 := Int.mul_nonneg (by omega) h3
    rw [eq]
    refine ⟨1, (RoundsOK.fin (Λ := noL) g_bits_LeadingZeros64 hEQT hmT (noL_ok _) ((hb q y1 y0 d y s u z r).trans ?_)).weak (hless q y1 y0 d y s u z r)⟩
    rw [decide_eq_false (show ¬ (4294967296 : Int) ≤ q by omega), wu64_id (n := 4294967296 * r) (by omega), wu64_id (n := 4294967296 * r + d) (by omega), wu64_id (n := q * y0) (by omega), decide_eq_false (show ¬ 4294967296 * r + d < q * y0 by omega)]
    rfl
  have next : ∀ (q y1 y0 d y s u z r : Int), DigOk q y1 y0 d r → digQ q y1 y0 d r < q → evCode Try.prog GT EQT T_bits_LeadingZeros64 XT noL 40 (loopB Try.prog 45 i) (mkT lv 135 [q, y1, y0, d, y, s, u, z, r]) M N (fun x T M N => some (.st x (forget keep T) M N)) =
      bif decide (4294967296 ≤ r + y1) then some (.st (.exit e) (mkT lv 135 [q - 1, y1, y0, d, y, s, u, z, r + y1]) M N) else some (.st .normal (mkT lv 135 [q - 1, y1, y0, d, y, s, u, z, r + y1]) M N) := by
    intro q y1 y0 d y s u z r h hq
    obtain ⟨h1, h2, h3, h4, h5, h6, h7, h8, h9, h10, h11, h12⟩ := h
    have hv : 0 < y1 * 4294967296 + y0 := by omega
    rw [hb, wu64_id (n := r + y1) (by omega), wu64_id (n := q - 1) (by omega)]
    by_cases hB : 4294967296 ≤ q
    · rw [decide_eq_true hB]
      rfl
    · have ht : ¬ q * y0 ≤ 4294967296 * r + d := fun hh => by have := (digQ_test (q := q) (d := d) (r := r) hv).2 hh; omega
      have hqy : 0 ≤ q * y0 := Int.mul_nonneg (by omega) h3
      have hqy2 : q * y0 ≤ 4294967295 * 4294967295 := Int.mul_le_mul (by omega) (by omega) h3 (by omega)
      rw [decide_eq_false hB, wu64_id (n := 4294967296 * r) (by omega), wu64_id (n := 4294967296 * r + d) (by omega), wu64_id (n := q * y0) (by omega), decide_eq_true (show 4294967296 * r + d < q * y0 by omega)]
      rfl
  intro n
  induction n with
  | zero => intro q y1 y0 d y s u z r h hn; exact out q y1 y0 d y s u z r h (by omega)
  | succ n ih =>
    intro q y1 y0 d y s u z r h hn
    by_cases hq : q ≤ digQ q y1 y0 d r
    · exact out q y1 y0 d y s u z r h hq
    · by_cases hr : 4294967296 ≤ r + y1
      · refine ⟨1, (RoundsOK.fin (Λ := noL) g_bits_LeadingZeros64 hEQT hmT (noL_ok _) ((next q y1 y0 d y s u z r h (by omega)).trans ?_)).weak (hless _ y1 y0 d y s u z (r + y1))⟩
        rw [decide_eq_true hr, h.stop (by omega) hr]
        rfl
      · have hs := digQ_step q y1 y0 d r
        obtain ⟨k, hk⟩ := ih (q - 1) y1 y0 d y s u z (r + y1) (h.next (by omega) (by omega)) (by omega)
        rw [hs] at hk
        refine ⟨k + 1, RoundsOK.go (Λ := noL) g_bits_LeadingZeros64 hEQT hmT (noL_ok _) ((next q y1 y0 d y s u z r h (by omega)).trans ?_) hk⟩
        rw [decide_eq_false hr]
        rfl
theorem l_Div1 (q y1 y0 d y s u z r : Int) : Less (mkT lv_Div1 135 [q, y1, y0, d, y, s, u, z]) (mkT lv_Div1 135 [q, y1, y0, d, y, s, u, z, r]) := by
  have h : mkT lv_Div1 135 [q, y1, y0, d, y, s, u, z] = mkT (lv_Div1.take 8) 135 [q, y1, y0, d, y, s, u, z] := by kernel_rfl
  rw [h]
  exact less_mkT (by kernel_rfl) (by kernel_rfl)
theorem l_Div2 (q y1 y0 d y s u z r : Int) : Less (mkT lv_Div2 135 [q, y1, y0, d, y, s, u, z]) (mkT lv_Div2 135 [q, y1, y0, d, y, s, u, z, r]) := by
  have h : mkT lv_Div2 135 [q, y1, y0, d, y, s, u, z] = mkT (lv_Div2.take 8) 135 [q, y1, y0, d, y, s, u, z] := by kernel_rfl
  rw [h]
  exact less_mkT (by kernel_rfl) (by kernel_rfl)
set_option maxRecDepth 100000 in
theorem LL_Div64 : ∀ fn c, Try.prog.funcs[45]? = some fn → fn.body = some c → LOK Try.prog GT gbT L_Div64 (loopsIn c) := by
  refine LOK.ofF fun b hb => ?_
  have e : loopsF Try.prog 45 = [loopB Try.prog 45 0, loopB Try.prog 45 1] := by kernel_rfl
  have k0 : loopKey (loopB Try.prog 45 0) = 17 := by kernel_rfl
  have k1 : loopKey (loopB Try.prog 45 1) = 24 := by kernel_rfl
  rw [e, List.mem_cons, List.mem_singleton] at hb
  rcases hb with rfl | rfl
  · refine LOKb.or ?_ (LOKb.lam1_other (by rw [k0]; decide))
    rw [← k0]
    refine LOKb.lam1 (n := 135) (e := 0) (live := lv_Div1) fun xs M N hl hd => ?_
    match xs, hl with
    | [q, y1, y0, d, y, s, u, z, r], _ => exact r_Div 0 0 lv_Div1 _ M N l_Div1 (fun q y1 y0 d y s u z r => b_Div1 q y1 y0 d y s u z r M N) _ q y1 y0 d y s u z r (digOk_iff.1 hd) (Nat.le_refl _)
  · refine LOKb.or (LOKb.lam1_other (by rw [k1]; decide)) ?_
    rw [← k1]
    refine LOKb.lam1 (n := 135) (e := 2) (live := lv_Div2) fun xs M N hl hd => ?_
    match xs, hl with
    | [q, y1, y0, d, y, s, u, z, r], _ => exact r_Div 1 2 lv_Div2 _ M N l_Div2 (fun q y1 y0 d y s u z r => b_Div2 q y1 y0 d y s u z r M N) _ q y1 y0 d y s u z r (digOk_iff.1 hd) (Nat.le_refl _)

set_option maxRecDepth 100000 in
/-- math/bits.Div64 -/
theorem w_bits_Div64 (hi lo y : Int) (K : AV → List Blk → Ans) : evFn Try.prog GT EQT T_bits_LeadingZeros64 XT L_Div64 60 45 [.v (.c (.d (.int .u64 hi))), .v (.c (.d (.int .u64 lo))), .v (.c (.d (.int .u64 y)))] [] (fun v M => K v (M.take ([] : List Blk).length)) = divAns K hi lo y := by
  kernel_rfl
set_option maxRecDepth 100000 in
theorem c_bits_Div64 (hi lo y : Int) (hd : (decide (hi < y)) = true) : CallsA Try.prog GT gbT 45 [.v (.c (.d (.int .u64 hi))), .v (.c (.d (.int .u64 lo))), .v (.c (.d (.int .u64 y)))] [] (rUU ((hi * 18446744073709551616 + lo) / y, (hi * 18446744073709551616 + lo) % y)) [] := by
  refine CallsA.ofOk fun hok => ?_
  have hw := w_bits_Div64 hi lo y (fun v M => some (Res.fin v M))
  refine CallsA.ofEv (Γ := T_bits_LeadingZeros64) (X := XT) (Λ := L_Div64) (EQ := EQT) (n := 60) g_bits_LeadingZeros64 hEQT hmT (LL_Div64) (hw.trans ?_)
  have h_hi := inR_u64 (hok (.int .u64 hi) (by simp [datasL, datas]))
  have h_lo := inR_u64 (hok (.int .u64 lo) (by simp [datasL, datas]))
  have h_y := inR_u64 (hok (.int .u64 y) (by simp [datasL, datas]))
  clear hok hw
  exact divAns_ok (K := fun v M => some (Res.fin v M)) h_hi h_lo h_y (of_decide_eq_true hd)
def s_bits_Div64 : List AV → List Blk → (AV → List Blk → Ans) → Ans := fun xs bs K => match xs, bs with
  | [.v (.c (.d (.int .u64 hi))), .v (.c (.d (.int .u64 lo))), .v (.c (.d (.int .u64 y)))], [] => bif decide (hi < y) then K (rUU ((hi * 18446744073709551616 + lo) / y, (hi * 18446744073709551616 + lo) % y)) [] else none
  | _, _ => none
def T_bits_Div64 : Nat → List AV → List Blk → (AV → List Blk → Ans) → Ans := upd T_bits_LeadingZeros64 45 s_bits_Div64
theorem g_bits_Div64 : GOK Try.prog GT gbT T_bits_Div64 XT := by
  refine GOK.upd g_bits_LeadingZeros64 (fun args w => Try.call45 args w) fun xs bs K r h => ?_
  unfold s_bits_Div64 at h
  split at h
  · simp only [cond_eq_ite] at h
    split at h
    · exact ⟨_, _, c_bits_Div64 _ _ _ ‹_›, h⟩
    · cases h
  · cases h


set_option maxRecDepth 100000 in
/-- sine.next -/
theorem w_sine_next (t s j : Int) (K : AV → List Blk → Ans) : evFn Try.prog GT EQT T_bits_Div64 XT noL 60 44 [.v (.c (.d (.int .u64 t))), .v (.c (.d (.int .u64 s))), .v (.c (.d (.int .u64 j)))] [] (fun v M => K v (M.take ([] : List Blk).length)) = bif wu64 (j * wu64 (j + 1)) == 0 then none else K (rU (wu64 ((mul64 t s).1.tdiv (wu64 (j * wu64 (j + 1)))))) [] := by
  kernel_rfl
set_option maxRecDepth 100000 in
theorem c_sine_next (t s j : Int) (hd : (nextOn j) = true) : CallsA Try.prog GT gbT 44 [.v (.c (.d (.int .u64 t))), .v (.c (.d (.int .u64 s))), .v (.c (.d (.int .u64 j)))] [] (rU (nextI t s j)) [] := by
  refine CallsA.ofOk fun hok => ?_
  have hw := w_sine_next t s j (fun v M => some (Res.fin v M))
  refine CallsA.ofEv (Γ := T_bits_Div64) (X := XT) (Λ := noL) (EQ := EQT) (n := 60) g_bits_Div64 hEQT hmT (fun _ _ _ _ => noL_ok _) (hw.trans ?_)
  have h_t := inR_u64 (hok (.int .u64 t) (by simp [datasL, datas]))
  have h_s := inR_u64 (hok (.int .u64 s) (by simp [datasL, datas]))
  have h_j := inR_u64 (hok (.int .u64 j) (by simp [datasL, datas]))
  clear hok hw
  rw [(next_ok h_t h_s hd).1, (next_ok h_t h_s hd).2]
  rfl
def s_sine_next : List AV → List Blk → (AV → List Blk → Ans) → Ans := fun xs bs K => match xs, bs with
  | [.v (.c (.d (.int .u64 t))), .v (.c (.d (.int .u64 s))), .v (.c (.d (.int .u64 j)))], [] => bif nextOn j then K (rU (nextI t s j)) [] else none
  | _, _ => none
def T_sine_next : Nat → List AV → List Blk → (AV → List Blk → Ans) → Ans := upd T_bits_Div64 44 s_sine_next
theorem g_sine_next : GOK Try.prog GT gbT T_sine_next XT := by
  refine GOK.upd g_bits_Div64 (fun args w => Try.call44 args w) fun xs bs K r h => ?_
  unfold s_sine_next at h
  split at h
  · simp only [cond_eq_ite] at h
    split at h
    · exact ⟨_, _, c_sine_next _ _ _ ‹_›, h⟩
    · cases h
  · cases h


abbrev lv_sineOf : List (Nat × IntKind) := [(5, .u64), (6, .u64), (3, .u64), (7, .u64)]
def L_sineOf := Lam1 4 36 0 lv_sineOf (serDom 2) serFin
set_option maxRecDepth 100000 in
theorem b_sineOf (sq s t j : Int) (M : List Blk) (N : Nat) : evCode Try.prog GT EQT T_sine_next XT noL 40 (loopB Try.prog 37 0) (mkT lv_sineOf 36 [s, t, sq, j]) M N (fun x T M N => some (.st x (forget [5, 6, 3, 7] T) M N)) =
    bif t != 0 then (bif nextOn j then bif nextOn (wu64 (j + 2)) then some (.st .normal (mkT lv_sineOf 36 [wu64 (wu64 (s - nextI t sq j) + nextI (nextI t sq j) sq (wu64 (j + 2))), nextI (nextI t sq j) sq (wu64 (j + 2)), sq, wu64 (j + 4)]) M N) else none else none)
    else some (.st (.exit 0) (mkT lv_sineOf 36 [s, t, sq, j]) M N) := by kernel_rfl
theorem l_sineOf (s t sq j : Int) : Less (mkT lv_sineOf 36 [s]) (mkT lv_sineOf 36 [s, t, sq, j]) := by
  have h : mkT lv_sineOf 36 [s] = mkT (lv_sineOf.take 1) 36 [s] := by kernel_rfl
  rw [h]
  exact less_mkT (by kernel_rfl) (by kernel_rfl)
set_option maxRecDepth 100000 in
theorem LL_sineOf : ∀ fn c, Try.prog.funcs[37]? = some fn → fn.body = some c → LOK Try.prog GT gbT L_sineOf (loopsIn c) := by
  refine LOK.ofF fun b hb => ?_
  have e : loopsF Try.prog 37 = [loopB Try.prog 37 0] := by kernel_rfl
  have k0 : loopKey (loopB Try.prog 37 0) = 4 := by kernel_rfl
  rw [e, List.mem_singleton] at hb
  subst hb
  unfold L_sineOf
  rw [← k0]
  refine LOKb.lam1 (n := 36) (e := 0) (live := lv_sineOf) fun xs M N hl hd => ?_
  match xs, hl with
  | [s, t, sq, j], _ =>
    simp only [serDom, Bool.and_eq_true, decide_eq_true_eq, beq_iff_eq] at hd
    obtain ⟨h1, h2, h3, h4, h5⟩ := hd
    exact series_rounds (c := loopB Try.prog 37 0) g_sine_next hEQT hmT (fun s t j => mkT lv_sineOf 36 [s, t, sq, j]) (fun s => mkT lv_sineOf 36 [s]) sq ⟨h3, h4⟩ (fun s t j => l_sineOf s t sq j) (fun s t j => b_sineOf sq s t j M N) 16 s t j h1 (by simpa using h2) (by omega) (by omega)

set_option maxRecDepth 100000 in
/-- sine.sineOf -/
theorem w_sine_sineOf (x : Int) (K : AV → List Blk → Ans) : evFn Try.prog GT EQT T_sine_next XT L_sineOf 60 37 [.v (.c (.d (.int .u64 x)))] [] (fun v M => K v (M.take ([] : List Blk).length)) = bif serDom 2 [x, x, (mul64 x x).1, 2] then K (rU (sinI 16 x x (mul64 x x).1 2)) [] else none := by
  kernel_rfl
set_option maxRecDepth 100000 in
theorem c_sine_sineOf (x : Int) : CallsA Try.prog GT gbT 37 [.v (.c (.d (.int .u64 x)))] [] (rU (sineI x)) [] := by
  refine CallsA.ofOk fun hok => ?_
  have hw := w_sine_sineOf x (fun v M => some (Res.fin v M))
  refine CallsA.ofEv (Γ := T_sine_next) (X := XT) (Λ := L_sineOf) (EQ := EQT) (n := 60) g_sine_next hEQT hmT (LL_sineOf) (hw.trans ?_)
  have h_x := inR_u64 (hok (.int .u64 x) (by simp [datasL, datas]))
  clear hok hw
  have hq := sqI_range h_x
  have e : (mul64 x x).1 = sqI x := rfl
  rw [e, show serDom 2 [x, x, sqI x, 2] = true by clear e; simp only [serDom, Bool.and_eq_true, decide_eq_true_eq, beq_iff_eq, and_true]; omega]
  rfl
def s_sine_sineOf : List AV → List Blk → (AV → List Blk → Ans) → Ans := fun xs bs K => match xs, bs with
  | [.v (.c (.d (.int .u64 x)))], [] => K (rU (sineI x)) []
  | _, _ => none
def T_sine_sineOf : Nat → List AV → List Blk → (AV → List Blk → Ans) → Ans := upd T_sine_next 37 s_sine_sineOf
theorem g_sine_sineOf : GOK Try.prog GT gbT T_sine_sineOf XT := by
  refine GOK.upd g_sine_next (fun args w => Try.call37 args w) fun xs bs K r h => ?_
  unfold s_sine_sineOf at h
  split at h
  · exact ⟨_, _, c_sine_sineOf _, h⟩
  · cases h


abbrev lv_cosineOf : List (Nat × IntKind) := [(6, .u64), (5, .u64), (3, .u64), (7, .u64)]
def L_cosineOf := Lam1 5 38 0 lv_cosineOf (serDom 3) serFin
set_option maxRecDepth 100000 in
theorem b_cosineOf (sq s t j : Int) (M : List Blk) (N : Nat) : evCode Try.prog GT EQT T_sine_sineOf XT noL 40 (loopB Try.prog 39 0) (mkT lv_cosineOf 38 [s, t, sq, j]) M N (fun x T M N => some (.st x (forget [6, 5, 3, 7] T) M N)) =
    bif t != 0 then (bif nextOn j then bif nextOn (wu64 (j + 2)) then some (.st .normal (mkT lv_cosineOf 38 [wu64 (wu64 (s - nextI t sq j) + nextI (nextI t sq j) sq (wu64 (j + 2))), nextI (nextI t sq j) sq (wu64 (j + 2)), sq, wu64 (j + 4)]) M N) else none else none)
    else some (.st (.exit 0) (mkT lv_cosineOf 38 [s, t, sq, j]) M N) := by kernel_rfl
theorem l_cosineOf (s t sq j : Int) : Less (mkT lv_cosineOf 38 [s]) (mkT lv_cosineOf 38 [s, t, sq, j]) := by
  have h : mkT lv_cosineOf 38 [s] = mkT (lv_cosineOf.take 1) 38 [s] := by kernel_rfl
  rw [h]
  exact less_mkT (by kernel_rfl) (by kernel_rfl)
set_option maxRecDepth 100000 in
theorem LL_cosineOf : ∀ fn c, Try.prog.funcs[39]? = some fn → fn.body = some c → LOK Try.prog GT gbT L_cosineOf (loopsIn c) := by
  refine LOK.ofF fun b hb => ?_
  have e : loopsF Try.prog 39 = [loopB Try.prog 39 0] := by kernel_rfl
  have k0 : loopKey (loopB Try.prog 39 0) = 5 := by kernel_rfl
  rw [e, List.mem_singleton] at hb
  subst hb
  unfold L_cosineOf
  rw [← k0]
  refine LOKb.lam1 (n := 38) (e := 0) (live := lv_cosineOf) fun xs M N hl hd => ?_
  match xs, hl with
  | [s, t, sq, j], _ =>
    simp only [serDom, Bool.and_eq_true, decide_eq_true_eq, beq_iff_eq] at hd
    obtain ⟨h1, h2, h3, h4, h5⟩ := hd
    exact series_rounds (c := loopB Try.prog 39 0) g_sine_sineOf hEQT hmT (fun s t j => mkT lv_cosineOf 38 [s, t, sq, j]) (fun s => mkT lv_cosineOf 38 [s]) sq ⟨h3, h4⟩ (fun s t j => l_cosineOf s t sq j) (fun s t j => b_cosineOf sq s t j M N) 16 s t j h1 (by simpa using h2) (by omega) (by omega)

set_option maxRecDepth 100000 in
/-- sine.cosineOf -/
theorem w_sine_cosineOf (x : Int) (K : AV → List Blk → Ans) : evFn Try.prog GT EQT T_sine_sineOf XT L_cosineOf 60 39 [.v (.c (.d (.int .u64 x)))] [] (fun v M => K v (M.take ([] : List Blk).length)) = bif serDom 3 [wu64 ((mul64 x x).1.tdiv 2), wu64 ((mul64 x x).1.tdiv 2), (mul64 x x).1, 3] then K (rU (wu64 (0 - sinI 16 (wu64 ((mul64 x x).1.tdiv 2)) (wu64 ((mul64 x x).1.tdiv 2)) (mul64 x x).1 3))) [] else none := by
  kernel_rfl
set_option maxRecDepth 100000 in
theorem c_sine_cosineOf (x : Int) : CallsA Try.prog GT gbT 39 [.v (.c (.d (.int .u64 x)))] [] (rU (cosiI x)) [] := by
  refine CallsA.ofOk fun hok => ?_
  have hw := w_sine_cosineOf x (fun v M => some (Res.fin v M))
  refine CallsA.ofEv (Γ := T_sine_sineOf) (X := XT) (Λ := L_cosineOf) (EQ := EQT) (n := 60) g_sine_sineOf hEQT hmT (LL_cosineOf) (hw.trans ?_)
  have h_x := inR_u64 (hok (.int .u64 x) (by simp [datasL, datas]))
  clear hok hw
  have hq := sqI_range h_x
  have e : (mul64 x x).1 = sqI x := rfl
  rw [e, Int.tdiv_eq_ediv_of_nonneg hq.1, wu64_id (n := sqI x / 2) (by omega), show serDom 3 [sqI x / 2, sqI x / 2, sqI x, 3] = true by clear e; simp only [serDom, Bool.and_eq_true, decide_eq_true_eq, beq_iff_eq, and_true]; omega]
  rfl
def s_sine_cosineOf : List AV → List Blk → (AV → List Blk → Ans) → Ans := fun xs bs K => match xs, bs with
  | [.v (.c (.d (.int .u64 x)))], [] => K (rU (cosiI x)) []
  | _, _ => none
def T_sine_cosineOf : Nat → List AV → List Blk → (AV → List Blk → Ans) → Ans := upd T_sine_sineOf 39 s_sine_cosineOf
theorem g_sine_cosineOf : GOK Try.prog GT gbT T_sine_cosineOf XT := by
  refine GOK.upd g_sine_sineOf (fun args w => Try.call39 args w) fun xs bs K r h => ?_
  unfold s_sine_cosineOf at h
  split at h
  · exact ⟨_, _, c_sine_cosineOf _, h⟩
  · cases h


set_option maxRecDepth 100000 in
/-- sine.angle -/
theorem w_sine_angle (w n : Int) (K : AV → List Blk → Ans) : evFn Try.prog GT EQT T_sine_cosineOf XT noL 60 38 [.v (.c (.d (.int .i64 w))), .v (.c (.d (.int .i64 n)))] [] (fun v M => K v (M.take ([] : List Blk).length)) = bif decide (wu64 ((mul64 10529333758598939753 (wu64 w)).1 + wu64 w) < wu64 n) then K (rU ((wu64 ((mul64 10529333758598939753 (wu64 w)).1 + wu64 w) * 18446744073709551616 + (mul64 10529333758598939753 (wu64 w)).2) / wu64 n)) [] else none := by
  kernel_rfl
set_option maxRecDepth 100000 in
theorem c_sine_angle (w n : Int) (hd : (angOn w n) = true) : CallsA Try.prog GT gbT 38 [.v (.c (.d (.int .i64 w))), .v (.c (.d (.int .i64 n)))] [] (rU (angI w n)) [] := by
  refine CallsA.ofOk fun hok => ?_
  have hw := w_sine_angle w n (fun v M => some (Res.fin v M))
  refine CallsA.ofEv (Γ := T_sine_cosineOf) (X := XT) (Λ := noL) (EQ := EQT) (n := 60) g_sine_cosineOf hEQT hmT (fun _ _ _ _ => noL_ok _) (hw.trans ?_)
  have h_w := inR_i64 (hok (.int .i64 w) (by simp [datasL, datas]))
  have h_n := inR_i64 (hok (.int .i64 n) (by simp [datasL, datas]))
  clear hok hw
  rw [(ang_ok hd).1, (ang_ok hd).2]
  rfl
def s_sine_angle : List AV → List Blk → (AV → List Blk → Ans) → Ans := fun xs bs K => match xs, bs with
  | [.v (.c (.d (.int .i64 w))), .v (.c (.d (.int .i64 n)))], [] => bif angOn w n then K (rU (angI w n)) [] else none
  | _, _ => none
def T_sine_angle : Nat → List AV → List Blk → (AV → List Blk → Ans) → Ans := upd T_sine_cosineOf 38 s_sine_angle
theorem g_sine_angle : GOK Try.prog GT gbT T_sine_angle XT := by
  refine GOK.upd g_sine_cosineOf (fun args w => Try.call38 args w) fun xs bs K r h => ?_
  unfold s_sine_angle at h
  split at h
  · simp only [cond_eq_ite] at h
    split at h
    · exact ⟨_, _, c_sine_angle _ _ ‹_›, h⟩
    · cases h
  · cases h


set_option maxRecDepth 100000 in
/-- sine.rising -/
theorem w_sine_rising (w n : Int) (K : AV → List Blk → Ans) : evFn Try.prog GT EQT T_sine_angle XT noL 60 34 [.v (.c (.d (.int .i64 w))), .v (.c (.d (.int .i64 n)))] [] (fun v M => K v (M.take ([] : List Blk).length)) = riseAns K w n := by
  kernel_rfl
set_option maxRecDepth 100000 in
theorem c_sine_rising (w n : Int) (hd : (riseOn w n) = true) : CallsA Try.prog GT gbT 34 [.v (.c (.d (.int .i64 w))), .v (.c (.d (.int .i64 n)))] [] (rSpan (riseI w n)) [] := by
  refine CallsA.ofOk fun hok => ?_
  have hw := w_sine_rising w n (fun v M => some (Res.fin v M))
  refine CallsA.ofEv (Γ := T_sine_angle) (X := XT) (Λ := noL) (EQ := EQT) (n := 60) g_sine_angle hEQT hmT (fun _ _ _ _ => noL_ok _) (hw.trans ?_)
  have h_w := inR_i64 (hok (.int .i64 w) (by simp [datasL, datas]))
  have h_n := inR_i64 (hok (.int .i64 n) (by simp [datasL, datas]))
  clear hok hw
  exact riseAns_ok (K := fun v M => some (Res.fin v M)) hd
def s_sine_rising : List AV → List Blk → (AV → List Blk → Ans) → Ans := fun xs bs K => match xs, bs with
  | [.v (.c (.d (.int .i64 w))), .v (.c (.d (.int .i64 n)))], [] => bif riseOn w n then K (rSpan (riseI w n)) [] else none
  | _, _ => none
def T_sine_rising : Nat → List AV → List Blk → (AV → List Blk → Ans) → Ans := upd T_sine_angle 34 s_sine_rising
theorem g_sine_rising : GOK Try.prog GT gbT T_sine_rising XT := by
  refine GOK.upd g_sine_angle (fun args w => Try.call34 args w) fun xs bs K r h => ?_
  unfold s_sine_rising at h
  split at h
  · simp only [cond_eq_ite] at h
    split at h
    · exact ⟨_, _, c_sine_rising _ _ ‹_›, h⟩
    · cases h
  · cases h


set_option maxRecDepth 100000 in
/-- sine.turned -/
theorem w_sine_turned (u n : Int) (K : AV → List Blk → Ans) : evFn Try.prog GT EQT T_sine_rising XT noL 60 32 [.v (.c (.d (.int .i64 u))), .v (.c (.d (.int .i64 n)))] [] (fun v M => K v (M.take ([] : List Blk).length)) = turnAns K u n := by
  kernel_rfl
set_option maxRecDepth 100000 in
theorem c_sine_turned (u n : Int) (hd : (turnOn u n) = true) : CallsA Try.prog GT gbT 32 [.v (.c (.d (.int .i64 u))), .v (.c (.d (.int .i64 n)))] [] (rSpan (turnS u n)) [] := by
  refine CallsA.ofOk fun hok => ?_
  have hw := w_sine_turned u n (fun v M => some (Res.fin v M))
  refine CallsA.ofEv (Γ := T_sine_rising) (X := XT) (Λ := noL) (EQ := EQT) (n := 60) g_sine_rising hEQT hmT (fun _ _ _ _ => noL_ok _) (hw.trans ?_)
  have h_u := inR_i64 (hok (.int .i64 u) (by simp [datasL, datas]))
  have h_n := inR_i64 (hok (.int .i64 n) (by simp [datasL, datas]))
  clear hok hw
  exact turnAns_ok (K := fun v M => some (Res.fin v M)) hd
def s_sine_turned : List AV → List Blk → (AV → List Blk → Ans) → Ans := fun xs bs K => match xs, bs with
  | [.v (.c (.d (.int .i64 u))), .v (.c (.d (.int .i64 n)))], [] => bif turnOn u n then K (rSpan (turnS u n)) [] else none
  | _, _ => none
def T_sine_turned : Nat → List AV → List Blk → (AV → List Blk → Ans) → Ans := upd T_sine_rising 32 s_sine_turned
theorem g_sine_turned : GOK Try.prog GT gbT T_sine_turned XT := by
  refine GOK.upd g_sine_rising (fun args w => Try.call32 args w) fun xs bs K r h => ?_
  unfold s_sine_turned at h
  split at h
  · simp only [cond_eq_ite] at h
    split at h
    · exact ⟨_, _, c_sine_turned _ _ ‹_›, h⟩
    · cases h
  · cases h


set_option maxRecDepth 100000 in
/-- sine.Cos -/
theorem w_sine_Cos (k n : Int) (K : AV → List Blk → Ans) : evFn Try.prog GT EQT T_sine_turned XT noL 60 23 [.v (.c (.d (.int .i64 k))), .v (.c (.d (.int .i64 n)))] [] (fun v M => K v (M.take ([] : List Blk).length)) = cosAns K k n := by
  kernel_rfl
set_option maxRecDepth 100000 in
theorem c_sine_Cos (k n : Int) : CallsA Try.prog GT gbT 23 [.v (.c (.d (.int .i64 k))), .v (.c (.d (.int .i64 n)))] [] (rSpanE (cosS k n)) [] := by
  refine CallsA.ofOk fun hok => ?_
  have hw := w_sine_Cos k n (fun v M => some (Res.fin v M))
  refine CallsA.ofEv (Γ := T_sine_turned) (X := XT) (Λ := noL) (EQ := EQT) (n := 60) g_sine_turned hEQT hmT (fun _ _ _ _ => noL_ok _) (hw.trans ?_)
  have h_k := inR_i64 (hok (.int .i64 k) (by simp [datasL, datas]))
  have h_n := inR_i64 (hok (.int .i64 n) (by simp [datasL, datas]))
  clear hok hw
  exact cosAns_ok (K := fun v M => some (Res.fin v M))
def s_sine_Cos : List AV → List Blk → (AV → List Blk → Ans) → Ans := fun xs bs K => match xs, bs with
  | [.v (.c (.d (.int .i64 k))), .v (.c (.d (.int .i64 n)))], [] => K (rSpanE (cosS k n)) []
  | _, _ => none
def T_sine_Cos : Nat → List AV → List Blk → (AV → List Blk → Ans) → Ans := upd T_sine_turned 23 s_sine_Cos
theorem g_sine_Cos : GOK Try.prog GT gbT T_sine_Cos XT := by
  refine GOK.upd g_sine_turned (fun args w => Try.call23 args w) fun xs bs K r h => ?_
  unfold s_sine_Cos at h
  split at h
  · exact ⟨_, _, c_sine_Cos _ _, h⟩
  · cases h


set_option maxRecDepth 100000 in
/-- sine.Sin -/
theorem w_sine_Sin (k n : Int) (K : AV → List Blk → Ans) : evFn Try.prog GT EQT T_sine_Cos XT noL 60 22 [.v (.c (.d (.int .i64 k))), .v (.c (.d (.int .i64 n)))] [] (fun v M => K v (M.take ([] : List Blk).length)) = sinAns K k n := by
  kernel_rfl
set_option maxRecDepth 100000 in
theorem c_sine_Sin (k n : Int) : CallsA Try.prog GT gbT 22 [.v (.c (.d (.int .i64 k))), .v (.c (.d (.int .i64 n)))] [] (rSpanE (sinS k n)) [] := by
  refine CallsA.ofOk fun hok => ?_
  have hw := w_sine_Sin k n (fun v M => some (Res.fin v M))
  refine CallsA.ofEv (Γ := T_sine_Cos) (X := XT) (Λ := noL) (EQ := EQT) (n := 60) g_sine_Cos hEQT hmT (fun _ _ _ _ => noL_ok _) (hw.trans ?_)
  have h_k := inR_i64 (hok (.int .i64 k) (by simp [datasL, datas]))
  have h_n := inR_i64 (hok (.int .i64 n) (by simp [datasL, datas]))
  clear hok hw
  exact sinAns_ok (K := fun v M => some (Res.fin v M))
def s_sine_Sin : List AV → List Blk → (AV → List Blk → Ans) → Ans := fun xs bs K => match xs, bs with
  | [.v (.c (.d (.int .i64 k))), .v (.c (.d (.int .i64 n)))], [] => K (rSpanE (sinS k n)) []
  | _, _ => none
def T_sine_Sin : Nat → List AV → List Blk → (AV → List Blk → Ans) → Ans := upd T_sine_Cos 22 s_sine_Sin
theorem g_sine_Sin : GOK Try.prog GT gbT T_sine_Sin XT := by
  refine GOK.upd g_sine_Cos (fun args w => Try.call22 args w) fun xs bs K r h => ?_
  unfold s_sine_Sin at h
  split at h
  · exact ⟨_, _, c_sine_Sin _ _, h⟩
  · cases h


set_option maxRecDepth 100000 in
/-- fringeref01.big -/
theorem w_fringeref01_big (n : Int) (K : AV → List Blk → Ans) : evFn Try.prog GT EQT T_sine_Sin XT noL 60 51 [.v (.c (.d (.int .u64 n)))] [] (fun v M => K v (M.take ([] : List Blk).length)) = K (rBig (bigRaw n)) [] := by
  kernel_rfl
set_option maxRecDepth 100000 in
theorem c_fringeref01_big (n : Int) : CallsA Try.prog GT gbT 51 [.v (.c (.d (.int .u64 n)))] [] (rBig (bigOf n)) [] := by
  refine CallsA.ofOk fun hok => ?_
  have hw := w_fringeref01_big n (fun v M => some (Res.fin v M))
  refine CallsA.ofEv (Γ := T_sine_Sin) (X := XT) (Λ := noL) (EQ := EQT) (n := 60) g_sine_Sin hEQT hmT (fun _ _ _ _ => noL_ok _) (hw.trans ?_)
  have h_n := inR_u64 (hok (.int .u64 n) (by simp [datasL, datas]))
  clear hok hw
  refine congrArg (fun v => some (Res.fin v [])) ?_
  rw [bigRaw_ok h_n]
def s_fringeref01_big : List AV → List Blk → (AV → List Blk → Ans) → Ans := fun xs bs K => match xs, bs with
  | [.v (.c (.d (.int .u64 n)))], [] => K (rBig (bigOf n)) []
  | _, _ => none
def T_fringeref01_big : Nat → List AV → List Blk → (AV → List Blk → Ans) → Ans := upd T_sine_Sin 51 s_fringeref01_big
theorem g_fringeref01_big : GOK Try.prog GT gbT T_fringeref01_big XT := by
  refine GOK.upd g_sine_Sin (fun args w => Try.call51 args w) fun xs bs K r h => ?_
  unfold s_fringeref01_big at h
  split at h
  · exact ⟨_, _, c_fringeref01_big _, h⟩
  · cases h


set_option maxRecDepth 100000 in
/-- fringeref01.Product -/
theorem w_fringeref01_Product (x y : Int) (K : AV → List Blk → Ans) : evFn Try.prog GT EQT T_fringeref01_big XT noL 60 47 [.v (.c (.d (.int .u64 x))), .v (.c (.d (.int .u64 y)))] [] (fun v M => K v (M.take ([] : List Blk).length)) = K (rBig (prodRaw (bigOf x) (bigOf y))) [] := by
  kernel_rfl
set_option maxRecDepth 100000 in
theorem c_fringeref01_Product (x y : Int) : CallsA Try.prog GT gbT 47 [.v (.c (.d (.int .u64 x))), .v (.c (.d (.int .u64 y)))] [] (rBig (bigOf (x * y))) [] := by
  refine CallsA.ofOk fun hok => ?_
  have hw := w_fringeref01_Product x y (fun v M => some (Res.fin v M))
  refine CallsA.ofEv (Γ := T_fringeref01_big) (X := XT) (Λ := noL) (EQ := EQT) (n := 60) g_fringeref01_big hEQT hmT (fun _ _ _ _ => noL_ok _) (hw.trans ?_)
  have h_x := inR_u64 (hok (.int .u64 x) (by simp [datasL, datas]))
  have h_y := inR_u64 (hok (.int .u64 y) (by simp [datasL, datas]))
  clear hok hw
  refine congrArg (fun v => some (Res.fin v [])) ?_
  rw [prodRaw_ok h_x h_y]
def s_fringeref01_Product : List AV → List Blk → (AV → List Blk → Ans) → Ans := fun xs bs K => match xs, bs with
  | [.v (.c (.d (.int .u64 x))), .v (.c (.d (.int .u64 y)))], [] => K (rBig (bigOf (x * y))) []
  | _, _ => none
def T_fringeref01_Product : Nat → List AV → List Blk → (AV → List Blk → Ans) → Ans := upd T_fringeref01_big 47 s_fringeref01_Product
theorem g_fringeref01_Product : GOK Try.prog GT gbT T_fringeref01_Product XT := by
  refine GOK.upd g_fringeref01_big (fun args w => Try.call47 args w) fun xs bs K r h => ?_
  unfold s_fringeref01_Product at h
  split at h
  · exact ⟨_, _, c_fringeref01_Product _ _, h⟩
  · cases h


set_option maxRecDepth 100000 in
/-- fringeref01.Small -/
theorem w_fringeref01_Small (a b c d : Int) (K : AV → List Blk → Ans) : evFn Try.prog GT EQT T_fringeref01_Product XT noL 60 48 [.v (.agg [.int .u64 a, .int .u64 b, .int .u64 c, .int .u64 d])] [] (fun v M => K v (M.take ([] : List Blk).length)) = bif c == 0 then (bif d == 0 then K (rIB ((smallRaw ⟨a, b, c, d⟩).1, decide (borU (shlU b 32) a ≤ 1000000000000000000))) [] else K (rIB ((smallRaw ⟨a, b, c, d⟩).1, false)) []) else K (rIB ((smallRaw ⟨a, b, c, d⟩).1, false)) [] := by
  kernel_rfl
set_option maxRecDepth 100000 in
theorem c_fringeref01_Small (a b c d : Int) : CallsA Try.prog GT gbT 48 [.v (.agg [.int .u64 a, .int .u64 b, .int .u64 c, .int .u64 d])] [] (rIB (smallRaw ⟨a, b, c, d⟩)) [] := by
  refine CallsA.ofOk fun hok => ?_
  have hw := w_fringeref01_Small a b c d (fun v M => some (Res.fin v M))
  refine CallsA.ofEv (Γ := T_fringeref01_Product) (X := XT) (Λ := noL) (EQ := EQT) (n := 60) g_fringeref01_Product hEQT hmT (fun _ _ _ _ => noL_ok _) (hw.trans ?_)
  have h_a := inR_u64 (hok (.int .u64 a) (by simp [datasL, datas]))
  have h_b := inR_u64 (hok (.int .u64 b) (by simp [datasL, datas]))
  have h_c := inR_u64 (hok (.int .u64 c) (by simp [datasL, datas]))
  have h_d := inR_u64 (hok (.int .u64 d) (by simp [datasL, datas]))
  clear hok hw
  unfold smallRaw
  simp only
  cases c == 0 <;> cases d == 0 <;> rfl
def s_fringeref01_Small : List AV → List Blk → (AV → List Blk → Ans) → Ans := fun xs bs K => match xs, bs with
  | [.v (.agg [.int .u64 a, .int .u64 b, .int .u64 c, .int .u64 d])], [] => K (rIB (smallRaw ⟨a, b, c, d⟩)) []
  | _, _ => none
def T_fringeref01_Small : Nat → List AV → List Blk → (AV → List Blk → Ans) → Ans := upd T_fringeref01_Product 48 s_fringeref01_Small
theorem g_fringeref01_Small : GOK Try.prog GT gbT T_fringeref01_Small XT := by
  refine GOK.upd g_fringeref01_Product (fun args w => Try.call48 args w) fun xs bs K r h => ?_
  unfold s_fringeref01_Small at h
  split at h
  · exact ⟨_, _, c_fringeref01_Small _ _ _ _, h⟩
  · cases h


abbrev sh_Over : List (Nat × Sh) := [(1, .int .u64), (2, .ptr 0 0), (4, .ptr 1 0), (6, .ptr 2 0), (7, .int .u64), (8, .int .i64), (9, .int .i64)]
abbrev ms_Over : List (Nat × List IntKind) := [(75, [.u64, .u64, .u64, .u64]), (75, [.u64, .u64, .u64, .u64]), (75, [.u64, .u64, .u64, .u64])]
abbrev T_OverIn (n i r b : Int) : TS := maskT (mkS sh_Over [n, r, i, b]) 46
abbrev T_OverOut (n i r : Int) : TS := maskT (mkS (sh_Over.take 6) [n, r, i]) 46
abbrev M_Over (l : List Int) : List Blk := mkM ms_Over l
def f_Over (xs ys : List Int) : LT := match xs, ys with
  | [n, r, i, b], [a0, a1, a2, a3, z0, z1, z2, z3, o0, o1, o2, o3] =>
    bif b == 31 then bif i == 3 && o3 == 0 then .br (digOn n r a3) (.st (.exit 2) (T_OverOut n 3 (dR n r a3)) (M_Over [a0, a1, a2, a3, z0, z1, z2, z3, o0, o1, o2, dQ n r a3]) 3) .no else bif i == 2 && o2 == 0 then .br (digOn n r a2) (.st (.exit 2) (T_OverOut n 2 (dR n r a2)) (M_Over [a0, a1, a2, a3, z0, z1, z2, z3, o0, o1, dQ n r a2, o3]) 3) .no else bif i == 1 && o1 == 0 then .br (digOn n r a1) (.st (.exit 2) (T_OverOut n 1 (dR n r a1)) (M_Over [a0, a1, a2, a3, z0, z1, z2, z3, o0, dQ n r a1, o2, o3]) 3) .no else bif i == 0 && o0 == 0 then .br (digOn n r a0) (.st (.exit 2) (T_OverOut n 0 (dR n r a0)) (M_Over [a0, a1, a2, a3, z0, z1, z2, z3, dQ n r a0, o1, o2, o3]) 3) .no else .no else .no
  | _, _ => .no
def L_Over := LamS 6 46 3 sh_Over ms_Over f_Over
set_option maxRecDepth 100000 in
theorem b_Over0 (n r b a0 a1 a2 a3 z0 z1 z2 z3 o0 o1 o2 o3 : Int) : evCode Try.prog GT EQT T_fringeref01_Small XT noL 40 (loopB Try.prog 46 1) (T_OverIn n 0 r b) (M_Over [a0, a1, a2, a3, z0, z1, z2, z3, o0, o1, o2, o3]) 3 (fun x T M N => some (.st x (forget [1, 2, 4, 6, 7, 8, 9] T) M N)) =
    bif decide (0 ≤ b) then (bif decide (b < 0) then none else bif decide (n ≤ bitIn r a0 b) then (bif decide (b < 0) then none else some (.st .normal (T_OverIn n 0 (wu64 (bitIn r a0 b - n)) (w64 (b - 1))) (M_Over [a0, a1, a2, a3, z0, z1, z2, z3, borU o0 (shlU 1 b), o1, o2, o3]) 3)) else some (.st .normal (T_OverIn n 0 (bitIn r a0 b) (w64 (b - 1))) (M_Over [a0, a1, a2, a3, z0, z1, z2, z3, o0, o1, o2, o3]) 3))
    else some (.st (.exit 2) (T_OverIn n 0 r b) (M_Over [a0, a1, a2, a3, z0, z1, z2, z3, o0, o1, o2, o3]) 3) := by kernel_rfl
set_option maxRecDepth 100000 in
theorem b_Over1 (n r b a0 a1 a2 a3 z0 z1 z2 z3 o0 o1 o2 o3 : Int) : evCode Try.prog GT EQT T_fringeref01_Small XT noL 40 (loopB Try.prog 46 1) (T_OverIn n 1 r b) (M_Over [a0, a1, a2, a3, z0, z1, z2, z3, o0, o1, o2, o3]) 3 (fun x T M N => some (.st x (forget [1, 2, 4, 6, 7, 8, 9] T) M N)) =
    bif decide (0 ≤ b) then (bif decide (b < 0) then none else bif decide (n ≤ bitIn r a1 b) then (bif decide (b < 0) then none else some (.st .normal (T_OverIn n 1 (wu64 (bitIn r a1 b - n)) (w64 (b - 1))) (M_Over [a0, a1, a2, a3, z0, z1, z2, z3, o0, borU o1 (shlU 1 b), o2, o3]) 3)) else some (.st .normal (T_OverIn n 1 (bitIn r a1 b) (w64 (b - 1))) (M_Over [a0, a1, a2, a3, z0, z1, z2, z3, o0, o1, o2, o3]) 3))
    else some (.st (.exit 2) (T_OverIn n 1 r b) (M_Over [a0, a1, a2, a3, z0, z1, z2, z3, o0, o1, o2, o3]) 3) := by kernel_rfl
set_option maxRecDepth 100000 in
theorem b_Over2 (n r b a0 a1 a2 a3 z0 z1 z2 z3 o0 o1 o2 o3 : Int) : evCode Try.prog GT EQT T_fringeref01_Small XT noL 40 (loopB Try.prog 46 1) (T_OverIn n 2 r b) (M_Over [a0, a1, a2, a3, z0, z1, z2, z3, o0, o1, o2, o3]) 3 (fun x T M N => some (.st x (forget [1, 2, 4, 6, 7, 8, 9] T) M N)) =
    bif decide (0 ≤ b) then (bif decide (b < 0) then none else bif decide (n ≤ bitIn r a2 b) then (bif decide (b < 0) then none else some (.st .normal (T_OverIn n 2 (wu64 (bitIn r a2 b - n)) (w64 (b - 1))) (M_Over [a0, a1, a2, a3, z0, z1, z2, z3, o0, o1, borU o2 (shlU 1 b), o3]) 3)) else some (.st .normal (T_OverIn n 2 (bitIn r a2 b) (w64 (b - 1))) (M_Over [a0, a1, a2, a3, z0, z1, z2, z3, o0, o1, o2, o3]) 3))
    else some (.st (.exit 2) (T_OverIn n 2 r b) (M_Over [a0, a1, a2, a3, z0, z1, z2, z3, o0, o1, o2, o3]) 3) := by kernel_rfl
set_option maxRecDepth 100000 in
theorem b_Over3 (n r b a0 a1 a2 a3 z0 z1 z2 z3 o0 o1 o2 o3 : Int) : evCode Try.prog GT EQT T_fringeref01_Small XT noL 40 (loopB Try.prog 46 1) (T_OverIn n 3 r b) (M_Over [a0, a1, a2, a3, z0, z1, z2, z3, o0, o1, o2, o3]) 3 (fun x T M N => some (.st x (forget [1, 2, 4, 6, 7, 8, 9] T) M N)) =
    bif decide (0 ≤ b) then (bif decide (b < 0) then none else bif decide (n ≤ bitIn r a3 b) then (bif decide (b < 0) then none else some (.st .normal (T_OverIn n 3 (wu64 (bitIn r a3 b - n)) (w64 (b - 1))) (M_Over [a0, a1, a2, a3, z0, z1, z2, z3, o0, o1, o2, borU o3 (shlU 1 b)]) 3)) else some (.st .normal (T_OverIn n 3 (bitIn r a3 b) (w64 (b - 1))) (M_Over [a0, a1, a2, a3, z0, z1, z2, z3, o0, o1, o2, o3]) 3))
    else some (.st (.exit 2) (T_OverIn n 3 r b) (M_Over [a0, a1, a2, a3, z0, z1, z2, z3, o0, o1, o2, o3]) 3) := by kernel_rfl
theorem l_Over (n i r b : Int) : Less (T_OverOut n i r) (T_OverIn n i r b) := less_of (by kernel_rfl) (readS_gets (by kernel_rfl))
theorem r_Over0 (n r a0 a1 a2 a3 z0 z1 z2 z3 o1 o2 o3 : Int) (h : digOn n r a0 = true) : ∃ k, RoundsOK Try.prog GT gbT (loopB Try.prog 46 1) k (T_OverIn n 0 r 31) (M_Over [a0, a1, a2, a3, z0, z1, z2, z3, 0, o1, o2, o3]) 3 (.exit 2) (T_OverOut n 0 (dR n r a0)) (M_Over [a0, a1, a2, a3, z0, z1, z2, z3, dQ n r a0, o1, o2, o3]) 3 := by
  simp only [digOn, Bool.and_eq_true, decide_eq_true_eq] at h
  obtain ⟨h1, h2, h3, h4, h5, h6⟩ := h
  obtain ⟨n', rfl⟩ := Int.eq_ofNat_of_zero_le (Int.le_of_lt h1)
  obtain ⟨r', rfl⟩ := Int.eq_ofNat_of_zero_le h3
  obtain ⟨a', rfl⟩ := Int.eq_ofNat_of_zero_le h5
  have hh := over_rounds (c := loopB Try.prog 46 1) (e := 2) g_fringeref01_Small hEQT hmT (fun r b => T_OverIn n' 0 r b) (fun r => T_OverOut n' 0 r) (fun o => M_Over [(a' : Int), a1, a2, a3, z0, z1, z2, z3, o, o1, o2, o3]) a' n' (by omega) (by omega) (by omega) (fun r b => l_Over n' 0 r b) (fun r b o => b_Over0 n' r b (a' : Int) a1 a2 a3 z0 z1 z2 z3 o o1 o2 o3) 32 r' 0 (by omega) (by omega) (by omega)
  rw [Nat.zero_mul, Nat.zero_add, dR_nat _ _ _ (by omega), dQ_nat _ _ _ (by omega)] at hh
  exact hh
theorem r_Over1 (n r a0 a1 a2 a3 z0 z1 z2 z3 o0 o2 o3 : Int) (h : digOn n r a1 = true) : ∃ k, RoundsOK Try.prog GT gbT (loopB Try.prog 46 1) k (T_OverIn n 1 r 31) (M_Over [a0, a1, a2, a3, z0, z1, z2, z3, o0, 0, o2, o3]) 3 (.exit 2) (T_OverOut n 1 (dR n r a1)) (M_Over [a0, a1, a2, a3, z0, z1, z2, z3, o0, dQ n r a1, o2, o3]) 3 := by
  simp only [digOn, Bool.and_eq_true, decide_eq_true_eq] at h
  obtain ⟨h1, h2, h3, h4, h5, h6⟩ := h
  obtain ⟨n', rfl⟩ := Int.eq_ofNat_of_zero_le (Int.le_of_lt h1)
  obtain ⟨r', rfl⟩ := Int.eq_ofNat_of_zero_le h3
  obtain ⟨a', rfl⟩ := Int.eq_ofNat_of_zero_le h5
  have hh := over_rounds (c := loopB Try.prog 46 1) (e := 2) g_fringeref01_Small hEQT hmT (fun r b => T_OverIn n' 1 r b) (fun r => T_OverOut n' 1 r) (fun o => M_Over [a0, (a' : Int), a2, a3, z0, z1, z2, z3, o0, o, o2, o3]) a' n' (by omega) (by omega) (by omega) (fun r b => l_Over n' 1 r b) (fun r b o => b_Over1 n' r b a0 (a' : Int) a2 a3 z0 z1 z2 z3 o0 o o2 o3) 32 r' 0 (by omega) (by omega) (by omega)
  rw [Nat.zero_mul, Nat.zero_add, dR_nat _ _ _ (by omega), dQ_nat _ _ _ (by omega)] at hh
  exact hh
theorem r_Over2 (n r a0 a1 a2 a3 z0 z1 z2 z3 o0 o1 o3 : Int) (h : digOn n r a2 = true) : ∃ k, RoundsOK Try.prog GT gbT (loopB Try.prog 46 1) k (T_OverIn n 2 r 31) (M_Over [a0, a1, a2, a3, z0, z1, z2, z3, o0, o1, 0, o3]) 3 (.exit 2) (T_OverOut n 2 (dR n r a2)) (M_Over [a0, a1, a2, a3, z0, z1, z2, z3, o0, o1, dQ n r a2, o3]) 3 := by
  simp only [digOn, Bool.and_eq_true, decide_eq_true_eq] at h
  obtain ⟨h1, h2, h3, h4, h5, h6⟩ := h
  obtain ⟨n', rfl⟩ := Int.eq_ofNat_of_zero_le (Int.le_of_lt h1)
  obtain ⟨r', rfl⟩ := Int.eq_ofNat_of_zero_le h3
  obtain ⟨a', rfl⟩ := Int.eq_ofNat_of_zero_le h5
  have hh := over_rounds (c := loopB Try.prog 46 1) (e := 2) g_fringeref01_Small hEQT hmT (fun r b => T_OverIn n' 2 r b) (fun r => T_OverOut n' 2 r) (fun o => M_Over [a0, a1, (a' : Int), a3, z0, z1, z2, z3, o0, o1, o, o3]) a' n' (by omega) (by omega) (by omega) (fun r b => l_Over n' 2 r b) (fun r b o => b_Over2 n' r b a0 a1 (a' : Int) a3 z0 z1 z2 z3 o0 o1 o o3) 32 r' 0 (by omega) (by omega) (by omega)
  rw [Nat.zero_mul, Nat.zero_add, dR_nat _ _ _ (by omega), dQ_nat _ _ _ (by omega)] at hh
  exact hh
theorem r_Over3 (n r a0 a1 a2 a3 z0 z1 z2 z3 o0 o1 o2 : Int) (h : digOn n r a3 = true) : ∃ k, RoundsOK Try.prog GT gbT (loopB Try.prog 46 1) k (T_OverIn n 3 r 31) (M_Over [a0, a1, a2, a3, z0, z1, z2, z3, o0, o1, o2, 0]) 3 (.exit 2) (T_OverOut n 3 (dR n r a3)) (M_Over [a0, a1, a2, a3, z0, z1, z2, z3, o0, o1, o2, dQ n r a3]) 3 := by
  simp only [digOn, Bool.and_eq_true, decide_eq_true_eq] at h
  obtain ⟨h1, h2, h3, h4, h5, h6⟩ := h
  obtain ⟨n', rfl⟩ := Int.eq_ofNat_of_zero_le (Int.le_of_lt h1)
  obtain ⟨r', rfl⟩ := Int.eq_ofNat_of_zero_le h3
  obtain ⟨a', rfl⟩ := Int.eq_ofNat_of_zero_le h5
  have hh := over_rounds (c := loopB Try.prog 46 1) (e := 2) g_fringeref01_Small hEQT hmT (fun r b => T_OverIn n' 3 r b) (fun r => T_OverOut n' 3 r) (fun o => M_Over [a0, a1, a2, (a' : Int), z0, z1, z2, z3, o0, o1, o2, o]) a' n' (by omega) (by omega) (by omega) (fun r b => l_Over n' 3 r b) (fun r b o => b_Over3 n' r b a0 a1 a2 (a' : Int) z0 z1 z2 z3 o0 o1 o2 o) 32 r' 0 (by omega) (by omega) (by omega)
  rw [Nat.zero_mul, Nat.zero_add, dR_nat _ _ _ (by omega), dQ_nat _ _ _ (by omega)] at hh
  exact hh
set_option maxRecDepth 100000 in
theorem LL_Over : ∀ fn c, Try.prog.funcs[46]? = some fn → fn.body = some c → LOK Try.prog GT gbT L_Over (loopsIn c) := by
  refine LOK.ofF fun b hb => ?_
  have e : loopsF Try.prog 46 = [loopB Try.prog 46 0, loopB Try.prog 46 1] := by kernel_rfl
  have k0 : loopKey (loopB Try.prog 46 0) = 3 := by kernel_rfl
  have k1 : loopKey (loopB Try.prog 46 1) = 6 := by kernel_rfl
  rw [e, List.mem_cons, List.mem_singleton] at hb
  rcases hb with rfl | rfl
  · exact LOKb.lamS_other (by rw [k0]; decide)
  · unfold L_Over
    rw [← k1]
    refine LOKb.lamS fun xs ys x T' M' N' hr => ?_
    unfold f_Over at hr
    split at hr
    · rename_i n r i b a0 a1 a2 a3 z0 z1 z2 z3 o0 o1 o2 o3
      simp only [cond_eq_ite, beq_iff_eq, Bool.and_eq_true] at hr
      split at hr
      · rename_i hb
        subst hb
        split at hr
        · rename_i hi
          obtain ⟨rfl, rfl⟩ := hi
          rcases hr with ⟨hd, rfl, rfl, rfl, rfl⟩ | ⟨_, hf⟩
          · exact ⟨by simp, r_Over3 n r a0 a1 a2 a3 z0 z1 z2 z3 o0 o1 o2 hd⟩
          · exact hf.elim
        split at hr
        · rename_i hi
          obtain ⟨rfl, rfl⟩ := hi
          rcases hr with ⟨hd, rfl, rfl, rfl, rfl⟩ | ⟨_, hf⟩
          · exact ⟨by simp, r_Over2 n r a0 a1 a2 a3 z0 z1 z2 z3 o0 o1 o3 hd⟩
          · exact hf.elim
        split at hr
        · rename_i hi
          obtain ⟨rfl, rfl⟩ := hi
          rcases hr with ⟨hd, rfl, rfl, rfl, rfl⟩ | ⟨_, hf⟩
          · exact ⟨by simp, r_Over1 n r a0 a1 a2 a3 z0 z1 z2 z3 o0 o2 o3 hd⟩
          · exact hf.elim
        split at hr
        · rename_i hi
          obtain ⟨rfl, rfl⟩ := hi
          rcases hr with ⟨hd, rfl, rfl, rfl, rfl⟩ | ⟨_, hf⟩
          · exact ⟨by simp, r_Over0 n r a0 a1 a2 a3 z0 z1 z2 z3 o1 o2 o3 hd⟩
          · exact hf.elim
        exact hr.elim
      · exact hr.elim
    · exact hr.elim

set_option maxRecDepth 100000 in
/-- fringeref01.Over -/
theorem w_fringeref01_Over (a b c d n : Int) (K : AV → List Blk → Ans) : evFn Try.prog GT EQT T_fringeref01_Small XT L_Over 90 46 [.v (.agg [.int .u64 a, .int .u64 b, .int .u64 c, .int .u64 d]), .v (.c (.d (.int .u64 n)))] [] (fun v M => K v (M.take ([] : List Blk).length)) = overAns K a b c d n := by
  kernel_rfl
set_option maxRecDepth 100000 in
theorem c_fringeref01_Over (a b c d n : Int) (hd : (overOn ⟨a, b, c, d⟩ n) = true) : CallsA Try.prog GT gbT 46 [.v (.agg [.int .u64 a, .int .u64 b, .int .u64 c, .int .u64 d]), .v (.c (.d (.int .u64 n)))] [] (rBigU (overI (valOf ⟨a, b, c, d⟩) n)) [] := by
  refine CallsA.ofOk fun hok => ?_
  have hw := w_fringeref01_Over a b c d n (fun v M => some (Res.fin v M))
  refine CallsA.ofEv (Γ := T_fringeref01_Small) (X := XT) (Λ := L_Over) (EQ := EQT) (n := 90) g_fringeref01_Small hEQT hmT (LL_Over) (hw.trans ?_)
  have h_a := inR_u64 (hok (.int .u64 a) (by simp [datasL, datas]))
  have h_b := inR_u64 (hok (.int .u64 b) (by simp [datasL, datas]))
  have h_c := inR_u64 (hok (.int .u64 c) (by simp [datasL, datas]))
  have h_d := inR_u64 (hok (.int .u64 d) (by simp [datasL, datas]))
  have h_n := inR_u64 (hok (.int .u64 n) (by simp [datasL, datas]))
  clear hok hw
  exact overAns_ok (K := fun v M => some (Res.fin v M)) hd
def s_fringeref01_Over : List AV → List Blk → (AV → List Blk → Ans) → Ans := fun xs bs K => match xs, bs with
  | [.v (.agg [.int .u64 a, .int .u64 b, .int .u64 c, .int .u64 d]), .v (.c (.d (.int .u64 n)))], [] => bif overOn ⟨a, b, c, d⟩ n then K (rBigU (overI (valOf ⟨a, b, c, d⟩) n)) [] else none
  | _, _ => none
def T_fringeref01_Over : Nat → List AV → List Blk → (AV → List Blk → Ans) → Ans := upd T_fringeref01_Small 46 s_fringeref01_Over
theorem g_fringeref01_Over : GOK Try.prog GT gbT T_fringeref01_Over XT := by
  refine GOK.upd g_fringeref01_Small (fun args w => Try.call46 args w) fun xs bs K r h => ?_
  unfold s_fringeref01_Over at h
  split at h
  · simp only [cond_eq_ite] at h
    split at h
    · exact ⟨_, _, c_fringeref01_Over _ _ _ _ _ ‹_›, h⟩
    · cases h
  · cases h


set_option maxRecDepth 100000 in
/-- sine.valid -/
theorem w_sine_valid (lo hi : Int) (K : AV → List Blk → Ans) : evFn Try.prog GT EQT T_fringeref01_Over XT noL 60 24 [.v (.agg [.int .i64 lo, .int .i64 hi])] [] (fun v M => K v (M.take ([] : List Blk).length)) = K (rB (spanValid ⟨lo, hi⟩)) [] := by
  simp only [spanValid, pullK K]
  kernel_rfl
set_option maxRecDepth 100000 in
theorem c_sine_valid (lo hi : Int) : CallsA Try.prog GT gbT 24 [.v (.agg [.int .i64 lo, .int .i64 hi])] [] (rB (spanValid ⟨lo, hi⟩)) [] := by
  refine CallsA.ofOk fun hok => ?_
  have hw := w_sine_valid lo hi (fun v M => some (Res.fin v M))
  refine CallsA.ofEv (Γ := T_fringeref01_Over) (X := XT) (Λ := noL) (EQ := EQT) (n := 60) g_fringeref01_Over hEQT hmT (fun _ _ _ _ => noL_ok _) (hw.trans ?_)
  rfl
def s_sine_valid : List AV → List Blk → (AV → List Blk → Ans) → Ans := fun xs bs K => match xs, bs with
  | [.v (.agg [.int .i64 lo, .int .i64 hi])], [] => K (rB (spanValid ⟨lo, hi⟩)) []
  | _, _ => none
def T_sine_valid : Nat → List AV → List Blk → (AV → List Blk → Ans) → Ans := upd T_fringeref01_Over 24 s_sine_valid
theorem g_sine_valid : GOK Try.prog GT gbT T_sine_valid XT := by
  refine GOK.upd g_fringeref01_Over (fun args w => Try.call24 args w) fun xs bs K r h => ?_
  unfold s_sine_valid at h
  split at h
  · exact ⟨_, _, c_sine_valid _ _, h⟩
  · cases h


set_option maxRecDepth 100000 in
/-- fringeref05.Valid -/
theorem w_fringeref05_Valid (lo hi : Int) (K : AV → List Blk → Ans) : evFn Try.prog GT EQT T_sine_valid XT noL 60 29 [.v (.agg [.int .i64 lo, .int .i64 hi])] [] (fun v M => K v (M.take ([] : List Blk).length)) = K (rB (spanValid ⟨lo, hi⟩)) [] := by
  simp only [spanValid, pullK K]
  kernel_rfl
set_option maxRecDepth 100000 in
theorem c_fringeref05_Valid (lo hi : Int) : CallsA Try.prog GT gbT 29 [.v (.agg [.int .i64 lo, .int .i64 hi])] [] (rB (spanValid ⟨lo, hi⟩)) [] := by
  refine CallsA.ofOk fun hok => ?_
  have hw := w_fringeref05_Valid lo hi (fun v M => some (Res.fin v M))
  refine CallsA.ofEv (Γ := T_sine_valid) (X := XT) (Λ := noL) (EQ := EQT) (n := 60) g_sine_valid hEQT hmT (fun _ _ _ _ => noL_ok _) (hw.trans ?_)
  rfl
def s_fringeref05_Valid : List AV → List Blk → (AV → List Blk → Ans) → Ans := fun xs bs K => match xs, bs with
  | [.v (.agg [.int .i64 lo, .int .i64 hi])], [] => K (rB (spanValid ⟨lo, hi⟩)) []
  | _, _ => none
def T_fringeref05_Valid : Nat → List AV → List Blk → (AV → List Blk → Ans) → Ans := upd T_sine_valid 29 s_fringeref05_Valid
theorem g_fringeref05_Valid : GOK Try.prog GT gbT T_fringeref05_Valid XT := by
  refine GOK.upd g_sine_valid (fun args w => Try.call29 args w) fun xs bs K r h => ?_
  unfold s_fringeref05_Valid at h
  split at h
  · exact ⟨_, _, c_fringeref05_Valid _ _, h⟩
  · cases h


set_option maxRecDepth 100000 in
/-- sine.ranged -/
theorem w_sine_ranged (lo hi : Int) (K : AV → List Blk → Ans) : evFn Try.prog GT EQT T_fringeref05_Valid XT noL 60 25 [.v (.agg [.int .i64 lo, .int .i64 hi])] [] (fun v M => K v (M.take ([] : List Blk).length)) = K (rSpanE (rangedS ⟨lo, hi⟩)) [] := by
  simp only [rangedS, pullK K]
  kernel_rfl
set_option maxRecDepth 100000 in
theorem c_sine_ranged (lo hi : Int) : CallsA Try.prog GT gbT 25 [.v (.agg [.int .i64 lo, .int .i64 hi])] [] (rSpanE (rangedS ⟨lo, hi⟩)) [] := by
  refine CallsA.ofOk fun hok => ?_
  have hw := w_sine_ranged lo hi (fun v M => some (Res.fin v M))
  refine CallsA.ofEv (Γ := T_fringeref05_Valid) (X := XT) (Λ := noL) (EQ := EQT) (n := 60) g_fringeref05_Valid hEQT hmT (fun _ _ _ _ => noL_ok _) (hw.trans ?_)
  rfl
def s_sine_ranged : List AV → List Blk → (AV → List Blk → Ans) → Ans := fun xs bs K => match xs, bs with
  | [.v (.agg [.int .i64 lo, .int .i64 hi])], [] => K (rSpanE (rangedS ⟨lo, hi⟩)) []
  | _, _ => none
def T_sine_ranged : Nat → List AV → List Blk → (AV → List Blk → Ans) → Ans := upd T_fringeref05_Valid 25 s_sine_ranged
theorem g_sine_ranged : GOK Try.prog GT gbT T_sine_ranged XT := by
  refine GOK.upd g_fringeref05_Valid (fun args w => Try.call25 args w) fun xs bs K r h => ?_
  unfold s_sine_ranged at h
  split at h
  · exact ⟨_, _, c_sine_ranged _ _, h⟩
  · cases h


set_option maxRecDepth 100000 in
/-- fringeref05.made -/
theorem w_fringeref05_made (lo hi : Int) (K : AV → List Blk → Ans) : evFn Try.prog GT EQT T_sine_ranged XT noL 60 30 [.v (.c (.d (.int .i64 lo))), .v (.c (.d (.int .i64 hi)))] [] (fun v M => K v (M.take ([] : List Blk).length)) = K (rSpanE (rangedS ⟨lo, hi⟩)) [] := by
  simp only [rangedS, pullK K]
  kernel_rfl
set_option maxRecDepth 100000 in
theorem c_fringeref05_made (lo hi : Int) : CallsA Try.prog GT gbT 30 [.v (.c (.d (.int .i64 lo))), .v (.c (.d (.int .i64 hi)))] [] (rSpanE (rangedS ⟨lo, hi⟩)) [] := by
  refine CallsA.ofOk fun hok => ?_
  have hw := w_fringeref05_made lo hi (fun v M => some (Res.fin v M))
  refine CallsA.ofEv (Γ := T_sine_ranged) (X := XT) (Λ := noL) (EQ := EQT) (n := 60) g_sine_ranged hEQT hmT (fun _ _ _ _ => noL_ok _) (hw.trans ?_)
  rfl
def s_fringeref05_made : List AV → List Blk → (AV → List Blk → Ans) → Ans := fun xs bs K => match xs, bs with
  | [.v (.c (.d (.int .i64 lo))), .v (.c (.d (.int .i64 hi)))], [] => K (rSpanE (rangedS ⟨lo, hi⟩)) []
  | _, _ => none
def T_fringeref05_made : Nat → List AV → List Blk → (AV → List Blk → Ans) → Ans := upd T_sine_ranged 30 s_fringeref05_made
theorem g_fringeref05_made : GOK Try.prog GT gbT T_fringeref05_made XT := by
  refine GOK.upd g_sine_ranged (fun args w => Try.call30 args w) fun xs bs K r h => ?_
  unfold s_fringeref05_made at h
  split at h
  · exact ⟨_, _, c_fringeref05_made _ _, h⟩
  · cases h


set_option maxRecDepth 100000 in
/-- sine.down -/
theorem w_sine_down (n : Int) (K : AV → List Blk → Ans) : evFn Try.prog GT EQT T_fringeref05_made XT noL 60 26 [.v (.c (.d (.int .i64 n)))] [] (fun v M => K v (M.take ([] : List Blk).length)) = K (rI (floorRaw n 1000000)) [] := by
  simp only [floorRaw, pullK K]
  kernel_rfl
set_option maxRecDepth 100000 in
theorem c_sine_down (n : Int) : CallsA Try.prog GT gbT 26 [.v (.c (.d (.int .i64 n)))] [] (rI (n / 1000000)) [] := by
  refine CallsA.ofOk fun hok => ?_
  have hw := w_sine_down n (fun v M => some (Res.fin v M))
  refine CallsA.ofEv (Γ := T_fringeref05_made) (X := XT) (Λ := noL) (EQ := EQT) (n := 60) g_fringeref05_made hEQT hmT (fun _ _ _ _ => noL_ok _) (hw.trans ?_)
  have h_n := inR_i64 (hok (.int .i64 n) (by simp [datasL, datas]))
  clear hok hw
  refine congrArg (fun v => some (Res.fin v [])) ?_
  rw [floorRaw_ok (by omega) h_n]
def s_sine_down : List AV → List Blk → (AV → List Blk → Ans) → Ans := fun xs bs K => match xs, bs with
  | [.v (.c (.d (.int .i64 n)))], [] => K (rI (n / 1000000)) []
  | _, _ => none
def T_sine_down : Nat → List AV → List Blk → (AV → List Blk → Ans) → Ans := upd T_fringeref05_made 26 s_sine_down
theorem g_sine_down : GOK Try.prog GT gbT T_sine_down XT := by
  refine GOK.upd g_fringeref05_made (fun args w => Try.call26 args w) fun xs bs K r h => ?_
  unfold s_sine_down at h
  split at h
  · exact ⟨_, _, c_sine_down _, h⟩
  · cases h


set_option maxRecDepth 100000 in
/-- fringeref05.down -/
theorem w_fringeref05_down (n d : Int) (K : AV → List Blk → Ans) : evFn Try.prog GT EQT T_sine_down XT noL 60 31 [.v (.c (.d (.int .i64 n))), .v (.c (.d (.int .i64 d)))] [] (fun v M => K v (M.take ([] : List Blk).length)) = bif d == 0 then none else bif d == 0 then none else (bif decide (n.tmod d < 0) then K (rI (w64 (w64 (n.tdiv d) - 1))) [] else K (rI (w64 (n.tdiv d))) []) := by
  kernel_rfl
set_option maxRecDepth 100000 in
theorem c_fringeref05_down (n d : Int) (hd : (decide (0 < d)) = true) : CallsA Try.prog GT gbT 31 [.v (.c (.d (.int .i64 n))), .v (.c (.d (.int .i64 d)))] [] (rI (n / d)) [] := by
  refine CallsA.ofOk fun hok => ?_
  have hw := w_fringeref05_down n d (fun v M => some (Res.fin v M))
  refine CallsA.ofEv (Γ := T_sine_down) (X := XT) (Λ := noL) (EQ := EQT) (n := 60) g_sine_down hEQT hmT (fun _ _ _ _ => noL_ok _) (hw.trans ?_)
  have h_n := inR_i64 (hok (.int .i64 n) (by simp [datasL, datas]))
  have h_d := inR_i64 (hok (.int .i64 d) (by simp [datasL, datas]))
  clear hok hw
  have hd0 := of_decide_eq_true hd
  have h := floorRaw_ok hd0 h_n
  rw [show (d == 0) = false by simp; omega]
  simp only [cond_false]
  rw [← h]
  unfold floorRaw
  cases decide (n.tmod d < 0) <;> rfl
def s_fringeref05_down : List AV → List Blk → (AV → List Blk → Ans) → Ans := fun xs bs K => match xs, bs with
  | [.v (.c (.d (.int .i64 n))), .v (.c (.d (.int .i64 d)))], [] => bif decide (0 < d) then K (rI (n / d)) [] else none
  | _, _ => none
def T_fringeref05_down : Nat → List AV → List Blk → (AV → List Blk → Ans) → Ans := upd T_sine_down 31 s_fringeref05_down
theorem g_fringeref05_down : GOK Try.prog GT gbT T_fringeref05_down XT := by
  refine GOK.upd g_sine_down (fun args w => Try.call31 args w) fun xs bs K r h => ?_
  unfold s_fringeref05_down at h
  split at h
  · simp only [cond_eq_ite] at h
    split at h
    · exact ⟨_, _, c_fringeref05_down _ _ ‹_›, h⟩
    · cases h
  · cases h


set_option maxRecDepth 100000 in
/-- fringeref05.Neg -/
theorem w_fringeref05_Neg (lo hi : Int) (K : AV → List Blk → Ans) : evFn Try.prog GT EQT T_fringeref05_down XT noL 60 35 [.v (.agg [.int .i64 lo, .int .i64 hi])] [] (fun v M => K v (M.take ([] : List Blk).length)) = K (rSpan (negRaw ⟨lo, hi⟩)) [] := by
  kernel_rfl
set_option maxRecDepth 100000 in
theorem c_fringeref05_Neg (lo hi : Int) : CallsA Try.prog GT gbT 35 [.v (.agg [.int .i64 lo, .int .i64 hi])] [] (rSpan (negRaw ⟨lo, hi⟩)) [] := by
  refine CallsA.ofOk fun hok => ?_
  have hw := w_fringeref05_Neg lo hi (fun v M => some (Res.fin v M))
  refine CallsA.ofEv (Γ := T_fringeref05_down) (X := XT) (Λ := noL) (EQ := EQT) (n := 60) g_fringeref05_down hEQT hmT (fun _ _ _ _ => noL_ok _) (hw.trans ?_)
  rfl
def s_fringeref05_Neg : List AV → List Blk → (AV → List Blk → Ans) → Ans := fun xs bs K => match xs, bs with
  | [.v (.agg [.int .i64 lo, .int .i64 hi])], [] => K (rSpan (negRaw ⟨lo, hi⟩)) []
  | _, _ => none
def T_fringeref05_Neg : Nat → List AV → List Blk → (AV → List Blk → Ans) → Ans := upd T_fringeref05_down 35 s_fringeref05_Neg
theorem g_fringeref05_Neg : GOK Try.prog GT gbT T_fringeref05_Neg XT := by
  refine GOK.upd g_fringeref05_down (fun args w => Try.call35 args w) fun xs bs K r h => ?_
  unfold s_fringeref05_Neg at h
  split at h
  · exact ⟨_, _, c_fringeref05_Neg _ _, h⟩
  · cases h


set_option maxRecDepth 100000 in
/-- sine.Mul -/
theorem w_sine_Mul (a b c d : Int) (K : AV → List Blk → Ans) : evFn Try.prog GT EQT T_fringeref05_Neg XT noL 60 19 [.v (.agg [.int .i64 a, .int .i64 b]), .v (.agg [.int .i64 c, .int .i64 d])] [] (fun v M => K v (M.take ([] : List Blk).length)) = K (rSpanE (mulRaw' ⟨a, b⟩ ⟨c, d⟩)) [] := by
  simp only [mulRaw', pullK K]
  kernel_rfl
set_option maxRecDepth 100000 in
theorem c_sine_Mul (a b c d : Int) : CallsA Try.prog GT gbT 19 [.v (.agg [.int .i64 a, .int .i64 b]), .v (.agg [.int .i64 c, .int .i64 d])] [] (rSpanE (mulS ⟨a, b⟩ ⟨c, d⟩)) [] := by
  refine CallsA.ofOk fun hok => ?_
  have hw := w_sine_Mul a b c d (fun v M => some (Res.fin v M))
  refine CallsA.ofEv (Γ := T_fringeref05_Neg) (X := XT) (Λ := noL) (EQ := EQT) (n := 60) g_fringeref05_Neg hEQT hmT (fun _ _ _ _ => noL_ok _) (hw.trans ?_)
  have h_a := inR_i64 (hok (.int .i64 a) (by simp [datasL, datas]))
  have h_b := inR_i64 (hok (.int .i64 b) (by simp [datasL, datas]))
  have h_c := inR_i64 (hok (.int .i64 c) (by simp [datasL, datas]))
  have h_d := inR_i64 (hok (.int .i64 d) (by simp [datasL, datas]))
  clear hok hw
  refine congrArg (fun v => some (Res.fin v [])) ?_
  rw [mulRaw'_ok]
def s_sine_Mul : List AV → List Blk → (AV → List Blk → Ans) → Ans := fun xs bs K => match xs, bs with
  | [.v (.agg [.int .i64 a, .int .i64 b]), .v (.agg [.int .i64 c, .int .i64 d])], [] => K (rSpanE (mulS ⟨a, b⟩ ⟨c, d⟩)) []
  | _, _ => none
def T_sine_Mul : Nat → List AV → List Blk → (AV → List Blk → Ans) → Ans := upd T_fringeref05_Neg 19 s_sine_Mul
theorem g_sine_Mul : GOK Try.prog GT gbT T_sine_Mul XT := by
  refine GOK.upd g_fringeref05_Neg (fun args w => Try.call19 args w) fun xs bs K r h => ?_
  unfold s_sine_Mul at h
  split at h
  · exact ⟨_, _, c_sine_Mul _ _ _ _, h⟩
  · cases h


set_option maxRecDepth 100000 in
/-- fringeref05.Mul -/
theorem w_fringeref05_Mul (a b c d : Int) (K : AV → List Blk → Ans) : evFn Try.prog GT EQT T_sine_Mul XT noL 60 21 [.v (.agg [.int .i64 a, .int .i64 b]), .v (.agg [.int .i64 c, .int .i64 d])] [] (fun v M => K v (M.take ([] : List Blk).length)) = K (rSpanE (mulRaw' ⟨a, b⟩ ⟨c, d⟩)) [] := by
  simp only [mulRaw', pullK K]
  kernel_rfl
set_option maxRecDepth 100000 in
theorem c_fringeref05_Mul (a b c d : Int) : CallsA Try.prog GT gbT 21 [.v (.agg [.int .i64 a, .int .i64 b]), .v (.agg [.int .i64 c, .int .i64 d])] [] (rSpanE (mulS ⟨a, b⟩ ⟨c, d⟩)) [] := by
  refine CallsA.ofOk fun hok => ?_
  have hw := w_fringeref05_Mul a b c d (fun v M => some (Res.fin v M))
  refine CallsA.ofEv (Γ := T_sine_Mul) (X := XT) (Λ := noL) (EQ := EQT) (n := 60) g_sine_Mul hEQT hmT (fun _ _ _ _ => noL_ok _) (hw.trans ?_)
  have h_a := inR_i64 (hok (.int .i64 a) (by simp [datasL, datas]))
  have h_b := inR_i64 (hok (.int .i64 b) (by simp [datasL, datas]))
  have h_c := inR_i64 (hok (.int .i64 c) (by simp [datasL, datas]))
  have h_d := inR_i64 (hok (.int .i64 d) (by simp [datasL, datas]))
  clear hok hw
  refine congrArg (fun v => some (Res.fin v [])) ?_
  rw [mulRaw'_ok]
def s_fringeref05_Mul : List AV → List Blk → (AV → List Blk → Ans) → Ans := fun xs bs K => match xs, bs with
  | [.v (.agg [.int .i64 a, .int .i64 b]), .v (.agg [.int .i64 c, .int .i64 d])], [] => K (rSpanE (mulS ⟨a, b⟩ ⟨c, d⟩)) []
  | _, _ => none
def T_fringeref05_Mul : Nat → List AV → List Blk → (AV → List Blk → Ans) → Ans := upd T_sine_Mul 21 s_fringeref05_Mul
theorem g_fringeref05_Mul : GOK Try.prog GT gbT T_fringeref05_Mul XT := by
  refine GOK.upd g_sine_Mul (fun args w => Try.call21 args w) fun xs bs K r h => ?_
  unfold s_fringeref05_Mul at h
  split at h
  · exact ⟨_, _, c_fringeref05_Mul _ _ _ _, h⟩
  · cases h


abbrev T_named (s : ByteArray) (i : Int) : TS := maskT [(0, .v (.c (.d (.str s)))), (24, aint .i64 (s.size : Int)), (25, aint .i64 i), (2, .any)] 50
abbrev B_named (s : ByteArray) (i : Int) : TS := maskT [(0, .v (.c (.d (.str s)))), (24, aint .i64 (s.size : Int)), (25, aint .i64 i), (2, abool false)] 50
def f_named (T : TS) (M : List Blk) (N : Nat) : LT := match tget T 0, tget T 24, tget T 25 with
  | .v (.c (.d (.str s))), .v (.c (.d (.int .i64 n))), .v (.c (.d (.int .i64 i))) =>
    bif i == 0 then .br (n == (s.size : Int) && decide ((s.size : Int) ≤ 1000)) (.br (restOk s 0 s.size) (.st (.exit 0) (maskT [] 50) M N) (.st .ret (maskT [(2, abool false)] 50) M N)) .no else .no
  | _, _, _ => .no
def L_named := LamG 4 50 f_named
set_option maxRecDepth 100000 in
theorem b_named (s : ByteArray) (i : Int) (M : List Blk) (N : Nat) : evCode Try.prog GT EQT T_fringeref05_Mul XT noL 40 (loopB Try.prog 16 0) (T_named s i) M N (fun x T M N => some (.st x (forget [0, 24, 25, 2] T) M N)) =
    bif decide (i < (s.size : Int)) then (bif decide (0 ≤ i) && decide (i < (s.size : Int)) then nameStep (byteAt s i) (some (.st .ret (B_named s i) M N)) (some (.st .normal (T_named s (w64 (i + 1))) M N)) else none)
    else some (.st (.exit 0) (T_named s i) M N) := by kernel_rfl
set_option maxRecDepth 100000 in
theorem LL_named : ∀ fn c, Try.prog.funcs[16]? = some fn → fn.body = some c → LOK Try.prog GT gbT L_named (loopsIn c) := by
  refine LOK.ofF fun b hb => ?_
  have e : loopsF Try.prog 16 = [loopB Try.prog 16 0] := by kernel_rfl
  have k0 : loopKey (loopB Try.prog 16 0) = 4 := by kernel_rfl
  rw [e, List.mem_singleton] at hb
  subst hb
  unfold L_named
  rw [← k0]
  refine LOKb.lamG fun T M N x T' M' N' hl hr => ?_
  unfold f_named at hr
  split at hr
  · rename_i s n i h0 h1 h2
    simp only [cond_eq_ite, beq_iff_eq] at hr
    split at hr
    · rename_i hi
      subst hi
      obtain ⟨hc, hr2⟩ := Or.resolve_right hr (fun h => h.2.elim)
      simp only [Bool.and_eq_true, beq_iff_eq, decide_eq_true_eq] at hc
      obtain ⟨rfl, hs⟩ := hc
      have hless : Less (T_named s 0) T := less_of' hl (by simp only [List.mem_cons, List.not_mem_nil, or_false]; intro p hp; rcases hp with rfl | rfl | rfl | rfl; exact .inl h0; exact .inl h1; exact .inl h2; exact .inr rfl)
      have hh := name_rounds (c := loopB Try.prog 16 0) (M := M) (NN := N) g_fringeref05_Mul hEQT hmT s hs (fun i => T_named s i) (maskT [] 50) (maskT [(2, abool false)] 50) (fun i => less_of (by kernel_rfl) (by simp)) (fun i => B_named s i) (fun i => less_of (by kernel_rfl) (by simp; kernel_rfl)) (fun i => (b_named s i M N)) s.size 0 (by omega) (by omega)
      rcases hr2 with ⟨hd, rfl, rfl, rfl, rfl⟩ | ⟨hd, rfl, rfl, rfl, rfl⟩
      · obtain ⟨k, hk⟩ := hh.1 hd
        exact ⟨by simp, k, hk.less hless⟩
      · obtain ⟨k, hk⟩ := hh.2 hd
        exact ⟨by simp, k, hk.less hless⟩
    · exact hr.elim
  · exact hr.elim

set_option maxRecDepth 100000 in
/-- track.named -/
theorem w_track_named (s : ByteArray) (K : AV → List Blk → Ans) : evFn Try.prog GT EQT T_fringeref05_Mul XT L_named 60 16 [.v (.c (.d (.str s)))] [] (fun v M => K v (M.take ([] : List Blk).length)) = nameAns K s := by
  kernel_rfl
set_option maxRecDepth 100000 in
theorem c_track_named (s : ByteArray) : CallsA Try.prog GT gbT 16 [.v (.c (.d (.str s)))] [] (rB (namedB s)) [] := by
  refine CallsA.ofOk fun hok => ?_
  have hw := w_track_named s (fun v M => some (Res.fin v M))
  refine CallsA.ofEv (Γ := T_fringeref05_Mul) (X := XT) (Λ := L_named) (EQ := EQT) (n := 60) g_fringeref05_Mul hEQT hmT (LL_named) (hw.trans ?_)
  clear hok hw
  exact nameAns_ok (K := fun v M => some (Res.fin v M))
def s_track_named : List AV → List Blk → (AV → List Blk → Ans) → Ans := fun xs bs K => match xs, bs with
  | [.v (.c (.d (.str s)))], [] => K (rB (namedB s)) []
  | _, _ => none
def T_track_named : Nat → List AV → List Blk → (AV → List Blk → Ans) → Ans := upd T_fringeref05_Mul 16 s_track_named
theorem g_track_named : GOK Try.prog GT gbT T_track_named XT := by
  refine GOK.upd g_fringeref05_Mul (fun args w => Try.call16 args w) fun xs bs K r h => ?_
  unfold s_track_named at h
  split at h
  · exact ⟨_, _, c_track_named _, h⟩
  · cases h


abbrev T_Named (s : ByteArray) (i : Int) : TS := maskT [(0, .v (.c (.d (.str s)))), (3, aint .i64 i), (2, .any)] 56
abbrev B_Named (s : ByteArray) (i : Int) : TS := maskT [(0, .v (.c (.d (.str s)))), (3, aint .i64 i), (2, abool false)] 56
def f_Named (T : TS) (M : List Blk) (N : Nat) : LT := match tget T 0, tget T 3 with
  | .v (.c (.d (.str s))), .v (.c (.d (.int .i64 i))) =>
    bif i == 0 then .br (decide ((s.size : Int) ≤ 1000)) (.br (restOk s 0 s.size) (.st (.exit 0) (maskT [] 56) M N) (.st .ret (maskT [(2, abool false)] 56) M N)) .no else .no
  | _, _ => .no
def L_Named := LamG 4 56 f_Named
set_option maxRecDepth 100000 in
theorem b_Named (s : ByteArray) (i : Int) (M : List Blk) (N : Nat) : evCode Try.prog GT EQT T_track_named XT noL 40 (loopB Try.prog 17 0) (T_Named s i) M N (fun x T M N => some (.st x (forget [0, 3, 2] T) M N)) =
    bif decide (i < (s.size : Int)) then (bif decide (0 ≤ i) && decide (i < (s.size : Int)) then nameStepR (decide (0 ≤ i) && decide (i < (s.size : Int))) (byteAt s i) (some (.st .ret (B_Named s i) M N)) (some (.st .normal (T_Named s (w64 (i + 1))) M N)) else none)
    else some (.st (.exit 0) (T_Named s i) M N) := by kernel_rfl
set_option maxRecDepth 100000 in
theorem LL_Named : ∀ fn c, Try.prog.funcs[17]? = some fn → fn.body = some c → LOK Try.prog GT gbT L_Named (loopsIn c) := by
  refine LOK.ofF fun b hb => ?_
  have e : loopsF Try.prog 17 = [loopB Try.prog 17 0] := by kernel_rfl
  have k0 : loopKey (loopB Try.prog 17 0) = 4 := by kernel_rfl
  rw [e, List.mem_singleton] at hb
  subst hb
  unfold L_Named
  rw [← k0]
  refine LOKb.lamG fun T M N x T' M' N' hl hr => ?_
  unfold f_Named at hr
  split at hr
  · rename_i s i h0 h2
    simp only [cond_eq_ite, beq_iff_eq] at hr
    split at hr
    · rename_i hi
      subst hi
      obtain ⟨hs, hr2⟩ := Or.resolve_right hr (fun h => h.2.elim)
      simp only [decide_eq_true_eq] at hs
      have hless : Less (T_Named s 0) T := less_of' hl (by simp only [List.mem_cons, List.not_mem_nil, or_false]; intro p hp; rcases hp with rfl | rfl | rfl; exact .inl h0; exact .inl h2; exact .inr rfl)
      have hh := name_rounds (c := loopB Try.prog 17 0) (M := M) (NN := N) g_track_named hEQT hmT s hs (fun i => T_Named s i) (maskT [] 56) (maskT [(2, abool false)] 56) (fun i => less_of (by kernel_rfl) (by simp)) (fun i => B_Named s i) (fun i => less_of (by kernel_rfl) (by simp; kernel_rfl)) (fun i => (b_Named s i M N).trans (by rw [nameStepR_eq])) s.size 0 (by omega) (by omega)
      rcases hr2 with ⟨hd, rfl, rfl, rfl, rfl⟩ | ⟨hd, rfl, rfl, rfl, rfl⟩
      · obtain ⟨k, hk⟩ := hh.1 hd
        exact ⟨by simp, k, hk.less hless⟩
      · obtain ⟨k, hk⟩ := hh.2 hd
        exact ⟨by simp, k, hk.less hless⟩
    · exact hr.elim
  · exact hr.elim

set_option maxRecDepth 100000 in
/-- fringeref04.Named -/
theorem w_fringeref04_Named (s : ByteArray) (K : AV → List Blk → Ans) : evFn Try.prog GT EQT T_track_named XT L_Named 60 17 [.v (.c (.d (.str s)))] [] (fun v M => K v (M.take ([] : List Blk).length)) = nameAns' K s := by
  kernel_rfl
set_option maxRecDepth 100000 in
theorem c_fringeref04_Named (s : ByteArray) : CallsA Try.prog GT gbT 17 [.v (.c (.d (.str s)))] [] (rB (namedB s)) [] := by
  refine CallsA.ofOk fun hok => ?_
  have hw := w_fringeref04_Named s (fun v M => some (Res.fin v M))
  refine CallsA.ofEv (Γ := T_track_named) (X := XT) (Λ := L_Named) (EQ := EQT) (n := 60) g_track_named hEQT hmT (LL_Named) (hw.trans ?_)
  clear hok hw
  exact nameAns'_ok (K := fun v M => some (Res.fin v M))
def s_fringeref04_Named : List AV → List Blk → (AV → List Blk → Ans) → Ans := fun xs bs K => match xs, bs with
  | [.v (.c (.d (.str s)))], [] => K (rB (namedB s)) []
  | _, _ => none
def T_fringeref04_Named : Nat → List AV → List Blk → (AV → List Blk → Ans) → Ans := upd T_track_named 17 s_fringeref04_Named
theorem g_fringeref04_Named : GOK Try.prog GT gbT T_fringeref04_Named XT := by
  refine GOK.upd g_track_named (fun args w => Try.call17 args w) fun xs bs K r h => ?_
  unfold s_fringeref04_Named at h
  split at h
  · exact ⟨_, _, c_fringeref04_Named _, h⟩
  · cases h


set_option maxRecDepth 100000 in
/-- track.Check -/
theorem w_track_Check (nm : ByteArray) (ra dec : Int) (K : AV → List Blk → Ans) : evFn Try.prog GT EQT T_fringeref04_Named XT noL 60 9 [.v (.agg [.str nm, .int .i64 ra, .int .i64 dec])] [] (fun v M => K v (M.take ([] : List Blk).length)) = K (rI (checkSrc ⟨nm, ra, dec⟩)) [] := by
  simp only [checkSrc, pullK K]
  kernel_rfl
set_option maxRecDepth 100000 in
theorem c_track_Check (nm : ByteArray) (ra dec : Int) : CallsA Try.prog GT gbT 9 [.v (.agg [.str nm, .int .i64 ra, .int .i64 dec])] [] (rI (checkSrc ⟨nm, ra, dec⟩)) [] := by
  refine CallsA.ofOk fun hok => ?_
  have hw := w_track_Check nm ra dec (fun v M => some (Res.fin v M))
  refine CallsA.ofEv (Γ := T_fringeref04_Named) (X := XT) (Λ := noL) (EQ := EQT) (n := 60) g_fringeref04_Named hEQT hmT (fun _ _ _ _ => noL_ok _) (hw.trans ?_)
  rfl
def s_track_Check : List AV → List Blk → (AV → List Blk → Ans) → Ans := fun xs bs K => match xs, bs with
  | [.v (.agg [.str nm, .int .i64 ra, .int .i64 dec])], [] => K (rI (checkSrc ⟨nm, ra, dec⟩)) []
  | _, _ => none
def T_track_Check : Nat → List AV → List Blk → (AV → List Blk → Ans) → Ans := upd T_fringeref04_Named 9 s_track_Check
theorem g_track_Check : GOK Try.prog GT gbT T_track_Check XT := by
  refine GOK.upd g_fringeref04_Named (fun args w => Try.call9 args w) fun xs bs K r h => ?_
  unfold s_track_Check at h
  split at h
  · exact ⟨_, _, c_track_Check _ _ _, h⟩
  · cases h


set_option maxRecDepth 100000 in
/-- fringeref06.Check -/
theorem w_fringeref06_Check (nm : ByteArray) (ra dec : Int) (K : AV → List Blk → Ans) : evFn Try.prog GT EQT T_track_Check XT noL 60 10 [.v (.agg [.str nm, .int .i64 ra, .int .i64 dec])] [] (fun v M => K v (M.take ([] : List Blk).length)) = K (rI (checkSrc ⟨nm, ra, dec⟩)) [] := by
  simp only [checkSrc, pullK K]
  kernel_rfl
set_option maxRecDepth 100000 in
theorem c_fringeref06_Check (nm : ByteArray) (ra dec : Int) : CallsA Try.prog GT gbT 10 [.v (.agg [.str nm, .int .i64 ra, .int .i64 dec])] [] (rI (checkSrc ⟨nm, ra, dec⟩)) [] := by
  refine CallsA.ofOk fun hok => ?_
  have hw := w_fringeref06_Check nm ra dec (fun v M => some (Res.fin v M))
  refine CallsA.ofEv (Γ := T_track_Check) (X := XT) (Λ := noL) (EQ := EQT) (n := 60) g_track_Check hEQT hmT (fun _ _ _ _ => noL_ok _) (hw.trans ?_)
  rfl
def s_fringeref06_Check : List AV → List Blk → (AV → List Blk → Ans) → Ans := fun xs bs K => match xs, bs with
  | [.v (.agg [.str nm, .int .i64 ra, .int .i64 dec])], [] => K (rI (checkSrc ⟨nm, ra, dec⟩)) []
  | _, _ => none
def T_fringeref06_Check : Nat → List AV → List Blk → (AV → List Blk → Ans) → Ans := upd T_track_Check 10 s_fringeref06_Check
theorem g_fringeref06_Check : GOK Try.prog GT gbT T_fringeref06_Check XT := by
  refine GOK.upd g_track_Check (fun args w => Try.call10 args w) fun xs bs K r h => ?_
  unfold s_fringeref06_Check at h
  split at h
  · exact ⟨_, _, c_fringeref06_Check _ _ _, h⟩
  · cases h


set_option maxRecDepth 100000 in
/-- track.circle -/
theorem w_track_circle (h : Int) (K : AV → List Blk → Ans) : evFn Try.prog GT EQT T_fringeref06_Check XT noL 60 18 [.v (.c (.d (.int .i64 h)))] [] (fun v M => K v (M.take ([] : List Blk).length)) = K (rSpan2 (sinT h, cosT h)) [] := by
  kernel_rfl
set_option maxRecDepth 100000 in
theorem c_track_circle (h : Int) : CallsA Try.prog GT gbT 18 [.v (.c (.d (.int .i64 h)))] [] (rSpan2 (sinT h, cosT h)) [] := by
  refine CallsA.ofOk fun hok => ?_
  have hw := w_track_circle h (fun v M => some (Res.fin v M))
  refine CallsA.ofEv (Γ := T_fringeref06_Check) (X := XT) (Λ := noL) (EQ := EQT) (n := 60) g_fringeref06_Check hEQT hmT (fun _ _ _ _ => noL_ok _) (hw.trans ?_)
  rfl
def s_track_circle : List AV → List Blk → (AV → List Blk → Ans) → Ans := fun xs bs K => match xs, bs with
  | [.v (.c (.d (.int .i64 h)))], [] => K (rSpan2 (sinT h, cosT h)) []
  | _, _ => none
def T_track_circle : Nat → List AV → List Blk → (AV → List Blk → Ans) → Ans := upd T_fringeref06_Check 18 s_track_circle
theorem g_track_circle : GOK Try.prog GT gbT T_track_circle XT := by
  refine GOK.upd g_fringeref06_Check (fun args w => Try.call18 args w) fun xs bs K r h => ?_
  unfold s_track_circle at h
  split at h
  · exact ⟨_, _, c_track_circle _, h⟩
  · cases h


set_option maxRecDepth 100000 in
/-- track.direction -/
theorem w_track_direction (nm : ByteArray) (ra dec t : Int) (K : AV → List Blk → Ans) : evFn Try.prog GT EQT T_track_circle XT noL 60 13 [.v (.agg [.str nm, .int .i64 ra, .int .i64 dec]), .v (.c (.d (.int .i64 t)))] [] (fun v M => K v (M.take ([] : List Blk).length)) = dirAns K ra dec t := by
  kernel_rfl
set_option maxRecDepth 100000 in
theorem c_track_direction (nm : ByteArray) (ra dec t : Int) (hd : (dirOn ra dec t) = true) : CallsA Try.prog GT gbT 13 [.v (.agg [.str nm, .int .i64 ra, .int .i64 dec]), .v (.c (.d (.int .i64 t)))] [] (rDirE (dirS ra dec t, 0)) [] := by
  refine CallsA.ofOk fun hok => ?_
  have hw := w_track_direction nm ra dec t (fun v M => some (Res.fin v M))
  refine CallsA.ofEv (Γ := T_track_circle) (X := XT) (Λ := noL) (EQ := EQT) (n := 60) g_track_circle hEQT hmT (fun _ _ _ _ => noL_ok _) (hw.trans ?_)
  have h_ra := inR_i64 (hok (.int .i64 ra) (by simp [datasL, datas]))
  have h_dec := inR_i64 (hok (.int .i64 dec) (by simp [datasL, datas]))
  have h_t := inR_i64 (hok (.int .i64 t) (by simp [datasL, datas]))
  clear hok hw
  exact dirAns_ok (K := fun v M => some (Res.fin v M)) hd
def s_track_direction : List AV → List Blk → (AV → List Blk → Ans) → Ans := fun xs bs K => match xs, bs with
  | [.v (.agg [.str _, .int .i64 ra, .int .i64 dec]), .v (.c (.d (.int .i64 t)))], [] => bif dirOn ra dec t then K (rDirE (dirS ra dec t, 0)) [] else none
  | _, _ => none
def T_track_direction : Nat → List AV → List Blk → (AV → List Blk → Ans) → Ans := upd T_track_circle 13 s_track_direction
theorem g_track_direction : GOK Try.prog GT gbT T_track_direction XT := by
  refine GOK.upd g_track_circle (fun args w => Try.call13 args w) fun xs bs K r h => ?_
  unfold s_track_direction at h
  split at h
  · simp only [cond_eq_ite] at h
    split at h
    · exact ⟨_, _, c_track_direction _ _ _ _ ‹_›, h⟩
    · cases h
  · cases h


set_option maxRecDepth 100000 in
/-- track.At -/
theorem w_track_At (nm : ByteArray) (ra dec t : Int) (K : AV → List Blk → Ans) : evFn Try.prog GT EQT (inl Try.prog GT EQT XT [12] T_track_direction 60 1) XT noL 60 5 [.v (.agg [.str nm, .int .i64 ra, .int .i64 dec]), .v (.c (.d (.int .i64 t)))] [] (fun v M => K v (M.take ([] : List Blk).length)) = atAns K ⟨nm, ra, dec⟩ t := by
  kernel_rfl
set_option maxRecDepth 100000 in
theorem c_track_At (nm : ByteArray) (ra dec t : Int) : CallsA Try.prog GT gbT 5 [.v (.agg [.str nm, .int .i64 ra, .int .i64 dec]), .v (.c (.d (.int .i64 t)))] [] (rDirE (atS ⟨nm, ra, dec⟩ t)) [] := by
  refine CallsA.ofOk fun hok => ?_
  have hw := w_track_At nm ra dec t (fun v M => some (Res.fin v M))
  refine CallsA.ofEv (Γ := (inl Try.prog GT EQT XT [12] T_track_direction 60 1)) (X := XT) (Λ := noL) (EQ := EQT) (n := 60) (g_track_direction.inl hEQT hmT (fun f hf => by simp only [List.mem_cons, List.not_mem_nil, or_false] at hf; subst hf; exact (fun args w => Try.call12 args w)) 60 1) hEQT hmT (fun _ _ _ _ => noL_ok _) (hw.trans ?_)
  have h_ra := inR_i64 (hok (.int .i64 ra) (by simp [datasL, datas]))
  have h_dec := inR_i64 (hok (.int .i64 dec) (by simp [datasL, datas]))
  have h_t := inR_i64 (hok (.int .i64 t) (by simp [datasL, datas]))
  clear hok hw
  exact atAns_ok (K := fun v M => some (Res.fin v M))
def s_track_At : List AV → List Blk → (AV → List Blk → Ans) → Ans := fun xs bs K => match xs, bs with
  | [.v (.agg [.str nm, .int .i64 ra, .int .i64 dec]), .v (.c (.d (.int .i64 t)))], [] => K (rDirE (atS ⟨nm, ra, dec⟩ t)) []
  | _, _ => none
def T_track_At : Nat → List AV → List Blk → (AV → List Blk → Ans) → Ans := upd T_track_direction 5 s_track_At
theorem g_track_At : GOK Try.prog GT gbT T_track_At XT := by
  refine GOK.upd g_track_direction (fun args w => Try.call5 args w) fun xs bs K r h => ?_
  unfold s_track_At at h
  split at h
  · exact ⟨_, _, c_track_At _ _ _ _, h⟩
  · cases h


set_option maxRecDepth 100000 in
/-- fringeref05.times -/
theorem w_fringeref05_times (x y : Int) (K : AV → List Blk → Ans) : evFn Try.prog GT EQT T_track_At XT noL 60 52 [.v (.c (.d (.int .u64 x))), .v (.c (.d (.int .u64 y)))] [] (fun v M => K v (M.take ([] : List Blk).length)) = bif overOn (bigOf (x * y)) 100000000000000000 then K (rU (overSmall (x * y) 100000000000000000)) [] else none := by
  kernel_rfl
set_option maxRecDepth 100000 in
theorem c_fringeref05_times (x y : Int) : CallsA Try.prog GT gbT 52 [.v (.c (.d (.int .u64 x))), .v (.c (.d (.int .u64 y)))] [] (rU (timesI x y)) [] := by
  refine CallsA.ofOk fun hok => ?_
  have hw := w_fringeref05_times x y (fun v M => some (Res.fin v M))
  refine CallsA.ofEv (Γ := T_track_At) (X := XT) (Λ := noL) (EQ := EQT) (n := 60) g_track_At hEQT hmT (fun _ _ _ _ => noL_ok _) (hw.trans ?_)
  have h_x := inR_u64 (hok (.int .u64 x) (by simp [datasL, datas]))
  have h_y := inR_u64 (hok (.int .u64 y) (by simp [datasL, datas]))
  clear hok hw
  exact times_ok (K := fun v M => some (Res.fin v M)) h_x h_y
def s_fringeref05_times : List AV → List Blk → (AV → List Blk → Ans) → Ans := fun xs bs K => match xs, bs with
  | [.v (.c (.d (.int .u64 x))), .v (.c (.d (.int .u64 y)))], [] => K (rU (timesI x y)) []
  | _, _ => none
def T_fringeref05_times : Nat → List AV → List Blk → (AV → List Blk → Ans) → Ans := upd T_track_At 52 s_fringeref05_times
theorem g_fringeref05_times : GOK Try.prog GT gbT T_fringeref05_times XT := by
  refine GOK.upd g_track_At (fun args w => Try.call52 args w) fun xs bs K r h => ?_
  unfold s_fringeref05_times at h
  split at h
  · exact ⟨_, _, c_fringeref05_times _ _, h⟩
  · cases h


abbrev lv_series : List (Nat × IntKind) := [(7, .u64), (8, .u64), (9, .u64), (2, .u64), (10, .u64)]
def L_series := Lam1 3 40 0 lv_series seriesDom seriesFin
set_option maxRecDepth 100000 in
theorem b_series (sq s t k i : Int) (M : List Blk) (N : Nat) : evCode Try.prog GT EQT T_fringeref05_times XT noL 40 (loopB Try.prog 49 0) (mkT lv_series 40 [s, t, sq, k, i]) M N (fun x T M N => some (.st x (forget [7, 8, 9, 2, 10] T) M N)) =
    bif decide (i < 12) then (bif wu64 (k * wu64 (k + 1)) == 0 then none else bif i.tmod 2 == 0 then some (.st .normal (mkT lv_series 40 [wu64 (s - termI t sq k), termI t sq k, sq, wu64 (k + 2), wu64 (i + 1)]) M N) else some (.st .normal (mkT lv_series 40 [wu64 (s + termI t sq k), termI t sq k, sq, wu64 (k + 2), wu64 (i + 1)]) M N))
    else some (.st (.exit 0) (mkT lv_series 40 [s, t, sq, k, i]) M N) := by kernel_rfl
theorem l_series (s t sq k i : Int) : Less (mkT lv_series 40 [s]) (mkT lv_series 40 [s, t, sq, k, i]) := by
  have h : mkT lv_series 40 [s] = mkT (lv_series.take 1) 40 [s] := by kernel_rfl
  rw [h]
  exact less_mkT (by kernel_rfl) (by kernel_rfl)
set_option maxRecDepth 100000 in
theorem LL_series : ∀ fn c, Try.prog.funcs[49]? = some fn → fn.body = some c → LOK Try.prog GT gbT L_series (loopsIn c) := by
  refine LOK.ofF fun b hb => ?_
  have e : loopsF Try.prog 49 = [loopB Try.prog 49 0] := by kernel_rfl
  have k0 : loopKey (loopB Try.prog 49 0) = 3 := by kernel_rfl
  rw [e, List.mem_singleton] at hb
  subst hb
  unfold L_series
  rw [← k0]
  refine LOKb.lam1 (n := 40) (e := 0) (live := lv_series) fun xs M N hl hd => ?_
  match xs, hl with
  | [s, t, sq, k, i], _ =>
    simp only [seriesDom, serOn, Bool.and_eq_true, decide_eq_true_eq, beq_iff_eq] at hd
    obtain ⟨⟨h1, h2⟩, rfl⟩ := hd
    exact ref_rounds (c := loopB Try.prog 49 0) g_fringeref05_times hEQT hmT (fun s t k i => mkT lv_series 40 [s, t, sq, k, i]) (fun s => mkT lv_series 40 [s]) sq (fun s t k i => l_series s t sq k i) (fun s t k i => b_series sq s t k i M N) 12 s t k 0 (by omega) (by omega) h1 (by omega)

set_option maxRecDepth 100000 in
/-- fringeref05.series -/
theorem w_fringeref05_series (x y k : Int) (K : AV → List Blk → Ans) : evFn Try.prog GT EQT T_fringeref05_times XT L_series 60 49 [.v (.c (.d (.int .u64 x))), .v (.c (.d (.int .u64 y))), .v (.c (.d (.int .u64 k)))] [] (fun v M => K v (M.take ([] : List Blk).length)) = bif seriesDom [y, y, timesI x x, k, 0] then K (rU (serI 12 y y (timesI x x) k true)) [] else none := by
  kernel_rfl
set_option maxRecDepth 100000 in
theorem c_fringeref05_series (x y k : Int) (hd : (serOn k) = true) : CallsA Try.prog GT gbT 49 [.v (.c (.d (.int .u64 x))), .v (.c (.d (.int .u64 y))), .v (.c (.d (.int .u64 k)))] [] (rU (serI 12 y y (timesI x x) k true)) [] := by
  refine CallsA.ofOk fun hok => ?_
  have hw := w_fringeref05_series x y k (fun v M => some (Res.fin v M))
  refine CallsA.ofEv (Γ := T_fringeref05_times) (X := XT) (Λ := L_series) (EQ := EQT) (n := 60) g_fringeref05_times hEQT hmT (LL_series) (hw.trans ?_)
  have h_x := inR_u64 (hok (.int .u64 x) (by simp [datasL, datas]))
  have h_y := inR_u64 (hok (.int .u64 y) (by simp [datasL, datas]))
  have h_k := inR_u64 (hok (.int .u64 k) (by simp [datasL, datas]))
  clear hok hw
  have : seriesDom [y, y, timesI x x, k, 0] = true := by simp only [seriesDom, hd]; rfl
  rw [this]
  rfl
def s_fringeref05_series : List AV → List Blk → (AV → List Blk → Ans) → Ans := fun xs bs K => match xs, bs with
  | [.v (.c (.d (.int .u64 x))), .v (.c (.d (.int .u64 y))), .v (.c (.d (.int .u64 k)))], [] => bif serOn k then K (rU (serI 12 y y (timesI x x) k true)) [] else none
  | _, _ => none
def T_fringeref05_series : Nat → List AV → List Blk → (AV → List Blk → Ans) → Ans := upd T_fringeref05_times 49 s_fringeref05_series
theorem g_fringeref05_series : GOK Try.prog GT gbT T_fringeref05_series XT := by
  refine GOK.upd g_fringeref05_times (fun args w => Try.call49 args w) fun xs bs K r h => ?_
  unfold s_fringeref05_series at h
  split at h
  · simp only [cond_eq_ite] at h
    split at h
    · exact ⟨_, _, c_fringeref05_series _ _ _ ‹_›, h⟩
    · cases h
  · cases h


set_option maxRecDepth 100000 in
/-- fringeref05.eighth -/
theorem w_fringeref05_eighth (k n : Int) (K : AV → List Blk → Ans) : evFn Try.prog GT EQT T_fringeref05_series XT noL 60 41 [.v (.c (.d (.int .u64 k))), .v (.c (.d (.int .u64 n)))] [] (fun v M => K v (M.take ([] : List Blk).length)) = eighthAns K k n := by
  kernel_rfl
set_option maxRecDepth 100000 in
theorem c_fringeref05_eighth (k n : Int) (hd : (eighthOn k n) = true) : CallsA Try.prog GT gbT 41 [.v (.c (.d (.int .u64 k))), .v (.c (.d (.int .u64 n)))] [] (rUU (cosSer (partI k n), sinSer (partI k n))) [] := by
  refine CallsA.ofOk fun hok => ?_
  have hw := w_fringeref05_eighth k n (fun v M => some (Res.fin v M))
  refine CallsA.ofEv (Γ := T_fringeref05_series) (X := XT) (Λ := noL) (EQ := EQT) (n := 60) g_fringeref05_series hEQT hmT (fun _ _ _ _ => noL_ok _) (hw.trans ?_)
  have h_k := inR_u64 (hok (.int .u64 k) (by simp [datasL, datas]))
  have h_n := inR_u64 (hok (.int .u64 n) (by simp [datasL, datas]))
  clear hok hw
  exact eighthAns_ok (K := fun v M => some (Res.fin v M)) hd
def s_fringeref05_eighth : List AV → List Blk → (AV → List Blk → Ans) → Ans := fun xs bs K => match xs, bs with
  | [.v (.c (.d (.int .u64 k))), .v (.c (.d (.int .u64 n)))], [] => bif eighthOn k n then K (rUU (cosSer (partI k n), sinSer (partI k n))) [] else none
  | _, _ => none
def T_fringeref05_eighth : Nat → List AV → List Blk → (AV → List Blk → Ans) → Ans := upd T_fringeref05_series 41 s_fringeref05_eighth
theorem g_fringeref05_eighth : GOK Try.prog GT gbT T_fringeref05_eighth XT := by
  refine GOK.upd g_fringeref05_series (fun args w => Try.call41 args w) fun xs bs K r h => ?_
  unfold s_fringeref05_eighth at h
  split at h
  · simp only [cond_eq_ite] at h
    split at h
    · exact ⟨_, _, c_fringeref05_eighth _ _ ‹_›, h⟩
    · cases h
  · cases h


set_option maxRecDepth 100000 in
/-- fringeref05.exact -/
theorem w_fringeref05_exact (k n : Int) (s : Bool) (K : AV → List Blk → Ans) : evFn Try.prog GT EQT T_fringeref05_eighth XT noL 60 42 [.v (.c (.d (.int .i64 k))), .v (.c (.d (.int .i64 n))), .v (.c (.d (.bool s)))] [] (fun v M => K v (M.take ([] : List Blk).length)) = K (rB (exactI k n s)) [] := by
  simp only [exactI, pullK K]
  kernel_rfl
set_option maxRecDepth 100000 in
theorem c_fringeref05_exact (k n : Int) (s : Bool) : CallsA Try.prog GT gbT 42 [.v (.c (.d (.int .i64 k))), .v (.c (.d (.int .i64 n))), .v (.c (.d (.bool s)))] [] (rB (exactI k n s)) [] := by
  refine CallsA.ofOk fun hok => ?_
  have hw := w_fringeref05_exact k n s (fun v M => some (Res.fin v M))
  refine CallsA.ofEv (Γ := T_fringeref05_eighth) (X := XT) (Λ := noL) (EQ := EQT) (n := 60) g_fringeref05_eighth hEQT hmT (fun _ _ _ _ => noL_ok _) (hw.trans ?_)
  rfl
def s_fringeref05_exact : List AV → List Blk → (AV → List Blk → Ans) → Ans := fun xs bs K => match xs, bs with
  | [.v (.c (.d (.int .i64 k))), .v (.c (.d (.int .i64 n))), .v (.c (.d (.bool s)))], [] => K (rB (exactI k n s)) []
  | _, _ => none
def T_fringeref05_exact : Nat → List AV → List Blk → (AV → List Blk → Ans) → Ans := upd T_fringeref05_eighth 42 s_fringeref05_exact
theorem g_fringeref05_exact : GOK Try.prog GT gbT T_fringeref05_exact XT := by
  refine GOK.upd g_fringeref05_eighth (fun args w => Try.call42 args w) fun xs bs K r h => ?_
  unfold s_fringeref05_exact at h
  split at h
  · exact ⟨_, _, c_fringeref05_exact _ _ _, h⟩
  · cases h


set_option maxRecDepth 100000 in
/-- fringeref05.round -/
theorem w_fringeref05_round (n : Int) (K : AV → List Blk → Ans) : evFn Try.prog GT EQT T_fringeref05_exact XT noL 60 43 [.v (.c (.d (.int .i64 n)))] [] (fun v M => K v (M.take ([] : List Blk).length)) = K (rSpan ⟨n, n⟩) [] := by
  kernel_rfl
set_option maxRecDepth 100000 in
theorem c_fringeref05_round (n : Int) : CallsA Try.prog GT gbT 43 [.v (.c (.d (.int .i64 n)))] [] (rSpan ⟨n, n⟩) [] := by
  refine CallsA.ofOk fun hok => ?_
  have hw := w_fringeref05_round n (fun v M => some (Res.fin v M))
  refine CallsA.ofEv (Γ := T_fringeref05_exact) (X := XT) (Λ := noL) (EQ := EQT) (n := 60) g_fringeref05_exact hEQT hmT (fun _ _ _ _ => noL_ok _) (hw.trans ?_)
  rfl
def s_fringeref05_round : List AV → List Blk → (AV → List Blk → Ans) → Ans := fun xs bs K => match xs, bs with
  | [.v (.c (.d (.int .i64 n)))], [] => K (rSpan ⟨n, n⟩) []
  | _, _ => none
def T_fringeref05_round : Nat → List AV → List Blk → (AV → List Blk → Ans) → Ans := upd T_fringeref05_exact 43 s_fringeref05_round
theorem g_fringeref05_round : GOK Try.prog GT gbT T_fringeref05_round XT := by
  refine GOK.upd g_fringeref05_exact (fun args w => Try.call43 args w) fun xs bs K r h => ?_
  unfold s_fringeref05_round at h
  split at h
  · exact ⟨_, _, c_fringeref05_round _, h⟩
  · cases h


set_option maxRecDepth 100000 in
/-- fringeref05.quarter -/
theorem w_fringeref05_quarter (k n : Int) (K : AV → List Blk → Ans) : evFn Try.prog GT EQT T_fringeref05_round XT noL 60 36 [.v (.c (.d (.int .i64 k))), .v (.c (.d (.int .i64 n)))] [] (fun v M => K v (M.take ([] : List Blk).length)) = quarterAns K k n := by
  kernel_rfl
set_option maxRecDepth 100000 in
theorem c_fringeref05_quarter (k n : Int) (hd : (quarterOn k n) = true) : CallsA Try.prog GT gbT 36 [.v (.c (.d (.int .i64 k))), .v (.c (.d (.int .i64 n)))] [] (rSpan (refI (n - 4 * k) n)) [] := by
  refine CallsA.ofOk fun hok => ?_
  have hw := w_fringeref05_quarter k n (fun v M => some (Res.fin v M))
  refine CallsA.ofEv (Γ := T_fringeref05_round) (X := XT) (Λ := noL) (EQ := EQT) (n := 60) g_fringeref05_round hEQT hmT (fun _ _ _ _ => noL_ok _) (hw.trans ?_)
  have h_k := inR_i64 (hok (.int .i64 k) (by simp [datasL, datas]))
  have h_n := inR_i64 (hok (.int .i64 n) (by simp [datasL, datas]))
  clear hok hw
  exact quarterAns_ok (K := fun v M => some (Res.fin v M)) hd
def s_fringeref05_quarter : List AV → List Blk → (AV → List Blk → Ans) → Ans := fun xs bs K => match xs, bs with
  | [.v (.c (.d (.int .i64 k))), .v (.c (.d (.int .i64 n)))], [] => bif quarterOn k n then K (rSpan (refI (n - 4 * k) n)) [] else none
  | _, _ => none
def T_fringeref05_quarter : Nat → List AV → List Blk → (AV → List Blk → Ans) → Ans := upd T_fringeref05_round 36 s_fringeref05_quarter
theorem g_fringeref05_quarter : GOK Try.prog GT gbT T_fringeref05_quarter XT := by
  refine GOK.upd g_fringeref05_round (fun args w => Try.call36 args w) fun xs bs K r h => ?_
  unfold s_fringeref05_quarter at h
  split at h
  · simp only [cond_eq_ite] at h
    split at h
    · exact ⟨_, _, c_fringeref05_quarter _ _ ‹_›, h⟩
    · cases h
  · cases h


set_option maxRecDepth 100000 in
/-- fringeref05.Cosine -/
theorem w_fringeref05_Cosine (k n : Int) (K : AV → List Blk → Ans) : evFn Try.prog GT EQT T_fringeref05_quarter XT noL 60 33 [.v (.c (.d (.int .i64 k))), .v (.c (.d (.int .i64 n)))] [] (fun v M => K v (M.take ([] : List Blk).length)) = cosineAns K k n := by
  kernel_rfl
set_option maxRecDepth 100000 in
theorem c_fringeref05_Cosine (k n : Int) (hd : (cosineOn n) = true) : CallsA Try.prog GT gbT 33 [.v (.c (.d (.int .i64 k))), .v (.c (.d (.int .i64 n)))] [] (rSpan (turnR (4 * k + n) n)) [] := by
  refine CallsA.ofOk fun hok => ?_
  have hw := w_fringeref05_Cosine k n (fun v M => some (Res.fin v M))
  refine CallsA.ofEv (Γ := T_fringeref05_quarter) (X := XT) (Λ := noL) (EQ := EQT) (n := 60) g_fringeref05_quarter hEQT hmT (fun _ _ _ _ => noL_ok _) (hw.trans ?_)
  have h_k := inR_i64 (hok (.int .i64 k) (by simp [datasL, datas]))
  have h_n := inR_i64 (hok (.int .i64 n) (by simp [datasL, datas]))
  clear hok hw
  exact cosineAns_ok (K := fun v M => some (Res.fin v M)) hd
def s_fringeref05_Cosine : List AV → List Blk → (AV → List Blk → Ans) → Ans := fun xs bs K => match xs, bs with
  | [.v (.c (.d (.int .i64 k))), .v (.c (.d (.int .i64 n)))], [] => bif cosineOn n then K (rSpan (turnR (4 * k + n) n)) [] else none
  | _, _ => none
def T_fringeref05_Cosine : Nat → List AV → List Blk → (AV → List Blk → Ans) → Ans := upd T_fringeref05_quarter 33 s_fringeref05_Cosine
theorem g_fringeref05_Cosine : GOK Try.prog GT gbT T_fringeref05_Cosine XT := by
  refine GOK.upd g_fringeref05_quarter (fun args w => Try.call33 args w) fun xs bs K r h => ?_
  unfold s_fringeref05_Cosine at h
  split at h
  · simp only [cond_eq_ite] at h
    split at h
    · exact ⟨_, _, c_fringeref05_Cosine _ _ ‹_›, h⟩
    · cases h
  · cases h


set_option maxRecDepth 100000 in
/-- fringeref05.Cos -/
theorem w_fringeref05_Cos (k n : Int) (K : AV → List Blk → Ans) : evFn Try.prog GT EQT T_fringeref05_Cosine XT noL 60 27 [.v (.c (.d (.int .i64 k))), .v (.c (.d (.int .i64 n)))] [] (fun v M => K v (M.take ([] : List Blk).length)) = cosRAns K k n := by
  kernel_rfl
set_option maxRecDepth 100000 in
theorem c_fringeref05_Cos (k n : Int) : CallsA Try.prog GT gbT 27 [.v (.c (.d (.int .i64 k))), .v (.c (.d (.int .i64 n)))] [] (rSpanE (cosR k n)) [] := by
  refine CallsA.ofOk fun hok => ?_
  have hw := w_fringeref05_Cos k n (fun v M => some (Res.fin v M))
  refine CallsA.ofEv (Γ := T_fringeref05_Cosine) (X := XT) (Λ := noL) (EQ := EQT) (n := 60) g_fringeref05_Cosine hEQT hmT (fun _ _ _ _ => noL_ok _) (hw.trans ?_)
  have h_k := inR_i64 (hok (.int .i64 k) (by simp [datasL, datas]))
  have h_n := inR_i64 (hok (.int .i64 n) (by simp [datasL, datas]))
  clear hok hw
  exact cosRAns_ok (K := fun v M => some (Res.fin v M))
def s_fringeref05_Cos : List AV → List Blk → (AV → List Blk → Ans) → Ans := fun xs bs K => match xs, bs with
  | [.v (.c (.d (.int .i64 k))), .v (.c (.d (.int .i64 n)))], [] => K (rSpanE (cosR k n)) []
  | _, _ => none
def T_fringeref05_Cos : Nat → List AV → List Blk → (AV → List Blk → Ans) → Ans := upd T_fringeref05_Cosine 27 s_fringeref05_Cos
theorem g_fringeref05_Cos : GOK Try.prog GT gbT T_fringeref05_Cos XT := by
  refine GOK.upd g_fringeref05_Cosine (fun args w => Try.call27 args w) fun xs bs K r h => ?_
  unfold s_fringeref05_Cos at h
  split at h
  · exact ⟨_, _, c_fringeref05_Cos _ _, h⟩
  · cases h


set_option maxRecDepth 100000 in
/-- fringeref05.Sin -/
theorem w_fringeref05_Sin (k n : Int) (K : AV → List Blk → Ans) : evFn Try.prog GT EQT T_fringeref05_Cos XT noL 60 28 [.v (.c (.d (.int .i64 k))), .v (.c (.d (.int .i64 n)))] [] (fun v M => K v (M.take ([] : List Blk).length)) = sinRAns K k n := by
  kernel_rfl
set_option maxRecDepth 100000 in
theorem c_fringeref05_Sin (k n : Int) : CallsA Try.prog GT gbT 28 [.v (.c (.d (.int .i64 k))), .v (.c (.d (.int .i64 n)))] [] (rSpanE (sinR k n)) [] := by
  refine CallsA.ofOk fun hok => ?_
  have hw := w_fringeref05_Sin k n (fun v M => some (Res.fin v M))
  refine CallsA.ofEv (Γ := T_fringeref05_Cos) (X := XT) (Λ := noL) (EQ := EQT) (n := 60) g_fringeref05_Cos hEQT hmT (fun _ _ _ _ => noL_ok _) (hw.trans ?_)
  have h_k := inR_i64 (hok (.int .i64 k) (by simp [datasL, datas]))
  have h_n := inR_i64 (hok (.int .i64 n) (by simp [datasL, datas]))
  clear hok hw
  exact sinRAns_ok (K := fun v M => some (Res.fin v M))
def s_fringeref05_Sin : List AV → List Blk → (AV → List Blk → Ans) → Ans := fun xs bs K => match xs, bs with
  | [.v (.c (.d (.int .i64 k))), .v (.c (.d (.int .i64 n)))], [] => K (rSpanE (sinR k n)) []
  | _, _ => none
def T_fringeref05_Sin : Nat → List AV → List Blk → (AV → List Blk → Ans) → Ans := upd T_fringeref05_Cos 28 s_fringeref05_Sin
theorem g_fringeref05_Sin : GOK Try.prog GT gbT T_fringeref05_Sin XT := by
  refine GOK.upd g_fringeref05_Cos (fun args w => Try.call28 args w) fun xs bs K r h => ?_
  unfold s_fringeref05_Sin at h
  split at h
  · exact ⟨_, _, c_fringeref05_Sin _ _, h⟩
  · cases h


set_option maxRecDepth 100000 in
/-- fringeref06.Tick -/
theorem w_fringeref06_Tick (t : Int) (K : AV → List Blk → Ans) : evFn Try.prog GT EQT T_fringeref05_Sin XT noL 60 14 [.v (.c (.d (.int .i64 t)))] [] (fun v M => K v (M.take ([] : List Blk).length)) = K (rB (tickB t)) [] := by
  simp only [tickB, pullK K]
  kernel_rfl
set_option maxRecDepth 100000 in
theorem c_fringeref06_Tick (t : Int) : CallsA Try.prog GT gbT 14 [.v (.c (.d (.int .i64 t)))] [] (rB (tickB t)) [] := by
  refine CallsA.ofOk fun hok => ?_
  have hw := w_fringeref06_Tick t (fun v M => some (Res.fin v M))
  refine CallsA.ofEv (Γ := T_fringeref05_Sin) (X := XT) (Λ := noL) (EQ := EQT) (n := 60) g_fringeref05_Sin hEQT hmT (fun _ _ _ _ => noL_ok _) (hw.trans ?_)
  rfl
def s_fringeref06_Tick : List AV → List Blk → (AV → List Blk → Ans) → Ans := fun xs bs K => match xs, bs with
  | [.v (.c (.d (.int .i64 t)))], [] => K (rB (tickB t)) []
  | _, _ => none
def T_fringeref06_Tick : Nat → List AV → List Blk → (AV → List Blk → Ans) → Ans := upd T_fringeref05_Sin 14 s_fringeref06_Tick
theorem g_fringeref06_Tick : GOK Try.prog GT gbT T_fringeref06_Tick XT := by
  refine GOK.upd g_fringeref05_Sin (fun args w => Try.call14 args w) fun xs bs K r h => ?_
  unfold s_fringeref06_Tick at h
  split at h
  · exact ⟨_, _, c_fringeref06_Tick _, h⟩
  · cases h


set_option maxRecDepth 100000 in
/-- fringeref06.sines -/
theorem w_fringeref06_sines (k : Int) (K : AV → List Blk → Ans) : evFn Try.prog GT EQT T_fringeref06_Tick XT noL 60 20 [.v (.c (.d (.int .i64 k)))] [] (fun v M => K v (M.take ([] : List Blk).length)) = K (rSpan2 ((cosR k 720).1, (sinR k 720).1)) [] := by
  kernel_rfl
set_option maxRecDepth 100000 in
theorem c_fringeref06_sines (k : Int) : CallsA Try.prog GT gbT 20 [.v (.c (.d (.int .i64 k)))] [] (rSpan2 (cosT k, sinT k)) [] := by
  refine CallsA.ofOk fun hok => ?_
  have hw := w_fringeref06_sines k (fun v M => some (Res.fin v M))
  refine CallsA.ofEv (Γ := T_fringeref06_Tick) (X := XT) (Λ := noL) (EQ := EQT) (n := 60) g_fringeref06_Tick hEQT hmT (fun _ _ _ _ => noL_ok _) (hw.trans ?_)
  have h_k := inR_i64 (hok (.int .i64 k) (by simp [datasL, datas]))
  clear hok hw
  refine congrArg (fun v => some (Res.fin v [])) ?_
  rw [cosR720, sinR720]
def s_fringeref06_sines : List AV → List Blk → (AV → List Blk → Ans) → Ans := fun xs bs K => match xs, bs with
  | [.v (.c (.d (.int .i64 k)))], [] => K (rSpan2 (cosT k, sinT k)) []
  | _, _ => none
def T_fringeref06_sines : Nat → List AV → List Blk → (AV → List Blk → Ans) → Ans := upd T_fringeref06_Tick 20 s_fringeref06_sines
theorem g_fringeref06_sines : GOK Try.prog GT gbT T_fringeref06_sines XT := by
  refine GOK.upd g_fringeref06_Tick (fun args w => Try.call20 args w) fun xs bs K r h => ?_
  unfold s_fringeref06_sines at h
  split at h
  · exact ⟨_, _, c_fringeref06_sines _, h⟩
  · cases h


set_option maxRecDepth 100000 in
/-- fringeref06.Direction -/
theorem w_fringeref06_Direction (s1 : ByteArray) (s2 : Int) (s3 : Int) (t : Int) (K : AV → List Blk → Ans) : evFn Try.prog GT EQT T_fringeref06_sines XT noL 60 15 [.v (.agg [.str s1, .int .i64 s2, .int .i64 s3]), .v (.c (.d (.int .i64 t)))] [] (fun v M => K v (M.take ([] : List Blk).length)) = K (rDir (dirR s2 s3 t)) [] := by
  kernel_rfl
set_option maxRecDepth 100000 in
theorem c_fringeref06_Direction (s1 : ByteArray) (s2 : Int) (s3 : Int) (t : Int) : CallsA Try.prog GT gbT 15 [.v (.agg [.str s1, .int .i64 s2, .int .i64 s3]), .v (.c (.d (.int .i64 t)))] [] (rDir (dirR s2 s3 t)) [] := by
  refine CallsA.ofOk fun hok => ?_
  have hw := w_fringeref06_Direction s1 s2 s3 t (fun v M => some (Res.fin v M))
  refine CallsA.ofEv (Γ := T_fringeref06_sines) (X := XT) (Λ := noL) (EQ := EQT) (n := 60) g_fringeref06_sines hEQT hmT (fun _ _ _ _ => noL_ok _) (hw.trans ?_)
  rfl
def s_fringeref06_Direction : List AV → List Blk → (AV → List Blk → Ans) → Ans := fun xs bs K => match xs, bs with
  | [.v (.agg [.str _, .int .i64 s2, .int .i64 s3]), .v (.c (.d (.int .i64 t)))], [] => K (rDir (dirR s2 s3 t)) []
  | _, _ => none
def T_fringeref06_Direction : Nat → List AV → List Blk → (AV → List Blk → Ans) → Ans := upd T_fringeref06_sines 15 s_fringeref06_Direction
theorem g_fringeref06_Direction : GOK Try.prog GT gbT T_fringeref06_Direction XT := by
  refine GOK.upd g_fringeref06_sines (fun args w => Try.call15 args w) fun xs bs K r h => ?_
  unfold s_fringeref06_Direction at h
  split at h
  · exact ⟨_, _, c_fringeref06_Direction _ _ _ _, h⟩
  · cases h


set_option maxRecDepth 100000 in
/-- fringeref06.At -/
theorem w_fringeref06_At (s1 : ByteArray) (s2 : Int) (s3 : Int) (t : Int) (K : AV → List Blk → Ans) : evFn Try.prog GT EQT T_fringeref06_Direction XT noL 60 6 [.v (.agg [.str s1, .int .i64 s2, .int .i64 s3]), .v (.c (.d (.int .i64 t)))] [] (fun v M => K v (M.take ([] : List Blk).length)) = at6Ref K ⟨s1, s2, s3⟩ t := by
  kernel_rfl
set_option maxRecDepth 100000 in
theorem c_fringeref06_At (s1 : ByteArray) (s2 : Int) (s3 : Int) (t : Int) : CallsA Try.prog GT gbT 6 [.v (.agg [.str s1, .int .i64 s2, .int .i64 s3]), .v (.c (.d (.int .i64 t)))] [] (rDirE (atS ⟨s1, s2, s3⟩ t)) [] := by
  refine CallsA.ofOk fun hok => ?_
  have hw := w_fringeref06_At s1 s2 s3 t (fun v M => some (Res.fin v M))
  refine CallsA.ofEv (Γ := T_fringeref06_Direction) (X := XT) (Λ := noL) (EQ := EQT) (n := 60) g_fringeref06_Direction hEQT hmT (fun _ _ _ _ => noL_ok _) (hw.trans ?_)
  have h_s2 := inR_i64 (hok (.int .i64 s2) (by simp [datasL, datas]))
  have h_s3 := inR_i64 (hok (.int .i64 s3) (by simp [datasL, datas]))
  have h_t := inR_i64 (hok (.int .i64 t) (by simp [datasL, datas]))
  clear hok hw
  exact at6Ref_ok (K := fun v M => some (Res.fin v M))
def s_fringeref06_At : List AV → List Blk → (AV → List Blk → Ans) → Ans := fun xs bs K => match xs, bs with
  | [.v (.agg [.str s1, .int .i64 s2, .int .i64 s3]), .v (.c (.d (.int .i64 t)))], [] => K (rDirE (atS ⟨s1, s2, s3⟩ t)) []
  | _, _ => none
def T_fringeref06_At : Nat → List AV → List Blk → (AV → List Blk → Ans) → Ans := upd T_fringeref06_Direction 6 s_fringeref06_At
theorem g_fringeref06_At : GOK Try.prog GT gbT T_fringeref06_At XT := by
  refine GOK.upd g_fringeref06_Direction (fun args w => Try.call6 args w) fun xs bs K r h => ?_
  unfold s_fringeref06_At at h
  split at h
  · exact ⟨_, _, c_fringeref06_At _ _ _ _, h⟩
  · cases h


set_option maxRecDepth 100000 in
/-- fringelaw06.long -/
theorem w_fringelaw06_long (nm : ByteArray) (ra dec : Int) (K : AV → List Blk → Ans) : evFn Try.prog GT EQT T_fringeref06_At XT noL 60 4 [.v (.agg [.str nm, .int .i64 ra, .int .i64 dec])] [] (fun v M => K v (M.take ([] : List Blk).length)) = K (rB (decide (200 < (nm.size : Int)))) [] := by
  kernel_rfl
set_option maxRecDepth 100000 in
theorem c_fringelaw06_long (nm : ByteArray) (ra dec : Int) : CallsA Try.prog GT gbT 4 [.v (.agg [.str nm, .int .i64 ra, .int .i64 dec])] [] (rB (decide (200 < (nm.size : Int)))) [] := by
  refine CallsA.ofOk fun hok => ?_
  have hw := w_fringelaw06_long nm ra dec (fun v M => some (Res.fin v M))
  refine CallsA.ofEv (Γ := T_fringeref06_At) (X := XT) (Λ := noL) (EQ := EQT) (n := 60) g_fringeref06_At hEQT hmT (fun _ _ _ _ => noL_ok _) (hw.trans ?_)
  rfl
def s_fringelaw06_long : List AV → List Blk → (AV → List Blk → Ans) → Ans := fun xs bs K => match xs, bs with
  | [.v (.agg [.str nm, .int .i64 _, .int .i64 _])], [] => K (rB (decide (200 < (nm.size : Int)))) []
  | _, _ => none
def T_fringelaw06_long : Nat → List AV → List Blk → (AV → List Blk → Ans) → Ans := upd T_fringeref06_At 4 s_fringelaw06_long
theorem g_fringelaw06_long : GOK Try.prog GT gbT T_fringelaw06_long XT := by
  refine GOK.upd g_fringeref06_At (fun args w => Try.call4 args w) fun xs bs K r h => ?_
  unfold s_fringelaw06_long at h
  split at h
  · exact ⟨_, _, c_fringelaw06_long _ _ _, h⟩
  · cases h


set_option maxRecDepth 100000 in
/-- fringeref06.Same -/
theorem w_fringeref06_Same (K : AV → List Blk → Ans) : evFn Try.prog GT EQT T_fringelaw06_long XT noL 30 11 [.v (.c .nilS), .v (.c .nilS)] [] (fun v M => K v (M.take ([] : List Blk).length)) = K (rB true) [] := by
  kernel_rfl
set_option maxRecDepth 100000 in
theorem c_fringeref06_Same : CallsA Try.prog GT gbT 11 [.v (.c .nilS), .v (.c .nilS)] [] (rB true) [] := by
  refine CallsA.ofOk fun hok => ?_
  have hw := w_fringeref06_Same (fun v M => some (Res.fin v M))
  refine CallsA.ofEv (Γ := T_fringelaw06_long) (X := XT) (Λ := noL) (EQ := EQT) (n := 30) g_fringelaw06_long hEQT hmT (fun _ _ _ _ => noL_ok _) (hw.trans ?_)
  rfl
def s_fringeref06_Same : List AV → List Blk → (AV → List Blk → Ans) → Ans := fun xs bs K => match xs, bs with
  | [.v (.c .nilS), .v (.c .nilS)], [] => K (rB true) []
  | _, _ => none
def T_fringeref06_Same : Nat → List AV → List Blk → (AV → List Blk → Ans) → Ans := upd T_fringelaw06_long 11 s_fringeref06_Same
theorem g_fringeref06_Same : GOK Try.prog GT gbT T_fringeref06_Same XT := by
  refine GOK.upd g_fringelaw06_long (fun args w => Try.call11 args w) fun xs bs K r h => ?_
  unfold s_fringeref06_Same at h
  split at h
  · exact ⟨_, _, c_fringeref06_Same, h⟩
  · cases h


end Go.Ev
