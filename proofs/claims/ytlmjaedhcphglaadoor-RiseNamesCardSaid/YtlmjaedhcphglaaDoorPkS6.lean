/-
  Slices of plain structs that come in as arguments: their elements, as the evaluator sees them. No condition.
  A contract of a function whose slices are without elements holds where nothing is handed over in their place. No condition.
  All plain texts together. Nothing is said here.
  The table of contracts begins: equality of plain structs, functions without a body. No condition.
  Contracts of functions: what each returns. No condition beyond those of the statements.
-/
import Derived.Test.YtlmjaedhcphglaaDoorPkS5
import Derived.ChangeArms
import Derived.ChangeShapes
import Derived.Test.YtlmjaedhcphglaaDoorRows
import Derived.WalkKit
import Derived.Laws.Externs
set_option maxRecDepth 100000
namespace Go.Ev
open Go Go.RowKit
theorem FitsR.append : ∀ {ks l ks' l' : List D}, FitsR ks l → FitsR ks' l' → FitsR (ks ++ ks') (l ++ l')
  | [], [], _, _, _, h => h
  | _ :: _, _ :: _, _, _, ⟨h1, h2⟩, h => ⟨h1, h2.append h⟩
  | [], _ :: _, _, _, h, _ => h.elim
  | _ :: _, [], _, _, h, _ => h.elim
theorem FitsR.length : ∀ {ks l : List D}, FitsR ks l → l.length = ks.length
  | [], [], _ => rfl
  | _ :: _, _ :: _, ⟨_, h2⟩ => by simp [h2.length]
  | [], _ :: _, h => h.elim
  | _ :: _, [], h => h.elim
section
variable {H : Type} {enc : TypeId × Value → H} {P : Program} {w : World} {base : Nat} {spare : Nat → Bool} {held : Bool}
structure InArr (w : World) (τ : ET) (v : Value) (xs : List τ.T) (L : Loc) : Prop where
  own : L.own = false
  n : L.n = xs.length
  es : L.es = τ.len
  val : (xs.length = 0 ∧ v = .slice none 0 0) ∨ ∃ cap, v = .slice (some ⟨L.blk, L.off, none⟩) xs.length cap ∧ xs.length ≤ cap ∧ xs.length ≤ maxLen
  ok : ∀ d ∈ τ.flat xs, d.ok
  cell : ∀ j d, (τ.flat xs)[j]? = some d → w.cell? ⟨L.blk, L.off + j, none⟩ = some d.val
end
def sgOf (Ls : List Loc) : Sg := fun b => Ls[b]?
def Ros (w : World) : List Loc → List Blk → Prop
  | [], [] => True
  | L :: r, .arr none τ xs :: s => (L.own = false ∧ L.n = xs.length ∧ L.es = τ.len ∧ (∀ d ∈ τ.flat xs, d.ok) ∧ ∀ j d, (τ.flat xs)[j]? = some d → w.cell? ⟨L.blk, L.off + j, none⟩ = some d.val) ∧ Ros w r s
  | _, _ => False
theorem Ros.get {w : World} : ∀ {Ls : List Loc} {bs : List Blk}, Ros w Ls bs → ∀ b, mget bs b = .dead ∨ ∃ (L : Loc) (τ : ET) (xs : List τ.T), Ls[b]? = some L ∧ mget bs b = .arr none τ xs ∧ L.own = false ∧ L.n = xs.length ∧ L.es = τ.len ∧ (∀ d ∈ τ.flat xs, d.ok) ∧ ∀ j d, (τ.flat xs)[j]? = some d → w.cell? ⟨L.blk, L.off + j, none⟩ = some d.val
  | [], [], _, _b => .inl rfl
  | L :: _r, .arr none τ xs :: _s, h, 0 => .inr ⟨L, τ, xs, rfl, rfl, h.1⟩
  | _L :: _r, .arr none _τ _xs :: _s, h, b + 1 => Ros.get h.2 b
  | [], _ :: _, h, _ => h.elim
  | _ :: _, [], h, _ => h.elim
  | _ :: _, .dead :: _, h, _ => h.elim
  | _ :: _, .ro _ :: _, h, _ => h.elim
  | _ :: _, .rw _ _ :: _, h, _ => h.elim
  | _ :: _, .arr (some _) _ _ :: _, h, _ => h.elim
  | _ :: _, .cell _ _ :: _, h, _ => h.elim
theorem Ros.still {w : World} {Ls : List Loc} {bs : List Blk} (h : Ros w Ls bs) (b : Nat) : (mget bs b).wr = false := by
  rcases h.get b with e | ⟨L, τ, xs, _, e, _⟩ <;> rw [e]
  · rfl
  · cases xs <;> rfl
theorem MRel.ros {w : World} {Ls : List Loc} {bs : List Blk} (h : Ros w Ls bs) : MRel w (Wof (sgOf Ls) bs) (sgOf Ls) bs w := by
  refine ⟨fun b => ?_, fun b _ _ _ _ hb => ?_, fun b _ hb => ?_, Kept.refl _ _⟩
  · rcases h.get b with e | ⟨L, τ, xs, h1, e, h2, h3, h4, h5, h6⟩
    · rw [e]; trivial
    · rw [e]; exact ⟨L, h1, h3, h4, h5, h2, h6⟩
  · rw [h.still b] at hb; cases hb
  · rw [h.still b] at hb; cases hb
theorem InArr.rel {w : World} {τ : ET} {v : Value} {xs : List τ.T} {L : Loc} (h : InArr w τ v xs L) {Ls : List Loc} {b : Nat} (hb : Ls[b]? = some L) : AVRel (sgOf Ls) (.v (.c (.aslice b none))) v := by
  refine ⟨L, hb, ?_⟩
  rcases h.val with ⟨h1, h2⟩ | ⟨cap, h1, h2, h3⟩
  · exact .inl ⟨h.n.trans h1, h2⟩
  · refine .inr ⟨cap, by rw [h.n]; exact h1, by rw [h.n]; exact h2, by rw [h.n]; exact h3, fun ho => by rw [h.own] at ho; cases ho⟩
theorem InArr.len {w : World} {τ : ET} {v : Value} {xs : List τ.T} {L : Loc} (h : InArr w τ v xs L) : xs.length ≤ maxLen := by
  rcases h.val with ⟨h1, _⟩ | ⟨_, _, _, h3⟩
  · omega
  · exact h3
theorem InArr.ro {w : World} {τ : ET} {v : Value} {xs : List τ.T} {L : Loc} (h : InArr w τ v xs L) {Ls : List Loc} {bs : List Blk} (hr : Ros w Ls bs) : Ros w (L :: Ls) (.arr none τ xs :: bs) :=
  ⟨⟨h.own, h.n, h.es, h.ok, h.cell⟩, hr⟩
end Go.Ev

namespace Go.Ev
open Go
def NilTo (k : Nat) : List AV → List AV → Prop
  | [], [] => True
  | x :: r, y :: s => (x = y ∨ (x = .v (.c .nilS) ∧ ∃ b, b < k ∧ y = .v (.c (.aslice b none)))) ∧ NilTo k r s
  | _, _ => False
theorem AVRels.nils {σ τ : Sg} {k : Nat} (hle : σ.le τ) (hb : ∀ b, b < k → ∃ L, τ b = some L ∧ L.n = 0) : ∀ {xs ys : List AV} {vs : List Value}, NilTo k xs ys → AVRels σ xs vs → AVRels τ ys vs
  | [], [], [], _, _ => trivial
  | x :: r, y :: s, v :: t, ⟨h1, h2⟩, ⟨h3, h4⟩ => by
    refine ⟨?_, AVRels.nils hle hb h2 h4⟩
    rcases h1 with rfl | ⟨rfl, b, h5, rfl⟩
    · exact AVRel.mono hle h3
    · obtain ⟨L, h6, h7⟩ := hb b h5
      exact ⟨L, h6, .inl ⟨h7, h3⟩⟩
  | [], [], _ :: _, _, h => h.elim
  | [], _ :: _, _, h, _ => h.elim
  | _ :: _, [], _, h, _ => h.elim
  | _ :: _, _ :: _, [], _, h => h.elim
def nilBs (τs : List ET) : List Blk := τs.map fun τ => .arr none τ []
def nilLs (τs : List ET) : List Loc := τs.map fun τ => ⟨0, 0, 0, false, 0, τ.len⟩
theorem ros_nil (w : World) : ∀ τs : List ET, Ros w (nilLs τs) (nilBs τs)
  | [] => trivial
  | τ :: r => ⟨⟨rfl, rfl, rfl, by simp [ET.flat], fun j d hj => by simp [ET.flat] at hj⟩, ros_nil w r⟩
theorem CallsA.nils {P : Program} {G : Nat → Option (List D)} {gb f : Nat} {xs ys : List AV} {v : AV} {M : List Blk} (τs : List ET) (h : CallsA P G gb f ys (nilBs τs) v M) (ha : NilTo τs.length xs ys) : CallsA P G gb f xs [] v M := by
  intro σ w args h1 h2 h3 h4
  have e1 : Wof (sgOf (nilLs τs)) (nilBs τs) = Wof σ [] := by
    funext k
    refine propext ⟨fun ⟨b, L, hw, _⟩ => ?_, fun ⟨b, L, hw, _⟩ => ?_⟩
    · rw [(ros_nil w τs).still b] at hw; cases hw
    · cases hw
  have hm := MRel.ros (ros_nil w τs)
  rw [e1] at hm
  have := h (sgOf (nilLs τs)) w args (AVRels.nils (fun b L hb => by rw [h4 b (Nat.zero_le _)] at hb; cases hb) (fun b hb => by
      refine ⟨⟨0, 0, 0, false, 0, (τs[b]'hb).len⟩, ?_, rfl⟩
      unfold sgOf nilLs
      rw [List.getElem?_map, List.getElem?_eq_getElem hb]
      rfl) ha h1) (by rw [e1]; exact hm) (by rw [e1]; exact h3) (fun b hb => by
      unfold sgOf nilLs
      rw [List.getElem?_eq_none]
      simpa [nilBs] using hb)
  rw [e1] at this
  exact this.mono fun _ _ ⟨v', τ, h5, _, h7, h8⟩ => ⟨v', τ, h5, (fun b L hb => by rw [h4 b (Nat.zero_le _)] at hb; cases hb), h7, h8⟩
end Go.Ev

namespace Go.Ev
end Go.Ev

namespace Go.Ev
open Go Go.Proofs
theorem eq52 : EqOK Tryd.prog 52 := EqOK.ofShape (d := 12) (z := [.int .i64 0, .int .i64 0]) (by kernel_rfl) (by kernel_rfl) (by omega) (by kernel_rfl) (by kernel_rfl)
theorem eq54 : EqOK Tryd.prog 54 := EqOK.ofShape (d := 12) (z := [.int .i64 0, .int .i64 0, .int .i64 0, .int .i64 0, .int .i64 0, .int .i64 0]) (by kernel_rfl) (by kernel_rfl) (by omega) (by kernel_rfl) (by kernel_rfl)
theorem eq25 : EqOK Tryd.prog 25 := EqOK.ofShape (d := 12) (z := [.int .i64 0, .int .i64 0]) (by kernel_rfl) (by kernel_rfl) (by omega) (by kernel_rfl) (by kernel_rfl)
theorem eq58 : EqOK Tryd.prog 58 := EqOK.ofShape (d := 12) (z := [.int .i64 0, .int .i64 0, .int .i64 0, .int .i64 0, .int .i64 0, .int .i64 0]) (by kernel_rfl) (by kernel_rfl) (by omega) (by kernel_rfl) (by kernel_rfl)
theorem eq43 : EqOK Tryd.prog 43 := EqOK.ofShape (d := 12) (z := [.int .i64 0, .int .i64 0]) (by kernel_rfl) (by kernel_rfl) (by omega) (by kernel_rfl) (by kernel_rfl)
def EQT : Tab := ⟨[52, 54, 25, 58, 43], fun t => bif Nat.beq t 27 then some .site else bif Nat.beq t 43 then some .win else bif Nat.beq t 58 then some .vec else bif Nat.beq t 87 then some .placed else bif Nat.beq t 60 then some .view else bif Nat.beq t 54 then some .dir else bif Nat.beq t 4 then some .bool else none, fun t => bif Nat.beq t 27 then some .site else bif Nat.beq t 43 then some .win else none⟩
theorem hEQT : ∀ t, t ∈ EQT.eq → EqOK Tryd.prog t := by
  intro t ht
  simp only [EQT, List.mem_cons, List.not_mem_nil, or_false] at ht
  rcases ht with rfl | rfl | rfl | rfl | rfl
  · exact eq52
  · exact eq54
  · exact eq25
  · exact eq58
  · exact eq43
theorem hmT : Tryd.prog.follows .mixedOrders = true := by kernel_rfl
def sub64E : Array Value → Sem Value := fun args => do
  let (x, y, b) ← Extern.MathBitsCarry.three "Sub64" args
  pure (Extern.MathBitsCarry.pair ((x + Extern.MathBitsCarry.m64 - y - b) % Extern.MathBitsCarry.m64) (if x < y + b then 1 else 0))
theorem run_sub64E {P : Program} (x y b : Nat) (hb : b ≤ 1) (w : World) :
    (sub64E #[.int .u64 x, .int .u64 y, .int .u64 b]).run P w =
      .ok (.tuple #[.int .u64 (((x + 18446744073709551616 - y - b) % 18446744073709551616 : Nat) : Int), .int .u64 ((if x < y + b then 1 else 0 : Nat) : Int)]) w := by
  have : b = 0 ∨ b = 1 := by omega
  rcases this with rfl | rfl <;> rfl
theorem u64_ok {n : Int} (h : 0 ≤ n ∧ n ≤ 18446744073709551615) : D.ok (.int .u64 n) := by simp [D.ok, inR, h.1, h.2]
def XT : Nat → List AV → (AV → Ans) → Ans := fun f xs K => match xs with
  | [.v (.c (.d (.int .u64 x))), .v (.c (.d (.int .u64 y))), .v (.c (.d (.int .u64 c)))] =>
    bif f == 75 then (bif decide (c ≤ 1) then K (rUU (add64 x y c)) else none) else bif f == 77 then (bif decide (c ≤ 1) then K (rUU (sub64 x y c)) else none) else none
  | _ => none
theorem hXT : ∀ f xs K r, XT f xs K = some r → ∃ v, ExtA Tryd.prog f xs v ∧ K v = some r := by
  intro f xs K r h
  unfold XT at h
  split at h
  · rename_i x y c
    simp only [cond_eq_ite, beq_iff_eq, decide_eq_true_eq] at h
    have open3 : ∀ {σ : Sg} {args : Array Value}, AVRels σ [.v (.c (.d (.int .u64 x))), .v (.c (.d (.int .u64 y))), .v (.c (.d (.int .u64 c)))] args.toList → args = #[.int .u64 x, .int .u64 y, .int .u64 c] ∧ (0 ≤ x ∧ x ≤ 18446744073709551615) ∧ (0 ≤ y ∧ y ≤ 18446744073709551615) ∧ 0 ≤ c := by
      intro σ args ha
      match e : args.toList, ha with
      | [u, v, z], ⟨⟨h1, h1'⟩, ⟨h2, h2'⟩, ⟨h3, h3'⟩, _⟩ =>
        refine ⟨?_, inR_u64 h1', inR_u64 h2', (inR_u64 h3').1⟩
        apply Array.ext'
        rw [e, h1, h2, h3]
        rfl
    split at h
    · rename_i ef
      subst ef
      split at h
      · rename_i hc
        refine ⟨_, ?_, h⟩
        intro σ args w ha
        obtain ⟨rfl, hx, hy, hc0⟩ := open3 ha
        refine ⟨.tuple #[.int .u64 ((x + y + c) % 18446744073709551616), .int .u64 ((x + y + c) / 18446744073709551616)], ?_, ?_⟩
        · rw [run_callFunc_extern Tryd.func75 (by kernel_rfl) (by kernel_rfl) (by kernel_rfl) (e := add64Entry) (by kernel_rfl), run_add64 x y c (by omega) (by omega) (by omega) (by omega)]
          rfl
        · exact ⟨_, rfl, ⟨rfl, u64_ok (by unfold add64; simp only; omega)⟩, ⟨rfl, u64_ok (by unfold add64; simp only; omega)⟩, trivial⟩
      · cases h
    · split at h
      · rename_i ef
        subst ef
        split at h
        · rename_i hc
          refine ⟨_, ?_, h⟩
          intro σ args w ha
          obtain ⟨rfl, hx, hy, hc0⟩ := open3 ha
          obtain ⟨x, rfl⟩ := Int.eq_ofNat_of_zero_le hx.1
          obtain ⟨y, rfl⟩ := Int.eq_ofNat_of_zero_le hy.1
          obtain ⟨c, rfl⟩ := Int.eq_ofNat_of_zero_le hc0
          refine ⟨.tuple #[.int .u64 (((x + 18446744073709551616 - y - c) % 18446744073709551616 : Nat) : Int), .int .u64 ((if x < y + c then 1 else 0 : Nat) : Int)], ?_, ?_⟩
          · rw [run_callFunc_extern Tryd.func77 (by kernel_rfl) (by kernel_rfl) (by kernel_rfl) (e := sub64E) (by kernel_rfl), run_sub64E x y c (by omega)]
            rfl
          · have e1 : (((x + 18446744073709551616 - y - c) % 18446744073709551616 : Nat) : Int) = (sub64 x y c).1 := by unfold sub64; simp only; omega
            have e2 : ((if x < y + c then 1 else 0 : Nat) : Int) = (sub64 x y c).2 := by
              unfold sub64
              simp only
              by_cases hlt : x < y + c
              · rw [if_pos hlt, decide_eq_true (by omega)]; rfl
              · rw [if_neg hlt, decide_eq_false (by omega)]; rfl
            rw [e1, e2]
            refine ⟨_, rfl, ⟨rfl, ?_⟩, ⟨rfl, ?_⟩, trivial⟩
            · rw [← e1]
              simp only [D.ok, inR, Bool.and_eq_true, decide_eq_true_eq]
              omega
            · simp only [D.ok, inR, Bool.and_eq_true, decide_eq_true_eq]
              rw [← e2]
              split <;> omega
        · cases h
      · cases h
  · cases h
def GT : Nat → Option (List D) := fun g => bif g == 0 then some [.int .i64 0, .int .i64 1] else none
def gbT : Nat := 1
def T0 : Nat → List AV → List Blk → (AV → List Blk → Ans) → Ans := fun _ _ _ _ => none
theorem g0 : GOK Tryd.prog GT gbT T0 XT := GOK.none hXT
end Go.Ev

namespace Go.Ev
open Go Go.Proofs
theorem w_bits_Mul64 (x y : Int) (K : AV → List Blk → Ans) : evFn Tryd.prog GT EQT T0 XT noL 60 61 [.v (.c (.d (.int .u64 x))), .v (.c (.d (.int .u64 y)))] [] (fun v M => K v (M.take ([] : List Blk).length)) = K (rUU (mulRaw x y)) [] := by
  kernel_rfl
theorem c_bits_Mul64 (x y : Int) : CallsA Tryd.prog GT gbT 61 [.v (.c (.d (.int .u64 x))), .v (.c (.d (.int .u64 y)))] [] (rUU (mul64 x y)) [] := by
  refine CallsA.ofOk fun hok => ?_
  have hw := w_bits_Mul64 x y (fun v M => some (Res.fin v M))
  refine CallsA.ofEv (Γ := T0) (X := XT) (Λ := noL) (EQ := EQT) (n := 60) g0 hEQT hmT (fun _ _ _ _ => noL_ok _) (hw.trans ?_)
  have h_x := inR_u64 (hok (.int .u64 x) (by simp [datasL, datas]))
  have h_y := inR_u64 (hok (.int .u64 y) (by simp [datasL, datas]))
  clear hok hw
  refine congrArg (fun v => some (Res.fin v [])) ?_
  rw [mul64_ok h_x h_y]
def s_bits_Mul64 : List AV → List Blk → (AV → List Blk → Ans) → Ans := fun xs bs K => match xs, bs with
  | [.v (.c (.d (.int .u64 x))), .v (.c (.d (.int .u64 y)))], [] => K (rUU (mul64 x y)) []
  | _, _ => none
def T_bits_Mul64 : Nat → List AV → List Blk → (AV → List Blk → Ans) → Ans := upd T0 61 s_bits_Mul64
theorem g_bits_Mul64 : GOK Tryd.prog GT gbT T_bits_Mul64 XT := by
  refine GOK.upd g0 (fun args w => Tryd.call61 args w) fun xs bs K r h => ?_
  unfold s_bits_Mul64 at h
  split at h
  · exact ⟨_, _, c_bits_Mul64 _ _, h⟩
  · cases h
abbrev lv_frac_gcd : List (Nat × IntKind) := [(0, .u64), (1, .u64)]
def L_frac_gcd := Lam1 1 12 0 lv_frac_gcd (fun l => match l with | [a, b] => decide (0 ≤ a) && decide (0 ≤ b) | _ => false) (fun l => match l with | [a, b] => [gcdI a b, 0] | _ => [])
theorem b_frac_gcd (a b : Int) (M : List Blk) (N : Nat) : evCode Tryd.prog GT EQT T_bits_Mul64 XT noL 20 (loopB Tryd.prog 34 0) (mkT lv_frac_gcd 12 [a, b]) M N (fun x T M N => some (.st x (forget [0, 1] T) M N)) =
    bif b != 0 then (bif b == 0 then none else some (.st .normal (mkT lv_frac_gcd 12 [b, a.tmod b]) M N)) else some (.st (.exit 0) (mkT lv_frac_gcd 12 [a, b]) M N) := by kernel_rfl
theorem r_frac_gcd (M : List Blk) (N : Nat) : ∀ (n : Nat) (a b : Int), 0 ≤ a → 0 ≤ b → b.toNat ≤ n → ∃ k, RoundsOK Tryd.prog GT gbT (loopB Tryd.prog 34 0) k (mkT lv_frac_gcd 12 [a, b]) M N (.exit 0) (mkT lv_frac_gcd 12 [gcdI a b, 0]) M N := by
  intro n
  induction n with
  | zero =>
    intro a b ha hb hn
    have e : b = 0 := by omega
    subst e
    rw [gcdI_zero a ha]
    exact ⟨1, RoundsOK.fin (Λ := noL) g_bits_Mul64 hEQT hmT (noL_ok _) (b_frac_gcd a 0 M N)⟩
  | succ n ih =>
    intro a b ha hb hn
    by_cases e : b = 0
    · subst e
      rw [gcdI_zero a ha]
      exact ⟨1, RoundsOK.fin (Λ := noL) g_bits_Mul64 hEQT hmT (noL_ok _) (b_frac_gcd a 0 M N)⟩
    · have h1 : 0 ≤ a.tmod b := Int.tmod_nonneg b ha
      have h2 : a.tmod b < b := Int.tmod_lt_of_pos a (by omega)
      obtain ⟨k, hk⟩ := ih b (a.tmod b) hb h1 (by omega)
      rw [gcdI_step] at hk
      refine ⟨k + 1, RoundsOK.go (Λ := noL) g_bits_Mul64 hEQT hmT (noL_ok _) ((b_frac_gcd a b M N).trans ?_) hk⟩
      have e' : (b == 0) = false := by simpa using e
      simp only [bne, e', Bool.not_false, cond_true, cond_false]
theorem LL_frac_gcd : ∀ fn c, Tryd.prog.funcs[34]? = some fn → fn.body = some c → LOK Tryd.prog GT gbT L_frac_gcd (loopsIn c) := by
  refine LOK.ofF fun b hb => ?_
  have e : loopsF Tryd.prog 34 = [loopB Tryd.prog 34 0] := by kernel_rfl
  rw [e, List.mem_singleton] at hb
  subst hb
  refine LOKb.lam1 (b := loopB Tryd.prog 34 0) (n := 12) (e := 0) (live := lv_frac_gcd) fun xs M N hl hd => ?_
  match xs, hl with
  | [a, b], _ =>
    simp only [Bool.and_eq_true, decide_eq_true_eq] at hd
    exact r_frac_gcd M N _ a b hd.1 hd.2 (Nat.le_refl _)
theorem w_frac_gcd (a b : Int) (K : AV → List Blk → Ans) : evFn Tryd.prog GT EQT T_bits_Mul64 XT L_frac_gcd 60 34 [.v (.c (.d (.int .u64 a))), .v (.c (.d (.int .u64 b)))] [] (fun v M => K v (M.take ([] : List Blk).length)) = bif decide (0 ≤ a) && decide (0 ≤ b) then K (rU (gcdI a b)) [] else none := by
  kernel_rfl
theorem c_frac_gcd (a b : Int) : CallsA Tryd.prog GT gbT 34 [.v (.c (.d (.int .u64 a))), .v (.c (.d (.int .u64 b)))] [] (rU (gcdI a b)) [] := by
  refine CallsA.ofOk fun hok => ?_
  have hw := w_frac_gcd a b (fun v M => some (Res.fin v M))
  refine CallsA.ofEv (Γ := T_bits_Mul64) (X := XT) (Λ := L_frac_gcd) (EQ := EQT) (n := 60) g_bits_Mul64 hEQT hmT (LL_frac_gcd) (hw.trans ?_)
  have h_a := inR_u64 (hok (.int .u64 a) (by simp [datasL, datas]))
  have h_b := inR_u64 (hok (.int .u64 b) (by simp [datasL, datas]))
  clear hok hw
  simp only [h_a.1, h_b.1, decide_true, Bool.and_self, cond_true]
def s_frac_gcd : List AV → List Blk → (AV → List Blk → Ans) → Ans := fun xs bs K => match xs, bs with
  | [.v (.c (.d (.int .u64 a))), .v (.c (.d (.int .u64 b)))], [] => K (rU (gcdI a b)) []
  | _, _ => none
def T_frac_gcd : Nat → List AV → List Blk → (AV → List Blk → Ans) → Ans := upd T_bits_Mul64 34 s_frac_gcd
theorem g_frac_gcd : GOK Tryd.prog GT gbT T_frac_gcd XT := by
  refine GOK.upd g_bits_Mul64 (fun args w => Tryd.call34 args w) fun xs bs K r h => ?_
  unfold s_frac_gcd at h
  split at h
  · exact ⟨_, _, c_frac_gcd _ _, h⟩
  · cases h
theorem w_bits_Len64 (x : Int) (K : AV → List Blk → Ans) : evFn Tryd.prog GT EQT T_frac_gcd XT noL 60 79 [.v (.c (.d (.int .u64 x)))] [] (fun v M => K v (M.take ([] : List Blk).length)) = lenAns K x := by
  kernel_rfl
theorem c_bits_Len64 (x : Int) : CallsA Tryd.prog GT gbT 79 [.v (.c (.d (.int .u64 x)))] [] (rI (lenI x)) [] := by
  refine CallsA.ofOk fun hok => ?_
  have hw := w_bits_Len64 x (fun v M => some (Res.fin v M))
  refine CallsA.ofEv (Γ := T_frac_gcd) (X := XT) (Λ := noL) (EQ := EQT) (n := 60) g_frac_gcd hEQT hmT (fun _ _ _ _ => noL_ok _) (hw.trans ?_)
  have h_x := inR_u64 (hok (.int .u64 x) (by simp [datasL, datas]))
  clear hok hw
  exact lenAns_ok (K := fun v M => some (Res.fin v M)) h_x.1 (by omega)
def s_bits_Len64 : List AV → List Blk → (AV → List Blk → Ans) → Ans := fun xs bs K => match xs, bs with
  | [.v (.c (.d (.int .u64 x)))], [] => K (rI (lenI x)) []
  | _, _ => none
def T_bits_Len64 : Nat → List AV → List Blk → (AV → List Blk → Ans) → Ans := upd T_frac_gcd 79 s_bits_Len64
theorem g_bits_Len64 : GOK Tryd.prog GT gbT T_bits_Len64 XT := by
  refine GOK.upd g_frac_gcd (fun args w => Tryd.call79 args w) fun xs bs K r h => ?_
  unfold s_bits_Len64 at h
  split at h
  · exact ⟨_, _, c_bits_Len64 _, h⟩
  · cases h
theorem w_bits_LeadingZeros64 (x : Int) (K : AV → List Blk → Ans) : evFn Tryd.prog GT EQT T_bits_Len64 XT noL 60 73 [.v (.c (.d (.int .u64 x)))] [] (fun v M => K v (M.take ([] : List Blk).length)) = K (rI (w64 (64 - lenI x))) [] := by
  kernel_rfl
theorem c_bits_LeadingZeros64 (x : Int) : CallsA Tryd.prog GT gbT 73 [.v (.c (.d (.int .u64 x)))] [] (rI (64 - lenI x)) [] := by
  refine CallsA.ofOk fun hok => ?_
  have hw := w_bits_LeadingZeros64 x (fun v M => some (Res.fin v M))
  refine CallsA.ofEv (Γ := T_bits_Len64) (X := XT) (Λ := noL) (EQ := EQT) (n := 60) g_bits_Len64 hEQT hmT (fun _ _ _ _ => noL_ok _) (hw.trans ?_)
  have h_x := inR_u64 (hok (.int .u64 x) (by simp [datasL, datas]))
  clear hok hw
  refine congrArg (fun v => some (Res.fin v [])) ?_
  rw [w64_id (by have := lenI_le h_x.1 (by omega); omega)]
def s_bits_LeadingZeros64 : List AV → List Blk → (AV → List Blk → Ans) → Ans := fun xs bs K => match xs, bs with
  | [.v (.c (.d (.int .u64 x)))], [] => K (rI (64 - lenI x)) []
  | _, _ => none
def T_bits_LeadingZeros64 : Nat → List AV → List Blk → (AV → List Blk → Ans) → Ans := upd T_bits_Len64 73 s_bits_LeadingZeros64
theorem g_bits_LeadingZeros64 : GOK Tryd.prog GT gbT T_bits_LeadingZeros64 XT := by
  refine GOK.upd g_bits_Len64 (fun args w => Tryd.call73 args w) fun xs bs K r h => ?_
  unfold s_bits_LeadingZeros64 at h
  split at h
  · exact ⟨_, _, c_bits_LeadingZeros64 _, h⟩
  · cases h
abbrev lv_Div1 : List (Nat × IntKind) := [(15, .u64), (9, .u64), (10, .u64), (13, .u64), (2, .u64), (8, .u64), (11, .u64), (14, .u64), (16, .u64)]
abbrev lv_Div2 : List (Nat × IntKind) := [(18, .u64), (9, .u64), (10, .u64), (14, .u64), (2, .u64), (8, .u64), (15, .u64), (17, .u64), (16, .u64)]
def digDom (l : List Int) : Bool := match l with | [q, y1, y0, d, _, _, _, _, r] => digOk q y1 y0 d r | _ => false
def digFin (l : List Int) : List Int := match l with | [q, y1, y0, d, y, s, u, z, r] => [digQ q y1 y0 d r, y1, y0, d, y, s, u, z] | _ => []
def L_Div64 := orL (Lam1 17 135 0 lv_Div1 digDom digFin) (Lam1 24 135 2 lv_Div2 digDom digFin)
theorem b_Div1 (q y1 y0 d y s u z r : Int) (M : List Blk) (N : Nat) : evCode Tryd.prog GT EQT T_bits_LeadingZeros64 XT noL 40 (loopB Tryd.prog 63 0) (mkT lv_Div1 135 [q, y1, y0, d, y, s, u, z, r]) M N (fun x T M N => some (.st x (forget [15, 9, 10, 13, 2, 8, 11, 14, 16] T) M N)) =
    bif decide (4294967296 ≤ q) then (bif decide (4294967296 ≤ wu64 (r + y1)) then some (.st (.exit 0) (mkT lv_Div1 135 [wu64 (q - 1), y1, y0, d, y, s, u, z, wu64 (r + y1)]) M N) else some (.st .normal (mkT lv_Div1 135 [wu64 (q - 1), y1, y0, d, y, s, u, z, wu64 (r + y1)]) M N))
    else bif decide (wu64 (wu64 (4294967296 * r) + d) < wu64 (q * y0)) then (bif decide (4294967296 ≤ wu64 (r + y1)) then some (.st (.exit 0) (mkT lv_Div1 135 [wu64 (q - 1), y1, y0, d, y, s, u, z, wu64 (r + y1)]) M N) else some (.st .normal (mkT lv_Div1 135 [wu64 (q - 1), y1, y0, d, y, s, u, z, wu64 (r + y1)]) M N))
    else some (.st (.exit 0) (mkT lv_Div1 135 [q, y1, y0, d, y, s, u, z, r]) M N) := by kernel_rfl
theorem b_Div2 (q y1 y0 d y s u z r : Int) (M : List Blk) (N : Nat) : evCode Tryd.prog GT EQT T_bits_LeadingZeros64 XT noL 40 (loopB Tryd.prog 63 1) (mkT lv_Div2 135 [q, y1, y0, d, y, s, u, z, r]) M N (fun x T M N => some (.st x (forget [18, 9, 10, 14, 2, 8, 15, 17, 16] T) M N)) =
    bif decide (4294967296 ≤ q) then (bif decide (4294967296 ≤ wu64 (r + y1)) then some (.st (.exit 2) (mkT lv_Div2 135 [wu64 (q - 1), y1, y0, d, y, s, u, z, wu64 (r + y1)]) M N) else some (.st .normal (mkT lv_Div2 135 [wu64 (q - 1), y1, y0, d, y, s, u, z, wu64 (r + y1)]) M N))
    else bif decide (wu64 (wu64 (4294967296 * r) + d) < wu64 (q * y0)) then (bif decide (4294967296 ≤ wu64 (r + y1)) then some (.st (.exit 2) (mkT lv_Div2 135 [wu64 (q - 1), y1, y0, d, y, s, u, z, wu64 (r + y1)]) M N) else some (.st .normal (mkT lv_Div2 135 [wu64 (q - 1), y1, y0, d, y, s, u, z, wu64 (r + y1)]) M N))
    else some (.st (.exit 2) (mkT lv_Div2 135 [q, y1, y0, d, y, s, u, z, r]) M N) := by kernel_rfl
theorem r_Div (i e : Nat) (lv : List (Nat × IntKind)) (keep : List Nat) (M : List Blk) (N : Nat) (hless : ∀ q y1 y0 d y s u z r : Int, Less (mkT lv 135 [q, y1, y0, d, y, s, u, z]) (mkT lv 135 [q, y1, y0, d, y, s, u, z, r]))
    (hb : ∀ q y1 y0 d y s u z r : Int, evCode Tryd.prog GT EQT T_bits_LeadingZeros64 XT noL 40 (loopB Tryd.prog 63 i) (mkT lv 135 [q, y1, y0, d, y, s, u, z, r]) M N (fun x T M N => some (.st x (forget keep T) M N)) =
    bif decide (4294967296 ≤ q) then (bif decide (4294967296 ≤ wu64 (r + y1)) then some (.st (.exit e) (mkT lv 135 [wu64 (q - 1), y1, y0, d, y, s, u, z, wu64 (r + y1)]) M N) else some (.st .normal (mkT lv 135 [wu64 (q - 1), y1, y0, d, y, s, u, z, wu64 (r + y1)]) M N))
    else bif decide (wu64 (wu64 (4294967296 * r) + d) < wu64 (q * y0)) then (bif decide (4294967296 ≤ wu64 (r + y1)) then some (.st (.exit e) (mkT lv 135 [wu64 (q - 1), y1, y0, d, y, s, u, z, wu64 (r + y1)]) M N) else some (.st .normal (mkT lv 135 [wu64 (q - 1), y1, y0, d, y, s, u, z, wu64 (r + y1)]) M N))
    else some (.st (.exit e) (mkT lv 135 [q, y1, y0, d, y, s, u, z, r]) M N)) :
    ∀ (n : Nat) (q y1 y0 d y s u z r : Int), DigOk q y1 y0 d r → (q - digQ q y1 y0 d r).toNat ≤ n → ∃ k, RoundsOK Tryd.prog GT gbT (loopB Tryd.prog 63 i) k (mkT lv 135 [q, y1, y0, d, y, s, u, z, r]) M N (.exit e) (mkT lv 135 [digQ q y1 y0 d r, y1, y0, d, y, s, u, z]) M N := by
  have out : ∀ (q y1 y0 d y s u z r : Int), DigOk q y1 y0 d r → q ≤ digQ q y1 y0 d r → ∃ k, RoundsOK Tryd.prog GT gbT (loopB Tryd.prog 63 i) k (mkT lv 135 [q, y1, y0, d, y, s, u, z, r]) M N (.exit e) (mkT lv 135 [digQ q y1 y0 d r, y1, y0, d, y, s, u, z]) M N := by
    intro q y1 y0 d y s u z r h hq
    obtain ⟨h1, h2, h3, h4, h5, h6, h7, h8, h9, h10, h11, h12⟩ := h
    have hv : 0 < y1 * 4294967296 + y0 := by omega
    have eq : digQ q y1 y0 d r = q := by omega
    have ht := (digQ_test hv).1 hq
    have hqy : 0 ≤ q * y0 := Int.mul_nonneg (by omega) h3
    rw [eq]
    refine ⟨1, (RoundsOK.fin (Λ := noL) g_bits_LeadingZeros64 hEQT hmT (noL_ok _) ((hb q y1 y0 d y s u z r).trans ?_)).weak (hless q y1 y0 d y s u z r)⟩
    rw [decide_eq_false (show ¬ (4294967296 : Int) ≤ q by omega), wu64_id (n := 4294967296 * r) (by omega), wu64_id (n := 4294967296 * r + d) (by omega), wu64_id (n := q * y0) (by omega), decide_eq_false (show ¬ 4294967296 * r + d < q * y0 by omega)]
    rfl
  have next : ∀ (q y1 y0 d y s u z r : Int), DigOk q y1 y0 d r → digQ q y1 y0 d r < q → evCode Tryd.prog GT EQT T_bits_LeadingZeros64 XT noL 40 (loopB Tryd.prog 63 i) (mkT lv 135 [q, y1, y0, d, y, s, u, z, r]) M N (fun x T M N => some (.st x (forget keep T) M N)) =
      bif decide (4294967296 ≤ r + y1) then some (.st (.exit e) (mkT lv 135 [q - 1, y1, y0, d, y, s, u, z, r + y1]) M N) else some (.st .normal (mkT lv 135 [q - 1, y1, y0, d, y, s, u, z, r + y1]) M N) := by
    intro q y1 y0 d y s u z r h hq
    obtain ⟨h1, h2, h3, h4, h5, h6, h7, h8, h9, h10, h11, h12⟩ := h
    have hv : 0 < y1 * 4294967296 + y0 := by omega
    rw [hb, wu64_id (n := r + y1) (by omega), wu64_id (n := q - 1) (by omega)]
    by_cases hB : 4294967296 ≤ q
    · rw [decide_eq_true hB]
      rfl
    · have ht : ¬ q * y0 ≤ 4294967296 * r + d := fun hh => by have := (digQ_test (q := q) (d := d) (r := r) hv).2 hh; omega
      have hqy : 0 ≤ q * y0 := Int.mul_nonneg (by omega) h3
      have hqy2 : q * y0 ≤ 4294967295 * 4294967295 := Int.mul_le_mul (by omega) (by omega) h3 (by omega)
      rw [decide_eq_false hB, wu64_id (n := 4294967296 * r) (by omega), wu64_id (n := 4294967296 * r + d) (by omega), wu64_id (n := q * y0) (by omega), decide_eq_true (show 4294967296 * r + d < q * y0 by omega)]
      rfl
  intro n
  induction n with
  | zero => intro q y1 y0 d y s u z r h hn; exact out q y1 y0 d y s u z r h (by omega)
  | succ n ih =>
    intro q y1 y0 d y s u z r h hn
    by_cases hq : q ≤ digQ q y1 y0 d r
    · exact out q y1 y0 d y s u z r h hq
    · by_cases hr : 4294967296 ≤ r + y1
      · refine ⟨1, (RoundsOK.fin (Λ := noL) g_bits_LeadingZeros64 hEQT hmT (noL_ok _) ((next q y1 y0 d y s u z r h (by omega)).trans ?_)).weak (hless _ y1 y0 d y s u z (r + y1))⟩
        rw [decide_eq_true hr, h.stop (by omega) hr]
        rfl
      · have hs := digQ_step q y1 y0 d r
        obtain ⟨k, hk⟩ := ih (q - 1) y1 y0 d y s u z (r + y1) (h.next (by omega) (by omega)) (by omega)
        rw [hs] at hk
        refine ⟨k + 1, RoundsOK.go (Λ := noL) g_bits_LeadingZeros64 hEQT hmT (noL_ok _) ((next q y1 y0 d y s u z r h (by omega)).trans ?_) hk⟩
        rw [decide_eq_false hr]
        rfl
theorem l_Div1 (q y1 y0 d y s u z r : Int) : Less (mkT lv_Div1 135 [q, y1, y0, d, y, s, u, z]) (mkT lv_Div1 135 [q, y1, y0, d, y, s, u, z, r]) := by
  have h : mkT lv_Div1 135 [q, y1, y0, d, y, s, u, z] = mkT (lv_Div1.take 8) 135 [q, y1, y0, d, y, s, u, z] := by kernel_rfl
  rw [h]
  exact less_mkT (by kernel_rfl) (by kernel_rfl)
theorem l_Div2 (q y1 y0 d y s u z r : Int) : Less (mkT lv_Div2 135 [q, y1, y0, d, y, s, u, z]) (mkT lv_Div2 135 [q, y1, y0, d, y, s, u, z, r]) := by
  have h : mkT lv_Div2 135 [q, y1, y0, d, y, s, u, z] = mkT (lv_Div2.take 8) 135 [q, y1, y0, d, y, s, u, z] := by kernel_rfl
  rw [h]
  exact less_mkT (by kernel_rfl) (by kernel_rfl)
theorem LL_Div64 : ∀ fn c, Tryd.prog.funcs[63]? = some fn → fn.body = some c → LOK Tryd.prog GT gbT L_Div64 (loopsIn c) := by
  refine LOK.ofF fun b hb => ?_
  have e : loopsF Tryd.prog 63 = [loopB Tryd.prog 63 0, loopB Tryd.prog 63 1] := by kernel_rfl
  have k0 : loopKey (loopB Tryd.prog 63 0) = 17 := by kernel_rfl
  have k1 : loopKey (loopB Tryd.prog 63 1) = 24 := by kernel_rfl
  rw [e, List.mem_cons, List.mem_singleton] at hb
  rcases hb with rfl | rfl
  · refine LOKb.or ?_ (LOKb.lam1_other (by rw [k0]; decide))
    rw [← k0]
    refine LOKb.lam1 (n := 135) (e := 0) (live := lv_Div1) fun xs M N hl hd => ?_
    match xs, hl with
    | [q, y1, y0, d, y, s, u, z, r], _ => exact r_Div 0 0 lv_Div1 _ M N l_Div1 (fun q y1 y0 d y s u z r => b_Div1 q y1 y0 d y s u z r M N) _ q y1 y0 d y s u z r (digOk_iff.1 hd) (Nat.le_refl _)
  · refine LOKb.or (LOKb.lam1_other (by rw [k1]; decide)) ?_
    rw [← k1]
    refine LOKb.lam1 (n := 135) (e := 2) (live := lv_Div2) fun xs M N hl hd => ?_
    match xs, hl with
    | [q, y1, y0, d, y, s, u, z, r], _ => exact r_Div 1 2 lv_Div2 _ M N l_Div2 (fun q y1 y0 d y s u z r => b_Div2 q y1 y0 d y s u z r M N) _ q y1 y0 d y s u z r (digOk_iff.1 hd) (Nat.le_refl _)
theorem w_bits_Div64 (hi lo y : Int) (K : AV → List Blk → Ans) : evFn Tryd.prog GT EQT T_bits_LeadingZeros64 XT L_Div64 60 63 [.v (.c (.d (.int .u64 hi))), .v (.c (.d (.int .u64 lo))), .v (.c (.d (.int .u64 y)))] [] (fun v M => K v (M.take ([] : List Blk).length)) = divAns K hi lo y := by
  kernel_rfl
theorem c_bits_Div64 (hi lo y : Int) (hd : (decide (hi < y)) = true) : CallsA Tryd.prog GT gbT 63 [.v (.c (.d (.int .u64 hi))), .v (.c (.d (.int .u64 lo))), .v (.c (.d (.int .u64 y)))] [] (rUU ((hi * 18446744073709551616 + lo) / y, (hi * 18446744073709551616 + lo) % y)) [] := by
  refine CallsA.ofOk fun hok => ?_
  have hw := w_bits_Div64 hi lo y (fun v M => some (Res.fin v M))
  refine CallsA.ofEv (Γ := T_bits_LeadingZeros64) (X := XT) (Λ := L_Div64) (EQ := EQT) (n := 60) g_bits_LeadingZeros64 hEQT hmT (LL_Div64) (hw.trans ?_)
  have h_hi := inR_u64 (hok (.int .u64 hi) (by simp [datasL, datas]))
  have h_lo := inR_u64 (hok (.int .u64 lo) (by simp [datasL, datas]))
  have h_y := inR_u64 (hok (.int .u64 y) (by simp [datasL, datas]))
  clear hok hw
  exact divAns_ok (K := fun v M => some (Res.fin v M)) h_hi h_lo h_y (of_decide_eq_true hd)
def s_bits_Div64 : List AV → List Blk → (AV → List Blk → Ans) → Ans := fun xs bs K => match xs, bs with
  | [.v (.c (.d (.int .u64 hi))), .v (.c (.d (.int .u64 lo))), .v (.c (.d (.int .u64 y)))], [] => bif decide (hi < y) then K (rUU ((hi * 18446744073709551616 + lo) / y, (hi * 18446744073709551616 + lo) % y)) [] else none
  | _, _ => none
def T_bits_Div64 : Nat → List AV → List Blk → (AV → List Blk → Ans) → Ans := upd T_bits_LeadingZeros64 63 s_bits_Div64
theorem g_bits_Div64 : GOK Tryd.prog GT gbT T_bits_Div64 XT := by
  refine GOK.upd g_bits_LeadingZeros64 (fun args w => Tryd.call63 args w) fun xs bs K r h => ?_
  unfold s_bits_Div64 at h
  split at h
  · simp only [cond_eq_ite] at h
    split at h
    · exact ⟨_, _, c_bits_Div64 _ _ _ ‹_›, h⟩
    · cases h
  · cases h
theorem w_sine_next (t s j : Int) (K : AV → List Blk → Ans) : evFn Tryd.prog GT EQT T_bits_Div64 XT noL 60 83 [.v (.c (.d (.int .u64 t))), .v (.c (.d (.int .u64 s))), .v (.c (.d (.int .u64 j)))] [] (fun v M => K v (M.take ([] : List Blk).length)) = bif wu64 (j * wu64 (j + 1)) == 0 then none else K (rU (wu64 ((mul64 t s).1.tdiv (wu64 (j * wu64 (j + 1)))))) [] := by
  kernel_rfl
theorem c_sine_next (t s j : Int) (hd : (nextOn j) = true) : CallsA Tryd.prog GT gbT 83 [.v (.c (.d (.int .u64 t))), .v (.c (.d (.int .u64 s))), .v (.c (.d (.int .u64 j)))] [] (rU (nextI t s j)) [] := by
  refine CallsA.ofOk fun hok => ?_
  have hw := w_sine_next t s j (fun v M => some (Res.fin v M))
  refine CallsA.ofEv (Γ := T_bits_Div64) (X := XT) (Λ := noL) (EQ := EQT) (n := 60) g_bits_Div64 hEQT hmT (fun _ _ _ _ => noL_ok _) (hw.trans ?_)
  have h_t := inR_u64 (hok (.int .u64 t) (by simp [datasL, datas]))
  have h_s := inR_u64 (hok (.int .u64 s) (by simp [datasL, datas]))
  have h_j := inR_u64 (hok (.int .u64 j) (by simp [datasL, datas]))
  clear hok hw
  rw [(next_ok h_t h_s hd).1, (next_ok h_t h_s hd).2]
  rfl
def s_sine_next : List AV → List Blk → (AV → List Blk → Ans) → Ans := fun xs bs K => match xs, bs with
  | [.v (.c (.d (.int .u64 t))), .v (.c (.d (.int .u64 s))), .v (.c (.d (.int .u64 j)))], [] => bif nextOn j then K (rU (nextI t s j)) [] else none
  | _, _ => none
def T_sine_next : Nat → List AV → List Blk → (AV → List Blk → Ans) → Ans := upd T_bits_Div64 83 s_sine_next
theorem g_sine_next : GOK Tryd.prog GT gbT T_sine_next XT := by
  refine GOK.upd g_bits_Div64 (fun args w => Tryd.call83 args w) fun xs bs K r h => ?_
  unfold s_sine_next at h
  split at h
  · simp only [cond_eq_ite] at h
    split at h
    · exact ⟨_, _, c_sine_next _ _ _ ‹_›, h⟩
    · cases h
  · cases h
abbrev lv_sineOf : List (Nat × IntKind) := [(5, .u64), (6, .u64), (3, .u64), (7, .u64)]
def L_sineOf := Lam1 4 36 0 lv_sineOf (serDom 2) serFin
theorem b_sineOf (sq s t j : Int) (M : List Blk) (N : Nat) : evCode Tryd.prog GT EQT T_sine_next XT noL 40 (loopB Tryd.prog 80 0) (mkT lv_sineOf 36 [s, t, sq, j]) M N (fun x T M N => some (.st x (forget [5, 6, 3, 7] T) M N)) =
    bif t != 0 then (bif nextOn j then bif nextOn (wu64 (j + 2)) then some (.st .normal (mkT lv_sineOf 36 [wu64 (wu64 (s - nextI t sq j) + nextI (nextI t sq j) sq (wu64 (j + 2))), nextI (nextI t sq j) sq (wu64 (j + 2)), sq, wu64 (j + 4)]) M N) else none else none)
    else some (.st (.exit 0) (mkT lv_sineOf 36 [s, t, sq, j]) M N) := by kernel_rfl
theorem l_sineOf (s t sq j : Int) : Less (mkT lv_sineOf 36 [s]) (mkT lv_sineOf 36 [s, t, sq, j]) := by
  have h : mkT lv_sineOf 36 [s] = mkT (lv_sineOf.take 1) 36 [s] := by kernel_rfl
  rw [h]
  exact less_mkT (by kernel_rfl) (by kernel_rfl)
theorem LL_sineOf : ∀ fn c, Tryd.prog.funcs[80]? = some fn → fn.body = some c → LOK Tryd.prog GT gbT L_sineOf (loopsIn c) := by
  refine LOK.ofF fun b hb => ?_
  have e : loopsF Tryd.prog 80 = [loopB Tryd.prog 80 0] := by kernel_rfl
  have k0 : loopKey (loopB Tryd.prog 80 0) = 4 := by kernel_rfl
  rw [e, List.mem_singleton] at hb
  subst hb
  unfold L_sineOf
  rw [← k0]
  refine LOKb.lam1 (n := 36) (e := 0) (live := lv_sineOf) fun xs M N hl hd => ?_
  match xs, hl with
  | [s, t, sq, j], _ =>
    simp only [serDom, Bool.and_eq_true, decide_eq_true_eq, beq_iff_eq] at hd
    obtain ⟨h1, h2, h3, h4, h5⟩ := hd
    exact series_rounds (c := loopB Tryd.prog 80 0) g_sine_next hEQT hmT (fun s t j => mkT lv_sineOf 36 [s, t, sq, j]) (fun s => mkT lv_sineOf 36 [s]) sq ⟨h3, h4⟩ (fun s t j => l_sineOf s t sq j) (fun s t j => b_sineOf sq s t j M N) 16 s t j h1 (by simpa using h2) (by omega) (by omega)
theorem w_sine_sineOf (x : Int) (K : AV → List Blk → Ans) : evFn Tryd.prog GT EQT T_sine_next XT L_sineOf 60 80 [.v (.c (.d (.int .u64 x)))] [] (fun v M => K v (M.take ([] : List Blk).length)) = bif serDom 2 [x, x, (mul64 x x).1, 2] then K (rU (sinI 16 x x (mul64 x x).1 2)) [] else none := by
  kernel_rfl
theorem c_sine_sineOf (x : Int) : CallsA Tryd.prog GT gbT 80 [.v (.c (.d (.int .u64 x)))] [] (rU (sineI x)) [] := by
  refine CallsA.ofOk fun hok => ?_
  have hw := w_sine_sineOf x (fun v M => some (Res.fin v M))
  refine CallsA.ofEv (Γ := T_sine_next) (X := XT) (Λ := L_sineOf) (EQ := EQT) (n := 60) g_sine_next hEQT hmT (LL_sineOf) (hw.trans ?_)
  have h_x := inR_u64 (hok (.int .u64 x) (by simp [datasL, datas]))
  clear hok hw
  have hq := sqI_range h_x
  have e : (mul64 x x).1 = sqI x := rfl
  rw [e, show serDom 2 [x, x, sqI x, 2] = true by clear e; simp only [serDom, Bool.and_eq_true, decide_eq_true_eq, beq_iff_eq, and_true]; omega]
  rfl
def s_sine_sineOf : List AV → List Blk → (AV → List Blk → Ans) → Ans := fun xs bs K => match xs, bs with
  | [.v (.c (.d (.int .u64 x)))], [] => K (rU (sineI x)) []
  | _, _ => none
def T_sine_sineOf : Nat → List AV → List Blk → (AV → List Blk → Ans) → Ans := upd T_sine_next 80 s_sine_sineOf
theorem g_sine_sineOf : GOK Tryd.prog GT gbT T_sine_sineOf XT := by
  refine GOK.upd g_sine_next (fun args w => Tryd.call80 args w) fun xs bs K r h => ?_
  unfold s_sine_sineOf at h
  split at h
  · exact ⟨_, _, c_sine_sineOf _, h⟩
  · cases h
abbrev lv_cosineOf : List (Nat × IntKind) := [(6, .u64), (5, .u64), (3, .u64), (7, .u64)]
def L_cosineOf := Lam1 5 38 0 lv_cosineOf (serDom 3) serFin
theorem b_cosineOf (sq s t j : Int) (M : List Blk) (N : Nat) : evCode Tryd.prog GT EQT T_sine_sineOf XT noL 40 (loopB Tryd.prog 82 0) (mkT lv_cosineOf 38 [s, t, sq, j]) M N (fun x T M N => some (.st x (forget [6, 5, 3, 7] T) M N)) =
    bif t != 0 then (bif nextOn j then bif nextOn (wu64 (j + 2)) then some (.st .normal (mkT lv_cosineOf 38 [wu64 (wu64 (s - nextI t sq j) + nextI (nextI t sq j) sq (wu64 (j + 2))), nextI (nextI t sq j) sq (wu64 (j + 2)), sq, wu64 (j + 4)]) M N) else none else none)
    else some (.st (.exit 0) (mkT lv_cosineOf 38 [s, t, sq, j]) M N) := by kernel_rfl
theorem l_cosineOf (s t sq j : Int) : Less (mkT lv_cosineOf 38 [s]) (mkT lv_cosineOf 38 [s, t, sq, j]) := by
  have h : mkT lv_cosineOf 38 [s] = mkT (lv_cosineOf.take 1) 38 [s] := by kernel_rfl
  rw [h]
  exact less_mkT (by kernel_rfl) (by kernel_rfl)
theorem LL_cosineOf : ∀ fn c, Tryd.prog.funcs[82]? = some fn → fn.body = some c → LOK Tryd.prog GT gbT L_cosineOf (loopsIn c) := by
  refine LOK.ofF fun b hb => ?_
  have e : loopsF Tryd.prog 82 = [loopB Tryd.prog 82 0] := by kernel_rfl
  have k0 : loopKey (loopB Tryd.prog 82 0) = 5 := by kernel_rfl
  rw [e, List.mem_singleton] at hb
  subst hb
  unfold L_cosineOf
  rw [← k0]
  refine LOKb.lam1 (n := 38) (e := 0) (live := lv_cosineOf) fun xs M N hl hd => ?_
  match xs, hl with
  | [s, t, sq, j], _ =>
    simp only [serDom, Bool.and_eq_true, decide_eq_true_eq, beq_iff_eq] at hd
    obtain ⟨h1, h2, h3, h4, h5⟩ := hd
    exact series_rounds (c := loopB Tryd.prog 82 0) g_sine_sineOf hEQT hmT (fun s t j => mkT lv_cosineOf 38 [s, t, sq, j]) (fun s => mkT lv_cosineOf 38 [s]) sq ⟨h3, h4⟩ (fun s t j => l_cosineOf s t sq j) (fun s t j => b_cosineOf sq s t j M N) 16 s t j h1 (by simpa using h2) (by omega) (by omega)
theorem w_sine_cosineOf (x : Int) (K : AV → List Blk → Ans) : evFn Tryd.prog GT EQT T_sine_sineOf XT L_cosineOf 60 82 [.v (.c (.d (.int .u64 x)))] [] (fun v M => K v (M.take ([] : List Blk).length)) = bif serDom 3 [wu64 ((mul64 x x).1.tdiv 2), wu64 ((mul64 x x).1.tdiv 2), (mul64 x x).1, 3] then K (rU (wu64 (0 - sinI 16 (wu64 ((mul64 x x).1.tdiv 2)) (wu64 ((mul64 x x).1.tdiv 2)) (mul64 x x).1 3))) [] else none := by
  kernel_rfl
theorem c_sine_cosineOf (x : Int) : CallsA Tryd.prog GT gbT 82 [.v (.c (.d (.int .u64 x)))] [] (rU (cosiI x)) [] := by
  refine CallsA.ofOk fun hok => ?_
  have hw := w_sine_cosineOf x (fun v M => some (Res.fin v M))
  refine CallsA.ofEv (Γ := T_sine_sineOf) (X := XT) (Λ := L_cosineOf) (EQ := EQT) (n := 60) g_sine_sineOf hEQT hmT (LL_cosineOf) (hw.trans ?_)
  have h_x := inR_u64 (hok (.int .u64 x) (by simp [datasL, datas]))
  clear hok hw
  have hq := sqI_range h_x
  have e : (mul64 x x).1 = sqI x := rfl
  rw [e, Int.tdiv_eq_ediv_of_nonneg hq.1, wu64_id (n := sqI x / 2) (by omega), show serDom 3 [sqI x / 2, sqI x / 2, sqI x, 3] = true by clear e; simp only [serDom, Bool.and_eq_true, decide_eq_true_eq, beq_iff_eq, and_true]; omega]
  rfl
def s_sine_cosineOf : List AV → List Blk → (AV → List Blk → Ans) → Ans := fun xs bs K => match xs, bs with
  | [.v (.c (.d (.int .u64 x)))], [] => K (rU (cosiI x)) []
  | _, _ => none
def T_sine_cosineOf : Nat → List AV → List Blk → (AV → List Blk → Ans) → Ans := upd T_sine_sineOf 82 s_sine_cosineOf
theorem g_sine_cosineOf : GOK Tryd.prog GT gbT T_sine_cosineOf XT := by
  refine GOK.upd g_sine_sineOf (fun args w => Tryd.call82 args w) fun xs bs K r h => ?_
  unfold s_sine_cosineOf at h
  split at h
  · exact ⟨_, _, c_sine_cosineOf _, h⟩
  · cases h
theorem w_sine_angle (w n : Int) (K : AV → List Blk → Ans) : evFn Tryd.prog GT EQT T_sine_cosineOf XT noL 60 81 [.v (.c (.d (.int .i64 w))), .v (.c (.d (.int .i64 n)))] [] (fun v M => K v (M.take ([] : List Blk).length)) = bif decide (wu64 ((mul64 10529333758598939753 (wu64 w)).1 + wu64 w) < wu64 n) then K (rU ((wu64 ((mul64 10529333758598939753 (wu64 w)).1 + wu64 w) * 18446744073709551616 + (mul64 10529333758598939753 (wu64 w)).2) / wu64 n)) [] else none := by
  kernel_rfl
theorem c_sine_angle (w n : Int) (hd : (angOn w n) = true) : CallsA Tryd.prog GT gbT 81 [.v (.c (.d (.int .i64 w))), .v (.c (.d (.int .i64 n)))] [] (rU (angI w n)) [] := by
  refine CallsA.ofOk fun hok => ?_
  have hw := w_sine_angle w n (fun v M => some (Res.fin v M))
  refine CallsA.ofEv (Γ := T_sine_cosineOf) (X := XT) (Λ := noL) (EQ := EQT) (n := 60) g_sine_cosineOf hEQT hmT (fun _ _ _ _ => noL_ok _) (hw.trans ?_)
  have h_w := inR_i64 (hok (.int .i64 w) (by simp [datasL, datas]))
  have h_n := inR_i64 (hok (.int .i64 n) (by simp [datasL, datas]))
  clear hok hw
  rw [(ang_ok hd).1, (ang_ok hd).2]
  rfl
def s_sine_angle : List AV → List Blk → (AV → List Blk → Ans) → Ans := fun xs bs K => match xs, bs with
  | [.v (.c (.d (.int .i64 w))), .v (.c (.d (.int .i64 n)))], [] => bif angOn w n then K (rU (angI w n)) [] else none
  | _, _ => none
def T_sine_angle : Nat → List AV → List Blk → (AV → List Blk → Ans) → Ans := upd T_sine_cosineOf 81 s_sine_angle
theorem g_sine_angle : GOK Tryd.prog GT gbT T_sine_angle XT := by
  refine GOK.upd g_sine_cosineOf (fun args w => Tryd.call81 args w) fun xs bs K r h => ?_
  unfold s_sine_angle at h
  split at h
  · simp only [cond_eq_ite] at h
    split at h
    · exact ⟨_, _, c_sine_angle _ _ ‹_›, h⟩
    · cases h
  · cases h
theorem w_sine_rising (w n : Int) (K : AV → List Blk → Ans) : evFn Tryd.prog GT EQT T_sine_angle XT noL 60 74 [.v (.c (.d (.int .i64 w))), .v (.c (.d (.int .i64 n)))] [] (fun v M => K v (M.take ([] : List Blk).length)) = riseAns K w n := by
  kernel_rfl
theorem c_sine_rising (w n : Int) (hd : (riseOn w n) = true) : CallsA Tryd.prog GT gbT 74 [.v (.c (.d (.int .i64 w))), .v (.c (.d (.int .i64 n)))] [] (rSpan (riseI w n)) [] := by
  refine CallsA.ofOk fun hok => ?_
  have hw := w_sine_rising w n (fun v M => some (Res.fin v M))
  refine CallsA.ofEv (Γ := T_sine_angle) (X := XT) (Λ := noL) (EQ := EQT) (n := 60) g_sine_angle hEQT hmT (fun _ _ _ _ => noL_ok _) (hw.trans ?_)
  have h_w := inR_i64 (hok (.int .i64 w) (by simp [datasL, datas]))
  have h_n := inR_i64 (hok (.int .i64 n) (by simp [datasL, datas]))
  clear hok hw
  exact riseAns_ok (K := fun v M => some (Res.fin v M)) hd
def s_sine_rising : List AV → List Blk → (AV → List Blk → Ans) → Ans := fun xs bs K => match xs, bs with
  | [.v (.c (.d (.int .i64 w))), .v (.c (.d (.int .i64 n)))], [] => bif riseOn w n then K (rSpan (riseI w n)) [] else none
  | _, _ => none
def T_sine_rising : Nat → List AV → List Blk → (AV → List Blk → Ans) → Ans := upd T_sine_angle 74 s_sine_rising
theorem g_sine_rising : GOK Tryd.prog GT gbT T_sine_rising XT := by
  refine GOK.upd g_sine_angle (fun args w => Tryd.call74 args w) fun xs bs K r h => ?_
  unfold s_sine_rising at h
  split at h
  · simp only [cond_eq_ite] at h
    split at h
    · exact ⟨_, _, c_sine_rising _ _ ‹_›, h⟩
    · cases h
  · cases h
theorem w_sine_turned (u n : Int) (K : AV → List Blk → Ans) : evFn Tryd.prog GT EQT T_sine_rising XT noL 60 71 [.v (.c (.d (.int .i64 u))), .v (.c (.d (.int .i64 n)))] [] (fun v M => K v (M.take ([] : List Blk).length)) = turnAns K u n := by
  kernel_rfl
theorem c_sine_turned (u n : Int) (hd : (turnOn u n) = true) : CallsA Tryd.prog GT gbT 71 [.v (.c (.d (.int .i64 u))), .v (.c (.d (.int .i64 n)))] [] (rSpan (turnS u n)) [] := by
  refine CallsA.ofOk fun hok => ?_
  have hw := w_sine_turned u n (fun v M => some (Res.fin v M))
  refine CallsA.ofEv (Γ := T_sine_rising) (X := XT) (Λ := noL) (EQ := EQT) (n := 60) g_sine_rising hEQT hmT (fun _ _ _ _ => noL_ok _) (hw.trans ?_)
  have h_u := inR_i64 (hok (.int .i64 u) (by simp [datasL, datas]))
  have h_n := inR_i64 (hok (.int .i64 n) (by simp [datasL, datas]))
  clear hok hw
  exact turnAns_ok (K := fun v M => some (Res.fin v M)) hd
def s_sine_turned : List AV → List Blk → (AV → List Blk → Ans) → Ans := fun xs bs K => match xs, bs with
  | [.v (.c (.d (.int .i64 u))), .v (.c (.d (.int .i64 n)))], [] => bif turnOn u n then K (rSpan (turnS u n)) [] else none
  | _, _ => none
def T_sine_turned : Nat → List AV → List Blk → (AV → List Blk → Ans) → Ans := upd T_sine_rising 71 s_sine_turned
theorem g_sine_turned : GOK Tryd.prog GT gbT T_sine_turned XT := by
  refine GOK.upd g_sine_rising (fun args w => Tryd.call71 args w) fun xs bs K r h => ?_
  unfold s_sine_turned at h
  split at h
  · simp only [cond_eq_ite] at h
    split at h
    · exact ⟨_, _, c_sine_turned _ _ ‹_›, h⟩
    · cases h
  · cases h
theorem w_sine_Cos (k n : Int) (K : AV → List Blk → Ans) : evFn Tryd.prog GT EQT T_sine_turned XT noL 60 56 [.v (.c (.d (.int .i64 k))), .v (.c (.d (.int .i64 n)))] [] (fun v M => K v (M.take ([] : List Blk).length)) = cosAns K k n := by
  kernel_rfl
theorem c_sine_Cos (k n : Int) : CallsA Tryd.prog GT gbT 56 [.v (.c (.d (.int .i64 k))), .v (.c (.d (.int .i64 n)))] [] (rSpanE (cosS k n)) [] := by
  refine CallsA.ofOk fun hok => ?_
  have hw := w_sine_Cos k n (fun v M => some (Res.fin v M))
  refine CallsA.ofEv (Γ := T_sine_turned) (X := XT) (Λ := noL) (EQ := EQT) (n := 60) g_sine_turned hEQT hmT (fun _ _ _ _ => noL_ok _) (hw.trans ?_)
  have h_k := inR_i64 (hok (.int .i64 k) (by simp [datasL, datas]))
  have h_n := inR_i64 (hok (.int .i64 n) (by simp [datasL, datas]))
  clear hok hw
  exact cosAns_ok (K := fun v M => some (Res.fin v M))
def s_sine_Cos : List AV → List Blk → (AV → List Blk → Ans) → Ans := fun xs bs K => match xs, bs with
  | [.v (.c (.d (.int .i64 k))), .v (.c (.d (.int .i64 n)))], [] => K (rSpanE (cosS k n)) []
  | _, _ => none
def T_sine_Cos : Nat → List AV → List Blk → (AV → List Blk → Ans) → Ans := upd T_sine_turned 56 s_sine_Cos
theorem g_sine_Cos : GOK Tryd.prog GT gbT T_sine_Cos XT := by
  refine GOK.upd g_sine_turned (fun args w => Tryd.call56 args w) fun xs bs K r h => ?_
  unfold s_sine_Cos at h
  split at h
  · exact ⟨_, _, c_sine_Cos _ _, h⟩
  · cases h
theorem w_sine_Sin (k n : Int) (K : AV → List Blk → Ans) : evFn Tryd.prog GT EQT T_sine_Cos XT noL 60 55 [.v (.c (.d (.int .i64 k))), .v (.c (.d (.int .i64 n)))] [] (fun v M => K v (M.take ([] : List Blk).length)) = sinAns K k n := by
  kernel_rfl
theorem c_sine_Sin (k n : Int) : CallsA Tryd.prog GT gbT 55 [.v (.c (.d (.int .i64 k))), .v (.c (.d (.int .i64 n)))] [] (rSpanE (sinS k n)) [] := by
  refine CallsA.ofOk fun hok => ?_
  have hw := w_sine_Sin k n (fun v M => some (Res.fin v M))
  refine CallsA.ofEv (Γ := T_sine_Cos) (X := XT) (Λ := noL) (EQ := EQT) (n := 60) g_sine_Cos hEQT hmT (fun _ _ _ _ => noL_ok _) (hw.trans ?_)
  have h_k := inR_i64 (hok (.int .i64 k) (by simp [datasL, datas]))
  have h_n := inR_i64 (hok (.int .i64 n) (by simp [datasL, datas]))
  clear hok hw
  exact sinAns_ok (K := fun v M => some (Res.fin v M))
def s_sine_Sin : List AV → List Blk → (AV → List Blk → Ans) → Ans := fun xs bs K => match xs, bs with
  | [.v (.c (.d (.int .i64 k))), .v (.c (.d (.int .i64 n)))], [] => K (rSpanE (sinS k n)) []
  | _, _ => none
def T_sine_Sin : Nat → List AV → List Blk → (AV → List Blk → Ans) → Ans := upd T_sine_Cos 55 s_sine_Sin
theorem g_sine_Sin : GOK Tryd.prog GT gbT T_sine_Sin XT := by
  refine GOK.upd g_sine_Cos (fun args w => Tryd.call55 args w) fun xs bs K r h => ?_
  unfold s_sine_Sin at h
  split at h
  · exact ⟨_, _, c_sine_Sin _ _, h⟩
  · cases h
theorem w_frac_size (n : Int) (K : AV → List Blk → Ans) : evFn Tryd.prog GT EQT T_sine_Sin XT noL 60 35 [.v (.c (.d (.int .i64 n)))] [] (fun v M => K v (M.take ([] : List Blk).length)) = K (rU (sizeRaw n)) [] := by
  simp only [sizeRaw, pullK K]
  kernel_rfl
theorem c_frac_size (n : Int) : CallsA Tryd.prog GT gbT 35 [.v (.c (.d (.int .i64 n)))] [] (rU (absI n)) [] := by
  refine CallsA.ofOk fun hok => ?_
  have hw := w_frac_size n (fun v M => some (Res.fin v M))
  refine CallsA.ofEv (Γ := T_sine_Sin) (X := XT) (Λ := noL) (EQ := EQT) (n := 60) g_sine_Sin hEQT hmT (fun _ _ _ _ => noL_ok _) (hw.trans ?_)
  have h_n := inR_i64 (hok (.int .i64 n) (by simp [datasL, datas]))
  clear hok hw
  refine congrArg (fun v => some (Res.fin v [])) ?_
  rw [sizeRaw_ok h_n]
def s_frac_size : List AV → List Blk → (AV → List Blk → Ans) → Ans := fun xs bs K => match xs, bs with
  | [.v (.c (.d (.int .i64 n)))], [] => K (rU (absI n)) []
  | _, _ => none
def T_frac_size : Nat → List AV → List Blk → (AV → List Blk → Ans) → Ans := upd T_sine_Sin 35 s_frac_size
theorem g_frac_size : GOK Tryd.prog GT gbT T_frac_size XT := by
  refine GOK.upd g_sine_Sin (fun args w => Tryd.call35 args w) fun xs bs K r h => ?_
  unfold s_frac_size at h
  split at h
  · exact ⟨_, _, c_frac_size _, h⟩
  · cases h
theorem w_frac_Check (num den : Int) (K : AV → List Blk → Ans) : evFn Tryd.prog GT EQT T_frac_size XT noL 60 23 [.v (.agg [.int .i64 num, .int .i64 den])] [] (fun v M => K v (M.take ([] : List Blk).length)) = K (rI (checkRaw num den (absI den))) [] := by
  simp only [checkRaw, pullK K]
  kernel_rfl
theorem c_frac_Check (num den : Int) : CallsA Tryd.prog GT gbT 23 [.v (.agg [.int .i64 num, .int .i64 den])] [] (rI (checkF ⟨num, den⟩)) [] := by
  refine CallsA.ofOk fun hok => ?_
  have hw := w_frac_Check num den (fun v M => some (Res.fin v M))
  refine CallsA.ofEv (Γ := T_frac_size) (X := XT) (Λ := noL) (EQ := EQT) (n := 60) g_frac_size hEQT hmT (fun _ _ _ _ => noL_ok _) (hw.trans ?_)
  have h_num := inR_i64 (hok (.int .i64 num) (by simp [datasL, datas]))
  have h_den := inR_i64 (hok (.int .i64 den) (by simp [datasL, datas]))
  clear hok hw
  refine congrArg (fun v => some (Res.fin v [])) ?_
  rw [checkRaw_abs]
def s_frac_Check : List AV → List Blk → (AV → List Blk → Ans) → Ans := fun xs bs K => match xs, bs with
  | [.v (.agg [.int .i64 num, .int .i64 den])], [] => K (rI (checkF ⟨num, den⟩)) []
  | _, _ => none
def T_frac_Check : Nat → List AV → List Blk → (AV → List Blk → Ans) → Ans := upd T_frac_size 23 s_frac_Check
theorem g_frac_Check : GOK Tryd.prog GT gbT T_frac_Check XT := by
  refine GOK.upd g_frac_size (fun args w => Tryd.call23 args w) fun xs bs K r h => ?_
  unfold s_frac_Check at h
  split at h
  · exact ⟨_, _, c_frac_Check _ _, h⟩
  · cases h
theorem w_sine_valid (lo hi : Int) (K : AV → List Blk → Ans) : evFn Tryd.prog GT EQT T_frac_Check XT noL 60 46 [.v (.agg [.int .i64 lo, .int .i64 hi])] [] (fun v M => K v (M.take ([] : List Blk).length)) = K (rB (spanValid ⟨lo, hi⟩)) [] := by
  simp only [spanValid, pullK K]
  kernel_rfl
theorem c_sine_valid (lo hi : Int) : CallsA Tryd.prog GT gbT 46 [.v (.agg [.int .i64 lo, .int .i64 hi])] [] (rB (spanValid ⟨lo, hi⟩)) [] := by
  refine CallsA.ofOk fun hok => ?_
  have hw := w_sine_valid lo hi (fun v M => some (Res.fin v M))
  refine CallsA.ofEv (Γ := T_frac_Check) (X := XT) (Λ := noL) (EQ := EQT) (n := 60) g_frac_Check hEQT hmT (fun _ _ _ _ => noL_ok _) (hw.trans ?_)
  rfl
def s_sine_valid : List AV → List Blk → (AV → List Blk → Ans) → Ans := fun xs bs K => match xs, bs with
  | [.v (.agg [.int .i64 lo, .int .i64 hi])], [] => K (rB (spanValid ⟨lo, hi⟩)) []
  | _, _ => none
def T_sine_valid : Nat → List AV → List Blk → (AV → List Blk → Ans) → Ans := upd T_frac_Check 46 s_sine_valid
theorem g_sine_valid : GOK Tryd.prog GT gbT T_sine_valid XT := by
  refine GOK.upd g_frac_Check (fun args w => Tryd.call46 args w) fun xs bs K r h => ?_
  unfold s_sine_valid at h
  split at h
  · exact ⟨_, _, c_sine_valid _ _, h⟩
  · cases h
theorem w_sine_ranged (lo hi : Int) (K : AV → List Blk → Ans) : evFn Tryd.prog GT EQT T_sine_valid XT noL 60 45 [.v (.agg [.int .i64 lo, .int .i64 hi])] [] (fun v M => K v (M.take ([] : List Blk).length)) = K (rSpanE (rangedS ⟨lo, hi⟩)) [] := by
  simp only [rangedS, pullK K]
  kernel_rfl
theorem c_sine_ranged (lo hi : Int) : CallsA Tryd.prog GT gbT 45 [.v (.agg [.int .i64 lo, .int .i64 hi])] [] (rSpanE (rangedS ⟨lo, hi⟩)) [] := by
  refine CallsA.ofOk fun hok => ?_
  have hw := w_sine_ranged lo hi (fun v M => some (Res.fin v M))
  refine CallsA.ofEv (Γ := T_sine_valid) (X := XT) (Λ := noL) (EQ := EQT) (n := 60) g_sine_valid hEQT hmT (fun _ _ _ _ => noL_ok _) (hw.trans ?_)
  rfl
def s_sine_ranged : List AV → List Blk → (AV → List Blk → Ans) → Ans := fun xs bs K => match xs, bs with
  | [.v (.agg [.int .i64 lo, .int .i64 hi])], [] => K (rSpanE (rangedS ⟨lo, hi⟩)) []
  | _, _ => none
def T_sine_ranged : Nat → List AV → List Blk → (AV → List Blk → Ans) → Ans := upd T_sine_valid 45 s_sine_ranged
theorem g_sine_ranged : GOK Tryd.prog GT gbT T_sine_ranged XT := by
  refine GOK.upd g_sine_valid (fun args w => Tryd.call45 args w) fun xs bs K r h => ?_
  unfold s_sine_ranged at h
  split at h
  · exact ⟨_, _, c_sine_ranged _ _, h⟩
  · cases h
theorem w_sine_down (n : Int) (K : AV → List Blk → Ans) : evFn Tryd.prog GT EQT T_sine_ranged XT noL 60 47 [.v (.c (.d (.int .i64 n)))] [] (fun v M => K v (M.take ([] : List Blk).length)) = K (rI (floorRaw n 1000000)) [] := by
  simp only [floorRaw, pullK K]
  kernel_rfl
theorem c_sine_down (n : Int) : CallsA Tryd.prog GT gbT 47 [.v (.c (.d (.int .i64 n)))] [] (rI (n / 1000000)) [] := by
  refine CallsA.ofOk fun hok => ?_
  have hw := w_sine_down n (fun v M => some (Res.fin v M))
  refine CallsA.ofEv (Γ := T_sine_ranged) (X := XT) (Λ := noL) (EQ := EQT) (n := 60) g_sine_ranged hEQT hmT (fun _ _ _ _ => noL_ok _) (hw.trans ?_)
  have h_n := inR_i64 (hok (.int .i64 n) (by simp [datasL, datas]))
  clear hok hw
  refine congrArg (fun v => some (Res.fin v [])) ?_
  rw [floorRaw_ok (by omega) h_n]
def s_sine_down : List AV → List Blk → (AV → List Blk → Ans) → Ans := fun xs bs K => match xs, bs with
  | [.v (.c (.d (.int .i64 n)))], [] => K (rI (n / 1000000)) []
  | _, _ => none
def T_sine_down : Nat → List AV → List Blk → (AV → List Blk → Ans) → Ans := upd T_sine_ranged 47 s_sine_down
theorem g_sine_down : GOK Tryd.prog GT gbT T_sine_down XT := by
  refine GOK.upd g_sine_ranged (fun args w => Tryd.call47 args w) fun xs bs K r h => ?_
  unfold s_sine_down at h
  split at h
  · exact ⟨_, _, c_sine_down _, h⟩
  · cases h
theorem w_sine_Add (a b c d : Int) (K : AV → List Blk → Ans) : evFn Tryd.prog GT EQT T_sine_down XT noL 60 65 [.v (.agg [.int .i64 a, .int .i64 b]), .v (.agg [.int .i64 c, .int .i64 d])] [] (fun v M => K v (M.take ([] : List Blk).length)) = K (rSpanE (addRaw ⟨a, b⟩ ⟨c, d⟩)) [] := by
  simp only [addRaw, pullK K]
  kernel_rfl
theorem c_sine_Add (a b c d : Int) : CallsA Tryd.prog GT gbT 65 [.v (.agg [.int .i64 a, .int .i64 b]), .v (.agg [.int .i64 c, .int .i64 d])] [] (rSpanE (addS ⟨a, b⟩ ⟨c, d⟩)) [] := by
  refine CallsA.ofOk fun hok => ?_
  have hw := w_sine_Add a b c d (fun v M => some (Res.fin v M))
  refine CallsA.ofEv (Γ := T_sine_down) (X := XT) (Λ := noL) (EQ := EQT) (n := 60) g_sine_down hEQT hmT (fun _ _ _ _ => noL_ok _) (hw.trans ?_)
  have h_a := inR_i64 (hok (.int .i64 a) (by simp [datasL, datas]))
  have h_b := inR_i64 (hok (.int .i64 b) (by simp [datasL, datas]))
  have h_c := inR_i64 (hok (.int .i64 c) (by simp [datasL, datas]))
  have h_d := inR_i64 (hok (.int .i64 d) (by simp [datasL, datas]))
  clear hok hw
  refine congrArg (fun v => some (Res.fin v [])) ?_
  rw [addRaw_ok]
def s_sine_Add : List AV → List Blk → (AV → List Blk → Ans) → Ans := fun xs bs K => match xs, bs with
  | [.v (.agg [.int .i64 a, .int .i64 b]), .v (.agg [.int .i64 c, .int .i64 d])], [] => K (rSpanE (addS ⟨a, b⟩ ⟨c, d⟩)) []
  | _, _ => none
def T_sine_Add : Nat → List AV → List Blk → (AV → List Blk → Ans) → Ans := upd T_sine_down 65 s_sine_Add
theorem g_sine_Add : GOK Tryd.prog GT gbT T_sine_Add XT := by
  refine GOK.upd g_sine_down (fun args w => Tryd.call65 args w) fun xs bs K r h => ?_
  unfold s_sine_Add at h
  split at h
  · exact ⟨_, _, c_sine_Add _ _ _ _, h⟩
  · cases h
theorem w_sine_Mul (a b c d : Int) (K : AV → List Blk → Ans) : evFn Tryd.prog GT EQT T_sine_Add XT noL 60 30 [.v (.agg [.int .i64 a, .int .i64 b]), .v (.agg [.int .i64 c, .int .i64 d])] [] (fun v M => K v (M.take ([] : List Blk).length)) = K (rSpanE (mulRaw' ⟨a, b⟩ ⟨c, d⟩)) [] := by
  simp only [mulRaw', pullK K]
  kernel_rfl
theorem c_sine_Mul (a b c d : Int) : CallsA Tryd.prog GT gbT 30 [.v (.agg [.int .i64 a, .int .i64 b]), .v (.agg [.int .i64 c, .int .i64 d])] [] (rSpanE (mulS ⟨a, b⟩ ⟨c, d⟩)) [] := by
  refine CallsA.ofOk fun hok => ?_
  have hw := w_sine_Mul a b c d (fun v M => some (Res.fin v M))
  refine CallsA.ofEv (Γ := T_sine_Add) (X := XT) (Λ := noL) (EQ := EQT) (n := 60) g_sine_Add hEQT hmT (fun _ _ _ _ => noL_ok _) (hw.trans ?_)
  have h_a := inR_i64 (hok (.int .i64 a) (by simp [datasL, datas]))
  have h_b := inR_i64 (hok (.int .i64 b) (by simp [datasL, datas]))
  have h_c := inR_i64 (hok (.int .i64 c) (by simp [datasL, datas]))
  have h_d := inR_i64 (hok (.int .i64 d) (by simp [datasL, datas]))
  clear hok hw
  refine congrArg (fun v => some (Res.fin v [])) ?_
  rw [mulRaw'_ok]
def s_sine_Mul : List AV → List Blk → (AV → List Blk → Ans) → Ans := fun xs bs K => match xs, bs with
  | [.v (.agg [.int .i64 a, .int .i64 b]), .v (.agg [.int .i64 c, .int .i64 d])], [] => K (rSpanE (mulS ⟨a, b⟩ ⟨c, d⟩)) []
  | _, _ => none
def T_sine_Mul : Nat → List AV → List Blk → (AV → List Blk → Ans) → Ans := upd T_sine_Add 30 s_sine_Mul
theorem g_sine_Mul : GOK Tryd.prog GT gbT T_sine_Mul XT := by
  refine GOK.upd g_sine_Add (fun args w => Tryd.call30 args w) fun xs bs K r h => ?_
  unfold s_sine_Mul at h
  split at h
  · exact ⟨_, _, c_sine_Mul _ _ _ _, h⟩
  · cases h
end Go.Ev

namespace Go.Ev
open Go Go.Proofs
theorem w_sine_around (num den : Int) (K : AV → List Blk → Ans) : evFn Tryd.prog GT EQT T_sine_Mul XT noL 60 44 [.v (.agg [.int .i64 num, .int .i64 den])] [] (fun v M => K v (M.take ([] : List Blk).length)) = bif decide (num < 0) then aroundAns K num den (w64 (0 - num)) else aroundAns K num den num := by
  simp only [aroundAns, aroundTail, pullK K]
  kernel_rfl
theorem c_sine_around (num den : Int) (hd : (fracOkB ⟨num, den⟩) = true) : CallsA Tryd.prog GT gbT 44 [.v (.agg [.int .i64 num, .int .i64 den])] [] (rSpanB (aroundB ⟨num, den⟩)) [] := by
  refine CallsA.ofOk fun hok => ?_
  have hw := w_sine_around num den (fun v M => some (Res.fin v M))
  refine CallsA.ofEv (Γ := T_sine_Mul) (X := XT) (Λ := noL) (EQ := EQT) (n := 60) g_sine_Mul hEQT hmT (fun _ _ _ _ => noL_ok _) (hw.trans ?_)
  have h_num := inR_i64 (hok (.int .i64 num) (by simp [datasL, datas]))
  have h_den := inR_i64 (hok (.int .i64 den) (by simp [datasL, datas]))
  clear hok hw
  have hk := fracOkB_iff.1 hd
  have h1 := hk.numlo
  have h2 := hk.numhi
  simp only at h1 h2
  by_cases hn : num < 0
  · rw [decide_eq_true hn, cond_true, w64_id (by omega)]
    exact aroundAns_ok (K := fun v M => some (Res.fin v M)) hk (by rw [absI_of_neg hn]; omega)
  · rw [decide_eq_false hn, cond_false]
    exact aroundAns_ok (K := fun v M => some (Res.fin v M)) hk (absI_of_nonneg (by omega)).symm
def s_sine_around : List AV → List Blk → (AV → List Blk → Ans) → Ans := fun xs bs K => match xs, bs with
  | [.v (.agg [.int .i64 num, .int .i64 den])], [] => bif fracOkB ⟨num, den⟩ then K (rSpanB (aroundB ⟨num, den⟩)) [] else none
  | _, _ => none
def T_sine_around : Nat → List AV → List Blk → (AV → List Blk → Ans) → Ans := upd T_sine_Mul 44 s_sine_around
theorem g_sine_around : GOK Tryd.prog GT gbT T_sine_around XT := by
  refine GOK.upd g_sine_Mul (fun args w => Tryd.call44 args w) fun xs bs K r h => ?_
  unfold s_sine_around at h
  split at h
  · simp only [cond_eq_ite] at h
    split at h
    · exact ⟨_, _, c_sine_around _ _ ‹_›, h⟩
    · cases h
  · cases h
theorem w_sine_Of (num den : Int) (K : AV → List Blk → Ans) : evFn Tryd.prog GT EQT T_sine_around XT noL 60 29 [.v (.agg [.int .i64 num, .int .i64 den])] [] (fun v M => K v (M.take ([] : List Blk).length)) = bif checkF ⟨num, den⟩ != 0 then K (rSpanE (spanZ, 8)) [] else bif fracOkB ⟨num, den⟩ then (bif !(aroundB ⟨num, den⟩).2 then K (rSpanE (spanZ, 16)) [] else K (rSpanE (rangedS (aroundB ⟨num, den⟩).1)) []) else none := by
  kernel_rfl
theorem c_sine_Of (num den : Int) : CallsA Tryd.prog GT gbT 29 [.v (.agg [.int .i64 num, .int .i64 den])] [] (rSpanE (ofS ⟨num, den⟩)) [] := by
  refine CallsA.ofOk fun hok => ?_
  have hw := w_sine_Of num den (fun v M => some (Res.fin v M))
  refine CallsA.ofEv (Γ := T_sine_around) (X := XT) (Λ := noL) (EQ := EQT) (n := 60) g_sine_around hEQT hmT (fun _ _ _ _ => noL_ok _) (hw.trans ?_)
  have h_num := inR_i64 (hok (.int .i64 num) (by simp [datasL, datas]))
  have h_den := inR_i64 (hok (.int .i64 den) (by simp [datasL, datas]))
  clear hok hw
  exact sineOf_ok (K := fun v M => some (Res.fin v M))
def s_sine_Of : List AV → List Blk → (AV → List Blk → Ans) → Ans := fun xs bs K => match xs, bs with
  | [.v (.agg [.int .i64 num, .int .i64 den])], [] => K (rSpanE (ofS ⟨num, den⟩)) []
  | _, _ => none
def T_sine_Of : Nat → List AV → List Blk → (AV → List Blk → Ans) → Ans := upd T_sine_around 29 s_sine_Of
theorem g_sine_Of : GOK Tryd.prog GT gbT T_sine_Of XT := by
  refine GOK.upd g_sine_around (fun args w => Tryd.call29 args w) fun xs bs K r h => ?_
  unfold s_sine_Of at h
  split at h
  · exact ⟨_, _, c_sine_Of _ _, h⟩
  · cases h
theorem w_bits_Rem64 (hi lo y : Int) (K : AV → List Blk → Ans) : evFn Tryd.prog GT EQT T_sine_Of XT noL 60 78 [.v (.c (.d (.int .u64 hi))), .v (.c (.d (.int .u64 lo))), .v (.c (.d (.int .u64 y)))] [] (fun v M => K v (M.take ([] : List Blk).length)) = remAns K hi lo y := by
  kernel_rfl
theorem c_bits_Rem64 (hi lo y : Int) (hd : (decide (0 < y)) = true) : CallsA Tryd.prog GT gbT 78 [.v (.c (.d (.int .u64 hi))), .v (.c (.d (.int .u64 lo))), .v (.c (.d (.int .u64 y)))] [] (rU ((hi * 18446744073709551616 + lo) % y)) [] := by
  refine CallsA.ofOk fun hok => ?_
  have hw := w_bits_Rem64 hi lo y (fun v M => some (Res.fin v M))
  refine CallsA.ofEv (Γ := T_sine_Of) (X := XT) (Λ := noL) (EQ := EQT) (n := 60) g_sine_Of hEQT hmT (fun _ _ _ _ => noL_ok _) (hw.trans ?_)
  have h_hi := inR_u64 (hok (.int .u64 hi) (by simp [datasL, datas]))
  have h_lo := inR_u64 (hok (.int .u64 lo) (by simp [datasL, datas]))
  have h_y := inR_u64 (hok (.int .u64 y) (by simp [datasL, datas]))
  clear hok hw
  exact remAns_ok (K := fun v M => some (Res.fin v M)) h_hi.1 (of_decide_eq_true hd)
def s_bits_Rem64 : List AV → List Blk → (AV → List Blk → Ans) → Ans := fun xs bs K => match xs, bs with
  | [.v (.c (.d (.int .u64 hi))), .v (.c (.d (.int .u64 lo))), .v (.c (.d (.int .u64 y)))], [] => bif decide (0 < y) then K (rU ((hi * 18446744073709551616 + lo) % y)) [] else none
  | _, _ => none
def T_bits_Rem64 : Nat → List AV → List Blk → (AV → List Blk → Ans) → Ans := upd T_sine_Of 78 s_bits_Rem64
theorem g_bits_Rem64 : GOK Tryd.prog GT gbT T_bits_Rem64 XT := by
  refine GOK.upd g_sine_Of (fun args w => Tryd.call78 args w) fun xs bs K r h => ?_
  unfold s_bits_Rem64 at h
  split at h
  · simp only [cond_eq_ite] at h
    split at h
    · exact ⟨_, _, c_bits_Rem64 _ _ _ ‹_›, h⟩
    · cases h
  · cases h
theorem w_frac_wider (a b c d : Int) (K : AV → List Blk → Ans) : evFn Tryd.prog GT EQT T_bits_Rem64 XT noL 60 76 [.v (.c (.d (.int .u64 a))), .v (.c (.d (.int .u64 b))), .v (.c (.d (.int .u64 c))), .v (.c (.d (.int .u64 d)))] [] (fun v M => K v (M.take ([] : List Blk).length)) = K (rI (widerRaw a b c d)) [] := by
  simp only [widerRaw, widerTail, pullK K]
  kernel_rfl
theorem c_frac_wider (a b c d : Int) : CallsA Tryd.prog GT gbT 76 [.v (.c (.d (.int .u64 a))), .v (.c (.d (.int .u64 b))), .v (.c (.d (.int .u64 c))), .v (.c (.d (.int .u64 d)))] [] (rI (cmpI (a * 18446744073709551616 + b) (c * 18446744073709551616 + d))) [] := by
  refine CallsA.ofOk fun hok => ?_
  have hw := w_frac_wider a b c d (fun v M => some (Res.fin v M))
  refine CallsA.ofEv (Γ := T_bits_Rem64) (X := XT) (Λ := noL) (EQ := EQT) (n := 60) g_bits_Rem64 hEQT hmT (fun _ _ _ _ => noL_ok _) (hw.trans ?_)
  have h_a := inR_u64 (hok (.int .u64 a) (by simp [datasL, datas]))
  have h_b := inR_u64 (hok (.int .u64 b) (by simp [datasL, datas]))
  have h_c := inR_u64 (hok (.int .u64 c) (by simp [datasL, datas]))
  have h_d := inR_u64 (hok (.int .u64 d) (by simp [datasL, datas]))
  clear hok hw
  refine congrArg (fun v => some (Res.fin v [])) ?_
  rw [widerRaw_ok h_b h_d]
def s_frac_wider : List AV → List Blk → (AV → List Blk → Ans) → Ans := fun xs bs K => match xs, bs with
  | [.v (.c (.d (.int .u64 a))), .v (.c (.d (.int .u64 b))), .v (.c (.d (.int .u64 c))), .v (.c (.d (.int .u64 d)))], [] => K (rI (cmpI (a * 18446744073709551616 + b) (c * 18446744073709551616 + d))) []
  | _, _ => none
def T_frac_wider : Nat → List AV → List Blk → (AV → List Blk → Ans) → Ans := upd T_bits_Rem64 76 s_frac_wider
theorem g_frac_wider : GOK Tryd.prog GT gbT T_frac_wider XT := by
  refine GOK.upd g_bits_Rem64 (fun args w => Tryd.call76 args w) fun xs bs K r h => ?_
  unfold s_frac_wider at h
  split at h
  · exact ⟨_, _, c_frac_wider _ _ _ _, h⟩
  · cases h
theorem w_frac_build (m : Bool) (n d : Int) (K : AV → List Blk → Ans) : evFn Tryd.prog GT EQT T_frac_wider XT noL 60 57 [.v (.c (.d (.bool m))), .v (.c (.d (.int .u64 n))), .v (.c (.d (.int .u64 d)))] [] (fun v M => K v (M.take ([] : List Blk).length)) = K (rFracE (buildRaw m n d)) [] := by
  simp only [buildRaw, pullK K]
  kernel_rfl
theorem c_frac_build (m : Bool) (n d : Int) : CallsA Tryd.prog GT gbT 57 [.v (.c (.d (.bool m))), .v (.c (.d (.int .u64 n))), .v (.c (.d (.int .u64 d)))] [] (rFracE (lowF m n d)) [] := by
  refine CallsA.ofOk fun hok => ?_
  have hw := w_frac_build m n d (fun v M => some (Res.fin v M))
  refine CallsA.ofEv (Γ := T_frac_wider) (X := XT) (Λ := noL) (EQ := EQT) (n := 60) g_frac_wider hEQT hmT (fun _ _ _ _ => noL_ok _) (hw.trans ?_)
  have h_n := inR_u64 (hok (.int .u64 n) (by simp [datasL, datas]))
  have h_d := inR_u64 (hok (.int .u64 d) (by simp [datasL, datas]))
  clear hok hw
  refine congrArg (fun v => some (Res.fin v [])) ?_
  rw [buildRaw_ok h_n.1 h_d.1]
def s_frac_build : List AV → List Blk → (AV → List Blk → Ans) → Ans := fun xs bs K => match xs, bs with
  | [.v (.c (.d (.bool m))), .v (.c (.d (.int .u64 n))), .v (.c (.d (.int .u64 d)))], [] => K (rFracE (lowF m n d)) []
  | _, _ => none
def T_frac_build : Nat → List AV → List Blk → (AV → List Blk → Ans) → Ans := upd T_frac_wider 57 s_frac_build
theorem g_frac_build : GOK Tryd.prog GT gbT T_frac_build XT := by
  refine GOK.upd g_frac_wider (fun args w => Tryd.call57 args w) fun xs bs K r h => ?_
  unfold s_frac_build at h
  split at h
  · exact ⟨_, _, c_frac_build _ _ _, h⟩
  · cases h
theorem w_frac_both (a b c d : Int) (K : AV → List Blk → Ans) : evFn Tryd.prog GT EQT T_frac_build XT noL 60 39 [.v (.agg [.int .i64 a, .int .i64 b]), .v (.agg [.int .i64 c, .int .i64 d])] [] (fun v M => K v (M.take ([] : List Blk).length)) = K (rI (bothE ⟨a, b⟩ ⟨c, d⟩)) [] := by
  simp only [bothE, pullK K]
  kernel_rfl
theorem c_frac_both (a b c d : Int) : CallsA Tryd.prog GT gbT 39 [.v (.agg [.int .i64 a, .int .i64 b]), .v (.agg [.int .i64 c, .int .i64 d])] [] (rI (bothE ⟨a, b⟩ ⟨c, d⟩)) [] := by
  refine CallsA.ofOk fun hok => ?_
  have hw := w_frac_both a b c d (fun v M => some (Res.fin v M))
  refine CallsA.ofEv (Γ := T_frac_build) (X := XT) (Λ := noL) (EQ := EQT) (n := 60) g_frac_build hEQT hmT (fun _ _ _ _ => noL_ok _) (hw.trans ?_)
  rfl
def s_frac_both : List AV → List Blk → (AV → List Blk → Ans) → Ans := fun xs bs K => match xs, bs with
  | [.v (.agg [.int .i64 a, .int .i64 b]), .v (.agg [.int .i64 c, .int .i64 d])], [] => K (rI (bothE ⟨a, b⟩ ⟨c, d⟩)) []
  | _, _ => none
def T_frac_both : Nat → List AV → List Blk → (AV → List Blk → Ans) → Ans := upd T_frac_build 39 s_frac_both
theorem g_frac_both : GOK Tryd.prog GT gbT T_frac_both XT := by
  refine GOK.upd g_frac_build (fun args w => Tryd.call39 args w) fun xs bs K r h => ?_
  unfold s_frac_both at h
  split at h
  · exact ⟨_, _, c_frac_both _ _ _ _, h⟩
  · cases h
theorem w_frac_sum (a b c d : Int) (K : AV → List Blk → Ans) : evFn Tryd.prog GT EQT T_frac_both XT noL 120 72 [.v (.agg [.int .i64 a, .int .i64 b]), .v (.agg [.int .i64 c, .int .i64 d])] [] (fun v M => K v (M.take ([] : List Blk).length)) = sumAns K ⟨a, b⟩ ⟨c, d⟩ := by
  kernel_rfl
theorem c_frac_sum (a b c d : Int) (hd : (fracOkB ⟨a, b⟩ && fracOkB ⟨c, d⟩) = true) : CallsA Tryd.prog GT gbT 72 [.v (.agg [.int .i64 a, .int .i64 b]), .v (.agg [.int .i64 c, .int .i64 d])] [] (rFracE (fracOf (a * d + c * b) (b * d))) [] := by
  refine CallsA.ofOk fun hok => ?_
  have hw := w_frac_sum a b c d (fun v M => some (Res.fin v M))
  refine CallsA.ofEv (Γ := T_frac_both) (X := XT) (Λ := noL) (EQ := EQT) (n := 120) g_frac_both hEQT hmT (fun _ _ _ _ => noL_ok _) (hw.trans ?_)
  have h_a := inR_i64 (hok (.int .i64 a) (by simp [datasL, datas]))
  have h_b := inR_i64 (hok (.int .i64 b) (by simp [datasL, datas]))
  have h_c := inR_i64 (hok (.int .i64 c) (by simp [datasL, datas]))
  have h_d := inR_i64 (hok (.int .i64 d) (by simp [datasL, datas]))
  clear hok hw
  simp only [Bool.and_eq_true] at hd
  exact sumAns_ok (K := fun v M => some (Res.fin v M)) (fracOkB_iff.1 hd.1) (fracOkB_iff.1 hd.2)
def s_frac_sum : List AV → List Blk → (AV → List Blk → Ans) → Ans := fun xs bs K => match xs, bs with
  | [.v (.agg [.int .i64 a, .int .i64 b]), .v (.agg [.int .i64 c, .int .i64 d])], [] => bif fracOkB ⟨a, b⟩ && fracOkB ⟨c, d⟩ then K (rFracE (fracOf (a * d + c * b) (b * d))) [] else none
  | _, _ => none
def T_frac_sum : Nat → List AV → List Blk → (AV → List Blk → Ans) → Ans := upd T_frac_both 72 s_frac_sum
theorem g_frac_sum : GOK Tryd.prog GT gbT T_frac_sum XT := by
  refine GOK.upd g_frac_both (fun args w => Tryd.call72 args w) fun xs bs K r h => ?_
  unfold s_frac_sum at h
  split at h
  · simp only [cond_eq_ite] at h
    split at h
    · exact ⟨_, _, c_frac_sum _ _ _ _ ‹_›, h⟩
    · cases h
  · cases h
theorem w_frac_Add (a b c d : Int) (K : AV → List Blk → Ans) : evFn Tryd.prog GT EQT T_frac_sum XT noL 60 62 [.v (.agg [.int .i64 a, .int .i64 b]), .v (.agg [.int .i64 c, .int .i64 d])] [] (fun v M => K v (M.take ([] : List Blk).length)) = addAns K ⟨a, b⟩ ⟨c, d⟩ := by
  kernel_rfl
theorem c_frac_Add (a b c d : Int) : CallsA Tryd.prog GT gbT 62 [.v (.agg [.int .i64 a, .int .i64 b]), .v (.agg [.int .i64 c, .int .i64 d])] [] (rFracE (addF ⟨a, b⟩ ⟨c, d⟩)) [] := by
  refine CallsA.ofOk fun hok => ?_
  have hw := w_frac_Add a b c d (fun v M => some (Res.fin v M))
  refine CallsA.ofEv (Γ := T_frac_sum) (X := XT) (Λ := noL) (EQ := EQT) (n := 60) g_frac_sum hEQT hmT (fun _ _ _ _ => noL_ok _) (hw.trans ?_)
  have h_a := inR_i64 (hok (.int .i64 a) (by simp [datasL, datas]))
  have h_b := inR_i64 (hok (.int .i64 b) (by simp [datasL, datas]))
  have h_c := inR_i64 (hok (.int .i64 c) (by simp [datasL, datas]))
  have h_d := inR_i64 (hok (.int .i64 d) (by simp [datasL, datas]))
  clear hok hw
  exact addAns_ok (K := fun v M => some (Res.fin v M))
def s_frac_Add : List AV → List Blk → (AV → List Blk → Ans) → Ans := fun xs bs K => match xs, bs with
  | [.v (.agg [.int .i64 a, .int .i64 b]), .v (.agg [.int .i64 c, .int .i64 d])], [] => K (rFracE (addF ⟨a, b⟩ ⟨c, d⟩)) []
  | _, _ => none
def T_frac_Add : Nat → List AV → List Blk → (AV → List Blk → Ans) → Ans := upd T_frac_sum 62 s_frac_Add
theorem g_frac_Add : GOK Tryd.prog GT gbT T_frac_Add XT := by
  refine GOK.upd g_frac_sum (fun args w => Tryd.call62 args w) fun xs bs K r h => ?_
  unfold s_frac_Add at h
  split at h
  · exact ⟨_, _, c_frac_Add _ _ _ _, h⟩
  · cases h
theorem w_frac_product (a b c d : Int) (K : AV → List Blk → Ans) : evFn Tryd.prog GT EQT T_frac_Add XT noL 120 40 [.v (.agg [.int .i64 a, .int .i64 b]), .v (.agg [.int .i64 c, .int .i64 d])] [] (fun v M => K v (M.take ([] : List Blk).length)) = prodAns K ⟨a, b⟩ ⟨c, d⟩ := by
  kernel_rfl
theorem c_frac_product (a b c d : Int) (hd : (fracOkB ⟨a, b⟩ && fracOkB ⟨c, d⟩) = true) : CallsA Tryd.prog GT gbT 40 [.v (.agg [.int .i64 a, .int .i64 b]), .v (.agg [.int .i64 c, .int .i64 d])] [] (rFracE (fracOf (a * c) (b * d))) [] := by
  refine CallsA.ofOk fun hok => ?_
  have hw := w_frac_product a b c d (fun v M => some (Res.fin v M))
  refine CallsA.ofEv (Γ := T_frac_Add) (X := XT) (Λ := noL) (EQ := EQT) (n := 120) g_frac_Add hEQT hmT (fun _ _ _ _ => noL_ok _) (hw.trans ?_)
  have h_a := inR_i64 (hok (.int .i64 a) (by simp [datasL, datas]))
  have h_b := inR_i64 (hok (.int .i64 b) (by simp [datasL, datas]))
  have h_c := inR_i64 (hok (.int .i64 c) (by simp [datasL, datas]))
  have h_d := inR_i64 (hok (.int .i64 d) (by simp [datasL, datas]))
  clear hok hw
  simp only [Bool.and_eq_true] at hd
  exact prodAns_ok (K := fun v M => some (Res.fin v M)) (fracOkB_iff.1 hd.1) (fracOkB_iff.1 hd.2)
def s_frac_product : List AV → List Blk → (AV → List Blk → Ans) → Ans := fun xs bs K => match xs, bs with
  | [.v (.agg [.int .i64 a, .int .i64 b]), .v (.agg [.int .i64 c, .int .i64 d])], [] => bif fracOkB ⟨a, b⟩ && fracOkB ⟨c, d⟩ then K (rFracE (fracOf (a * c) (b * d))) [] else none
  | _, _ => none
def T_frac_product : Nat → List AV → List Blk → (AV → List Blk → Ans) → Ans := upd T_frac_Add 40 s_frac_product
theorem g_frac_product : GOK Tryd.prog GT gbT T_frac_product XT := by
  refine GOK.upd g_frac_Add (fun args w => Tryd.call40 args w) fun xs bs K r h => ?_
  unfold s_frac_product at h
  split at h
  · simp only [cond_eq_ite] at h
    split at h
    · exact ⟨_, _, c_frac_product _ _ _ _ ‹_›, h⟩
    · cases h
  · cases h
theorem w_frac_Mul (a b c d : Int) (K : AV → List Blk → Ans) : evFn Tryd.prog GT EQT T_frac_product XT noL 60 27 [.v (.agg [.int .i64 a, .int .i64 b]), .v (.agg [.int .i64 c, .int .i64 d])] [] (fun v M => K v (M.take ([] : List Blk).length)) = mulAns K ⟨a, b⟩ ⟨c, d⟩ := by
  kernel_rfl
theorem c_frac_Mul (a b c d : Int) : CallsA Tryd.prog GT gbT 27 [.v (.agg [.int .i64 a, .int .i64 b]), .v (.agg [.int .i64 c, .int .i64 d])] [] (rFracE (mulF ⟨a, b⟩ ⟨c, d⟩)) [] := by
  refine CallsA.ofOk fun hok => ?_
  have hw := w_frac_Mul a b c d (fun v M => some (Res.fin v M))
  refine CallsA.ofEv (Γ := T_frac_product) (X := XT) (Λ := noL) (EQ := EQT) (n := 60) g_frac_product hEQT hmT (fun _ _ _ _ => noL_ok _) (hw.trans ?_)
  have h_a := inR_i64 (hok (.int .i64 a) (by simp [datasL, datas]))
  have h_b := inR_i64 (hok (.int .i64 b) (by simp [datasL, datas]))
  have h_c := inR_i64 (hok (.int .i64 c) (by simp [datasL, datas]))
  have h_d := inR_i64 (hok (.int .i64 d) (by simp [datasL, datas]))
  clear hok hw
  exact mulAns_ok (K := fun v M => some (Res.fin v M))
def s_frac_Mul : List AV → List Blk → (AV → List Blk → Ans) → Ans := fun xs bs K => match xs, bs with
  | [.v (.agg [.int .i64 a, .int .i64 b]), .v (.agg [.int .i64 c, .int .i64 d])], [] => K (rFracE (mulF ⟨a, b⟩ ⟨c, d⟩)) []
  | _, _ => none
def T_frac_Mul : Nat → List AV → List Blk → (AV → List Blk → Ans) → Ans := upd T_frac_product 27 s_frac_Mul
theorem g_frac_Mul : GOK Tryd.prog GT gbT T_frac_Mul XT := by
  refine GOK.upd g_frac_product (fun args w => Tryd.call27 args w) fun xs bs K r h => ?_
  unfold s_frac_Mul at h
  split at h
  · exact ⟨_, _, c_frac_Mul _ _ _ _, h⟩
  · cases h
theorem w_vec_Check (a b c d e f : Int) (K : AV → List Blk → Ans) : evFn Tryd.prog GT EQT (inl Tryd.prog GT EQT XT [58] T_frac_Mul 60 1) XT noL 60 49 [.v (.agg [.int .i64 a, .int .i64 b, .int .i64 c, .int .i64 d, .int .i64 e, .int .i64 f])] [] (fun v M => K v (M.take ([] : List Blk).length)) = K (rI (checkVRaw ⟨⟨a, b⟩, ⟨c, d⟩, ⟨e, f⟩⟩)) [] := by
  simp only [checkVRaw, pullK K]
  kernel_rfl
theorem c_vec_Check (a b c d e f : Int) : CallsA Tryd.prog GT gbT 49 [.v (.agg [.int .i64 a, .int .i64 b, .int .i64 c, .int .i64 d, .int .i64 e, .int .i64 f])] [] (rI (checkV ⟨⟨a, b⟩, ⟨c, d⟩, ⟨e, f⟩⟩)) [] := by
  refine CallsA.ofOk fun hok => ?_
  have hw := w_vec_Check a b c d e f (fun v M => some (Res.fin v M))
  refine CallsA.ofEv (Γ := (inl Tryd.prog GT EQT XT [58] T_frac_Mul 60 1)) (X := XT) (Λ := noL) (EQ := EQT) (n := 60) (g_frac_Mul.inl hEQT hmT (fun f hf => by simp only [List.mem_cons, List.not_mem_nil, or_false] at hf; subst hf; exact (fun args w => Tryd.call58 args w)) 60 1) hEQT hmT (fun _ _ _ _ => noL_ok _) (hw.trans ?_)
  have h_a := inR_i64 (hok (.int .i64 a) (by simp [datasL, datas]))
  have h_b := inR_i64 (hok (.int .i64 b) (by simp [datasL, datas]))
  have h_c := inR_i64 (hok (.int .i64 c) (by simp [datasL, datas]))
  have h_d := inR_i64 (hok (.int .i64 d) (by simp [datasL, datas]))
  have h_e := inR_i64 (hok (.int .i64 e) (by simp [datasL, datas]))
  have h_f := inR_i64 (hok (.int .i64 f) (by simp [datasL, datas]))
  clear hok hw
  refine congrArg (fun v => some (Res.fin v [])) ?_
  rw [checkVRaw_ok]
def s_vec_Check : List AV → List Blk → (AV → List Blk → Ans) → Ans := fun xs bs K => match xs, bs with
  | [.v (.agg [.int .i64 a, .int .i64 b, .int .i64 c, .int .i64 d, .int .i64 e, .int .i64 f])], [] => K (rI (checkV ⟨⟨a, b⟩, ⟨c, d⟩, ⟨e, f⟩⟩)) []
  | _, _ => none
def T_vec_Check : Nat → List AV → List Blk → (AV → List Blk → Ans) → Ans := upd T_frac_Mul 49 s_vec_Check
theorem g_vec_Check : GOK Tryd.prog GT gbT T_vec_Check XT := by
  refine GOK.upd g_frac_Mul (fun args w => Tryd.call49 args w) fun xs bs K r h => ?_
  unfold s_vec_Check at h
  split at h
  · exact ⟨_, _, c_vec_Check _ _ _ _ _ _, h⟩
  · cases h
theorem w_vec_Scale (a b c d e f g h : Int) (K : AV → List Blk → Ans) : evFn Tryd.prog GT EQT (inl Tryd.prog GT EQT XT [58, 59, 43, 60] T_vec_Check 120 3) XT noL 120 38 [.v (.agg [.int .i64 a, .int .i64 b, .int .i64 c, .int .i64 d, .int .i64 e, .int .i64 f]), .v (.agg [.int .i64 g, .int .i64 h])] [] (fun v M => K v (M.take ([] : List Blk).length)) = scaleAns K ⟨⟨a, b⟩, ⟨c, d⟩, ⟨e, f⟩⟩ ⟨g, h⟩ := by
  kernel_rfl
theorem c_vec_Scale (a b c d e f g h : Int) : CallsA Tryd.prog GT gbT 38 [.v (.agg [.int .i64 a, .int .i64 b, .int .i64 c, .int .i64 d, .int .i64 e, .int .i64 f]), .v (.agg [.int .i64 g, .int .i64 h])] [] (rVecE (scaleV ⟨⟨a, b⟩, ⟨c, d⟩, ⟨e, f⟩⟩ ⟨g, h⟩)) [] := by
  refine CallsA.ofOk fun hok => ?_
  have hw := w_vec_Scale a b c d e f g h (fun v M => some (Res.fin v M))
  refine CallsA.ofEv (Γ := (inl Tryd.prog GT EQT XT [58, 59, 43, 60] T_vec_Check 120 3)) (X := XT) (Λ := noL) (EQ := EQT) (n := 120) (g_vec_Check.inl hEQT hmT (fun f hf => by simp only [List.mem_cons, List.not_mem_nil, or_false] at hf; rcases hf with rfl | rfl | rfl | rfl; exact (fun args w => Tryd.call58 args w); exact (fun args w => Tryd.call59 args w); exact (fun args w => Tryd.call43 args w); exact (fun args w => Tryd.call60 args w)) 120 3) hEQT hmT (fun _ _ _ _ => noL_ok _) (hw.trans ?_)
  have h_a := inR_i64 (hok (.int .i64 a) (by simp [datasL, datas]))
  have h_b := inR_i64 (hok (.int .i64 b) (by simp [datasL, datas]))
  have h_c := inR_i64 (hok (.int .i64 c) (by simp [datasL, datas]))
  have h_d := inR_i64 (hok (.int .i64 d) (by simp [datasL, datas]))
  have h_e := inR_i64 (hok (.int .i64 e) (by simp [datasL, datas]))
  have h_f := inR_i64 (hok (.int .i64 f) (by simp [datasL, datas]))
  have h_g := inR_i64 (hok (.int .i64 g) (by simp [datasL, datas]))
  have h_h := inR_i64 (hok (.int .i64 h) (by simp [datasL, datas]))
  clear hok hw
  exact scaleAns_ok (K := fun v M => some (Res.fin v M))
def s_vec_Scale : List AV → List Blk → (AV → List Blk → Ans) → Ans := fun xs bs K => match xs, bs with
  | [.v (.agg [.int .i64 a, .int .i64 b, .int .i64 c, .int .i64 d, .int .i64 e, .int .i64 f]), .v (.agg [.int .i64 g, .int .i64 h])], [] => K (rVecE (scaleV ⟨⟨a, b⟩, ⟨c, d⟩, ⟨e, f⟩⟩ ⟨g, h⟩)) []
  | _, _ => none
def T_vec_Scale : Nat → List AV → List Blk → (AV → List Blk → Ans) → Ans := upd T_vec_Check 38 s_vec_Scale
theorem g_vec_Scale : GOK Tryd.prog GT gbT T_vec_Scale XT := by
  refine GOK.upd g_vec_Check (fun args w => Tryd.call38 args w) fun xs bs K r h => ?_
  unfold s_vec_Scale at h
  split at h
  · exact ⟨_, _, c_vec_Scale _ _ _ _ _ _ _ _, h⟩
  · cases h
theorem w_vec_dot (a b c d e f g h i j k l : Int) (K : AV → List Blk → Ans) : evFn Tryd.prog GT EQT T_vec_Scale XT noL 120 42 [.v (.agg [.int .i64 a, .int .i64 b, .int .i64 c, .int .i64 d, .int .i64 e, .int .i64 f]), .v (.agg [.int .i64 g, .int .i64 h, .int .i64 i, .int .i64 j, .int .i64 k, .int .i64 l])] [] (fun v M => K v (M.take ([] : List Blk).length)) = dotFAns K ⟨⟨a, b⟩, ⟨c, d⟩, ⟨e, f⟩⟩ ⟨⟨g, h⟩, ⟨i, j⟩, ⟨k, l⟩⟩ := by
  kernel_rfl
theorem c_vec_dot (a b c d e f g h i j k l : Int) : CallsA Tryd.prog GT gbT 42 [.v (.agg [.int .i64 a, .int .i64 b, .int .i64 c, .int .i64 d, .int .i64 e, .int .i64 f]), .v (.agg [.int .i64 g, .int .i64 h, .int .i64 i, .int .i64 j, .int .i64 k, .int .i64 l])] [] (rFracE (dotF ⟨⟨a, b⟩, ⟨c, d⟩, ⟨e, f⟩⟩ ⟨⟨g, h⟩, ⟨i, j⟩, ⟨k, l⟩⟩)) [] := by
  refine CallsA.ofOk fun hok => ?_
  have hw := w_vec_dot a b c d e f g h i j k l (fun v M => some (Res.fin v M))
  refine CallsA.ofEv (Γ := T_vec_Scale) (X := XT) (Λ := noL) (EQ := EQT) (n := 120) g_vec_Scale hEQT hmT (fun _ _ _ _ => noL_ok _) (hw.trans ?_)
  have h_a := inR_i64 (hok (.int .i64 a) (by simp [datasL, datas]))
  have h_b := inR_i64 (hok (.int .i64 b) (by simp [datasL, datas]))
  have h_c := inR_i64 (hok (.int .i64 c) (by simp [datasL, datas]))
  have h_d := inR_i64 (hok (.int .i64 d) (by simp [datasL, datas]))
  have h_e := inR_i64 (hok (.int .i64 e) (by simp [datasL, datas]))
  have h_f := inR_i64 (hok (.int .i64 f) (by simp [datasL, datas]))
  have h_g := inR_i64 (hok (.int .i64 g) (by simp [datasL, datas]))
  have h_h := inR_i64 (hok (.int .i64 h) (by simp [datasL, datas]))
  have h_i := inR_i64 (hok (.int .i64 i) (by simp [datasL, datas]))
  have h_j := inR_i64 (hok (.int .i64 j) (by simp [datasL, datas]))
  have h_k := inR_i64 (hok (.int .i64 k) (by simp [datasL, datas]))
  have h_l := inR_i64 (hok (.int .i64 l) (by simp [datasL, datas]))
  clear hok hw
  exact dotFAns_ok (K := fun v M => some (Res.fin v M))
def s_vec_dot : List AV → List Blk → (AV → List Blk → Ans) → Ans := fun xs bs K => match xs, bs with
  | [.v (.agg [.int .i64 a, .int .i64 b, .int .i64 c, .int .i64 d, .int .i64 e, .int .i64 f]), .v (.agg [.int .i64 g, .int .i64 h, .int .i64 i, .int .i64 j, .int .i64 k, .int .i64 l])], [] => K (rFracE (dotF ⟨⟨a, b⟩, ⟨c, d⟩, ⟨e, f⟩⟩ ⟨⟨g, h⟩, ⟨i, j⟩, ⟨k, l⟩⟩)) []
  | _, _ => none
def T_vec_dot : Nat → List AV → List Blk → (AV → List Blk → Ans) → Ans := upd T_vec_Scale 42 s_vec_dot
theorem g_vec_dot : GOK Tryd.prog GT gbT T_vec_dot XT := by
  refine GOK.upd g_vec_Scale (fun args w => Tryd.call42 args w) fun xs bs K r h => ?_
  unfold s_vec_dot at h
  split at h
  · exact ⟨_, _, c_vec_dot _ _ _ _ _ _ _ _ _ _ _ _, h⟩
  · cases h
theorem w_vec_Dot (a b c d e f g h i j k l : Int) (K : AV → List Blk → Ans) : evFn Tryd.prog GT EQT (inl Tryd.prog GT EQT XT [41, 43] T_vec_dot 120 2) XT noL 120 28 [.v (.agg [.int .i64 a, .int .i64 b, .int .i64 c, .int .i64 d, .int .i64 e, .int .i64 f]), .v (.agg [.int .i64 g, .int .i64 h, .int .i64 i, .int .i64 j, .int .i64 k, .int .i64 l])] [] (fun v M => K v (M.take ([] : List Blk).length)) = dotVAns K ⟨⟨a, b⟩, ⟨c, d⟩, ⟨e, f⟩⟩ ⟨⟨g, h⟩, ⟨i, j⟩, ⟨k, l⟩⟩ := by
  kernel_rfl
theorem c_vec_Dot (a b c d e f g h i j k l : Int) : CallsA Tryd.prog GT gbT 28 [.v (.agg [.int .i64 a, .int .i64 b, .int .i64 c, .int .i64 d, .int .i64 e, .int .i64 f]), .v (.agg [.int .i64 g, .int .i64 h, .int .i64 i, .int .i64 j, .int .i64 k, .int .i64 l])] [] (rFracE (dotV ⟨⟨a, b⟩, ⟨c, d⟩, ⟨e, f⟩⟩ ⟨⟨g, h⟩, ⟨i, j⟩, ⟨k, l⟩⟩)) [] := by
  refine CallsA.ofOk fun hok => ?_
  have hw := w_vec_Dot a b c d e f g h i j k l (fun v M => some (Res.fin v M))
  refine CallsA.ofEv (Γ := (inl Tryd.prog GT EQT XT [41, 43] T_vec_dot 120 2)) (X := XT) (Λ := noL) (EQ := EQT) (n := 120) (g_vec_dot.inl hEQT hmT (fun f hf => by simp only [List.mem_cons, List.not_mem_nil, or_false] at hf; rcases hf with rfl | rfl; exact (fun args w => Tryd.call41 args w); exact (fun args w => Tryd.call43 args w)) 120 2) hEQT hmT (fun _ _ _ _ => noL_ok _) (hw.trans ?_)
  have h_a := inR_i64 (hok (.int .i64 a) (by simp [datasL, datas]))
  have h_b := inR_i64 (hok (.int .i64 b) (by simp [datasL, datas]))
  have h_c := inR_i64 (hok (.int .i64 c) (by simp [datasL, datas]))
  have h_d := inR_i64 (hok (.int .i64 d) (by simp [datasL, datas]))
  have h_e := inR_i64 (hok (.int .i64 e) (by simp [datasL, datas]))
  have h_f := inR_i64 (hok (.int .i64 f) (by simp [datasL, datas]))
  have h_g := inR_i64 (hok (.int .i64 g) (by simp [datasL, datas]))
  have h_h := inR_i64 (hok (.int .i64 h) (by simp [datasL, datas]))
  have h_i := inR_i64 (hok (.int .i64 i) (by simp [datasL, datas]))
  have h_j := inR_i64 (hok (.int .i64 j) (by simp [datasL, datas]))
  have h_k := inR_i64 (hok (.int .i64 k) (by simp [datasL, datas]))
  have h_l := inR_i64 (hok (.int .i64 l) (by simp [datasL, datas]))
  clear hok hw
  exact dotVAns_ok (K := fun v M => some (Res.fin v M))
def s_vec_Dot : List AV → List Blk → (AV → List Blk → Ans) → Ans := fun xs bs K => match xs, bs with
  | [.v (.agg [.int .i64 a, .int .i64 b, .int .i64 c, .int .i64 d, .int .i64 e, .int .i64 f]), .v (.agg [.int .i64 g, .int .i64 h, .int .i64 i, .int .i64 j, .int .i64 k, .int .i64 l])], [] => K (rFracE (dotV ⟨⟨a, b⟩, ⟨c, d⟩, ⟨e, f⟩⟩ ⟨⟨g, h⟩, ⟨i, j⟩, ⟨k, l⟩⟩)) []
  | _, _ => none
def T_vec_Dot : Nat → List AV → List Blk → (AV → List Blk → Ans) → Ans := upd T_vec_dot 28 s_vec_Dot
theorem g_vec_Dot : GOK Tryd.prog GT gbT T_vec_Dot XT := by
  refine GOK.upd g_vec_dot (fun args w => Tryd.call28 args w) fun xs bs K r h => ?_
  unfold s_vec_Dot at h
  split at h
  · exact ⟨_, _, c_vec_Dot _ _ _ _ _ _ _ _ _ _ _ _, h⟩
  · cases h
theorem w_track_Along (a b c d e f g h i j k l : Int) (K : AV → List Blk → Ans) : evFn Tryd.prog GT EQT (inl Tryd.prog GT EQT XT [48, 50, 64] T_vec_Dot 120 2) XT noL 120 31 [.v (.agg [.int .i64 a, .int .i64 b, .int .i64 c, .int .i64 d, .int .i64 e, .int .i64 f]), .v (.agg [.int .i64 g, .int .i64 h, .int .i64 i, .int .i64 j, .int .i64 k, .int .i64 l])] [] (fun v M => K v (M.take ([] : List Blk).length)) = alongAns K ⟨⟨a, b⟩, ⟨c, d⟩, ⟨e, f⟩⟩ ⟨⟨g, h⟩, ⟨i, j⟩, ⟨k, l⟩⟩ := by
  kernel_rfl
theorem c_track_Along (a b c d e f g h i j k l : Int) : CallsA Tryd.prog GT gbT 31 [.v (.agg [.int .i64 a, .int .i64 b, .int .i64 c, .int .i64 d, .int .i64 e, .int .i64 f]), .v (.agg [.int .i64 g, .int .i64 h, .int .i64 i, .int .i64 j, .int .i64 k, .int .i64 l])] [] (rSpanE (alongS ⟨⟨a, b⟩, ⟨c, d⟩, ⟨e, f⟩⟩ ⟨⟨g, h⟩, ⟨i, j⟩, ⟨k, l⟩⟩)) [] := by
  refine CallsA.ofOk fun hok => ?_
  have hw := w_track_Along a b c d e f g h i j k l (fun v M => some (Res.fin v M))
  refine CallsA.ofEv (Γ := (inl Tryd.prog GT EQT XT [48, 50, 64] T_vec_Dot 120 2)) (X := XT) (Λ := noL) (EQ := EQT) (n := 120) (g_vec_Dot.inl hEQT hmT (fun f hf => by simp only [List.mem_cons, List.not_mem_nil, or_false] at hf; rcases hf with rfl | rfl | rfl; exact (fun args w => Tryd.call48 args w); exact (fun args w => Tryd.call50 args w); exact (fun args w => Tryd.call64 args w)) 120 2) hEQT hmT (fun _ _ _ _ => noL_ok _) (hw.trans ?_)
  have h_a := inR_i64 (hok (.int .i64 a) (by simp [datasL, datas]))
  have h_b := inR_i64 (hok (.int .i64 b) (by simp [datasL, datas]))
  have h_c := inR_i64 (hok (.int .i64 c) (by simp [datasL, datas]))
  have h_d := inR_i64 (hok (.int .i64 d) (by simp [datasL, datas]))
  have h_e := inR_i64 (hok (.int .i64 e) (by simp [datasL, datas]))
  have h_f := inR_i64 (hok (.int .i64 f) (by simp [datasL, datas]))
  have h_g := inR_i64 (hok (.int .i64 g) (by simp [datasL, datas]))
  have h_h := inR_i64 (hok (.int .i64 h) (by simp [datasL, datas]))
  have h_i := inR_i64 (hok (.int .i64 i) (by simp [datasL, datas]))
  have h_j := inR_i64 (hok (.int .i64 j) (by simp [datasL, datas]))
  have h_k := inR_i64 (hok (.int .i64 k) (by simp [datasL, datas]))
  have h_l := inR_i64 (hok (.int .i64 l) (by simp [datasL, datas]))
  clear hok hw
  exact alongAns_ok (K := fun v M => some (Res.fin v M))
def s_track_Along : List AV → List Blk → (AV → List Blk → Ans) → Ans := fun xs bs K => match xs, bs with
  | [.v (.agg [.int .i64 a, .int .i64 b, .int .i64 c, .int .i64 d, .int .i64 e, .int .i64 f]), .v (.agg [.int .i64 g, .int .i64 h, .int .i64 i, .int .i64 j, .int .i64 k, .int .i64 l])], [] => K (rSpanE (alongS ⟨⟨a, b⟩, ⟨c, d⟩, ⟨e, f⟩⟩ ⟨⟨g, h⟩, ⟨i, j⟩, ⟨k, l⟩⟩)) []
  | _, _ => none
def T_track_Along : Nat → List AV → List Blk → (AV → List Blk → Ans) → Ans := upd T_vec_Dot 31 s_track_Along
theorem g_track_Along : GOK Tryd.prog GT gbT T_track_Along XT := by
  refine GOK.upd g_vec_Dot (fun args w => Tryd.call31 args w) fun xs bs K r h => ?_
  unfold s_track_Along at h
  split at h
  · exact ⟨_, _, c_track_Along _ _ _ _ _ _ _ _ _ _ _ _, h⟩
  · cases h
abbrev T_named (s : ByteArray) (i : Int) : TS := maskT [(0, .v (.c (.d (.str s)))), (24, aint .i64 (s.size : Int)), (25, aint .i64 i), (2, .any)] 50
abbrev B_named (s : ByteArray) (i : Int) : TS := maskT [(0, .v (.c (.d (.str s)))), (24, aint .i64 (s.size : Int)), (25, aint .i64 i), (2, abool false)] 50
def f_named (T : TS) (M : List Blk) (N : Nat) : LT := match tget T 0, tget T 24, tget T 25 with
  | .v (.c (.d (.str s))), .v (.c (.d (.int .i64 n))), .v (.c (.d (.int .i64 i))) =>
    bif i == 0 then .br (n == (s.size : Int) && decide ((s.size : Int) ≤ 1000)) (.br (restOk s 0 s.size) (.st (.exit 0) (maskT [] 50) M N) (.st .ret (maskT [(2, abool false)] 50) M N)) .no else .no
  | _, _, _ => .no
def L_named := LamG 4 50 f_named
theorem b_named (s : ByteArray) (i : Int) (M : List Blk) (N : Nat) : evCode Tryd.prog GT EQT T_track_Along XT noL 40 (loopB Tryd.prog 33 0) (T_named s i) M N (fun x T M N => some (.st x (forget [0, 24, 25, 2] T) M N)) =
    bif decide (i < (s.size : Int)) then (bif decide (0 ≤ i) && decide (i < (s.size : Int)) then nameStep (byteAt s i) (some (.st .ret (B_named s i) M N)) (some (.st .normal (T_named s (w64 (i + 1))) M N)) else none)
    else some (.st (.exit 0) (T_named s i) M N) := by kernel_rfl
theorem LL_named : ∀ fn c, Tryd.prog.funcs[33]? = some fn → fn.body = some c → LOK Tryd.prog GT gbT L_named (loopsIn c) := by
  refine LOK.ofF fun b hb => ?_
  have e : loopsF Tryd.prog 33 = [loopB Tryd.prog 33 0] := by kernel_rfl
  have k0 : loopKey (loopB Tryd.prog 33 0) = 4 := by kernel_rfl
  rw [e, List.mem_singleton] at hb
  subst hb
  unfold L_named
  rw [← k0]
  refine LOKb.lamG fun T M N x T' M' N' hl hr => ?_
  unfold f_named at hr
  split at hr
  · rename_i s n i h0 h1 h2
    simp only [cond_eq_ite, beq_iff_eq] at hr
    split at hr
    · rename_i hi
      subst hi
      obtain ⟨hc, hr2⟩ := Or.resolve_right hr (fun h => h.2.elim)
      simp only [Bool.and_eq_true, beq_iff_eq, decide_eq_true_eq] at hc
      obtain ⟨rfl, hs⟩ := hc
      have hless : Less (T_named s 0) T := less_of' hl (by simp only [List.mem_cons, List.not_mem_nil, or_false]; intro p hp; rcases hp with rfl | rfl | rfl | rfl; exact .inl h0; exact .inl h1; exact .inl h2; exact .inr rfl)
      have hh := name_rounds (c := loopB Tryd.prog 33 0) (M := M) (NN := N) g_track_Along hEQT hmT s hs (fun i => T_named s i) (maskT [] 50) (maskT [(2, abool false)] 50) (fun i => less_of (by kernel_rfl) (by simp)) (fun i => B_named s i) (fun i => less_of (by kernel_rfl) (by simp; kernel_rfl)) (fun i => (b_named s i M N)) s.size 0 (by omega) (by omega)
      rcases hr2 with ⟨hd, rfl, rfl, rfl, rfl⟩ | ⟨hd, rfl, rfl, rfl, rfl⟩
      · obtain ⟨k, hk⟩ := hh.1 hd
        exact ⟨by simp, k, hk.less hless⟩
      · obtain ⟨k, hk⟩ := hh.2 hd
        exact ⟨by simp, k, hk.less hless⟩
    · exact hr.elim
  · exact hr.elim
theorem w_track_named (s : ByteArray) (K : AV → List Blk → Ans) : evFn Tryd.prog GT EQT T_track_Along XT L_named 60 33 [.v (.c (.d (.str s)))] [] (fun v M => K v (M.take ([] : List Blk).length)) = nameAns K s := by
  kernel_rfl
theorem c_track_named (s : ByteArray) : CallsA Tryd.prog GT gbT 33 [.v (.c (.d (.str s)))] [] (rB (namedB s)) [] := by
  refine CallsA.ofOk fun hok => ?_
  have hw := w_track_named s (fun v M => some (Res.fin v M))
  refine CallsA.ofEv (Γ := T_track_Along) (X := XT) (Λ := L_named) (EQ := EQT) (n := 60) g_track_Along hEQT hmT (LL_named) (hw.trans ?_)
  clear hok hw
  exact nameAns_ok (K := fun v M => some (Res.fin v M))
def s_track_named : List AV → List Blk → (AV → List Blk → Ans) → Ans := fun xs bs K => match xs, bs with
  | [.v (.c (.d (.str s)))], [] => K (rB (namedB s)) []
  | _, _ => none
def T_track_named : Nat → List AV → List Blk → (AV → List Blk → Ans) → Ans := upd T_track_Along 33 s_track_named
theorem g_track_named : GOK Tryd.prog GT gbT T_track_named XT := by
  refine GOK.upd g_track_Along (fun args w => Tryd.call33 args w) fun xs bs K r h => ?_
  unfold s_track_named at h
  split at h
  · exact ⟨_, _, c_track_named _, h⟩
  · cases h
theorem w_track_Check (nm : ByteArray) (ra dec : Int) (K : AV → List Blk → Ans) : evFn Tryd.prog GT EQT T_track_named XT noL 60 22 [.v (.agg [.str nm, .int .i64 ra, .int .i64 dec])] [] (fun v M => K v (M.take ([] : List Blk).length)) = K (rI (checkSrc ⟨nm, ra, dec⟩)) [] := by
  simp only [checkSrc, pullK K]
  kernel_rfl
theorem c_track_Check (nm : ByteArray) (ra dec : Int) : CallsA Tryd.prog GT gbT 22 [.v (.agg [.str nm, .int .i64 ra, .int .i64 dec])] [] (rI (checkSrc ⟨nm, ra, dec⟩)) [] := by
  refine CallsA.ofOk fun hok => ?_
  have hw := w_track_Check nm ra dec (fun v M => some (Res.fin v M))
  refine CallsA.ofEv (Γ := T_track_named) (X := XT) (Λ := noL) (EQ := EQT) (n := 60) g_track_named hEQT hmT (fun _ _ _ _ => noL_ok _) (hw.trans ?_)
  rfl
def s_track_Check : List AV → List Blk → (AV → List Blk → Ans) → Ans := fun xs bs K => match xs, bs with
  | [.v (.agg [.str nm, .int .i64 ra, .int .i64 dec])], [] => K (rI (checkSrc ⟨nm, ra, dec⟩)) []
  | _, _ => none
def T_track_Check : Nat → List AV → List Blk → (AV → List Blk → Ans) → Ans := upd T_track_named 22 s_track_Check
theorem g_track_Check : GOK Tryd.prog GT gbT T_track_Check XT := by
  refine GOK.upd g_track_named (fun args w => Tryd.call22 args w) fun xs bs K r h => ?_
  unfold s_track_Check at h
  split at h
  · exact ⟨_, _, c_track_Check _ _ _, h⟩
  · cases h
theorem w_track_circle (h : Int) (K : AV → List Blk → Ans) : evFn Tryd.prog GT EQT T_track_Check XT noL 60 36 [.v (.c (.d (.int .i64 h)))] [] (fun v M => K v (M.take ([] : List Blk).length)) = K (rSpan2 (sinT h, cosT h)) [] := by
  kernel_rfl
theorem c_track_circle (h : Int) : CallsA Tryd.prog GT gbT 36 [.v (.c (.d (.int .i64 h)))] [] (rSpan2 (sinT h, cosT h)) [] := by
  refine CallsA.ofOk fun hok => ?_
  have hw := w_track_circle h (fun v M => some (Res.fin v M))
  refine CallsA.ofEv (Γ := T_track_Check) (X := XT) (Λ := noL) (EQ := EQT) (n := 60) g_track_Check hEQT hmT (fun _ _ _ _ => noL_ok _) (hw.trans ?_)
  rfl
def s_track_circle : List AV → List Blk → (AV → List Blk → Ans) → Ans := fun xs bs K => match xs, bs with
  | [.v (.c (.d (.int .i64 h)))], [] => K (rSpan2 (sinT h, cosT h)) []
  | _, _ => none
def T_track_circle : Nat → List AV → List Blk → (AV → List Blk → Ans) → Ans := upd T_track_Check 36 s_track_circle
theorem g_track_circle : GOK Tryd.prog GT gbT T_track_circle XT := by
  refine GOK.upd g_track_Check (fun args w => Tryd.call36 args w) fun xs bs K r h => ?_
  unfold s_track_circle at h
  split at h
  · exact ⟨_, _, c_track_circle _, h⟩
  · cases h
theorem w_track_direction (nm : ByteArray) (ra dec t : Int) (K : AV → List Blk → Ans) : evFn Tryd.prog GT EQT T_track_circle XT noL 60 25 [.v (.agg [.str nm, .int .i64 ra, .int .i64 dec]), .v (.c (.d (.int .i64 t)))] [] (fun v M => K v (M.take ([] : List Blk).length)) = dirAns K ra dec t := by
  kernel_rfl
theorem c_track_direction (nm : ByteArray) (ra dec t : Int) (hd : (dirOn ra dec t) = true) : CallsA Tryd.prog GT gbT 25 [.v (.agg [.str nm, .int .i64 ra, .int .i64 dec]), .v (.c (.d (.int .i64 t)))] [] (rDirE (dirS ra dec t, 0)) [] := by
  refine CallsA.ofOk fun hok => ?_
  have hw := w_track_direction nm ra dec t (fun v M => some (Res.fin v M))
  refine CallsA.ofEv (Γ := T_track_circle) (X := XT) (Λ := noL) (EQ := EQT) (n := 60) g_track_circle hEQT hmT (fun _ _ _ _ => noL_ok _) (hw.trans ?_)
  have h_ra := inR_i64 (hok (.int .i64 ra) (by simp [datasL, datas]))
  have h_dec := inR_i64 (hok (.int .i64 dec) (by simp [datasL, datas]))
  have h_t := inR_i64 (hok (.int .i64 t) (by simp [datasL, datas]))
  clear hok hw
  exact dirAns_ok (K := fun v M => some (Res.fin v M)) hd
def s_track_direction : List AV → List Blk → (AV → List Blk → Ans) → Ans := fun xs bs K => match xs, bs with
  | [.v (.agg [.str _, .int .i64 ra, .int .i64 dec]), .v (.c (.d (.int .i64 t)))], [] => bif dirOn ra dec t then K (rDirE (dirS ra dec t, 0)) [] else none
  | _, _ => none
def T_track_direction : Nat → List AV → List Blk → (AV → List Blk → Ans) → Ans := upd T_track_circle 25 s_track_direction
theorem g_track_direction : GOK Tryd.prog GT gbT T_track_direction XT := by
  refine GOK.upd g_track_circle (fun args w => Tryd.call25 args w) fun xs bs K r h => ?_
  unfold s_track_direction at h
  split at h
  · simp only [cond_eq_ite] at h
    split at h
    · exact ⟨_, _, c_track_direction _ _ _ _ ‹_›, h⟩
    · cases h
  · cases h
theorem w_track_At (nm : ByteArray) (ra dec t : Int) (K : AV → List Blk → Ans) : evFn Tryd.prog GT EQT (inl Tryd.prog GT EQT XT [24] T_track_direction 60 1) XT noL 60 15 [.v (.agg [.str nm, .int .i64 ra, .int .i64 dec]), .v (.c (.d (.int .i64 t)))] [] (fun v M => K v (M.take ([] : List Blk).length)) = atAns K ⟨nm, ra, dec⟩ t := by
  kernel_rfl
theorem c_track_At (nm : ByteArray) (ra dec t : Int) : CallsA Tryd.prog GT gbT 15 [.v (.agg [.str nm, .int .i64 ra, .int .i64 dec]), .v (.c (.d (.int .i64 t)))] [] (rDirE (atS ⟨nm, ra, dec⟩ t)) [] := by
  refine CallsA.ofOk fun hok => ?_
  have hw := w_track_At nm ra dec t (fun v M => some (Res.fin v M))
  refine CallsA.ofEv (Γ := (inl Tryd.prog GT EQT XT [24] T_track_direction 60 1)) (X := XT) (Λ := noL) (EQ := EQT) (n := 60) (g_track_direction.inl hEQT hmT (fun f hf => by simp only [List.mem_cons, List.not_mem_nil, or_false] at hf; subst hf; exact (fun args w => Tryd.call24 args w)) 60 1) hEQT hmT (fun _ _ _ _ => noL_ok _) (hw.trans ?_)
  have h_ra := inR_i64 (hok (.int .i64 ra) (by simp [datasL, datas]))
  have h_dec := inR_i64 (hok (.int .i64 dec) (by simp [datasL, datas]))
  have h_t := inR_i64 (hok (.int .i64 t) (by simp [datasL, datas]))
  clear hok hw
  exact atAns_ok (K := fun v M => some (Res.fin v M))
def s_track_At : List AV → List Blk → (AV → List Blk → Ans) → Ans := fun xs bs K => match xs, bs with
  | [.v (.agg [.str nm, .int .i64 ra, .int .i64 dec]), .v (.c (.d (.int .i64 t)))], [] => K (rDirE (atS ⟨nm, ra, dec⟩ t)) []
  | _, _ => none
def T_track_At : Nat → List AV → List Blk → (AV → List Blk → Ans) → Ans := upd T_track_direction 15 s_track_At
theorem g_track_At : GOK Tryd.prog GT gbT T_track_At XT := by
  refine GOK.upd g_track_direction (fun args w => Tryd.call15 args w) fun xs bs K r h => ?_
  unfold s_track_At at h
  split at h
  · exact ⟨_, _, c_track_At _ _ _ _, h⟩
  · cases h
end Go.Ev

namespace Go.Ev
open Go Go.Proofs
theorem w_Q1_Of (n : Int) (K : AV → List Blk → Ans) : evFn Tryd.prog GT EQT T_track_At XT noL 60 5 [.v (.c (.d (.int .i64 n)))] [] (fun v M => K v (M.take ([] : List Blk).length)) = K (rFrac ⟨n, 1⟩) [] := by
  kernel_rfl
theorem c_Q1_Of (n : Int) : CallsA Tryd.prog GT gbT 5 [.v (.c (.d (.int .i64 n)))] [] (rFrac ⟨n, 1⟩) [] := by
  refine CallsA.ofOk fun hok => ?_
  have hw := w_Q1_Of n (fun v M => some (Res.fin v M))
  refine CallsA.ofEv (Γ := T_track_At) (X := XT) (Λ := noL) (EQ := EQT) (n := 60) g_track_At hEQT hmT (fun _ _ _ _ => noL_ok _) (hw.trans ?_)
  rfl
def s_Q1_Of : List AV → List Blk → (AV → List Blk → Ans) → Ans := fun xs bs K => match xs, bs with
  | [.v (.c (.d (.int .i64 n)))], [] => K (rFrac ⟨n, 1⟩) []
  | _, _ => none
def T_Q1_Of : Nat → List AV → List Blk → (AV → List Blk → Ans) → Ans := upd T_track_At 5 s_Q1_Of
theorem g_Q1_Of : GOK Tryd.prog GT gbT T_Q1_Of XT := by
  refine GOK.upd g_track_At (fun args w => Tryd.call5 args w) fun xs bs K r h => ?_
  unfold s_Q1_Of at h
  split at h
  · exact ⟨_, _, c_Q1_Of _, h⟩
  · cases h
theorem w_frac_Make (n d : Int) (K : AV → List Blk → Ans) : evFn Tryd.prog GT EQT T_Q1_Of XT noL 60 37 [.v (.c (.d (.int .i64 n))), .v (.c (.d (.int .i64 d)))] [] (fun v M => K v (M.take ([] : List Blk).length)) = makePAns K n d := by
  kernel_rfl
theorem c_frac_Make (n d : Int) : CallsA Tryd.prog GT gbT 37 [.v (.c (.d (.int .i64 n))), .v (.c (.d (.int .i64 d)))] [] (rFracE (makeF n d)) [] := by
  refine CallsA.ofOk fun hok => ?_
  have hw := w_frac_Make n d (fun v M => some (Res.fin v M))
  refine CallsA.ofEv (Γ := T_Q1_Of) (X := XT) (Λ := noL) (EQ := EQT) (n := 60) g_Q1_Of hEQT hmT (fun _ _ _ _ => noL_ok _) (hw.trans ?_)
  have h_n := inR_i64 (hok (.int .i64 n) (by simp [datasL, datas]))
  have h_d := inR_i64 (hok (.int .i64 d) (by simp [datasL, datas]))
  clear hok hw
  exact makePAns_ok (K := fun v M => some (Res.fin v M)) h_n h_d
def s_frac_Make : List AV → List Blk → (AV → List Blk → Ans) → Ans := fun xs bs K => match xs, bs with
  | [.v (.c (.d (.int .i64 n))), .v (.c (.d (.int .i64 d)))], [] => K (rFracE (makeF n d)) []
  | _, _ => none
def T_frac_Make : Nat → List AV → List Blk → (AV → List Blk → Ans) → Ans := upd T_Q1_Of 37 s_frac_Make
theorem g_frac_Make : GOK Tryd.prog GT gbT T_frac_Make XT := by
  refine GOK.upd g_Q1_Of (fun args w => Tryd.call37 args w) fun xs bs K r h => ?_
  unfold s_frac_Make at h
  split at h
  · exact ⟨_, _, c_frac_Make _ _, h⟩
  · cases h
theorem w_geoid_Check (g1 g2 : Int) (K : AV → List Blk → Ans) : evFn Tryd.prog GT EQT T_frac_Make XT noL 60 51 [.v (.agg [.int .i64 g1, .int .i64 g2])] [] (fun v M => K v (M.take ([] : List Blk).length)) = K (rI (checkGRaw ⟨g1, g2⟩)) [] := by
  simp only [checkGRaw, pullK K]
  kernel_rfl
theorem c_geoid_Check (g1 g2 : Int) : CallsA Tryd.prog GT gbT 51 [.v (.agg [.int .i64 g1, .int .i64 g2])] [] (rI (checkG ⟨g1, g2⟩)) [] := by
  refine CallsA.ofOk fun hok => ?_
  have hw := w_geoid_Check g1 g2 (fun v M => some (Res.fin v M))
  refine CallsA.ofEv (Γ := T_frac_Make) (X := XT) (Λ := noL) (EQ := EQT) (n := 60) g_frac_Make hEQT hmT (fun _ _ _ _ => noL_ok _) (hw.trans ?_)
  have h_g1 := inR_i64 (hok (.int .i64 g1) (by simp [datasL, datas]))
  have h_g2 := inR_i64 (hok (.int .i64 g2) (by simp [datasL, datas]))
  clear hok hw
  refine congrArg (fun v => some (Res.fin v [])) ?_
  rw [checkGRaw_ok]
def s_geoid_Check : List AV → List Blk → (AV → List Blk → Ans) → Ans := fun xs bs K => match xs, bs with
  | [.v (.agg [.int .i64 g1, .int .i64 g2])], [] => K (rI (checkG ⟨g1, g2⟩)) []
  | _, _ => none
def T_geoid_Check : Nat → List AV → List Blk → (AV → List Blk → Ans) → Ans := upd T_frac_Make 51 s_geoid_Check
theorem g_geoid_Check : GOK Tryd.prog GT gbT T_geoid_Check XT := by
  refine GOK.upd g_frac_Make (fun args w => Tryd.call51 args w) fun xs bs K r h => ?_
  unfold s_geoid_Check at h
  split at h
  · exact ⟨_, _, c_geoid_Check _ _, h⟩
  · cases h
theorem w_geoid_param (f1 f2 : Int) (K : AV → List Blk → Ans) : evFn Tryd.prog GT EQT T_geoid_Check XT noL 60 67 [.v (.agg [.int .i64 f1, .int .i64 f2])] [] (fun v M => K v (M.take ([] : List Blk).length)) = paramAns K ⟨f1, f2⟩ := by
  kernel_rfl
theorem c_geoid_param (f1 f2 : Int) : CallsA Tryd.prog GT gbT 67 [.v (.agg [.int .i64 f1, .int .i64 f2])] [] (rB (paramB ⟨f1, f2⟩)) [] := by
  refine CallsA.ofOk fun hok => ?_
  have hw := w_geoid_param f1 f2 (fun v M => some (Res.fin v M))
  refine CallsA.ofEv (Γ := T_geoid_Check) (X := XT) (Λ := noL) (EQ := EQT) (n := 60) g_geoid_Check hEQT hmT (fun _ _ _ _ => noL_ok _) (hw.trans ?_)
  have h_f1 := inR_i64 (hok (.int .i64 f1) (by simp [datasL, datas]))
  have h_f2 := inR_i64 (hok (.int .i64 f2) (by simp [datasL, datas]))
  clear hok hw
  exact paramAns_ok (K := fun v M => some (Res.fin v M))
def s_geoid_param : List AV → List Blk → (AV → List Blk → Ans) → Ans := fun xs bs K => match xs, bs with
  | [.v (.agg [.int .i64 f1, .int .i64 f2])], [] => K (rB (paramB ⟨f1, f2⟩)) []
  | _, _ => none
def T_geoid_param : Nat → List AV → List Blk → (AV → List Blk → Ans) → Ans := upd T_geoid_Check 67 s_geoid_param
theorem g_geoid_param : GOK Tryd.prog GT gbT T_geoid_param XT := by
  refine GOK.upd g_geoid_Check (fun args w => Tryd.call67 args w) fun xs bs K r h => ?_
  unfold s_geoid_param at h
  split at h
  · exact ⟨_, _, c_geoid_param _ _, h⟩
  · cases h
theorem w_geoid_whole (n : Int) (K : AV → List Blk → Ans) : evFn Tryd.prog GT EQT T_geoid_param XT noL 60 69 [.v (.c (.d (.int .i64 n)))] [] (fun v M => K v (M.take ([] : List Blk).length)) = K (rFrac (wholeF n)) [] := by
  kernel_rfl
theorem c_geoid_whole (n : Int) : CallsA Tryd.prog GT gbT 69 [.v (.c (.d (.int .i64 n)))] [] (rFrac (wholeF n)) [] := by
  refine CallsA.ofOk fun hok => ?_
  have hw := w_geoid_whole n (fun v M => some (Res.fin v M))
  refine CallsA.ofEv (Γ := T_geoid_param) (X := XT) (Λ := noL) (EQ := EQT) (n := 60) g_geoid_param hEQT hmT (fun _ _ _ _ => noL_ok _) (hw.trans ?_)
  rfl
def s_geoid_whole : List AV → List Blk → (AV → List Blk → Ans) → Ans := fun xs bs K => match xs, bs with
  | [.v (.c (.d (.int .i64 n)))], [] => K (rFrac (wholeF n)) []
  | _, _ => none
def T_geoid_whole : Nat → List AV → List Blk → (AV → List Blk → Ans) → Ans := upd T_geoid_param 69 s_geoid_whole
theorem g_geoid_whole : GOK Tryd.prog GT gbT T_geoid_whole XT := by
  refine GOK.upd g_geoid_param (fun args w => Tryd.call69 args w) fun xs bs K r h => ?_
  unfold s_geoid_whole at h
  split at h
  · exact ⟨_, _, c_geoid_whole _, h⟩
  · cases h
theorem w_geoid_around (u1 u2 : Int) (K : AV → List Blk → Ans) : evFn Tryd.prog GT EQT T_geoid_whole XT noL 60 68 [.v (.agg [.int .i64 u1, .int .i64 u2])] [] (fun v M => K v (M.take ([] : List Blk).length)) = aroundRaw K ⟨u1, u2⟩ := by
  kernel_rfl
theorem c_geoid_around (u1 u2 : Int) (hd : (paramB ⟨u1, u2⟩) = true) : CallsA Tryd.prog GT gbT 68 [.v (.agg [.int .i64 u1, .int .i64 u2])] [] (rFF (cosU ⟨u1, u2⟩) (sinU ⟨u1, u2⟩)) [] := by
  refine CallsA.ofOk fun hok => ?_
  have hw := w_geoid_around u1 u2 (fun v M => some (Res.fin v M))
  refine CallsA.ofEv (Γ := T_geoid_whole) (X := XT) (Λ := noL) (EQ := EQT) (n := 60) g_geoid_whole hEQT hmT (fun _ _ _ _ => noL_ok _) (hw.trans ?_)
  have h_u1 := inR_i64 (hok (.int .i64 u1) (by simp [datasL, datas]))
  have h_u2 := inR_i64 (hok (.int .i64 u2) (by simp [datasL, datas]))
  clear hok hw
  exact around_ok (K := fun v M => some (Res.fin v M)) (paramB_iff.1 hd)
def s_geoid_around : List AV → List Blk → (AV → List Blk → Ans) → Ans := fun xs bs K => match xs, bs with
  | [.v (.agg [.int .i64 u1, .int .i64 u2])], [] => bif paramB ⟨u1, u2⟩ then K (rFF (cosU ⟨u1, u2⟩) (sinU ⟨u1, u2⟩)) [] else none
  | _, _ => none
def T_geoid_around : Nat → List AV → List Blk → (AV → List Blk → Ans) → Ans := upd T_geoid_whole 68 s_geoid_around
theorem g_geoid_around : GOK Tryd.prog GT gbT T_geoid_around XT := by
  refine GOK.upd g_geoid_whole (fun args w => Tryd.call68 args w) fun xs bs K r h => ?_
  unfold s_geoid_around at h
  split at h
  · simp only [cond_eq_ite] at h
    split at h
    · exact ⟨_, _, c_geoid_around _ _ ‹_›, h⟩
    · cases h
  · cases h
theorem w_geoid_At (g1 g2 s1 s2 t1 t2 : Int) (K : AV → List Blk → Ans) : evFn Tryd.prog GT EQT T_geoid_around XT noL 100 53 [.v (.agg [.int .i64 g1, .int .i64 g2]), .v (.agg [.int .i64 s1, .int .i64 s2]), .v (.agg [.int .i64 t1, .int .i64 t2])] [] (fun v M => K v (M.take ([] : List Blk).length)) = atGAns K ⟨g1, g2⟩ ⟨s1, s2⟩ ⟨t1, t2⟩ := by
  kernel_rfl
theorem c_geoid_At (g1 g2 s1 s2 t1 t2 : Int) : CallsA Tryd.prog GT gbT 53 [.v (.agg [.int .i64 g1, .int .i64 g2]), .v (.agg [.int .i64 s1, .int .i64 s2]), .v (.agg [.int .i64 t1, .int .i64 t2])] [] (rVecE (atV ⟨g1, g2⟩ ⟨s1, s2⟩ ⟨t1, t2⟩)) [] := by
  refine CallsA.ofOk fun hok => ?_
  have hw := w_geoid_At g1 g2 s1 s2 t1 t2 (fun v M => some (Res.fin v M))
  refine CallsA.ofEv (Γ := T_geoid_around) (X := XT) (Λ := noL) (EQ := EQT) (n := 100) g_geoid_around hEQT hmT (fun _ _ _ _ => noL_ok _) (hw.trans ?_)
  have h_g1 := inR_i64 (hok (.int .i64 g1) (by simp [datasL, datas]))
  have h_g2 := inR_i64 (hok (.int .i64 g2) (by simp [datasL, datas]))
  have h_s1 := inR_i64 (hok (.int .i64 s1) (by simp [datasL, datas]))
  have h_s2 := inR_i64 (hok (.int .i64 s2) (by simp [datasL, datas]))
  have h_t1 := inR_i64 (hok (.int .i64 t1) (by simp [datasL, datas]))
  have h_t2 := inR_i64 (hok (.int .i64 t2) (by simp [datasL, datas]))
  clear hok hw
  exact atGAns_ok (K := fun v M => some (Res.fin v M))
def s_geoid_At : List AV → List Blk → (AV → List Blk → Ans) → Ans := fun xs bs K => match xs, bs with
  | [.v (.agg [.int .i64 g1, .int .i64 g2]), .v (.agg [.int .i64 s1, .int .i64 s2]), .v (.agg [.int .i64 t1, .int .i64 t2])], [] => K (rVecE (atV ⟨g1, g2⟩ ⟨s1, s2⟩ ⟨t1, t2⟩)) []
  | _, _ => none
def T_geoid_At : Nat → List AV → List Blk → (AV → List Blk → Ans) → Ans := upd T_geoid_around 53 s_geoid_At
theorem g_geoid_At : GOK Tryd.prog GT gbT T_geoid_At XT := by
  refine GOK.upd g_geoid_around (fun args w => Tryd.call53 args w) fun xs bs K r h => ?_
  unfold s_geoid_At at h
  split at h
  · exact ⟨_, _, c_geoid_At _ _ _ _ _ _, h⟩
  · cases h
end Go.Ev

