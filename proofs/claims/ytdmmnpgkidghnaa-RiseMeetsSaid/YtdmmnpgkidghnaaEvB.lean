/-
  The evaluator's operations are sound: what an operation comes to is what the model's operation does. No condition beyond those of the statements.
-/
import Derived.Test.YtdmmnpgkidghnaaEvA
namespace Go.Ev
open Go

def sgSet (σ : Sg) (N : Nat) (L : Loc) : Sg := fun b => if b = N then some L else σ b

theorem sgSet_le {σ : Sg} {N : Nat} {L : Loc} (h : σ N = none) : σ.le (sgSet σ N L) := by
  intro b K hb
  unfold sgSet
  split
  · rename_i e; subst e; rw [h] at hb; cases hb
  · exact hb

theorem sgSet_self (σ : Sg) (N : Nat) (L : Loc) : sgSet σ N L N = some L := by simp [sgSet]
theorem sgSet_ne (σ : Sg) (N : Nat) (L : Loc) (b : Nat) (h : b ≠ N) : sgSet σ N L b = σ b := by simp [sgSet, h]

theorem MRel.dead {w0 : World} {W : Nat → Prop} {σ : Sg} {M : List Blk} {w : World} (h : MRel w0 W σ M w) {N : Nat} (hN : σ N = none) : mget M N = .dead := by
  have := h.blk N
  cases hm : mget M N with
  | dead => rfl
  | ro l => rw [hm] at this; obtain ⟨L, h1, _⟩ := this; rw [hN] at h1; cases h1
  | rw t l => rw [hm] at this; obtain ⟨L, cur, h1, _⟩ := this; rw [hN] at h1; cases h1
  | arr own τ xs => rw [hm] at this; obtain ⟨L, h1, _⟩ := this; rw [hN] at h1; cases h1
  | cell t c => rw [hm] at this; obtain ⟨L, v, h1, _⟩ := this; rw [hN] at h1; cases h1

/-- A block that may be written lies in memory. -/
theorem MRel.wr_lt {w0 : World} {W : Nat → Prop} {σ : Sg} {M : List Blk} {w : World} (h : MRel w0 W σ M w) {b : Nat} {L : Loc} (hb : (mget M b).wr = true) (hL : σ b = some L) : L.blk < w.heap.size :=
  (h.blk b).live_lt (wr_live hb) hL

theorem MRel.rw_lt {w0 : World} {W : Nat → Prop} {σ : Sg} {M : List Blk} {w : World} (h : MRel w0 W σ M w) {b t : Nat} {l : List D} {L : Loc} (hb : mget M b = .rw t l) (hL : σ b = some L) : L.blk < w.heap.size :=
  h.wr_lt (by rw [hb]; rfl) hL

/-- MRel speaks of the blocks one by one. -/
theorem MRel.congr {w0 : World} {W : Nat → Prop} {σ : Sg} {M M' : List Blk} {w : World} (h : MRel w0 W σ M w) (he : ∀ b, mget M' b = mget M b ∨ mget M' b = .dead) : MRel w0 W σ M' w := by
  have k1 : ∀ b, (mget M' b).wr = true → (mget M b).wr = true := fun b hb => by rcases he b with e | e; rw [← e]; exact hb; rw [e] at hb; cases hb
  have k2 : ∀ b, (mget M' b).live = true → (mget M b).live = true := fun b hb => by rcases he b with e | e; rw [← e]; exact hb; rw [e] at hb; cases hb
  refine ⟨fun b => ?_, fun b b' L L' hne hb hb' hL hL' => h.sep b b' L L' hne (k1 b hb) (k2 b' hb') hL hL', fun b L hb hL => h.own b L (k1 b hb) hL, h.kept⟩
  rcases he b with e | e
  · rw [e]; exact h.blk b
  · rw [e]; trivial

theorem heap_push_lt (w : World) (o : Obj) (k : Nat) (h : k < w.heap.size) : (w.heap.push o)[k]? = w.heap[k]? := by
  rw [Array.getElem?_push, if_neg (by omega)]

theorem alloc_heap (w : World) (o : Obj) : (w.alloc o).heap = w.heap.push o := rfl

/-- A block under a new number: the block lies in no other one's place. -/
theorem MRel.put {w0 : World} {W : Nat → Prop} {σ : Sg} {M : List Blk} {w w' : World} (h : MRel w0 W σ M w) {N : Nat} (hN : σ N = none) (y : Blk) (L : Loc) (hB : BRel (sgSet σ N L) N y w')
    (hk : ∀ c K, (mget M c).live = true → σ c = some K → K.blk < w.heap.size → w'.heap[K.blk]? = w.heap[K.blk]?) (hkept : Kept W w0 w') (h0 : y.wr = true → W L.blk ∨ w0.heap.size ≤ L.blk)
    (hfar : y.live = true → ∀ c K, (mget M c).wr = true → σ c = some K → K.blk ≠ L.blk) (hfar' : y.wr = true → ∀ c K, (mget M c).live = true → σ c = some K → K.blk ≠ L.blk) :
    MRel w0 W (sgSet σ N L) (mput M N y) w' := by
  refine ⟨fun b => ?_, fun b b' L1 L2 hne hb hb' hL1 hL2 => ?_, fun b L1 hb hL1 => ?_, hkept⟩
  · rw [mget_mput]
    by_cases e : b = N
    · subst e
      rw [if_pos rfl]
      exact hB
    · rw [if_neg e]
      exact ((h.blk b).of_block (fun K hK hl hlt => hk b K hl hK hlt)).mono (sgSet_le hN)
  · rw [mget_mput] at hb hb'
    by_cases e : b = N
    · subst e
      rw [sgSet_self] at hL1
      cases hL1
      rw [if_pos rfl] at hb
      rw [if_neg (Ne.symm hne)] at hb'
      rw [sgSet_ne _ _ _ _ (Ne.symm hne)] at hL2
      exact (hfar' hb b' L2 hb' hL2).symm
    · rw [if_neg e] at hb
      rw [sgSet_ne _ _ _ _ e] at hL1
      by_cases e' : b' = N
      · subst e'
        rw [sgSet_self] at hL2
        cases hL2
        rw [if_pos rfl] at hb'
        exact hfar hb' b L1 hb hL1
      · rw [if_neg e'] at hb'
        rw [sgSet_ne _ _ _ _ e'] at hL2
        exact h.sep b b' L1 L2 hne hb hb' hL1 hL2
  · rw [mget_mput] at hb
    by_cases e : b = N
    · subst e
      rw [sgSet_self] at hL1
      cases hL1
      rw [if_pos rfl] at hb
      exact h0 hb
    · rw [if_neg e] at hb
      rw [sgSet_ne _ _ _ _ e] at hL1
      exact h.own b L1 hb hL1

/-- A new block of the call's own, of whatever kind. -/
theorem MRel.new {w0 : World} {W : Nat → Prop} {σ : Sg} {M : List Blk} {w : World} (h : MRel w0 W σ M w) {N : Nat} (hN : σ N = none) (y : Blk) (L : Loc) (hL : L.blk = w.heap.size) (o : Obj) (w' : World) (hw : w'.heap = w.heap.push o) (ho : w'.os = w.os) (ht : w'.tape = w.tape) (hu : w'.output = w.output)
    (hB : BRel (sgSet σ N L) N y w') : MRel w0 W (sgSet σ N L) (mput M N y) w' := by
  have hk : ∀ k, k < w.heap.size → w'.heap[k]? = w.heap[k]? := fun k hk => by rw [hw]; exact heap_push_lt w _ k hk
  refine h.put hN y L hB (fun _ _ _ _ hlt => hk _ hlt) (h.kept.trans ⟨ho, ht, hu, by rw [hw]; simp, fun k hk' _ => hk k hk'⟩) (fun _ => .inr (by rw [hL]; exact h.kept.size)) (fun _ c K hc hK => ?_) fun _ c K hc hK => ?_
  · have := h.wr_lt hc hK
    omega
  · have := (h.blk c).live_lt hc hK
    omega

theorem MRel.alloc {w0 : World} {W : Nat → Prop} {σ : Sg} {M : List Blk} {w : World} (h : MRel w0 W σ M w) {N : Nat} (hN : σ N = none) (t : Nat) (l : List D) (cur : Array Value)
    (hcur : cur.toList.take l.length = l.map D.val) (hok : ∀ d ∈ l, d.ok) (w' : World) (hw : w'.heap = w.heap.push (.cells cur t (0, 0))) (ho : w'.os = w.os) (ht : w'.tape = w.tape) (hu : w'.output = w.output) :
    MRel w0 W (sgSet σ N ⟨w.heap.size, 0, cur.size, true, 0, 0⟩) (mput M N (.rw t l)) w' :=
  h.new hN _ _ rfl _ w' hw ho ht hu ⟨_, cur, sgSet_self _ _ _, rfl, rfl, by rw [hw]; simp, rfl, hok, hcur⟩

/-- A new array of open length. -/
theorem MRel.allocA {w0 : World} {W : Nat → Prop} {σ : Sg} {M : List Blk} {w : World} (h : MRel w0 W σ M w) {N : Nat} (hN : σ N = none) (t : Nat) (τ : ET) (xs : List τ.T) (cur : Array Value)
    (hcur : cur.toList.take (τ.flat xs).length = (τ.flat xs).map D.val) (hok : ∀ d ∈ τ.flat xs, d.ok) (w' : World) (hw : w'.heap = w.heap.push (.cells cur t (0, 0))) (ho : w'.os = w.os) (ht : w'.tape = w.tape) (hu : w'.output = w.output) :
    MRel w0 W (sgSet σ N ⟨w.heap.size, 0, cur.size, true, xs.length, τ.len⟩) (mput M N (.arr (some t) τ xs)) w' :=
  h.new hN _ _ rfl _ w' hw ho ht hu ⟨_, sgSet_self _ _ _, rfl, rfl, hok, rfl, rfl, .inr ⟨cur, by rw [hw]; simp, rfl, hcur⟩⟩

/-- A block of the call's own is written. -/
theorem MRel.write {w0 : World} {W : Nat → Prop} {σ : Sg} {M : List Blk} {w : World} (h : MRel w0 W σ M w) {b : Nat} (hb : (mget M b).wr = true) {L : Loc} (hL : σ b = some L) (y : Blk)
    (w' : World) (hB : BRel σ b y w') (hoth : ∀ k, k ≠ L.blk → w'.heap[k]? = w.heap[k]?) (hs : w'.heap.size = w.heap.size) (ho : w'.os = w.os) (ht : w'.tape = w.tape) (hu : w'.output = w.output) :
    MRel w0 W σ (mput M b y) w' := by
  have k1 : ∀ c, (mget (mput M b y) c).wr = true → (mget M c).wr = true := by
    intro c hc
    rw [mget_mput] at hc
    by_cases e : c = b
    · subst e; exact hb
    · rw [if_neg e] at hc; exact hc
  have k2 : ∀ c, (mget (mput M b y) c).live = true → (mget M c).live = true := by
    intro c hc
    rw [mget_mput] at hc
    by_cases e : c = b
    · subst e; exact wr_live hb
    · rw [if_neg e] at hc; exact hc
  refine ⟨fun c => ?_, fun c c' L1 L2 hne hc hc' hL1 hL2 => h.sep c c' L1 L2 hne (k1 c hc) (k2 c' hc') hL1 hL2, fun c L1 hc hL1 => h.own c L1 (k1 c hc) hL1, ?_⟩
  · rw [mget_mput]
    by_cases e : c = b
    · subst e
      rw [if_pos rfl]
      exact hB
    · rw [if_neg e]
      refine (h.blk c).of_block fun L1 hL1 hlive _ => hoth _ ?_
      exact fun e1 => h.sep b c L L1 (Ne.symm e) hb hlive hL hL1 e1.symm
  · have hlt := h.wr_lt hb hL
    refine h.kept.trans' (V := fun k => k = L.blk) ⟨ho, ht, hu, by omega, fun k _ hk => hoth k hk⟩ fun k hk => ?_
    subst hk
    exact h.own b L hb hL

theorem MRel.store {w0 : World} {W : Nat → Prop} {σ : Sg} {M : List Blk} {w : World} (h : MRel w0 W σ M w) {b t : Nat} {l l' : List D} (hb : mget M b = .rw t l) {L : Loc} (hL : σ b = some L)
    {cur' : Array Value} (w' : World) (hat : w'.heap[L.blk]? = some (.cells cur' t (0, 0))) (hsz : cur'.size = L.size) (hcur : cur'.toList.take l'.length = l'.map D.val) (hok : ∀ d ∈ l', d.ok)
    (hoth : ∀ k, k ≠ L.blk → w'.heap[k]? = w.heap[k]?) (hs : w'.heap.size = w.heap.size) (ho : w'.os = w.os) (ht : w'.tape = w.tape) (hu : w'.output = w.output) :
    MRel w0 W σ (mput M b (.rw t l')) w' := by
  have hBb := h.blk b
  rw [hb] at hBb
  obtain ⟨L0, cur, h1, h2, h3, _⟩ := hBb
  rw [hL] at h1
  cases h1
  exact h.write (by rw [hb]; rfl) hL _ w' ⟨L, cur', hL, h2, h3, hat, hsz, hok, hcur⟩ hoth hs ho ht hu

/-- A block of the call's own under a new number, perhaps as another block in the same place. -/
theorem MRel.movedTo {w0 : World} {W : Nat → Prop} {σ : Sg} {M : List Blk} {w : World} (h : MRel w0 W σ M w) {b N : Nat} (hb : (mget M b).wr = true) {L L' : Loc} (hL : σ b = some L) (hN : σ N = none) (hp : L'.blk = L.blk) (y : Blk)
    (hB : BRel (sgSet σ N L') N y w) : MRel w0 W (sgSet σ N L') (mput (mput M b .dead) N y) w := by
  have h' : MRel w0 W σ (mput M b .dead) w := h.congr fun c => by rw [mget_mput]; split; exact .inr rfl; exact .inl rfl
  have get : ∀ c, c ≠ b → mget (mput M b .dead) c = mget M c := fun c e => by rw [mget_mput, if_neg e]
  refine h'.put hN y L' hB (fun _ _ _ _ _ => rfl) h'.kept (fun _ => by rw [hp]; exact h.own b L hb hL) (fun _ c K hc hK => ?_) fun _ c K hc hK => ?_
  · by_cases e : c = b
    · subst e; rw [mget_mput, if_pos rfl] at hc; cases hc
    · rw [get c e] at hc
      rw [hp]
      exact h.sep c b K L e hc (wr_live hb) hK hL
  · by_cases e : c = b
    · subst e; rw [mget_mput, if_pos rfl] at hc; cases hc
    · rw [get c e] at hc
      rw [hp]
      exact (h.sep b c L K (Ne.symm e) hb hc hL hK).symm

theorem MRel.moved {w0 : World} {W : Nat → Prop} {σ : Sg} {M : List Blk} {w : World} (h : MRel w0 W σ M w) {b N t : Nat} {l : List D} (hb : mget M b = .rw t l) {L : Loc} (hL : σ b = some L) (hN : σ N = none) :
    MRel w0 W (sgSet σ N L) (mput (mput M b .dead) N (.rw t l)) w := by
  have hBb := h.blk b
  rw [hb] at hBb
  obtain ⟨L', cur, h1, h2⟩ := hBb
  rw [hL] at h1
  cases h1
  exact h.movedTo (by rw [hb]; rfl) hL hN rfl _ ⟨L, cur, sgSet_self _ _ _, h2⟩

end Go.Ev
