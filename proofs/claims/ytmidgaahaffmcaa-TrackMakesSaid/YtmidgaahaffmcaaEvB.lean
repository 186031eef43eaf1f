/-
  The evaluator's operations are sound: what an operation comes to is what the model's operation does. No condition beyond those of the statements.
-/
import Derived.Test.YtmidgaahaffmcaaEvA
namespace Go.Ev
open Go

def sgSet (σ : Sg) (N : Nat) (L : Loc) : Sg := fun b => if b = N then some L else σ b

theorem sgSet_le {σ : Sg} {N : Nat} {L : Loc} (h : σ N = none) : σ.le (sgSet σ N L) := by
  intro b K hb
  unfold sgSet
  split
  · rename_i e; subst e; rw [h] at hb; cases hb
  · exact hb

theorem sgSet_self (σ : Sg) (N : Nat) (L : Loc) : sgSet σ N L N = some L := by simp [sgSet]
theorem sgSet_ne (σ : Sg) (N : Nat) (L : Loc) (b : Nat) (h : b ≠ N) : sgSet σ N L b = σ b := by simp [sgSet, h]

theorem MRel.dead {w0 : World} {W : Nat → Prop} {σ : Sg} {M : List Blk} {w : World} (h : MRel w0 W σ M w) {N : Nat} (hN : σ N = none) : mget M N = .dead := by
  have := h.blk N
  cases hm : mget M N with
  | dead => rfl
  | ro l => rw [hm] at this; obtain ⟨L, h1, _⟩ := this; rw [hN] at h1; cases h1
  | rw t l => rw [hm] at this; obtain ⟨L, cur, h1, _⟩ := this; rw [hN] at h1; cases h1

/-- A live block lies in memory, if it has a cell or may be written. -/
theorem MRel.rw_lt {w0 : World} {W : Nat → Prop} {σ : Sg} {M : List Blk} {w : World} (h : MRel w0 W σ M w) {b t : Nat} {l : List D} {L : Loc} (hb : mget M b = .rw t l) (hL : σ b = some L) : L.blk < w.heap.size := by
  have := h.blk b
  rw [hb] at this
  exact this.lt hL

/-- MRel speaks of the blocks one by one. -/
theorem MRel.congr {w0 : World} {W : Nat → Prop} {σ : Sg} {M M' : List Blk} {w : World} (h : MRel w0 W σ M w) (he : ∀ b, mget M' b = mget M b ∨ mget M' b = .dead) : MRel w0 W σ M' w := by
  refine ⟨fun b => ?_, fun b b' t l L L' hne hb hb' hL hL' => ?_, fun b t l L hb hL => ?_, h.kept⟩
  · rcases he b with e | e
    · rw [e]; exact h.blk b
    · rw [e]; trivial
  · have e1 : mget M b = .rw t l := by rcases he b with e | e; rw [← e]; exact hb; rw [e] at hb; cases hb
    have e2 : (mget M b').live = true := by rcases he b' with e | e; rw [← e]; exact hb'; rw [e] at hb'; cases hb'
    exact h.sep b b' t l L L' hne e1 e2 hL hL'
  · have e1 : mget M b = .rw t l := by rcases he b with e | e; rw [← e]; exact hb; rw [e] at hb; cases hb
    exact h.own b t l L e1 hL

theorem heap_push_lt (w : World) (o : Obj) (k : Nat) (h : k < w.heap.size) : (w.heap.push o)[k]? = w.heap[k]? := by
  rw [Array.getElem?_push, if_neg (by omega)]

theorem alloc_heap (w : World) (o : Obj) : (w.alloc o).heap = w.heap.push o := rfl

/-- A new block of the call's own. -/
theorem MRel.alloc {w0 : World} {W : Nat → Prop} {σ : Sg} {M : List Blk} {w : World} (h : MRel w0 W σ M w) {N : Nat} (hN : σ N = none) (t : Nat) (l : List D) (cur : Array Value)
    (hcur : cur.toList.take l.length = l.map D.val) (hok : ∀ d ∈ l, d.ok) (w' : World) (hw : w'.heap = w.heap.push (.cells cur t (0, 0))) (ho : w'.os = w.os) (ht : w'.tape = w.tape) (hu : w'.output = w.output) :
    MRel w0 W (sgSet σ N ⟨w.heap.size, 0, cur.size, true⟩) (mput M N (.rw t l)) w' := by
  have hk : ∀ k, k < w.heap.size → w'.heap[k]? = w.heap[k]? := fun k hk => by rw [hw]; exact heap_push_lt w _ k hk
  refine ⟨fun b => ?_, fun b b' t' l' L L' hne hb hb' hL hL' => ?_, fun b t' l' L hb hL => ?_, h.kept.trans ⟨ho, ht, hu, by rw [hw]; simp, fun k hk' _ => hk k hk'⟩⟩
  · rw [mget_mput]
    by_cases e : b = N
    · subst e
      rw [if_pos rfl]
      exact ⟨_, cur, sgSet_self _ _ _, rfl, rfl, by rw [hw]; simp, rfl, hok, hcur⟩
    · rw [if_neg e]
      exact ((h.blk b).of_block (fun L _ _ hlt => hk _ hlt)).mono (sgSet_le hN)
  · rw [mget_mput] at hb hb'
    by_cases e : b = N
    · subst e
      rw [sgSet_self] at hL
      rw [if_neg (Ne.symm hne)] at hb'
      rw [sgSet_ne _ _ _ _ (Ne.symm hne)] at hL'
      have := (h.blk b').live_lt hb' hL'
      cases hL
      simp only
      omega
    · rw [if_neg e] at hb
      rw [sgSet_ne _ _ _ _ e] at hL
      by_cases e' : b' = N
      · subst e'
        rw [sgSet_self] at hL'
        have := h.rw_lt hb hL
        cases hL'
        simp only
        omega
      · rw [if_neg e'] at hb'
        rw [sgSet_ne _ _ _ _ e'] at hL'
        exact h.sep b b' t' l' L L' hne hb hb' hL hL'
  · rw [mget_mput] at hb
    by_cases e : b = N
    · subst e
      rw [sgSet_self] at hL
      cases hL
      exact .inr h.kept.size
    · rw [if_neg e] at hb
      rw [sgSet_ne _ _ _ _ e] at hL
      exact h.own b t' l' L hb hL

/-- A block of the call's own is written. -/
theorem MRel.store {w0 : World} {W : Nat → Prop} {σ : Sg} {M : List Blk} {w : World} (h : MRel w0 W σ M w) {b t : Nat} {l l' : List D} (hb : mget M b = .rw t l) {L : Loc} (hL : σ b = some L)
    {cur' : Array Value} (w' : World) (hat : w'.heap[L.blk]? = some (.cells cur' t (0, 0))) (hsz : cur'.size = L.size) (hcur : cur'.toList.take l'.length = l'.map D.val) (hok : ∀ d ∈ l', d.ok)
    (hoth : ∀ k, k ≠ L.blk → w'.heap[k]? = w.heap[k]?) (hs : w'.heap.size = w.heap.size) (ho : w'.os = w.os) (ht : w'.tape = w.tape) (hu : w'.output = w.output) :
    MRel w0 W σ (mput M b (.rw t l')) w' := by
  have hBb := h.blk b
  rw [hb] at hBb
  obtain ⟨L0, cur, h1, h2, h3, _⟩ := hBb
  rw [hL] at h1
  cases h1
  refine ⟨fun c => ?_, fun c c' t' l1 L1 L2 hne hc hc' hL1 hL2 => ?_, fun c t' l1 L1 hc hL1 => ?_, ?_⟩
  · rw [mget_mput]
    by_cases e : c = b
    · subst e
      rw [if_pos rfl]
      exact ⟨L, cur', hL, h2, h3, hat, hsz, hok, hcur⟩
    · rw [if_neg e]
      refine (h.blk c).of_block fun L1 hL1 hlive _ => hoth _ ?_
      exact fun e1 => h.sep b c t l L L1 (Ne.symm e) hb hlive hL hL1 e1.symm
  · rw [mget_mput] at hc hc'
    have k1 : ∃ l2, mget M c = .rw t' l2 := by
      by_cases e : c = b
      · subst e; rw [if_pos rfl] at hc; cases hc; exact ⟨l, hb⟩
      · rw [if_neg e] at hc; exact ⟨_, hc⟩
    have k2 : (mget M c').live = true := by
      by_cases e : c' = b
      · subst e; rw [hb]; rfl
      · rw [if_neg e] at hc'; exact hc'
    obtain ⟨l2, k1⟩ := k1
    exact h.sep c c' t' l2 L1 L2 hne k1 k2 hL1 hL2
  · rw [mget_mput] at hc
    have k1 : ∃ l2, mget M c = .rw t' l2 := by
      by_cases e : c = b
      · subst e; rw [if_pos rfl] at hc; cases hc; exact ⟨l, hb⟩
      · rw [if_neg e] at hc; exact ⟨_, hc⟩
    obtain ⟨l2, k1⟩ := k1
    exact h.own c t' l2 L1 k1 hL1
  · have hlt := h.rw_lt hb hL
    refine h.kept.trans' (V := fun k => k = L.blk) ⟨ho, ht, hu, by omega, fun k _ hk => hoth k hk⟩ fun k hk => ?_
    subst hk
    exact h.own b t l L hb hL

/-- A block of the call's own under a new number. -/
theorem MRel.moved {w0 : World} {W : Nat → Prop} {σ : Sg} {M : List Blk} {w : World} (h : MRel w0 W σ M w) {b N t : Nat} {l : List D} (hb : mget M b = .rw t l) {L : Loc} (hL : σ b = some L) (hN : σ N = none) :
    MRel w0 W (sgSet σ N L) (mput (mput M b .dead) N (.rw t l)) w := by
  have hbN : b ≠ N := fun e => by rw [e, hN] at hL; cases hL
  have hBb := h.blk b
  rw [hb] at hBb
  have get : ∀ c, mget (mput (mput M b .dead) N (.rw t l)) c = if c = N then .rw t l else if c = b then .dead else mget M c := fun c => by rw [mget_mput, mget_mput]
  refine ⟨fun c => ?_, fun c c' t' l1 L1 L2 hne hc hc' hL1 hL2 => ?_, fun c t' l1 L1 hc hL1 => ?_, h.kept⟩
  · rw [get]
    split
    · rename_i e
      subst e
      obtain ⟨L', cur, h1, h2⟩ := hBb
      rw [hL] at h1
      cases h1
      exact ⟨L, cur, sgSet_self _ _ _, h2⟩
    · split
      · trivial
      · exact (h.blk c).mono (sgSet_le hN)
  · rw [get] at hc hc'
    by_cases e : c = N
    · subst e
      rw [sgSet_self] at hL1
      cases hL1
      rw [if_neg (Ne.symm hne)] at hc'
      rw [sgSet_ne _ _ _ _ (Ne.symm hne)] at hL2
      by_cases e' : c' = b
      · rw [if_pos e'] at hc'; cases hc'
      · rw [if_neg e'] at hc'
        exact h.sep b c' t l L L2 (Ne.symm e') hb hc' hL hL2
    · rw [if_neg e] at hc
      rw [sgSet_ne _ _ _ _ e] at hL1
      by_cases e1 : c = b
      · rw [if_pos e1] at hc; cases hc
      · rw [if_neg e1] at hc
        by_cases e' : c' = N
        · subst e'
          rw [sgSet_self] at hL2
          cases hL2
          exact h.sep c b t' l1 L1 L e1 hc (by rw [hb]; rfl) hL1 hL
        · rw [if_neg e'] at hc'
          rw [sgSet_ne _ _ _ _ e'] at hL2
          by_cases e2 : c' = b
          · rw [if_pos e2] at hc'; cases hc'
          · rw [if_neg e2] at hc'
            exact h.sep c c' t' l1 L1 L2 hne hc hc' hL1 hL2
  · rw [get] at hc
    by_cases e : c = N
    · subst e
      rw [sgSet_self] at hL1
      cases hL1
      exact h.own b t l L hb hL
    · rw [if_neg e] at hc
      rw [sgSet_ne _ _ _ _ e] at hL1
      by_cases e1 : c = b
      · rw [if_pos e1] at hc; cases hc
      · rw [if_neg e1] at hc
        exact h.own c t' l1 L1 hc hL1

end Go.Ev
