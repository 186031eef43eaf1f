/-
  The evaluator's operations are sound: a call by a contract; all operations together.
-/
import Derived.Test.YtdmmnpgkidghnaaEvG
namespace Go.Ev
open Go

section
variable {P : Program} {G : Nat → Option (List D)} {gb : Nat} {EQ : Tab} {w0 : World} {W : Nat → Prop} {σ : Sg} {a : Act} {w : World} {T : TS} {M : List Blk} {N : Nat} {o : Oper}
  {next : Act → World → Prop} {Q : Exit → Act → World → Prop}

theorem caps_rel : ∀ {caps : List Nat} {vs : List Value}, PRel σ caps vs → AVRels σ (caps.map fun c => aptr c 0) vs
  | [], [], _ => trivial
  | _ :: _, _ :: _, ⟨⟨L, h1, h2⟩, h3⟩ => ⟨⟨L, h1, h2⟩, caps_rel h3⟩
  | [], _ :: _, hh => hh.elim
  | _ :: _, [], hh => hh.elim

theorem call_run {c : Call} {g : Operand} {f : Nat} {vs : Array Value} (ho : o.op = .call c) (hc : c.callee = .value g) (hg : a.eval g = .func (.func f) #[] vs) :
    (execOp a.eval o).run P w = (callFunc f (c.args.map a.eval ++ vs)).run P w := by
  unfold execOp
  simp only [ho, resolve, hc, hg, Deferred.ofValue, Sem.run_bind, Sem.run_pure, Result.andThen_ok, invoke]
  simp

theorem call_ok {c : Call} {g : Operand} {f : Nat} {caps : List Nat} {l : List AV} {v : AV} {s : Sets} (ho : o.op = .call c) (hc : c.callee = .value g) (hg : opdV T g = some (.v (.c (.fn f caps)))) (hl : opdVs T c.args.toList = some l)
    (hr : Reach P G gb (evCall f caps l M N) v s) (hT : TRel σ T a) (hM : MRel w0 W σ M w) (hG : Glob G gb W w0) (hN : σ N = none)
    (h : Goes w0 W σ M N a o.dst next v s) : o.wp P a w next Q := by
  obtain ⟨vs, he, hcaps⟩ := opdV_rel hT hg
  have hargs : AVRels σ (l ++ caps.map fun c => aptr c 0) (c.args.map a.eval ++ vs).toList := by
    rw [Array.toList_append, Array.toList_map]
    exact (opdVs_rel hT hl).append (caps_rel hcaps)
  unfold evCall at hr
  split at hr
  · exact hr.elim
  · rename_i q hq
    simp only [cond_eq_ite, Bool.and_eq_true] at hr
    split at hr
    · rename_i hch
      obtain ⟨hd, hsr⟩ := hch
      have hsr' : ∀ b ∈ sliceRefs (l ++ caps.map fun c => aptr c 0), ∀ p ∈ q.2.2, p.1 ≠ b := by
        intro b hb p hp e
        have := List.all_eq_true.1 hsr b hb
        simp only [Bool.not_eq_true', List.any_eq_false, beq_iff_eq] at this
        exact this p hp e
      obtain ⟨u, M', hent, hcall, hrest⟩ := hr
      obtain ⟨ρ, hp⟩ := pass_rel hM hargs hq
      have hcal := hcall ρ w (c.args.map a.eval ++ vs) hp.args (hp.mrel hM hd hsr') (hp.glob hM hG) (fun b hb => hp.out b (.inr (by omega)))
      unfold Oper.wp
      rw [call_run ho hc he, hent]
      refine Calls.mono hcal ?_
      rintro e w' ⟨v', τ, rfl, hle, hv, hM'⟩
      simp only at hrest
      split at hrest
      · rename_i s1 p hs1 hp1
        obtain ⟨rfl, rfl⟩ := hrest
        obtain ⟨hMb, hfar⟩ := hp.back hM hle hM' hs1
        -- the result
        have hset : ∀ y ∈ s1, y.1 ≠ N := by
          intro y hy e
          obtain ⟨p', hp', h1, _⟩ := (backSets_mem hs1).2 y hy
          obtain ⟨_, _, _, t', l', h6⟩ := hp.ws p' hp'
          have := hM.dead hN
          rw [← e, h1, h6] at this
          cases this
        have plain : p.2 = [] → AVRel σ p.1 v' → next (a.put o.dst v') w' := by
          intro e1 e2
          refine h σ v' w' (Sg.le_refl _) (fun _ _ => rfl) (fun _ => hN) e2 ?_
          rw [e1, List.append_nil]
          exact hMb
        have fresh : ∀ b y L, q.2.1.length ≤ b → mget M' b = y → (∀ t c, y ≠ .cell t c) → (y.live = true → y.wr = true) → τ b = some L → p.2 = [(N, y)] → AVRel (sgSet σ N L) p.1 v' → next (a.put o.dst v') w' := by
          intro b y L hb hm hy hyw hL e1 e2
          refine h (sgSet σ N L) v' w' (sgSet_le hN) (fun c hc => sgSet_ne _ _ _ _ hc) (fun hn => absurd rfl (hn (N, y) (by rw [e1]; simp))) e2 ?_
          rw [e1, puts_append]
          refine hMb.adopt hN (fun hw => Nat.le_trans hM.kept.size (hfar b L hb (by rw [hm]; exact hw) hL)) hM' hm hL hy hyw fun hw c K hlive hK => ?_
          have hlo := hfar b L hb (by rw [hm]; exact hw) hL
          -- an old block lies below
          have hlt : K.blk < w.heap.size := by
            by_cases hc : mget (puts M s1) c = mget M c
            · rw [hc] at hlive
              exact (hM.blk c).live_lt hlive hK
            · rw [mget_puts] at hc
              cases hls : lastSet s1 c with
              | none => rw [hls] at hc; exact absurd rfl hc
              | some y =>
                obtain ⟨p', hp', h1, _⟩ := (backSets_mem hs1).2 _ (lastSet_some hls)
                obtain ⟨_, _, _, t', l2, h6⟩ := hp.ws p' hp'
                simp only at h1
                subst h1
                exact hM.rw_lt h6 hK
          omega
        unfold backVal at hp1
        split at hp1
        · rename_i x
          split at hp1
          · rename_i b k n es
            simp only [cond_eq_ite, Nat.ble_eq] at hp1
            split at hp1
            · rename_i hb
              split at hp1
              · rename_i t l' hm
                cases hp1
                obtain ⟨L, cap, hL, he', hrest'⟩ := hv
                exact fresh b _ L hb hm (fun _ _ e => by cases e) (fun _ => rfl) hL rfl ⟨L, cap, sgSet_self _ _ _, he', hrest'⟩
              · cases hp1
            · cases hp1
          · rename_i b
            simp only [cond_eq_ite, Nat.ble_eq] at hp1
            split at hp1
            · rename_i hb
              split at hp1
              · rename_i t τ' xs hm
                cases hp1
                obtain ⟨L, hL, hrest'⟩ := hv
                exact fresh b _ L hb hm (fun _ _ e => by cases e) (fun hl => by cases xs with | nil => cases hl | cons _ _ => rfl) hL rfl ⟨L, sgSet_self _ _ _, hrest'⟩
              · cases hp1
            · cases hp1
          · simp only [cond_eq_ite] at hp1
            split at hp1
            · rename_i hdv
              cases hp1
              exact plain rfl (dataV_rel hdv hv)
            · cases hp1
        · cases hp1
        · cases hp1
          exact plain rfl (by obtain ⟨vs', h1, h2⟩ := hv; exact ⟨vs', h1, dataVs_rel rfl h2⟩)
        · rename_i x r
          simp only [cond_eq_ite] at hp1
          split at hp1
          · rename_i hr1
            obtain ⟨vs', h1, h2⟩ := hv
            cases hvl : vs'.toList with
            | nil => rw [hvl] at h2; exact h2.elim
            | cons v1 vr =>
              rw [hvl] at h2
              obtain ⟨h3, h4⟩ := h2
              split at hp1
              · rename_i b k n es
                simp only [Nat.ble_eq] at hp1
                split at hp1
                · rename_i hb
                  split at hp1
                  · rename_i t l' hm
                    cases hp1
                    obtain ⟨L, cap, hL, he', hrest'⟩ := h3
                    exact fresh b _ L hb hm (fun _ _ e => by cases e) (fun _ => rfl) hL rfl ⟨vs', h1, by rw [hvl]; exact ⟨⟨L, cap, sgSet_self _ _ _, he', hrest'⟩, dataVs_rel hr1 h4⟩⟩
                  · cases hp1
                · cases hp1
              · rename_i b
                simp only [Nat.ble_eq] at hp1
                split at hp1
                · rename_i hb
                  split at hp1
                  · rename_i t τ' xs hm
                    cases hp1
                    obtain ⟨L, hL, hrest'⟩ := h3
                    exact fresh b _ L hb hm (fun _ _ e => by cases e) (fun hl => by cases xs with | nil => cases hl | cons _ _ => rfl) hL rfl ⟨vs', h1, by rw [hvl]; exact ⟨⟨L, sgSet_self _ _ _, hrest'⟩, dataVs_rel hr1 h4⟩⟩
                  · cases hp1
                · cases hp1
              · split at hp1
                · rename_i hdv
                  cases hp1
                  exact plain rfl ⟨vs', h1, by rw [hvl]; exact ⟨dataV_rel hdv h3, dataVs_rel hr1 h4⟩⟩
                · cases hp1
          · cases hp1
      · exact hrest.elim
    · exact hr.elim

theorem plain_data : ∀ {l : List AV} {vs : List Value} {τ : Sg}, plainArgs l = true → AVRels σ l vs → AVRels τ l vs
  | [], [], _, _, _ => trivial
  | x :: r, v :: s, τ, hp, ⟨h1, h2⟩ => by
    unfold plainArgs at hp
    split at hp
    · cases ‹_ = []›
    · rename_i heq; cases heq; exact ⟨h1, plain_data hp h2⟩
    · rename_i heq; cases heq; exact ⟨h1, plain_data hp h2⟩
    · cases hp
  | [], _ :: _, _, _, hh => hh.elim
  | _ :: _, [], _, _, hh => hh.elim

theorem builtin_ok {c : Call} {b : Builtin} {l : List AV} {v : AV} {s : Sets} (ho : o.op = .call c) (hc : c.callee = .builtin b) (hl : opdVs T c.args.toList = some l)
    (hr : Reach P G gb (evBuiltin P EQ b c.argTypes.toList l M N) v s) (hT : TRel σ T a) (hM : MRel w0 W σ M w) (hN : σ N = none)
    (h : Goes w0 W σ M N a o.dst next v s) : o.wp P a w next Q := by
  obtain ⟨callee, args, argTypes⟩ := c
  simp only at hc
  subst hc
  obtain ⟨argl⟩ := args
  obtain ⟨tyl⟩ := argTypes
  simp only at hl hr
  have hargs := opdVs_rel hT hl
  have hexec : ∀ (v' : Value) (w' : World), (builtin b tyl.toArray o.type ((argl.toArray.map fun | .const _ => true | _ => false)) (argl.map a.eval).toArray).run P w = .ok (.value v') w' → (execOp a.eval o).run P w = .ok (.value v') w' := by
    intro v' w' hrun
    unfold execOp
    simp only [ho, resolve, invoke, Sem.run_bind, Sem.run_pure, Result.andThen_ok]
    rw [show Array.map a.eval { toList := argl } = (argl.map a.eval).toArray from by simp]
    exact hrun
  unfold evBuiltin at hr
  split at hr
  · -- len
    rename_i t x
    cases hargl : argl.map a.eval with
    | nil => rw [hargl] at hargs; exact hargs.elim
    | cons u r =>
      rw [hargl] at hargs
      obtain ⟨h1, h2⟩ := hargs
      cases r with
      | cons _ _ => exact h2.elim
      | nil =>
        have lenrun : ∀ (n : Nat), n ≤ 9223372036854775807 → (Builtin.len_ #[t] o.type #[u]).run P w = .ok (goInt n) w → v = aint .i64 n → s = [] → o.wp P a w next Q := by
          intro n hn hrun hv hs
          subst hv
          subst hs
          refine h.value hM hN (v' := goInt n) (hexec _ _ ?_) ⟨rfl, by simp only [D.ok, inR, Bool.and_eq_true, decide_eq_true_eq]; omega⟩
          rw [hargl]
          simp [builtin, hrun]
        split at hr
        · rename_i st hu
          obtain ⟨rfl, rfl⟩ := hr
          obtain ⟨e, hok⟩ := h1
          change u = .string st at e
          subst e
          exact lenrun _ hok (by simp [Builtin.len_, underlying_run hu]) rfl rfl
        · rename_i e b k n es hu
          obtain ⟨rfl, rfl⟩ := hr
          obtain ⟨L, cap, _, rfl, _, hml, _⟩ := h1
          exact lenrun _ (by simp only [maxLen] at hml; omega) (by simp [Builtin.len_, underlying_run hu]) rfl rfl
        · rename_i e hu
          obtain ⟨rfl, rfl⟩ := hr
          have e : u = .slice none 0 0 := h1
          subst e
          exact lenrun 0 (by omega) (by simp [Builtin.len_, underlying_run hu]) rfl rfl
        · rename_i e b k hu
          split at hr
          · rename_i own τ xs hm
            obtain ⟨rfl, rfl⟩ := hr
            obtain ⟨L, hL, hv⟩ := h1
            have hB := hM.blk b
            rw [hm] at hB
            obtain ⟨L', g1, g2, _⟩ := hB.elems
            rw [hL] at g1
            cases g1
            cases k with
            | none =>
              rcases hv with ⟨h0, rfl⟩ | ⟨cap, rfl, _, hml, _⟩
              · exact lenrun 0 (by omega) (by simp [Builtin.len_, underlying_run hu]) (by simp only [lenK, ← g2, h0]) rfl
              · exact lenrun L.n (by simp only [maxLen] at hml; omega) (by simp [Builtin.len_, underlying_run hu]) (by simp only [lenK, ← g2]) rfl
            | some m =>
              obtain ⟨_, _, cap, rfl, _, hml⟩ := hv
              exact lenrun m (by simp only [maxLen] at hml; omega) (by simp [Builtin.len_, underlying_run hu]) rfl rfl
          · exact hr.elim
        · rename_i n hu
          rcases hr with ⟨hb, rfl, rfl⟩ | ⟨_, hf⟩
          · exact lenrun _ (by simp only [Nat.ble_eq, roomD] at hb; omega) (by simp [Builtin.len_, underlying_run hu]) rfl rfl
          · exact hf.elim
        · exact hr.elim
  · -- max
    rename_i k x r
    split at hr
    · rename_i y hy
      obtain ⟨rfl, rfl⟩ := hr
      cases hargl : argl.map a.eval with
      | nil => rw [hargl] at hargs; exact hargs.elim
      | cons u rest =>
        rw [hargl] at hargs
        obtain ⟨h1, h2⟩ := hargs
        obtain ⟨e, hok⟩ := h1
        change u = .int k x at e
        subst e
        have hm := maxL_run (P := P) (w := w) h2 hok hy
        refine h.value hM hN (v' := .int k y) (hexec _ _ ?_) ⟨rfl, hm.2⟩
        rw [hargl]
        simp [builtin, Builtin.max_, hm.1]
    · exact hr.elim
  · -- min
    rename_i k x r
    split at hr
    · rename_i y hy
      obtain ⟨rfl, rfl⟩ := hr
      cases hargl : argl.map a.eval with
      | nil => rw [hargl] at hargs; exact hargs.elim
      | cons u rest =>
        rw [hargl] at hargs
        obtain ⟨h1, h2⟩ := hargs
        obtain ⟨e, hok⟩ := h1
        change u = .int k x at e
        subst e
        have hm := minL_run (P := P) (w := w) h2 hok hy
        refine h.value hM hN (v' := .int k y) (hexec _ _ ?_) ⟨rfl, hm.2⟩
        rw [hargl]
        simp [builtin, Builtin.min_, hm.1]
    · exact hr.elim
  · -- append
    rename_i t t' sv xv
    simp only [cond_eq_ite, beq_iff_eq] at hr
    split at hr
    · rename_i ht
      subst ht
      cases argl with
      | nil => exact hargs.elim
      | cons sx r =>
        obtain ⟨h1, h2⟩ := hargs
        cases r with
        | nil => exact h2.elim
        | cons xx r =>
          obtain ⟨h2, h3⟩ := h2
          cases r with
          | nil =>
            split at hr
            · rename_i e hu
              split at hr
              · exact appendA_ok ho hu h1 h2 hr hM hN h
              · exact append_ok ho h1 h2 hr hM hN h
            · exact hr.elim
          | cons _ _ => exact h3.elim
    · exact hr.elim
  · exact hr.elim

theorem op_sound (hEQ : ∀ t, t ∈ EQ.eq → EqOK P t) {v : AV} {s : Sets} (hr : Reach P G gb (opR P G EQ o.op T M N) v s) (hT : TRel σ T a) (hM : MRel w0 W σ M w) (hG : Glob G gb W w0) (hN : σ N = none)
    (h : Goes w0 W σ M N a o.dst next v s) : o.wp P a w next Q := by
  cases ho : o.op <;> rw [ho] at hr
  case move x => exact move_ok (EQ := EQ) (.inl ho) hr hT hM hN h
  case assign x => exact move_ok (EQ := EQ) (.inr ho) hr hT hM hN h
  case pick c x y => exact pick_ok ho hr hT hM hN h
  case alloc t => exact alloc_ok ho hr hM hN h
  case box t x => exact box_ok ho hr hT hM hN h
  case build t ps => exact build_ok ho hr hT hM hN h
  case buildSlice t n ps => exact buildSlice_ok ho hr hT hM hN h
  case load t x => exact load_ok ho hr hT hM hG hN h
  case store t x y => exact store_ok ho hr hT hM hN h
  case nilCheck x => exact nilCheck_ok ho hr hT hM hN h
  case binOp op t x y u => exact binOp_ok hEQ ho hr hT hM hN h
  case unOp op t x => exact unOp_ok ho hr hT hM hN h
  case convert t u x => exact convert_ok ho hr hT hM hN h
  case makeFunc fn first caps => exact makeFunc_ok ho hr hT hM hN h
  case makeSlice t x y => exact makeSlice_ok ho hr hT hM hN h
  case slice t x lo hi mx => exact slice_ok ho hr hT hM hN h
  case fieldAddr t x f => exact fieldAddr_ok ho hr hT hM hN h
  case field t x f => exact field_ok ho hr hT hM hN h
  case indexAddr t x i => exact indexAddr_ok ho hr hT hM hN h
  case index t x i => exact index_ok ho hr hT hM hN h
  case extract x i => exact extract_ok ho hr hT hM hN h
  case call c =>
    simp only [opR] at hr
    split at hr
    · rename_i b hb
      split at hr
      · rename_i l hl
        exact builtin_ok ho hb hl hr hT hM hN h
      · exact hr.elim
    · rename_i g hg
      split at hr
      · rename_i f caps l hgv hl
        split at hr
        · rename_i fn hfn
          split at hr
          · exact call_ok ho hg hgv hl hr hT hM hG hN h
          · split at hr
            · simp only [cond_eq_ite] at hr
              split at hr
              · obtain ⟨u, hx, rfl, rfl⟩ := hr
                obtain ⟨vs, he, hcaps⟩ := opdV_rel hT hgv
                have hvs : vs = #[] := by
                  cases hv : vs.toList with
                  | nil => exact Array.ext' hv
                  | cons _ _ => rw [hv] at hcaps; exact hcaps.elim
                subst hvs
                obtain ⟨v', hrun, hv⟩ := hx σ (c.args.map a.eval) w (by rw [Array.toList_map]; exact opdVs_rel hT hl)
                refine h.value hM hN ?_ hv
                rw [call_run ho hg he]
                simpa using hrun
              · exact hr.elim
            · exact hr.elim
        · exact hr.elim
      · exact hr.elim
    · exact hr.elim
  all_goals exact hr.elim

theorem isNil_op {o : Op} (h : isNil o = true) : o = .assign (.const (.slice none 0 0)) ∨ o = .move (.const (.slice none 0 0)) := by
  unfold isNil at h
  split at h
  · exact .inl rfl
  · exact .inr rfl
  · cases h

theorem opO_sound (hEQ : ∀ t, t ∈ EQ.eq → EqOK P t) {v : AV} {s : Sets} (hr : Reach P G gb (opO P G EQ o T M N) v s) (hT : TRel σ T a) (hM : MRel w0 W σ M w) (hG : Glob G gb W w0) (hN : σ N = none)
    (h : Goes w0 W σ M N a o.dst next v s) : o.wp P a w next Q := by
  unfold opO at hr
  cases hn : isNil o.op with
  | false =>
    rw [hn] at hr
    exact op_sound hEQ hr hT hM hG hN h
  | true =>
    rw [hn] at hr
    simp only [cond_true] at hr
    split at hr
    · rename_i p hp
      obtain ⟨rfl, rfl⟩ := hr
      have hrun : (execOp a.eval o).run P w = .ok (.value (.slice none 0 0)) w := by
        unfold execOp
        rcases isNil_op hn with e | e <;> rw [e] <;> rfl
      unfold Oper.wp
      rw [hrun]
      refine h (sgSet σ N ⟨0, 0, 0, true, 0, p.2.len⟩) _ _ (sgSet_le hN) (fun b hb => sgSet_ne _ _ _ _ hb) (fun hp' => absurd rfl (hp' (N, .arr (some p.1) p.2 []) (by simp))) ⟨_, sgSet_self _ _ _, .inl ⟨rfl, rfl⟩⟩ ?_
      exact hM.put hN _ _ ⟨_, sgSet_self _ _ _, rfl, rfl, by simp [ET.flat], rfl, rfl, .inl rfl⟩ (fun _ _ _ _ _ => rfl) hM.kept (fun h => by cases h) (fun h => by cases h) (fun h => by cases h)
    · exact op_sound hEQ hr hT hM hG hN h

end
end Go.Ev
