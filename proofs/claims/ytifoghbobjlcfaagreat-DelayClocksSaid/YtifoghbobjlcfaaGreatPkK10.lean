/-
  array.place: the stations with their places, or an error; by a loop over the pairs of stations. No condition.
  Plain functions that mirror functions of the program, and that it computes them. No condition beyond those of the statements.
  Nothing is said here.
  Delays in parts: whole samples and the rest. No condition.
-/
import Derived.Test.YtifoghbobjlcfaaGreatPkK9
set_option maxRecDepth 100000
namespace Go.Ev
open Go Go.Proofs Go.RowKit
def dupAt (ps : List Placed) (i j : Nat) : Bool :=
  bif ((ps.getD i (ET.z .placed)).site.name.data.toList == (ps.getD j (ET.z .placed)).site.name.data.toList) then true else
    eqAll [.int .i64 (ps.getD i (ET.z .placed)).at_.x.num, .int .i64 (ps.getD i (ET.z .placed)).at_.x.den, .int .i64 (ps.getD i (ET.z .placed)).at_.y.num, .int .i64 (ps.getD i (ET.z .placed)).at_.y.den, .int .i64 (ps.getD i (ET.z .placed)).at_.z.num, .int .i64 (ps.getD i (ET.z .placed)).at_.z.den]
      [.int .i64 (ps.getD j (ET.z .placed)).at_.x.num, .int .i64 (ps.getD j (ET.z .placed)).at_.x.den, .int .i64 (ps.getD j (ET.z .placed)).at_.y.num, .int .i64 (ps.getD j (ET.z .placed)).at_.y.den, .int .i64 (ps.getD j (ET.z .placed)).at_.z.num, .int .i64 (ps.getD j (ET.z .placed)).at_.z.den]
def dupP (ps : List Placed) : Bool := (List.range ps.length).any fun j => (List.range j).any fun i => dupAt ps i j
theorem dupP_true {ps : List Placed} {i j : Nat} (h1 : i < j) (h2 : j < ps.length) (h : dupAt ps i j = true) : dupP ps = true := by
  unfold dupP
  rw [List.any_eq_true]
  exact ⟨j, List.mem_range.2 h2, List.any_eq_true.2 ⟨i, List.mem_range.2 h1, h⟩⟩
theorem dupP_false {ps : List Placed} (h : ∀ i j, i < j → j < ps.length → dupAt ps i j = false) : dupP ps = false := by
  unfold dupP
  rw [List.any_eq_false]
  intro j hj
  rw [List.any_eq_true]
  rintro ⟨i, hi, he⟩
  rw [h i j (List.mem_range.1 hi) (List.mem_range.1 hj)] at he
  cases he
structure O_array_place where
  ok : Bool
  r0 : List Placed
  r1 : Int
def m_array_place (a0 : Globe) (a1 : List Site) : O_array_place :=
  bif Nat.beq (m0_array_place a0 a1).k 0 then ⟨true, [], (m0_array_place a0 a1).e⟩
  else bif Nat.beq (m0_array_place a0 a1).k 1 then (bif dupP (m0_array_place a0 a1).ps then ⟨true, [], 14⟩ else ⟨true, (m0_array_place a0 a1).ps, 0⟩)
  else ⟨false, [], 0⟩
theorem round_eval (l : List Site) (ps : List Placed) (i j : Nat) (hi : i < j) (hj : j < ps.length) :
    evCode Tryz.prog GT EQT TP XT noL 120 (bodC (sndC (fstC (splitC 5 (bodyC Tryz.prog 76)).2))) (tset (.v (.c (.ptr 6 0))) (tset (.v (.agg [.int .i64 i, .int .i64 j])) (headT [4, 5, 8, 55] 88 [.v (.c (.ptr 1 0)), .v (.c (.ptr 2 0)), .v (.c (.ptr 3 0)), .v (.c (.fn 131 [4]))]) 56) 13) [.arr none .site l, .cell 126 .nilS, .rw 32 [.int .i64 (0 : Int)], .cell 126 (.aslice 5 none), .dead, .arr (some 132) .placed ps, .rw 161 [.int .i64 i, .int .i64 j]] 7 (cutR 6) =
    bif dupAt ps i j then some (.st .ret ⟨0, .any, []⟩ [.arr none .site l, .cell 126 .nilS, .rw 32 [.int .i64 (14 : Int)], .cell 126 (.aslice 5 none), .dead, .arr (some 132) .placed ps] 7)
    else some (.st .normal ⟨0, .any, []⟩ [.arr none .site l, .cell 126 .nilS, .rw 32 [.int .i64 (0 : Int)], .cell 126 (.aslice 5 none), .dead, .arr (some 132) .placed ps] 7) := by
  refine (wb_array_place l ps i j).trans ?_
  unfold dupAt
  simp only [nn_t, lt_t (show i < ps.length by omega), lt_t hj, Bool.and_self, cond_true, Int.toNat_natCast]
  cases ((ps.getD i (ET.z .placed)).site.name.data.toList == (ps.getD j (ET.z .placed)).site.name.data.toList) <;> rfl
theorem tail_eval (l : List Site) (ps : List Placed) : evCode Tryz.prog GT EQT TP XT noL 20 (fstC (sndC (splitC 5 (bodyC Tryz.prog 76)).2)) (headT [4, 5, 8, 55] 88 [.v (.c (.ptr 1 0)), .v (.c (.ptr 2 0)), .v (.c (.ptr 3 0)), .v (.c (.fn 131 [4]))])
      [.arr none .site l, .cell 126 .nilS, .rw 32 [.int .i64 (0 : Int)], .cell 126 (.aslice 5 none), .dead, .arr (some 132) .placed ps] 6 (fun x T M N => some (.st x T M N)) =
    some (.st .normal (tset (.v (.c (.aslice 5 none))) (headT [4, 5, 8, 55] 88 [.v (.c (.ptr 1 0)), .v (.c (.ptr 2 0)), .v (.c (.ptr 3 0)), .v (.c (.fn 131 [4]))]) 87)
      [.arr none .site l, .cell 126 (.aslice 5 none), .rw 32 [.int .i64 (0 : Int)], .cell 126 (.aslice 5 none), .dead, .arr (some 132) .placed ps] 6) := by
  kernel_rfl
theorem shape_place : (splitC 5 (bodyC Tryz.prog 76)).2 = .seq (.seq (fstC (fstC (splitC 5 (bodyC Tryz.prog 76)).2)) (.block 2 (.rangeFunc (.tmp 55) #[56] (asgC (sndC (fstC (splitC 5 (bodyC Tryz.prog 76)).2))) (bodC (sndC (fstC (splitC 5 (bodyC Tryz.prog 76)).2)))))) (.seq (fstC (sndC (splitC 5 (bodyC Tryz.prog 76)).2)) .ret) := by kernel_rfl
theorem none_result {P : Program} {wA w : World} {W : Nat → Prop} {σ τ : Sg} {T : TS} {M : List Blk} {a : Act} {l : List Site} {e : Int} {fn : Func} {n0 : Nat} (ty : Nat) (hn0 : n0 = 1) (hfr : ∀ b, n0 ≤ b → σ b = none) (hle : leB n0 σ τ) (hT : TRel τ T a) (hM : MRel wA W τ M w) (hm0 : mget M 0 = .arr none .site l)
    (hr : resDs P T M fn.results.toList = some [.c .nilS, .c (.d (.int .i64 e))]) : ∃ v, (results fn a.tmps).run P w = .ok v w ∧ ∃ υ, σ.le υ ∧ AVRel υ (.tup [.c (.aslice 1 none), .c (.d (.int .i64 e))]) v ∧ MRel wA W υ [.arr none .site l, .arr (some ty) .placed []] w := by
  subst hn0
  obtain ⟨v, h1, h2⟩ := results_rel hT hM hr
  refine ⟨v, h1, fun c => if c = 0 then τ 0 else if c = 1 then some ⟨0, 0, 0, true, 0, ET.len .placed⟩ else none, fun b L hL => ?_, ?_, ?_⟩
  · have hb : b < 1 := by
      rcases Nat.lt_or_ge b 1 with h | h
      · exact h
      · rw [hfr b h] at hL; cases hL
    obtain rfl : b = 0 := by omega
    exact hle 0 L hb hL
  · obtain ⟨vs, e1, e2⟩ := h2
    refine ⟨vs, e1, ?_⟩
    cases hv : vs.toList with
    | nil => rw [hv] at e2; exact e2.elim
    | cons v1 r =>
      rw [hv] at e2
      obtain ⟨k1, k2⟩ := e2
      refine ⟨⟨_, rfl, .inl ⟨rfl, k1⟩⟩, ?_⟩
      cases r with
      | nil => exact k2.elim
      | cons v2 s =>
        obtain ⟨k3, k4⟩ := k2
        refine ⟨k3, ?_⟩
        cases s with
        | nil => trivial
        | cons _ _ => exact k4.elim
  · refine ⟨fun b => ?_, fun b _ _ _ _ hb => ?_, fun b _ hb => ?_, hM.kept⟩
    · match b with
      | 0 =>
        have := hM.blk 0
        rw [hm0] at this
        obtain ⟨L, h3, h4⟩ := this
        exact ⟨L, h3, h4⟩
      | 1 => exact ⟨_, rfl, rfl, rfl, by simp [ET.flat], rfl, rfl, .inl rfl⟩
      | _ + 2 => trivial
    · match b with
      | 0 => cases l <;> cases hb
      | 1 => cases hb
      | _ + 2 => cases hb
    · match b with
      | 0 => cases l <;> cases hb
      | 1 => cases hb
      | _ + 2 => cases hb
theorem some_result {P : Program} {wA w : World} {W : Nat → Prop} {σ τ : Sg} {T : TS} {M : List Blk} {a : Act} {l : List Site} {ps : List Placed} {e : Int} {fn : Func} {n0 b5 : Nat} (ty : Nat) (hn0 : n0 = 1) (hb5 : 1 ≤ b5) (hfr : ∀ b, n0 ≤ b → σ b = none) (hle : leB n0 σ τ) (hT : TRel τ T a) (hM : MRel wA W τ M w) (hm0 : mget M 0 = .arr none .site l) (hm5 : mget M b5 = .arr (some ty) .placed ps)
    (hr : resDs P T M fn.results.toList = some [.c (.aslice b5 none), .c (.d (.int .i64 e))]) : ∃ v, (results fn a.tmps).run P w = .ok v w ∧ ∃ υ, σ.le υ ∧ AVRel υ (.tup [.c (.aslice 1 none), .c (.d (.int .i64 e))]) v ∧ MRel wA W υ [.arr none .site l, .arr (some ty) .placed ps] w := by
  subst hn0
  obtain ⟨v, h1, h2⟩ := results_rel hT hM hr
  refine ⟨v, h1, _, fun b L hL => ?_, ?_, hM.ren (N' := 2) (fun c => if c = 1 then b5 else c) (fun c => ?_) (fun c c' h1 h2 h3 => ?_)⟩
  · have hb : b < 1 := by
      rcases Nat.lt_or_ge b 1 with h | h
      · exact h
      · rw [hfr b h] at hL; cases hL
    obtain rfl : b = 0 := by omega
    exact hle 0 L hb hL
  · have : AVRel τ (renA (fun c => if c = 1 then b5 else c) (.tup [.c (.aslice 1 none), .c (.d (.int .i64 e))])) v := h2
    refine AVRel.ren (fun b hb => ?_) this
    simp [refsX, refsV, refsC] at hb
    subst hb
    rfl
  · match c with
    | 0 => exact .inr ⟨hm0, by omega, fun b hb => by cases hb⟩
    | 1 => exact .inr ⟨hm5, by omega, fun b hb => by cases hb⟩
    | _ + 2 => exact .inl rfl
  · split at h3 <;> split at h3 <;> omega
set_option maxHeartbeats 1000000 in
theorem place_calls (g : Globe) (l : List Site) (hok : (m_array_place g l).ok = true) :
    CallsA Tryz.prog GT gbT 76 [.v (.agg [.int .i64 g.a, .int .i64 g.b]), .v (.c (.aslice 0 none))] [.arr none .site l] (.tup [.c (.aslice 1 none), .c (.d (.int .i64 (m_array_place g l).r1))]) [.arr none .site l, .arr (some 132) .placed (m_array_place g l).r0] := by
  intro σ w args hargs hM hG hfr
  have hbody : Tryz.f76.body = some (bodyC Tryz.prog 76) := by kernel_rfl
  have hE := e0_array_place g l
  have hL : ∀ c ∈ (splitC 5 (bodyC Tryz.prog 76)).1, LOKn Tryz.prog GT gbT 1 LP (loopsIn c) := fun c hc b hb => lok_array_place _ _ Tryz.func76 hbody b (splitC_loops _ _ _ hc b hb)
  have hLc : LOKn Tryz.prog GT gbT 1 LP (loopsIn (fstC (fstC (splitC 5 (bodyC Tryz.prog 76)).2))) := by
    have : loopsIn (fstC (fstC (splitC 5 (bodyC Tryz.prog 76)).2)) = [] := by kernel_rfl
    rw [this]
    intro b hb
    cases hb
  have hlen := hargs.length
  have hT0 : TRel σ (frameT [.v (.agg [.int .i64 g.a, .int .i64 g.b]), .v (.c (.aslice 0 none))] 86) { tmps := args ++ Array.replicate (Tryz.f76.ntmps - args.size) undef, defers := [] } := by
    refine ⟨?_, fun t => ?_, rfl⟩
    · have : Tryz.f76.ntmps = 88 := by kernel_rfl
      simp [frameT, TS.length] at hlen ⊢
      omega
    · have := enter_rel 86 hargs t
      rw [frame_get]
      rw [Array.getD_eq_getD_getElem?]
      rw [List.getD_eq_getElem?_getD] at this
      rw [← Array.getElem?_toList, Array.toList_append, Array.toList_replicate]
      have e : Tryz.f76.ntmps - args.size = 86 := by
        have : Tryz.f76.ntmps = 88 := by kernel_rfl
        simp at hlen
        omega
      rw [e]
      exact this
  refine callsIn_wide.1 (callsIn_of_wp_marks (n := 10) Tryz.func76 hbody trivial ?_ rfl)
  rw [wpIn_wide]
  rw [← splitC_eq 5 (bodyC Tryz.prog 76), shape_place]
  unfold m_array_place at hok ⊢
  unfold F0_array_place at hE
  cases hk0 : Nat.beq (m0_array_place g l).k 0 with
  | true =>
    rw [hk0] at hE
    simp only [cond_true] at hE ⊢
    refine place_pre hEQT hmT gP hL hLc hE _ _ w (Wof σ [.arr none .site l]) σ _ w _ hG hT0 hM hfr fun τ a' w' hle hT' hM' hN' => ?_
    show LeavesInM _ _ _ _ _ _ a'.defers _ _
    rw [hT'.df]
    obtain ⟨v, hv1, υ, hv2, hv3, hv4⟩ := none_result (P := Tryz.prog) (fn := Tryz.f76) 132 rfl hfr hle hT' hM' rfl (by kernel_rfl)
    exact ⟨v, hv1, v, υ, rfl, hv2, hv3, hv4⟩
  | false =>
    rw [hk0] at hE hok
    simp only [cond_false] at hE hok ⊢
    cases hk1 : Nat.beq (m0_array_place g l).k 1 with
    | false => rw [hk1] at hok; cases hok
    | true =>
    rw [hk1] at hE
    simp only [cond_true] at hE ⊢
    generalize (m0_array_place g l).ps = ps at hE ⊢
    refine place_pre hEQT hmT gP hL hLc hE _ _ w (Wof σ [.arr none .site l]) σ _ w _ hG hT0 hM hfr fun τ a' w' hle hT' hM' hN' => ?_
    -- what lies in memory
    obtain ⟨Mr, hMrd⟩ : ∃ Mr : List Blk, Mr = [.arr none .site l, .cell 126 .nilS, .rw 32 [.int .i64 (0 : Int)], .cell 126 (.aslice 5 none), .dead, .arr (some 132) .placed ps] := ⟨_, rfl⟩
    have d0 : ∃ L, τ 0 = some L := by obtain ⟨L, h, _⟩ := hM'.blk 0; exact ⟨L, h⟩
    have d1 : ∃ L, τ 1 = some L := by obtain ⟨L, _, h, _⟩ := hM'.blk 1; exact ⟨L, h⟩
    have d2 : ∃ L, τ 2 = some L := by obtain ⟨L, _, h, _⟩ := hM'.blk 2; exact ⟨L, h⟩
    have d3 : ∃ L, τ 3 = some L := by obtain ⟨L, _, h, _⟩ := hM'.blk 3; exact ⟨L, h⟩
    have d5 : ∃ L, τ 5 = some L := by obtain ⟨L, h, _⟩ := hM'.blk 5; exact ⟨L, h⟩
    have hn : ps.length ≤ 9223372036854775807 := by
      obtain ⟨_, _, _, _, _, _, _, L5, h1, h2⟩ := hM'.blk 3
      obtain ⟨L5', h3, h4, _⟩ := hM'.blk 5
      rw [h1] at h3
      cases h3
      rcases h2 with ⟨h2, _⟩ | ⟨_, _, _, h2, _⟩
      · omega
      · simp only [maxLen] at h2; omega
    obtain ⟨L4, cur4, q1, q2, q3, q4, q5, q6, q7⟩ := hM'.blk 4
    obtain ⟨bn, hbn⟩ : ∃ bn, L4.blk = bn := ⟨_, rfl⟩
    rw [hbn] at q4
    have hbnlt : bn < w'.heap.size := (Array.getElem?_eq_some_iff.1 q4).1
    have hbncell : w'.cell? ⟨bn, 0, none⟩ = some (.int .i64 (ps.length : Int)) := by
      rw [cell_of_heap q4]
      have : (cur4.toList.take 1)[0]? = ([D.int .i64 (ps.length : Int)].map D.val)[0]? := by rw [← q7]; rfl
      simpa [D.val] using this
    have hMr : MRel w (Wof σ [.arr none .site l]) τ Mr w' := hM'.congr fun b => by
      rw [hMrd]
      match b with
      | 0 | 1 | 2 | 3 | 5 => exact .inl rfl
      | 4 => exact .inr rfl
      | _ + 6 => exact .inl rfl
    have notbn : ¬ Wof τ Mr bn := by
      rintro ⟨b, L, hw, hL, e⟩
      rw [hMrd] at hw
      refine hM'.sep b 4 L L4 ?_ ?_ rfl hL q1 (by rw [e, hbn])
      · rintro rfl; cases hw
      · match b with
        | 0 | 1 | 2 | 3 | 5 => exact hw
        | 4 => cases hw
        | _ + 6 => exact hw
    have dom : ∀ b, mget Mr b = .dead ∨ ((∃ L, τ b = some L) ∧ ∀ r ∈ refsB (mget Mr b), ∃ L, τ r = some L) := by
      intro b
      rw [hMrd]
      match b with
      | 0 => exact .inr ⟨d0, fun r hr => by cases hr⟩
      | 1 => exact .inr ⟨d1, fun r hr => by cases hr⟩
      | 2 => exact .inr ⟨d2, fun r hr => by cases hr⟩
      | 3 => exact .inr ⟨d3, fun r hr => by simp [mget, gets, refsB, refsC] at hr; subst hr; exact d5⟩
      | 4 => exact .inl rfl
      | 5 => exact .inr ⟨d5, fun r hr => by cases hr⟩
      | _ + 6 => exact .inl rfl
    have domx : ∀ b, mget ([.arr none .site l, .cell 126 .nilS, .rw 32 [.int .i64 (14 : Int)]] : List Blk) b = .dead ∨ ((∃ L, τ b = some L) ∧ ∀ r ∈ refsB (mget ([.arr none .site l, .cell 126 .nilS, .rw 32 [.int .i64 (14 : Int)]] : List Blk) b), ∃ L, τ r = some L) := by
      intro b
      match b with
      | 0 => exact .inr ⟨d0, fun r hr => by cases hr⟩
      | 1 => exact .inr ⟨d1, fun r hr => by cases hr⟩
      | 2 => exact .inr ⟨d2, fun r hr => by cases hr⟩
      | _ + 3 => exact .inl rfl
    -- the function that is ranged over
    obtain ⟨vs, hvs, hvp⟩ := hT'.val 55
    have hvl : vs = #[.pointer (some ⟨bn, 0, none⟩)] := by
      cases hv : vs.toList with
      | nil => rw [hv] at hvp; exact hvp.elim
      | cons v1 r =>
        rw [hv] at hvp
        obtain ⟨⟨L, k1, k2⟩, k3⟩ := hvp
        rw [q1] at k1
        cases k1
        cases r with
        | nil => apply Array.ext'; rw [hv, k2, q2, hbn]
        | cons _ _ => exact k3.elim
    have hg : a'.eval (.tmp 55) = .func (.func 131) #[] #[.pointer (some ⟨bn, 0, none⟩)] := by
      rw [← hvl]
      exact hvs
    have hseq : SeqStopsK Fence.wide (10 - 1) Tryz.prog 131 #[.pointer (some ⟨bn, 0, none⟩)] (encP (n := ps.length)) (fun X Y => Y.heap[bn]? = X.heap[bn]?) (fun ys => ∀ p, p ∈ ys) (fun _ => True) (ps.length * ps.length) w' :=
      fun lp J Jx W hW _ _ hY h0 => pairs1_in 9 lp bn ps.length hn J Jx hY W ((hW.cell (p := ⟨bn, 0, none⟩) hbnlt).trans hbncell) h0
    have hG' : ∀ {τ' : Sg} {M'' : List Blk} {X : World}, MRel w (Wof σ [.arr none .site l]) τ' M'' X → Glob GT gbT (Wof τ' M'') X := fun h => hG.rebase h
    have hwB : w.heap.size ≤ w'.heap.size := hM'.kept.size
    have stay : ∀ {τ' : Sg} {M'' : List Blk} {X Y : World}, X.heap[bn]? = w'.heap[bn]? → ¬ Wof τ' M'' bn → Kept (Wof τ' M'') X Y → Y.heap[bn]? = X.heap[bn]? := fun h1 h2 h3 =>
      h3.block bn (Array.getElem?_eq_some_iff.1 (h1.trans q4)).1 h2
    refine wp_block (wpIn_wide.1 (wpIn_rangeFunc_ownH (n := 10) (α := PairN ps.length) rfl (by decide) hg trivial (fun args w => Tryz.call131 args w) hseq (fun h k => k.trans h)
      (fun W lp o o' hl _ _ _ => World.putObj_heap_other (by omega)) (Below.refl _ _) (fun _ => rfl)
      (fun pre W => (∀ p ∈ pre, dupAt ps p.1.1 p.1.2 = false) ∧ MRel w (Wof σ [.arr none .site l]) τ Mr W ∧ W.heap[bn]? = w'.heap[bn]?)
      (fun c pre W => c = .ret ∧ (∃ p ∈ pre, dupAt ps p.1.1 p.1.2 = true) ∧ MRel w (Wof σ [.arr none .site l]) τ [.arr none .site l, .cell 126 .nilS, .rw 32 [.int .i64 (14 : Int)]] W)
      ?hI ?hIx ⟨fun p hp => (by cases hp), hMr, rfl⟩
      (fun x a2 W => ∃ υ, τ.le υ ∧ TRel υ (tset (.v (.c (.ptr 6 0))) (tset (.v (.agg [.int .i64 (x.1.1 : Int), .int .i64 (x.1.2 : Int)])) (headT [4, 5, 8, 55] 88 [.v (.c (.ptr 1 0)), .v (.c (.ptr 2 0)), .v (.c (.ptr 3 0)), .v (.c (.fn 131 [4]))]) 56) 13) a2 ∧ MRel w (Wof σ [.arr none .site l]) υ (Mr ++ [.rw 161 [.int .i64 (x.1.1 : Int), .int .i64 (x.1.2 : Int)]]) W ∧ (∀ b, 7 ≤ b → υ b = none) ∧ ¬ Wof υ (Mr ++ [.rw 161 [.int .i64 (x.1.1 : Int), .int .i64 (x.1.2 : Int)]]) bn)
      ?hAx ?asg ?bod ?done ?stop))
    case hI =>
      rintro pre X Y row ⟨h1, h2, h3⟩ hg' hr
      refine ⟨h1, h2.grown hg' fun r e => ⟨Nat.le_trans hwB (hr r e).1, (hr r e).2⟩, (hg'.block bn ?_ fun e => ?_).trans h3⟩
      · rw [q4] at h3; exact (Array.getElem?_eq_some_iff.1 h3).1
      · have := (hr bn e.symm).1; omega
    case hIx =>
      rintro c pre X Y row ⟨h1, h2, h3⟩ hg' hr
      exact ⟨h1, h2, h3.grown hg' fun r e => ⟨Nat.le_trans hwB (hr r e).1, (hr r e).2⟩⟩
    case hAx =>
      rintro x a2 _ X Y row ⟨υ, h1, h2, h3, h4⟩ hg' hr
      exact ⟨υ, h1, h2, h3.grown hg' fun r e => ⟨Nat.le_trans hwB (hr r e).1, (hr r e).2⟩, h4⟩
    case asg =>
      rintro lp pre x W K ⟨h1, h2, h3⟩ hK
      have hwa := wa_array_place l ps (x.1.1 : Int) (x.1.2 : Int)
      rw [← hMrd] at hwa
      have hcr := CodeR.ofEv (b := asgC (sndC (fstC (splitC 5 (bodyC Tryz.prog 76)).2))) gP hEQT hmT (by kernel_rfl) hwa
      have hT1 := hT'.put (some 56) (x := .v (.agg [.int .i64 (x.1.1 : Int), .int .i64 (x.1.2 : Int)])) (v := .agg #[.int .i64 (x.1.1 : Int), .int .i64 (x.1.2 : Int)]) ⟨rfl, by
        have hx1 := x.2.1
        have hx2 := x.2.2
        intro d hd
        simp only [List.mem_cons, List.not_mem_nil, or_false] at hd
        rcases hd with rfl | rfl <;> simp only [D.ok, inR, Bool.and_eq_true, decide_eq_true_eq] <;> omega⟩
      have hact : (a'.put (some 56) (.agg #[.int .i64 (x.1.1 : Int), .int .i64 (x.1.2 : Int)])) = { tmps := ((#[56] : Array Tmp).zip (encP x)).foldl (fun t (p, v) => t.setIfInBounds p v) a'.tmps, defers := [] } := by
        simp [Act.put, encP, hT'.df]
      rw [hact] at hT1
      refine hcr lp _ W (Wof τ Mr) τ _ W _ (fun ⟨_, _, h⟩ => h) (hG' h2) hT1 h2.rebase ?_ fun υ a2 W2 hle2 hT2 hM2 hN2 => ?_
      · intro b hb
        exact hN' b hb
      · have hkept := hM2.kept
        have hsince := h2.since hM2
        have hbn2 := stay h3 notbn hkept
        have hap : Mr ++ [.rw 161 [.int .i64 (x.1.1 : Int), .int .i64 (x.1.2 : Int)]] = [.arr none .site l, .cell 126 .nilS, .rw 32 [.int .i64 (0 : Int)], .cell 126 (.aslice 5 none), .dead, .arr (some 132) .placed ps, .rw 161 [.int .i64 (x.1.1 : Int), .int .i64 (x.1.2 : Int)]] := by rw [hMrd]; rfl
        have hnot : ¬ Wof υ (Mr ++ [.rw 161 [.int .i64 (x.1.1 : Int), .int .i64 (x.1.2 : Int)]]) bn := by
          rintro ⟨b, L, hw, hL, e⟩
          rcases hM2.own b L (by rw [hap] at hw; exact hw) hL with h5 | h5
          · exact notbn (e ▸ h5)
          · have hlt : bn < W.heap.size := (Array.getElem?_eq_some_iff.1 (h3.trans q4)).1
            omega
        refine hK a2 W2 (Kept.keepsFrom h2.rebase hkept _) hbn2 ⟨h1, ?_, hbn2.trans h3⟩ ⟨υ, hle2, hT2, ?_, hN2, hnot⟩
        · refine MRel.under hle2 (hsince.congr fun b => ?_) dom
          rw [hMrd]
          match b with
          | 0 | 1 | 2 | 3 | 5 => exact .inl rfl
          | 4 => exact .inl rfl
          | 6 => exact .inr rfl
          | _ + 7 => exact .inl rfl
        · rw [hap]
          exact hsince
    case bod =>
      rintro lp pre x a2 W hlp _ ⟨h1, h2, h3⟩ ⟨υ, k1, k2, k3, k4, k5⟩ _
      have hev := round_eval l ps x.1.1 x.1.2 x.2.1 x.2.2
      have hap : Mr ++ [.rw 161 [.int .i64 (x.1.1 : Int), .int .i64 (x.1.2 : Int)]] = [.arr none .site l, .cell 126 .nilS, .rw 32 [.int .i64 (0 : Int)], .cell 126 (.aslice 5 none), .dead, .arr (some 132) .placed ps, .rw 161 [.int .i64 (x.1.1 : Int), .int .i64 (x.1.2 : Int)]] := by rw [hMrd]; rfl
      rw [hap] at k3 k5
      cases hdup : dupAt ps x.1.1 x.1.2 with
      | false =>
        rw [hdup] at hev
        obtain ⟨T2, M2, hc, hcr⟩ := CodeR.ofCut (b := bodC (sndC (fstC (splitC 5 (bodyC Tryz.prog 76)).2))) gP hEQT hmT (by kernel_rfl) hev
        refine hcr lp _ W _ υ a2 W _ (fun ⟨_, _, h⟩ => h) (hG' k3) k2 k3.rebase k4 fun ω a3 W3 hle3 _ hM3 _ => ?_
        have hbn3 := stay h3 k5 hM3.kept
        refine ⟨Kept.keepsFrom k3.rebase hM3.kept _, hbn3, fun p hp => ?_, ?_, hbn3.trans h3⟩
        · rcases List.mem_append.1 hp with hp | hp
          · exact h1 p hp
          · rw [List.mem_singleton.1 hp]; exact hdup
        · refine MRel.under (Sg.le_trans k1 hle3) ((k3.since hM3).congr fun b => ?_) dom
          rw [hMrd]
          exact hc b
      | true =>
        rw [hdup] at hev
        obtain ⟨T2, M2, hc, hcr⟩ := CodeR.ofCut (b := bodC (sndC (fstC (splitC 5 (bodyC Tryz.prog 76)).2))) gP hEQT hmT (by kernel_rfl) hev
        refine hcr lp _ W _ υ a2 W _ (fun ⟨_, _, h⟩ => h) (hG' k3) k2 k3.rebase k4 fun ω a3 W3 hle3 _ hM3 _ => ?_
        refine ⟨Kept.keepsFrom k3.rebase hM3.kept _, rfl, ⟨x, by simp, hdup⟩, ?_⟩
        refine MRel.under (Sg.le_trans k1 hle3) ((k3.since hM3).congr fun b => ?_) domx
        match b with
        | 0 => exact hc 0
        | 1 => exact hc 1
        | 2 => exact hc 2
        | _ + 3 => exact .inr rfl
    case done =>
      rintro D xs W hD hS ⟨h1, h2, h3⟩ hKd
      rw [dupP_false fun i j hi hj => h1 ⟨(i, j), hi, hj⟩ (hS _)]
      show (Code.seq _ .ret).wp _ _ _ _
      have hreg : ∃ id ops, fstC (sndC (splitC 5 (bodyC Tryz.prog 76)).2) = .region id ops false ∧ (ops.toList.all fun o => plainOp o.op) = true := by
        refine ⟨20, _, (by kernel_rfl : fstC (sndC (splitC 5 (bodyC Tryz.prog 76)).2) = .region 20 (opsC (fstC (sndC (splitC 5 (bodyC Tryz.prog 76)).2))) false), by kernel_rfl⟩
      obtain ⟨id, ops, hr1, hr2⟩ := hreg
      have hte := tail_eval l ps
      rw [← hMrd] at hte
      rw [hr1] at hte ⊢
      rw [hT'.df]
      have hnl : ¬ LetsOut (bodyPostM Fence.wide 10 Tryz.prog Tryz.f76 fun e w'_1 => ∃ v' τ, e = .returned v' ∧ σ.le τ ∧ AVRel τ (.tup [.c (.aslice 1 none), .c (.d (.int .i64 (0 : Int)))]) v' ∧ MRel w (Wof σ [.arr none .site l]) τ [.arr none .site l, .arr (some 132) .placed ps] w'_1) := by
        rintro ⟨_, _, _, _, h, _⟩
        cases h
      have hdf : ({ a' with defers := [{ target := .collected D, args := #[] }] } : Act) = { a' with defers := [{ target := .collected D, args := #[] }] } := rfl
      refine wp_seq (region_defers hEQT gP hr2 hte W (Wof τ Mr) τ a' W _ _ (then_out hnl) (hG' h2) hT' h2.rebase hN' fun υ a2 W2 hle2 hT2 hM2 => ?_)
      refine wp_ret ?_
      show LeavesInM _ _ _ _ _ _ [_] _ _
      have hD2 : W2.heap[D]? = some (.deferred (some [])) := by
        have hlt : D < W.heap.size := (Array.getElem?_eq_some_iff.1 hKd).1
        refine (hM2.kept.block D hlt ?_).trans hKd
        rintro ⟨b, L, hw, hL, e⟩
        obtain ⟨cur, t, fr, h5⟩ := (h2.blk b).cellsAt (wr_live hw) hL
        rw [e, hKd] at h5
        cases h5
      refine ⟨by simp, .inl ⟨D, _, rfl, run_takeDeferred hD2, ?_⟩⟩
      have h4 := (h2.since hM2).grown (grownBy_putObj' W2 D (.deferred none)) fun r e => by cases e; exact ⟨Nat.le_trans hwB hD, _, hD2, rfl⟩
      obtain ⟨v, hv1, υ', hv2, hv3, hv4⟩ := some_result (P := Tryz.prog) (fn := Tryz.f76) 132 rfl (by decide) hfr (fun b L hb hL => hle2 b L (hle b L hb hL)) hT2 h4 rfl rfl (b5 := 5) (by kernel_rfl)
      exact ⟨v, hv1, v, υ', rfl, hv2, hv3, hv4⟩
    case stop =>
      rintro D c pre W hD _ ⟨rfl, ⟨p, _, hp⟩, h3⟩ hKd
      refine wpIn_ret ?_
      show LeavesInM _ _ _ _ _ _ (_ :: a'.defers) _ _
      rw [hT'.df, dupP_true p.2.1 p.2.2 hp]
      refine ⟨by simp, .inl ⟨D, _, rfl, run_takeDeferred hKd, ?_⟩⟩
      have h4 := h3.grown (grownBy_putObj' W D (.deferred none)) fun r e => by cases e; exact ⟨Nat.le_trans hwB hD, _, hKd, rfl⟩
      obtain ⟨v, hv1, υ, hv2, hv3, hv4⟩ := none_result (P := Tryz.prog) (fn := Tryz.f76) 132 rfl hfr hle hT' h4 rfl (by kernel_rfl)
      exact ⟨v, hv1, v, υ, rfl, hv2, hv3, hv4⟩
def s_array_place : List AV → List Blk → (AV → List Blk → Ans) → Ans := fun xs bs K => match xs, bs with
  | [.v (.agg [.int .i64 a0_0, .int .i64 a0_1]), .v (.c (.aslice 0 none))], [.arr none .site a1] => bif (m_array_place (⟨a0_0, a0_1⟩ : Globe) a1).ok then K (.tup [.c (.aslice 1 none), .c (.d (.int .i64 (m_array_place (⟨a0_0, a0_1⟩ : Globe) a1).r1))]) [.arr none .site a1, .arr (some 132) .placed (m_array_place (⟨a0_0, a0_1⟩ : Globe) a1).r0] else none
  | _, _ => none
def T_array_place : Nat → List AV → List Blk → (AV → List Blk → Ans) → Ans := upd TP 76 s_array_place
theorem g_array_place : GOK Tryz.prog GT gbT T_array_place XT := by
  refine GOK.upd gP (fun args w => Tryz.call76 args w) fun xs bs K r h => ?_
  unfold s_array_place at h
  split at h
  · simp only [cond_eq_ite] at h
    split at h
    · rename_i hd
      exact ⟨_, _, place_calls _ _ hd, h⟩
    · cases h
  · cases h
end Go.Ev

namespace Go.Ev
open Go Go.Proofs
structure O_array_Check where
  ok : Bool
  r0 : Int
def m_array_Check (a0 : Globe) (a1 : List Site) : O_array_Check := bif (m_array_place a0 a1).ok then ⟨true, (m_array_place a0 a1).r1⟩ else ⟨false, 0⟩
def F_array_Check (_a0 : Globe) (a1 : List Site) (K : AV → List Blk → Ans) (r : O_array_Check) : Ans := bif r.ok then K (.v (.c (.d (.int .i64 r.r0)))) [.arr none .site a1] else none
theorem e_array_Check (a0 : Globe) (a1 : List Site) (K : AV → List Blk → Ans) : evFn Tryz.prog GT EQT T_array_place XT noL 80 56 [.v (.agg [.int .i64 a0.a, .int .i64 a0.b]), .v (.c (.aslice 0 none))] [.arr none .site a1] (fun v M => K (finR 1 v M).1 (finR 1 v M).2) = F_array_Check a0 a1 K (m_array_Check a0 a1) := by
  unfold m_array_Check
  refine Eq.trans ?_ (Eq.symm (pushT rfl rfl))
  kernel_rfl
theorem c_array_Check (a0 : Globe) (a1 : List Site) (hd : (m_array_Check a0 a1).ok = true) : CallsA Tryz.prog GT gbT 56 [.v (.agg [.int .i64 a0.a, .int .i64 a0.b]), .v (.c (.aslice 0 none))] [.arr none .site a1] (.v (.c (.d (.int .i64 ((m_array_Check a0 a1).r0))))) [.arr none .site a1] := by
  refine CallsA.ofEvR g_array_place hEQT hmT (n0 := 1) rfl (fun _ _ _ _ => LOKn.nil) ((e_array_Check a0 a1 (fun v M => some (Res.fin v M))).trans ?_)
  unfold F_array_Check
  rw [hd]
  rfl
def s_array_Check : List AV → List Blk → (AV → List Blk → Ans) → Ans := fun xs bs K => match xs, bs with
  | [.v (.agg [.int .i64 a0_0, .int .i64 a0_1]), .v (.c (.aslice 0 none))], [.arr none .site a1] => F_array_Check (⟨a0_0, a0_1⟩ : Globe) a1 K (m_array_Check (⟨a0_0, a0_1⟩ : Globe) a1)
  | _, _ => none
def T_array_Check : Nat → List AV → List Blk → (AV → List Blk → Ans) → Ans := upd T_array_place 56 s_array_Check
theorem g_array_Check : GOK Tryz.prog GT gbT T_array_Check XT := by
  refine GOK.upd g_array_place (fun args w => Tryz.call56 args w) fun xs bs K r h => ?_
  unfold s_array_Check at h
  split at h
  · unfold F_array_Check at h
    simp only [cond_eq_ite] at h
    split at h
    · rename_i hd
      exact ⟨_, _, c_array_Check _ _ hd, h⟩
    · cases h
  · cases h
structure O_array_Line where
  ok : Bool
  r0 : Vec
  r1 : Int
def m_array_Line (a0 : Globe) (a1 : List Site) (a2 : Int) (a3 : Int) : O_array_Line := bif (m_array_place a0 a1).ok then (bif ((m_array_place a0 a1).r1 != (0 : Int)) then ⟨true, ⟨⟨(0 : Int), (0 : Int)⟩, ⟨(0 : Int), (0 : Int)⟩, ⟨(0 : Int), (0 : Int)⟩⟩, (m_array_place a0 a1).r1⟩ else (bif decide (a2 < (0 : Int)) then ⟨true, ⟨⟨(0 : Int), (0 : Int)⟩, ⟨(0 : Int), (0 : Int)⟩, ⟨(0 : Int), (0 : Int)⟩⟩, (2 : Int)⟩ else (bif decide ((((m_array_place a0 a1).r0).length : Int) ≤ a2) then ⟨true, ⟨⟨(0 : Int), (0 : Int)⟩, ⟨(0 : Int), (0 : Int)⟩, ⟨(0 : Int), (0 : Int)⟩⟩, (2 : Int)⟩ else (bif decide (a3 < (0 : Int)) then ⟨true, ⟨⟨(0 : Int), (0 : Int)⟩, ⟨(0 : Int), (0 : Int)⟩, ⟨(0 : Int), (0 : Int)⟩⟩, (2 : Int)⟩ else (bif decide ((((m_array_place a0 a1).r0).length : Int) ≤ a3) then ⟨true, ⟨⟨(0 : Int), (0 : Int)⟩, ⟨(0 : Int), (0 : Int)⟩, ⟨(0 : Int), (0 : Int)⟩⟩, (2 : Int)⟩ else (bif (decide ((0 : Int) ≤ a3) && decide (a3 < (((m_array_place a0 a1).r0).length : Int))) then (bif (decide ((0 : Int) ≤ a2) && decide (a2 < (((m_array_place a0 a1).r0).length : Int))) then ⟨true, (subV ⟨⟨((((((m_array_place a0 a1).r0).getD a3.toNat (ET.z .placed)).at_).x).num), ((((((m_array_place a0 a1).r0).getD a3.toNat (ET.z .placed)).at_).x).den)⟩, ⟨((((((m_array_place a0 a1).r0).getD a3.toNat (ET.z .placed)).at_).y).num), ((((((m_array_place a0 a1).r0).getD a3.toNat (ET.z .placed)).at_).y).den)⟩, ⟨((((((m_array_place a0 a1).r0).getD a3.toNat (ET.z .placed)).at_).z).num), ((((((m_array_place a0 a1).r0).getD a3.toNat (ET.z .placed)).at_).z).den)⟩⟩ ⟨⟨((((((m_array_place a0 a1).r0).getD a2.toNat (ET.z .placed)).at_).x).num), ((((((m_array_place a0 a1).r0).getD a2.toNat (ET.z .placed)).at_).x).den)⟩, ⟨((((((m_array_place a0 a1).r0).getD a2.toNat (ET.z .placed)).at_).y).num), ((((((m_array_place a0 a1).r0).getD a2.toNat (ET.z .placed)).at_).y).den)⟩, ⟨((((((m_array_place a0 a1).r0).getD a2.toNat (ET.z .placed)).at_).z).num), ((((((m_array_place a0 a1).r0).getD a2.toNat (ET.z .placed)).at_).z).den)⟩⟩).1, (subV ⟨⟨((((((m_array_place a0 a1).r0).getD a3.toNat (ET.z .placed)).at_).x).num), ((((((m_array_place a0 a1).r0).getD a3.toNat (ET.z .placed)).at_).x).den)⟩, ⟨((((((m_array_place a0 a1).r0).getD a3.toNat (ET.z .placed)).at_).y).num), ((((((m_array_place a0 a1).r0).getD a3.toNat (ET.z .placed)).at_).y).den)⟩, ⟨((((((m_array_place a0 a1).r0).getD a3.toNat (ET.z .placed)).at_).z).num), ((((((m_array_place a0 a1).r0).getD a3.toNat (ET.z .placed)).at_).z).den)⟩⟩ ⟨⟨((((((m_array_place a0 a1).r0).getD a2.toNat (ET.z .placed)).at_).x).num), ((((((m_array_place a0 a1).r0).getD a2.toNat (ET.z .placed)).at_).x).den)⟩, ⟨((((((m_array_place a0 a1).r0).getD a2.toNat (ET.z .placed)).at_).y).num), ((((((m_array_place a0 a1).r0).getD a2.toNat (ET.z .placed)).at_).y).den)⟩, ⟨((((((m_array_place a0 a1).r0).getD a2.toNat (ET.z .placed)).at_).z).num), ((((((m_array_place a0 a1).r0).getD a2.toNat (ET.z .placed)).at_).z).den)⟩⟩).2⟩ else ⟨false, ⟨⟨0, 0⟩, ⟨0, 0⟩, ⟨0, 0⟩⟩, 0⟩) else ⟨false, ⟨⟨0, 0⟩, ⟨0, 0⟩, ⟨0, 0⟩⟩, 0⟩)))))) else ⟨false, ⟨⟨0, 0⟩, ⟨0, 0⟩, ⟨0, 0⟩⟩, 0⟩
def F_array_Line (_a0 : Globe) (a1 : List Site) (_a2 : Int) (_a3 : Int) (K : AV → List Blk → Ans) (r : O_array_Line) : Ans := bif r.ok then K (.tup [.agg [.int .i64 r.r0.x.num, .int .i64 r.r0.x.den, .int .i64 r.r0.y.num, .int .i64 r.r0.y.den, .int .i64 r.r0.z.num, .int .i64 r.r0.z.den], .c (.d (.int .i64 r.r1))]) [.arr none .site a1] else none
theorem e_array_Line (a0 : Globe) (a1 : List Site) (a2 : Int) (a3 : Int) (K : AV → List Blk → Ans) : evFn Tryz.prog GT EQT T_array_Check XT noL 80 58 [.v (.agg [.int .i64 a0.a, .int .i64 a0.b]), .v (.c (.aslice 0 none)), .v (.c (.d (.int .i64 a2))), .v (.c (.d (.int .i64 a3)))] [.arr none .site a1] (fun v M => K (finR 1 v M).1 (finR 1 v M).2) = F_array_Line a0 a1 a2 a3 K (m_array_Line a0 a1 a2 a3) := by
  unfold m_array_Line
  refine Eq.trans ?_ (Eq.symm (pushT (pushT rfl (pushT rfl (pushT rfl (pushT rfl (pushT rfl (pushT (pushT rfl rfl) rfl)))))) rfl))
  kernel_rfl
theorem c_array_Line (a0 : Globe) (a1 : List Site) (a2 : Int) (a3 : Int) (hd : (m_array_Line a0 a1 a2 a3).ok = true) : CallsA Tryz.prog GT gbT 58 [.v (.agg [.int .i64 a0.a, .int .i64 a0.b]), .v (.c (.aslice 0 none)), .v (.c (.d (.int .i64 a2))), .v (.c (.d (.int .i64 a3)))] [.arr none .site a1] (.tup [.agg [.int .i64 ((((m_array_Line a0 a1 a2 a3).r0).x).num), .int .i64 ((((m_array_Line a0 a1 a2 a3).r0).x).den), .int .i64 ((((m_array_Line a0 a1 a2 a3).r0).y).num), .int .i64 ((((m_array_Line a0 a1 a2 a3).r0).y).den), .int .i64 ((((m_array_Line a0 a1 a2 a3).r0).z).num), .int .i64 ((((m_array_Line a0 a1 a2 a3).r0).z).den)], .c (.d (.int .i64 ((m_array_Line a0 a1 a2 a3).r1)))]) [.arr none .site a1] := by
  refine CallsA.ofEvR g_array_Check hEQT hmT (n0 := 1) rfl (fun _ _ _ _ => LOKn.nil) ((e_array_Line a0 a1 a2 a3 (fun v M => some (Res.fin v M))).trans ?_)
  unfold F_array_Line
  rw [hd]
  rfl
def s_array_Line : List AV → List Blk → (AV → List Blk → Ans) → Ans := fun xs bs K => match xs, bs with
  | [.v (.agg [.int .i64 a0_0, .int .i64 a0_1]), .v (.c (.aslice 0 none)), .v (.c (.d (.int .i64 a2))), .v (.c (.d (.int .i64 a3)))], [.arr none .site a1] => F_array_Line (⟨a0_0, a0_1⟩ : Globe) a1 a2 a3 K (m_array_Line (⟨a0_0, a0_1⟩ : Globe) a1 a2 a3)
  | _, _ => none
def T_array_Line : Nat → List AV → List Blk → (AV → List Blk → Ans) → Ans := upd T_array_Check 58 s_array_Line
theorem g_array_Line : GOK Tryz.prog GT gbT T_array_Line XT := by
  refine GOK.upd g_array_Check (fun args w => Tryz.call58 args w) fun xs bs K r h => ?_
  unfold s_array_Line at h
  split at h
  · unfold F_array_Line at h
    simp only [cond_eq_ite] at h
    split at h
    · rename_i hd
      exact ⟨_, _, c_array_Line _ _ _ _ hd, h⟩
    · cases h
  · cases h
structure O_proj_Line where
  ok : Bool
  r0 : Dir
  r1 : Int
def m_proj_Line (a0 : Globe) (a1 : List Site) (a2 : Int) (a3 : Int) (a4 : Source) (a5 : Int) : O_proj_Line := bif (m_array_Line a0 a1 a2 a3).ok then (bif ((m_array_Line a0 a1 a2 a3).r1 != (0 : Int)) then ⟨true, ⟨⟨(0 : Int), (0 : Int)⟩, ⟨(0 : Int), (0 : Int)⟩, ⟨(0 : Int), (0 : Int)⟩⟩, (m_array_Line a0 a1 a2 a3).r1⟩ else ⟨true, (projV ((m_array_Line a0 a1 a2 a3).r0) a4 a5).1, (projV ((m_array_Line a0 a1 a2 a3).r0) a4 a5).2⟩) else ⟨false, ⟨⟨0, 0⟩, ⟨0, 0⟩, ⟨0, 0⟩⟩, 0⟩
def F_proj_Line (_a0 : Globe) (a1 : List Site) (_a2 : Int) (_a3 : Int) (_a4 : Source) (_a5 : Int) (K : AV → List Blk → Ans) (r : O_proj_Line) : Ans := bif r.ok then K (.tup [.agg [.int .i64 r.r0.x.lo, .int .i64 r.r0.x.hi, .int .i64 r.r0.y.lo, .int .i64 r.r0.y.hi, .int .i64 r.r0.z.lo, .int .i64 r.r0.z.hi], .c (.d (.int .i64 r.r1))]) [.arr none .site a1] else none
theorem e_proj_Line (a0 : Globe) (a1 : List Site) (a2 : Int) (a3 : Int) (a4 : Source) (a5 : Int) (K : AV → List Blk → Ans) : evFn Tryz.prog GT EQT T_array_Line XT noL 80 25 [.v (.agg [.int .i64 a0.a, .int .i64 a0.b]), .v (.c (.aslice 0 none)), .v (.c (.d (.int .i64 a2))), .v (.c (.d (.int .i64 a3))), .v (.agg [.str a4.name, .int .i64 a4.ra, .int .i64 a4.dec]), .v (.c (.d (.int .i64 a5)))] [.arr none .site a1] (fun v M => K (finR 1 v M).1 (finR 1 v M).2) = F_proj_Line a0 a1 a2 a3 a4 a5 K (m_proj_Line a0 a1 a2 a3 a4 a5) := by
  unfold m_proj_Line
  refine Eq.trans ?_ (Eq.symm (pushT (pushT rfl rfl) rfl))
  kernel_rfl
theorem c_proj_Line (a0 : Globe) (a1 : List Site) (a2 : Int) (a3 : Int) (a4 : Source) (a5 : Int) (hd : (m_proj_Line a0 a1 a2 a3 a4 a5).ok = true) : CallsA Tryz.prog GT gbT 25 [.v (.agg [.int .i64 a0.a, .int .i64 a0.b]), .v (.c (.aslice 0 none)), .v (.c (.d (.int .i64 a2))), .v (.c (.d (.int .i64 a3))), .v (.agg [.str a4.name, .int .i64 a4.ra, .int .i64 a4.dec]), .v (.c (.d (.int .i64 a5)))] [.arr none .site a1] (.tup [.agg [.int .i64 ((((m_proj_Line a0 a1 a2 a3 a4 a5).r0).x).lo), .int .i64 ((((m_proj_Line a0 a1 a2 a3 a4 a5).r0).x).hi), .int .i64 ((((m_proj_Line a0 a1 a2 a3 a4 a5).r0).y).lo), .int .i64 ((((m_proj_Line a0 a1 a2 a3 a4 a5).r0).y).hi), .int .i64 ((((m_proj_Line a0 a1 a2 a3 a4 a5).r0).z).lo), .int .i64 ((((m_proj_Line a0 a1 a2 a3 a4 a5).r0).z).hi)], .c (.d (.int .i64 ((m_proj_Line a0 a1 a2 a3 a4 a5).r1)))]) [.arr none .site a1] := by
  refine CallsA.ofEvR g_array_Line hEQT hmT (n0 := 1) rfl (fun _ _ _ _ => LOKn.nil) ((e_proj_Line a0 a1 a2 a3 a4 a5 (fun v M => some (Res.fin v M))).trans ?_)
  unfold F_proj_Line
  rw [hd]
  rfl
def s_proj_Line : List AV → List Blk → (AV → List Blk → Ans) → Ans := fun xs bs K => match xs, bs with
  | [.v (.agg [.int .i64 a0_0, .int .i64 a0_1]), .v (.c (.aslice 0 none)), .v (.c (.d (.int .i64 a2))), .v (.c (.d (.int .i64 a3))), .v (.agg [.str a4_0, .int .i64 a4_1, .int .i64 a4_2]), .v (.c (.d (.int .i64 a5)))], [.arr none .site a1] => F_proj_Line (⟨a0_0, a0_1⟩ : Globe) a1 a2 a3 (⟨a4_0, a4_1, a4_2⟩ : Source) a5 K (m_proj_Line (⟨a0_0, a0_1⟩ : Globe) a1 a2 a3 (⟨a4_0, a4_1, a4_2⟩ : Source) a5)
  | _, _ => none
def T_proj_Line : Nat → List AV → List Blk → (AV → List Blk → Ans) → Ans := upd T_array_Line 25 s_proj_Line
theorem g_proj_Line : GOK Tryz.prog GT gbT T_proj_Line XT := by
  refine GOK.upd g_array_Line (fun args w => Tryz.call25 args w) fun xs bs K r h => ?_
  unfold s_proj_Line at h
  split at h
  · unfold F_proj_Line at h
    simp only [cond_eq_ite] at h
    split at h
    · rename_i hd
      exact ⟨_, _, c_proj_Line _ _ _ _ _ _ hd, h⟩
    · cases h
  · cases h
structure O_Q4_Valid where
  ok : Bool
  r0 : Bool
def m_Q4_Valid (a0 : Site) : O_Q4_Valid := bif (namedB a0.name) then ⟨true, (placedB a0.s a0.t)⟩ else ⟨true, false⟩
def F_Q4_Valid (_a0 : Site) (K : AV → List Blk → Ans) (r : O_Q4_Valid) : Ans := bif r.ok then K (.v (.c (.d (.bool r.r0)))) [] else none
theorem e_Q4_Valid (a0 : Site) (K : AV → List Blk → Ans) : evFn Tryz.prog GT EQT T_proj_Line XT noL 80 112 [.v (.agg [.str a0.name, .int .i64 a0.s.num, .int .i64 a0.s.den, .int .i64 a0.t.num, .int .i64 a0.t.den])] [] (fun v M => K (finR 0 v M).1 (finR 0 v M).2) = F_Q4_Valid a0 K (m_Q4_Valid a0) := by
  unfold m_Q4_Valid
  refine Eq.trans ?_ (Eq.symm (pushT rfl rfl))
  kernel_rfl
theorem c_Q4_Valid (a0 : Site) (hd : (m_Q4_Valid a0).ok = true) : CallsA Tryz.prog GT gbT 112 [.v (.agg [.str a0.name, .int .i64 a0.s.num, .int .i64 a0.s.den, .int .i64 a0.t.num, .int .i64 a0.t.den])] [] (.v (.c (.d (.bool ((m_Q4_Valid a0).r0))))) [] := by
  refine CallsA.ofEvR g_proj_Line hEQT hmT (n0 := 0) rfl (fun _ _ _ _ => LOKn.nil) ((e_Q4_Valid a0 (fun v M => some (Res.fin v M))).trans ?_)
  unfold F_Q4_Valid
  rw [hd]
  rfl
def s_Q4_Valid : List AV → List Blk → (AV → List Blk → Ans) → Ans := fun xs bs K => match xs, bs with
  | [.v (.agg [.str a0_0, .int .i64 a0_1, .int .i64 a0_2, .int .i64 a0_3, .int .i64 a0_4])], [] => F_Q4_Valid (⟨a0_0, ⟨a0_1, a0_2⟩, ⟨a0_3, a0_4⟩⟩ : Site) K (m_Q4_Valid (⟨a0_0, ⟨a0_1, a0_2⟩, ⟨a0_3, a0_4⟩⟩ : Site))
  | _, _ => none
def T_Q4_Valid : Nat → List AV → List Blk → (AV → List Blk → Ans) → Ans := upd T_proj_Line 112 s_Q4_Valid
theorem g_Q4_Valid : GOK Tryz.prog GT gbT T_Q4_Valid XT := by
  refine GOK.upd g_proj_Line (fun args w => Tryz.call112 args w) fun xs bs K r h => ?_
  unfold s_Q4_Valid at h
  split at h
  · unfold F_Q4_Valid at h
    simp only [cond_eq_ite] at h
    split at h
    · rename_i hd
      exact ⟨_, _, c_Q4_Valid _ hd, h⟩
    · cases h
  · cases h
structure R_Q4_all_0 where
  k : Nat
  p6 : Int
  m2 : List Vec
def run_Q4_all_0 (m0 : List Site) (q1 : Globe) : Nat → Int → List Vec → R_Q4_all_0
  | 0, p6, m2 => ⟨1, p6, m2⟩
  | n + 1, p6, m2 => bif decide (p6 < (m0.length : Int)) then (bif (decide ((0 : Int) ≤ p6) && decide (p6 < (m0.length : Int))) then (bif (decide ((0 : Int) ≤ p6) && decide (p6 < (m0.length : Int))) then (bif (Nat.blt 0 6 && ((6 == 6) && ((6 == 6) && (Nat.ble (m2.length + ([placeR q1 ((m0.getD p6.toNat (ET.z .site)).s) ((m0.getD p6.toNat (ET.z .site)).t)] : List Vec).length) roomD && Nat.ble 48 4096)))) then run_Q4_all_0 m0 q1 n (w64 (p6 + (1 : Int))) (m2 ++ ([placeR q1 ((m0.getD p6.toNat (ET.z .site)).s) ((m0.getD p6.toNat (ET.z .site)).t)] : List Vec)) else ⟨1, p6, m2⟩) else ⟨1, p6, m2⟩) else ⟨1, p6, m2⟩) else ⟨0, p6, m2⟩
def lp_Q4_all_0 (m0 : List Site) (q1 : Globe) (p6 : Int) (m2 : List Vec) : R_Q4_all_0 := run_Q4_all_0 m0 q1 (2000 + (m0.length + m2.length)) p6 m2
abbrev H_Q4_all_0 (_m0 : List Site) (_q1 : Globe) (p6 : Int) (_m2 : List Vec) : TS := headT [1, 2, 5, 6] 29 [.v (.c (.aslice 0 none)), .v (.c (.ptr 1 0)), .v (.c (.aslice 2 none)), .v (.c (.d (.int .i64 p6)))]
theorem b_Q4_all_0 (m0 : List Site) (q1 : Globe) (p6 : Int) (m2 : List Vec) : evCode Tryz.prog GT EQT T_Q4_Valid XT noL 80 (loopB Tryz.prog 113 0) (H_Q4_all_0 m0 q1 p6 m2) [.arr none .site m0, .rw 23 [.int .i64 q1.a, .int .i64 q1.b], .arr (some 105) .vec m2] 3 (normK 1 [1, 2, 5, 6]) =
    bif decide (p6 < (m0.length : Int)) then (bif (decide ((0 : Int) ≤ p6) && decide (p6 < (m0.length : Int))) then (bif (decide ((0 : Int) ≤ p6) && decide (p6 < (m0.length : Int))) then (bif (Nat.blt 0 6 && ((6 == 6) && ((6 == 6) && (Nat.ble (m2.length + ([placeR q1 ((m0.getD p6.toNat (ET.z .site)).s) ((m0.getD p6.toNat (ET.z .site)).t)] : List Vec).length) roomD && Nat.ble 48 4096)))) then some (.st .normal (headT [1, 2, 5, 6] 29 [.v (.c (.aslice 0 none)), .v (.c (.ptr 1 0)), .v (.c (.aslice 2 none)), .v (.c (.d (.int .i64 (w64 (p6 + (1 : Int))))))]) [.arr none .site m0, .rw 23 [.int .i64 q1.a, .int .i64 q1.b], .arr (some 105) .vec (m2 ++ ([placeR q1 ((m0.getD p6.toNat (ET.z .site)).s) ((m0.getD p6.toNat (ET.z .site)).t)] : List Vec))] 3) else none) else none) else none) else some (.st (.exit 0) (headT [1, 2, 5, 6] 29 [.v (.c (.aslice 0 none)), .v (.c (.ptr 1 0)), .v (.c (.aslice 2 none)), .v (.c (.d (.int .i64 p6)))]) [.arr none .site m0, .rw 23 [.int .i64 q1.a, .int .i64 q1.b], .arr (some 105) .vec m2] 3) := by
  kernel_rfl
def o_Q4_all_0 (m0 : List Site) (q1 : Globe) (r : R_Q4_all_0) : LT := .br (Nat.beq r.k 0) (.st (.exit 0) (headT [1, 2, 5, 6] 29 [.v (.c (.aslice 0 none)), .v (.c (.ptr 1 0)), .v (.c (.aslice 2 none)), .v (.c (.d (.int .i64 r.p6)))]) [.arr none .site m0, .rw 23 [.int .i64 q1.a, .int .i64 q1.b], .arr (some 105) .vec r.m2] 3) (.no)
theorem r_Q4_all_0 (m0 : List Site) (q1 : Globe) : ∀ (n : Nat) (p6 : Int) (m2 : List Vec) (x : Ex) (T' : TS) (M' : List Blk) (N' : Nat), LReach (o_Q4_all_0 m0 q1 (run_Q4_all_0 m0 q1 n p6 m2)) x T' M' N' → x ≠ .normal ∧ ∃ j, RoundsN Tryz.prog GT gbT 1 (loopB Tryz.prog 113 0) j (H_Q4_all_0 m0 q1 p6 m2) [.arr none .site m0, .rw 23 [.int .i64 q1.a, .int .i64 q1.b], .arr (some 105) .vec m2] 3 x T' M' N' := by
  have hL : LOKn Tryz.prog GT gbT 1 noL (loopsIn (loopB Tryz.prog 113 0)) := fun _ _ _ _ _ _ _ _ _ h => h.elim
  intro n
  induction n with
  | zero =>
    intro p6 m2 x T' M' N' hr
    exact False.elim (redF hr)
  | succ n ih =>
    intro p6 m2 x T' M' N'
    rw [run_Q4_all_0]
    exact viaE (b_Q4_all_0 m0 q1 p6 m2) (condG (o := o_Q4_all_0 m0 q1) (condG (o := o_Q4_all_0 m0 q1) (condG (o := o_Q4_all_0 m0 q1) (condG (o := o_Q4_all_0 m0 q1) (fun he hr => goN g_Q4_Valid hEQT hmT hL he (ih (w64 (p6 + (1 : Int))) (m2 ++ ([placeR q1 ((m0.getD p6.toNat (ET.z .site)).s) ((m0.getD p6.toNat (ET.z .site)).t)] : List Vec)) x T' M' N' hr)) (fun _ hr => False.elim (redF hr))) (fun _ hr => False.elim (redF hr))) (fun _ hr => False.elim (redF hr))) (fun he hr => stopN g_Q4_Valid hEQT hmT hL he (by simp) (redT hr)))
def f_Q4_all_0 : List AV → List Blk → LT := fun vs Ms => match vs, Ms with
  | [.v (.c (.aslice 0 none)), .v (.c (.ptr 1 0)), .v (.c (.aslice 2 none)), .v (.c (.d (.int .i64 p6)))], [.arr none .site m0, .rw 23 [.int .i64 q1_0, .int .i64 q1_1], .arr (some 105) .vec m2] => o_Q4_all_0 m0 (⟨q1_0, q1_1⟩ : Globe) (lp_Q4_all_0 m0 (⟨q1_0, q1_1⟩ : Globe) p6 m2)
  | _, _ => .no
def L_Q4_all_0 := LamN 3 29 1 [1, 2, 5, 6] f_Q4_all_0
theorem k_Q4_all_0 : LOKbn Tryz.prog GT gbT 1 L_Q4_all_0 (loopB Tryz.prog 113 0) := by
  refine LOKbn.lamN (by kernel_rfl) fun vs Ms x T' M' N' hr => ?_
  unfold f_Q4_all_0 at hr
  split at hr
  · obtain ⟨q1, j, q2⟩ := r_Q4_all_0 _ _ _ _ _ x T' M' N' hr
    exact ⟨q1, j, q2⟩
  · exact hr.elim
structure O_Q4_all where
  ok : Bool
  r0 : List Vec
def m_Q4_all (a0 : Globe) (a1 : List Site) : O_Q4_all := bif Nat.beq (lp_Q4_all_0 a1 a0 (0 : Int) ([] : List Vec)).k 0 then ⟨true, ((lp_Q4_all_0 a1 a0 (0 : Int) ([] : List Vec)).m2)⟩ else ⟨false, []⟩
def F_Q4_all (_a0 : Globe) (a1 : List Site) (K : AV → List Blk → Ans) (r : O_Q4_all) : Ans := bif r.ok then K (.v (.c (.aslice 1 none))) [.arr none .site a1, .arr (some 105) .vec r.r0] else none
theorem e_Q4_all (a0 : Globe) (a1 : List Site) (K : AV → List Blk → Ans) : evFn Tryz.prog GT EQT T_Q4_Valid XT (orL L_Q4_all_0 noL) 80 113 [.v (.agg [.int .i64 a0.a, .int .i64 a0.b]), .v (.c (.aslice 0 none))] [.arr none .site a1] (fun v M => K (finR 1 v M).1 (finR 1 v M).2) = F_Q4_all a0 a1 K (m_Q4_all a0 a1) := by
  unfold m_Q4_all
  refine Eq.trans ?_ (Eq.symm (pushT rfl rfl))
  kernel_rfl
theorem lok_Q4_all : ∀ fn c, Tryz.prog.funcs[113]? = some fn → fn.body = some c → LOKn Tryz.prog GT gbT 1 (orL L_Q4_all_0 noL) (loopsIn c) := by
  refine LOKn.ofF fun b hb => ?_
  have e : loopsF Tryz.prog 113 = [loopB Tryz.prog 113 0] := by kernel_rfl
  rw [e] at hb
  simp only [List.mem_cons, List.not_mem_nil, or_false] at hb
  subst hb
  exact (LOKbn.or k_Q4_all_0 (fun _ _ _ _ _ _ _ h => h.elim))
theorem c_Q4_all (a0 : Globe) (a1 : List Site) (hd : (m_Q4_all a0 a1).ok = true) : CallsA Tryz.prog GT gbT 113 [.v (.agg [.int .i64 a0.a, .int .i64 a0.b]), .v (.c (.aslice 0 none))] [.arr none .site a1] (.v (.c (.aslice 1 none))) [.arr none .site a1, .arr (some 105) .vec ((m_Q4_all a0 a1).r0)] := by
  refine CallsA.ofEvR g_Q4_Valid hEQT hmT (n0 := 1) rfl lok_Q4_all ((e_Q4_all a0 a1 (fun v M => some (Res.fin v M))).trans ?_)
  unfold F_Q4_all
  rw [hd]
  rfl
def s_Q4_all : List AV → List Blk → (AV → List Blk → Ans) → Ans := fun xs bs K => match xs, bs with
  | [.v (.agg [.int .i64 a0_0, .int .i64 a0_1]), .v (.c (.aslice 0 none))], [.arr none .site a1] => F_Q4_all (⟨a0_0, a0_1⟩ : Globe) a1 K (m_Q4_all (⟨a0_0, a0_1⟩ : Globe) a1)
  | _, _ => none
def T_Q4_all : Nat → List AV → List Blk → (AV → List Blk → Ans) → Ans := upd T_Q4_Valid 113 s_Q4_all
theorem g_Q4_all : GOK Tryz.prog GT gbT T_Q4_all XT := by
  refine GOK.upd g_Q4_Valid (fun args w => Tryz.call113 args w) fun xs bs K r h => ?_
  unfold s_Q4_all at h
  split at h
  · unfold F_Q4_all at h
    simp only [cond_eq_ite] at h
    split at h
    · rename_i hd
      exact ⟨_, _, c_Q4_all _ _ hd, h⟩
    · cases h
  · cases h
end Go.Ev

namespace Go.Ev
open Go Go.Proofs
structure R_Q4_Check_0 where
  k : Nat
  p5 : Int
def run_Q4_Check_0 (p4 : Int) (m0 : List Site) (q1 : Globe) : Nat → Int → R_Q4_Check_0
  | 0, p5 => ⟨2, p5⟩
  | n + 1, p5 => bif decide (p5 < (m0.length : Int)) then (bif (decide ((0 : Int) ≤ p5) && decide (p5 < (m0.length : Int))) then (bif (m_Q4_Valid (m0.getD p5.toNat (ET.z .site))).ok then (bif (!(m_Q4_Valid (m0.getD p5.toNat (ET.z .site))).r0) then ⟨0, p5⟩ else run_Q4_Check_0 p4 m0 q1 n (w64 (p5 + (1 : Int)))) else ⟨2, p5⟩) else ⟨2, p5⟩) else ⟨1, p5⟩
def lp_Q4_Check_0 (p4 : Int) (m0 : List Site) (q1 : Globe) (p5 : Int) : R_Q4_Check_0 := run_Q4_Check_0 p4 m0 q1 (2000 + (m0.length)) p5
abbrev H_Q4_Check_0 (p4 : Int) (_m0 : List Site) (_q1 : Globe) (p5 : Int) : TS := headT [1, 2, 4, 5] 65 [.v (.c (.aslice 0 none)), .v (.c (.ptr 1 0)), .v (.c (.d (.int .i64 p4))), .v (.c (.d (.int .i64 p5)))]
theorem b_Q4_Check_0 (p4 : Int) (m0 : List Site) (q1 : Globe) (p5 : Int) : evCode Tryz.prog GT EQT T_Q4_all XT noL 80 (loopB Tryz.prog 85 0) (H_Q4_Check_0 p4 m0 q1 p5) [.arr none .site m0, .rw 23 [.int .i64 q1.a, .int .i64 q1.b]] 2 (normK 1 [1, 2, 4, 5]) =
    bif decide (p5 < (m0.length : Int)) then (bif (decide ((0 : Int) ≤ p5) && decide (p5 < (m0.length : Int))) then (bif (m_Q4_Valid (m0.getD p5.toNat (ET.z .site))).ok then (bif (!(m_Q4_Valid (m0.getD p5.toNat (ET.z .site))).r0) then some (.st .ret (headT [1, 2, 4, 5] 65 [.v (.c (.aslice 0 none)), .v (.c (.ptr 1 0)), .v (.c (.d (.int .i64 (8 : Int)))), .v (.c (.d (.int .i64 p5)))]) [.arr none .site m0, .rw 23 [.int .i64 q1.a, .int .i64 q1.b]] 2) else some (.st .normal (headT [1, 2, 4, 5] 65 [.v (.c (.aslice 0 none)), .v (.c (.ptr 1 0)), .v (.c (.d (.int .i64 p4))), .v (.c (.d (.int .i64 (w64 (p5 + (1 : Int))))))]) [.arr none .site m0, .rw 23 [.int .i64 q1.a, .int .i64 q1.b]] 2)) else none) else none) else some (.st (.exit 0) (headT [1, 2, 4, 5] 65 [.v (.c (.aslice 0 none)), .v (.c (.ptr 1 0)), .v (.c (.d (.int .i64 p4))), .v (.c (.d (.int .i64 p5)))]) [.arr none .site m0, .rw 23 [.int .i64 q1.a, .int .i64 q1.b]] 2) := by
  kernel_rfl
def o_Q4_Check_0 (p4 : Int) (m0 : List Site) (q1 : Globe) (r : R_Q4_Check_0) : LT := .br (Nat.beq r.k 0) (.st .ret (headT [1, 2, 4, 5] 65 [.v (.c (.aslice 0 none)), .v (.c (.ptr 1 0)), .v (.c (.d (.int .i64 (8 : Int)))), .v (.c (.d (.int .i64 r.p5)))]) [.arr none .site m0, .rw 23 [.int .i64 q1.a, .int .i64 q1.b]] 2) (.br (Nat.beq r.k 1) (.st (.exit 0) (headT [1, 2, 4, 5] 65 [.v (.c (.aslice 0 none)), .v (.c (.ptr 1 0)), .v (.c (.d (.int .i64 p4))), .v (.c (.d (.int .i64 r.p5)))]) [.arr none .site m0, .rw 23 [.int .i64 q1.a, .int .i64 q1.b]] 2) (.no))
theorem r_Q4_Check_0 (p4 : Int) (m0 : List Site) (q1 : Globe) : ∀ (n : Nat) (p5 : Int) (x : Ex) (T' : TS) (M' : List Blk) (N' : Nat), LReach (o_Q4_Check_0 p4 m0 q1 (run_Q4_Check_0 p4 m0 q1 n p5)) x T' M' N' → x ≠ .normal ∧ ∃ j, RoundsN Tryz.prog GT gbT 1 (loopB Tryz.prog 85 0) j (H_Q4_Check_0 p4 m0 q1 p5) [.arr none .site m0, .rw 23 [.int .i64 q1.a, .int .i64 q1.b]] 2 x T' M' N' := by
  have hL : LOKn Tryz.prog GT gbT 1 noL (loopsIn (loopB Tryz.prog 85 0)) := fun _ _ _ _ _ _ _ _ _ h => h.elim
  intro n
  induction n with
  | zero =>
    intro p5 x T' M' N' hr
    exact False.elim (redF (redF hr))
  | succ n ih =>
    intro p5 x T' M' N'
    rw [run_Q4_Check_0]
    exact viaE (b_Q4_Check_0 p4 m0 q1 p5) (condG (o := o_Q4_Check_0 p4 m0 q1) (condG (o := o_Q4_Check_0 p4 m0 q1) (condG (o := o_Q4_Check_0 p4 m0 q1) (condG (o := o_Q4_Check_0 p4 m0 q1) (fun he hr => stopN g_Q4_all hEQT hmT hL he (by simp) (redT hr)) (fun he hr => goN g_Q4_all hEQT hmT hL he (ih (w64 (p5 + (1 : Int))) x T' M' N' hr))) (fun _ hr => False.elim (redF (redF hr)))) (fun _ hr => False.elim (redF (redF hr)))) (fun he hr => stopN g_Q4_all hEQT hmT hL he (by simp) (redT (redF hr))))
def f_Q4_Check_0 : List AV → List Blk → LT := fun vs Ms => match vs, Ms with
  | [.v (.c (.aslice 0 none)), .v (.c (.ptr 1 0)), .v (.c (.d (.int .i64 p4))), .v (.c (.d (.int .i64 p5)))], [.arr none .site m0, .rw 23 [.int .i64 q1_0, .int .i64 q1_1]] => o_Q4_Check_0 p4 m0 (⟨q1_0, q1_1⟩ : Globe) (lp_Q4_Check_0 p4 m0 (⟨q1_0, q1_1⟩ : Globe) p5)
  | _, _ => .no
def L_Q4_Check_0 := LamN 6 65 1 [1, 2, 4, 5] f_Q4_Check_0
theorem k_Q4_Check_0 : LOKbn Tryz.prog GT gbT 1 L_Q4_Check_0 (loopB Tryz.prog 85 0) := by
  refine LOKbn.lamN (by kernel_rfl) fun vs Ms x T' M' N' hr => ?_
  unfold f_Q4_Check_0 at hr
  split at hr
  · obtain ⟨q1, j, q2⟩ := r_Q4_Check_0 _ _ _ _ _ x T' M' N' hr
    exact ⟨q1, j, q2⟩
  · exact hr.elim
structure R_Q4_Check_2 where
  k : Nat
  p8 : Int
def run_Q4_Check_2 (p4 : Int) (p7 : Int) (m0 : List Site) (m1 : List Vec) : Nat → Int → R_Q4_Check_2
  | 0, p8 => ⟨2, p8⟩
  | n + 1, p8 => bif decide (p8 < p7) then (bif (decide ((0 : Int) ≤ p7) && decide (p7 < (m0.length : Int))) then (bif (decide ((0 : Int) ≤ p8) && decide (p8 < (m0.length : Int))) then (bif (((m0.getD p7.toNat (ET.z .site)).name).data.toList == ((m0.getD p8.toNat (ET.z .site)).name).data.toList) then ⟨0, p8⟩ else (bif (decide ((0 : Int) ≤ p7) && decide (p7 < (m1.length : Int))) then (bif (decide ((0 : Int) ≤ p8) && decide (p8 < (m1.length : Int))) then (bif eqAll [.int .i64 (((m1.getD p7.toNat (ET.z .vec)).x).num), .int .i64 (((m1.getD p7.toNat (ET.z .vec)).x).den), .int .i64 (((m1.getD p7.toNat (ET.z .vec)).y).num), .int .i64 (((m1.getD p7.toNat (ET.z .vec)).y).den), .int .i64 (((m1.getD p7.toNat (ET.z .vec)).z).num), .int .i64 (((m1.getD p7.toNat (ET.z .vec)).z).den)] [.int .i64 (((m1.getD p8.toNat (ET.z .vec)).x).num), .int .i64 (((m1.getD p8.toNat (ET.z .vec)).x).den), .int .i64 (((m1.getD p8.toNat (ET.z .vec)).y).num), .int .i64 (((m1.getD p8.toNat (ET.z .vec)).y).den), .int .i64 (((m1.getD p8.toNat (ET.z .vec)).z).num), .int .i64 (((m1.getD p8.toNat (ET.z .vec)).z).den)] then ⟨0, p8⟩ else run_Q4_Check_2 p4 p7 m0 m1 n (w64 (p8 + (1 : Int)))) else ⟨2, p8⟩) else ⟨2, p8⟩)) else ⟨2, p8⟩) else ⟨2, p8⟩) else ⟨1, p8⟩
def lp_Q4_Check_2 (p4 : Int) (p7 : Int) (m0 : List Site) (m1 : List Vec) (p8 : Int) : R_Q4_Check_2 := run_Q4_Check_2 p4 p7 m0 m1 (2000 + (m0.length + m1.length)) p8
abbrev H_Q4_Check_2 (p4 : Int) (p7 : Int) (_m0 : List Site) (_m1 : List Vec) (p8 : Int) : TS := headT [1, 4, 6, 7, 8] 65 [.v (.c (.aslice 0 none)), .v (.c (.d (.int .i64 p4))), .v (.c (.aslice 1 none)), .v (.c (.d (.int .i64 p7))), .v (.c (.d (.int .i64 p8)))]
theorem b_Q4_Check_2 (p4 : Int) (p7 : Int) (m0 : List Site) (m1 : List Vec) (p8 : Int) : evCode Tryz.prog GT EQT T_Q4_all XT noL 80 (loopB Tryz.prog 85 2) (H_Q4_Check_2 p4 p7 m0 m1 p8) [.arr none .site m0, .arr (some 105) .vec m1] 2 (normK 1 [1, 4, 6, 7, 8]) =
    bif decide (p8 < p7) then (bif (decide ((0 : Int) ≤ p7) && decide (p7 < (m0.length : Int))) then (bif (decide ((0 : Int) ≤ p8) && decide (p8 < (m0.length : Int))) then (bif (((m0.getD p7.toNat (ET.z .site)).name).data.toList == ((m0.getD p8.toNat (ET.z .site)).name).data.toList) then some (.st .ret (headT [1, 4, 6, 7, 8] 65 [.v (.c (.aslice 0 none)), .v (.c (.d (.int .i64 (14 : Int)))), .v (.c (.aslice 1 none)), .v (.c (.d (.int .i64 p7))), .v (.c (.d (.int .i64 p8)))]) [.arr none .site m0, .arr (some 105) .vec m1] 2) else (bif (decide ((0 : Int) ≤ p7) && decide (p7 < (m1.length : Int))) then (bif (decide ((0 : Int) ≤ p8) && decide (p8 < (m1.length : Int))) then (bif eqAll [.int .i64 (((m1.getD p7.toNat (ET.z .vec)).x).num), .int .i64 (((m1.getD p7.toNat (ET.z .vec)).x).den), .int .i64 (((m1.getD p7.toNat (ET.z .vec)).y).num), .int .i64 (((m1.getD p7.toNat (ET.z .vec)).y).den), .int .i64 (((m1.getD p7.toNat (ET.z .vec)).z).num), .int .i64 (((m1.getD p7.toNat (ET.z .vec)).z).den)] [.int .i64 (((m1.getD p8.toNat (ET.z .vec)).x).num), .int .i64 (((m1.getD p8.toNat (ET.z .vec)).x).den), .int .i64 (((m1.getD p8.toNat (ET.z .vec)).y).num), .int .i64 (((m1.getD p8.toNat (ET.z .vec)).y).den), .int .i64 (((m1.getD p8.toNat (ET.z .vec)).z).num), .int .i64 (((m1.getD p8.toNat (ET.z .vec)).z).den)] then some (.st .ret (headT [1, 4, 6, 7, 8] 65 [.v (.c (.aslice 0 none)), .v (.c (.d (.int .i64 (14 : Int)))), .v (.c (.aslice 1 none)), .v (.c (.d (.int .i64 p7))), .v (.c (.d (.int .i64 p8)))]) [.arr none .site m0, .arr (some 105) .vec m1] 2) else some (.st .normal (headT [1, 4, 6, 7, 8] 65 [.v (.c (.aslice 0 none)), .v (.c (.d (.int .i64 p4))), .v (.c (.aslice 1 none)), .v (.c (.d (.int .i64 p7))), .v (.c (.d (.int .i64 (w64 (p8 + (1 : Int))))))]) [.arr none .site m0, .arr (some 105) .vec m1] 2)) else none) else none)) else none) else none) else some (.st (.exit 4) (headT [1, 4, 6, 7, 8] 65 [.v (.c (.aslice 0 none)), .v (.c (.d (.int .i64 p4))), .v (.c (.aslice 1 none)), .v (.c (.d (.int .i64 p7))), .v (.c (.d (.int .i64 p8)))]) [.arr none .site m0, .arr (some 105) .vec m1] 2) := by
  kernel_rfl
def o_Q4_Check_2 (p4 : Int) (p7 : Int) (m0 : List Site) (m1 : List Vec) (r : R_Q4_Check_2) : LT := .br (Nat.beq r.k 0) (.st .ret (headT [1, 4, 6, 7, 8] 65 [.v (.c (.aslice 0 none)), .v (.c (.d (.int .i64 (14 : Int)))), .v (.c (.aslice 1 none)), .v (.c (.d (.int .i64 p7))), .v (.c (.d (.int .i64 r.p8)))]) [.arr none .site m0, .arr (some 105) .vec m1] 2) (.br (Nat.beq r.k 1) (.st (.exit 4) (headT [1, 4, 6, 7, 8] 65 [.v (.c (.aslice 0 none)), .v (.c (.d (.int .i64 p4))), .v (.c (.aslice 1 none)), .v (.c (.d (.int .i64 p7))), .v (.c (.d (.int .i64 r.p8)))]) [.arr none .site m0, .arr (some 105) .vec m1] 2) (.no))
theorem r_Q4_Check_2 (p4 : Int) (p7 : Int) (m0 : List Site) (m1 : List Vec) : ∀ (n : Nat) (p8 : Int) (x : Ex) (T' : TS) (M' : List Blk) (N' : Nat), LReach (o_Q4_Check_2 p4 p7 m0 m1 (run_Q4_Check_2 p4 p7 m0 m1 n p8)) x T' M' N' → x ≠ .normal ∧ ∃ j, RoundsN Tryz.prog GT gbT 1 (loopB Tryz.prog 85 2) j (H_Q4_Check_2 p4 p7 m0 m1 p8) [.arr none .site m0, .arr (some 105) .vec m1] 2 x T' M' N' := by
  have hL : LOKn Tryz.prog GT gbT 1 noL (loopsIn (loopB Tryz.prog 85 2)) := fun _ _ _ _ _ _ _ _ _ h => h.elim
  intro n
  induction n with
  | zero =>
    intro p8 x T' M' N' hr
    exact False.elim (redF (redF hr))
  | succ n ih =>
    intro p8 x T' M' N'
    rw [run_Q4_Check_2]
    exact viaE (b_Q4_Check_2 p4 p7 m0 m1 p8) (condG (o := o_Q4_Check_2 p4 p7 m0 m1) (condG (o := o_Q4_Check_2 p4 p7 m0 m1) (condG (o := o_Q4_Check_2 p4 p7 m0 m1) (condG (o := o_Q4_Check_2 p4 p7 m0 m1) (fun he hr => stopN g_Q4_all hEQT hmT hL he (by simp) (redT hr)) (condG (o := o_Q4_Check_2 p4 p7 m0 m1) (condG (o := o_Q4_Check_2 p4 p7 m0 m1) (condG (o := o_Q4_Check_2 p4 p7 m0 m1) (fun he hr => stopN g_Q4_all hEQT hmT hL he (by simp) (redT hr)) (fun he hr => goN g_Q4_all hEQT hmT hL he (ih (w64 (p8 + (1 : Int))) x T' M' N' hr))) (fun _ hr => False.elim (redF (redF hr)))) (fun _ hr => False.elim (redF (redF hr))))) (fun _ hr => False.elim (redF (redF hr)))) (fun _ hr => False.elim (redF (redF hr)))) (fun he hr => stopN g_Q4_all hEQT hmT hL he (by simp) (redT (redF hr))))
def f_Q4_Check_2 : List AV → List Blk → LT := fun vs Ms => match vs, Ms with
  | [.v (.c (.aslice 0 none)), .v (.c (.d (.int .i64 p4))), .v (.c (.aslice 1 none)), .v (.c (.d (.int .i64 p7))), .v (.c (.d (.int .i64 p8)))], [.arr none .site m0, .arr (some 105) .vec m1] => o_Q4_Check_2 p4 p7 m0 m1 (lp_Q4_Check_2 p4 p7 m0 m1 p8)
  | _, _ => .no
def L_Q4_Check_2 := LamN 15 65 1 [1, 4, 6, 7, 8] f_Q4_Check_2
theorem k_Q4_Check_2 : LOKbn Tryz.prog GT gbT 1 L_Q4_Check_2 (loopB Tryz.prog 85 2) := by
  refine LOKbn.lamN (by kernel_rfl) fun vs Ms x T' M' N' hr => ?_
  unfold f_Q4_Check_2 at hr
  split at hr
  · obtain ⟨q1, j, q2⟩ := r_Q4_Check_2 _ _ _ _ _ _ x T' M' N' hr
    exact ⟨q1, j, q2⟩
  · exact hr.elim
structure R_Q4_Check_1 where
  k : Nat
  p7 : Int
def run_Q4_Check_1 (p4 : Int) (m0 : List Site) (m1 : List Vec) : Nat → Int → R_Q4_Check_1
  | 0, p7 => ⟨2, p7⟩
  | n + 1, p7 => bif decide (p7 < (m0.length : Int)) then (bif Nat.beq (lp_Q4_Check_2 p4 p7 m0 m1 (0 : Int)).k 0 then ⟨0, p7⟩ else (bif Nat.beq (lp_Q4_Check_2 p4 p7 m0 m1 (0 : Int)).k 1 then run_Q4_Check_1 p4 m0 m1 n (w64 (p7 + (1 : Int))) else ⟨2, p7⟩)) else ⟨1, p7⟩
def lp_Q4_Check_1 (p4 : Int) (m0 : List Site) (m1 : List Vec) (p7 : Int) : R_Q4_Check_1 := run_Q4_Check_1 p4 m0 m1 (2000 + (m0.length + m1.length)) p7
abbrev H_Q4_Check_1 (p4 : Int) (_m0 : List Site) (_m1 : List Vec) (p7 : Int) : TS := headT [1, 4, 6, 7] 65 [.v (.c (.aslice 0 none)), .v (.c (.d (.int .i64 p4))), .v (.c (.aslice 1 none)), .v (.c (.d (.int .i64 p7)))]
theorem b_Q4_Check_1 (p4 : Int) (m0 : List Site) (m1 : List Vec) (p7 : Int) : evCode Tryz.prog GT EQT T_Q4_all XT (orL L_Q4_Check_2 noL) 80 (loopB Tryz.prog 85 1) (H_Q4_Check_1 p4 m0 m1 p7) [.arr none .site m0, .arr (some 105) .vec m1] 2 (normK 1 [1, 4, 6, 7]) =
    bif decide (p7 < (m0.length : Int)) then (bif Nat.beq (lp_Q4_Check_2 p4 p7 m0 m1 (0 : Int)).k 0 then some (.st .ret (headT [1, 4, 6, 7] 65 [.v (.c (.aslice 0 none)), .v (.c (.d (.int .i64 (14 : Int)))), .v (.c (.aslice 1 none)), .v (.c (.d (.int .i64 p7)))]) [.arr none .site m0, .arr (some 105) .vec m1] 2) else (bif Nat.beq (lp_Q4_Check_2 p4 p7 m0 m1 (0 : Int)).k 1 then some (.st .normal (headT [1, 4, 6, 7] 65 [.v (.c (.aslice 0 none)), .v (.c (.d (.int .i64 p4))), .v (.c (.aslice 1 none)), .v (.c (.d (.int .i64 (w64 (p7 + (1 : Int))))))]) [.arr none .site m0, .arr (some 105) .vec m1] 2) else none)) else some (.st (.exit 2) (headT [1, 4, 6, 7] 65 [.v (.c (.aslice 0 none)), .v (.c (.d (.int .i64 p4))), .v (.c (.aslice 1 none)), .v (.c (.d (.int .i64 p7)))]) [.arr none .site m0, .arr (some 105) .vec m1] 2) := by
  kernel_rfl
def o_Q4_Check_1 (p4 : Int) (m0 : List Site) (m1 : List Vec) (r : R_Q4_Check_1) : LT := .br (Nat.beq r.k 0) (.st .ret (headT [1, 4, 6, 7] 65 [.v (.c (.aslice 0 none)), .v (.c (.d (.int .i64 (14 : Int)))), .v (.c (.aslice 1 none)), .v (.c (.d (.int .i64 r.p7)))]) [.arr none .site m0, .arr (some 105) .vec m1] 2) (.br (Nat.beq r.k 1) (.st (.exit 2) (headT [1, 4, 6, 7] 65 [.v (.c (.aslice 0 none)), .v (.c (.d (.int .i64 p4))), .v (.c (.aslice 1 none)), .v (.c (.d (.int .i64 r.p7)))]) [.arr none .site m0, .arr (some 105) .vec m1] 2) (.no))
theorem r_Q4_Check_1 (p4 : Int) (m0 : List Site) (m1 : List Vec) : ∀ (n : Nat) (p7 : Int) (x : Ex) (T' : TS) (M' : List Blk) (N' : Nat), LReach (o_Q4_Check_1 p4 m0 m1 (run_Q4_Check_1 p4 m0 m1 n p7)) x T' M' N' → x ≠ .normal ∧ ∃ j, RoundsN Tryz.prog GT gbT 1 (loopB Tryz.prog 85 1) j (H_Q4_Check_1 p4 m0 m1 p7) [.arr none .site m0, .arr (some 105) .vec m1] 2 x T' M' N' := by
  have hL : LOKn Tryz.prog GT gbT 1 (orL L_Q4_Check_2 noL) (loopsIn (loopB Tryz.prog 85 1)) := by
    intro b hb
    have e : loopsIn (loopB Tryz.prog 85 1) = [loopB Tryz.prog 85 2] := by kernel_rfl
    rw [e] at hb
    simp only [List.mem_cons, List.not_mem_nil, or_false] at hb
    subst hb
    exact (LOKbn.or k_Q4_Check_2 (fun _ _ _ _ _ _ _ h => h.elim))
  intro n
  induction n with
  | zero =>
    intro p7 x T' M' N' hr
    exact False.elim (redF (redF hr))
  | succ n ih =>
    intro p7 x T' M' N'
    rw [run_Q4_Check_1]
    exact viaE (b_Q4_Check_1 p4 m0 m1 p7) (condG (o := o_Q4_Check_1 p4 m0 m1) (condG (o := o_Q4_Check_1 p4 m0 m1) (fun he hr => stopN g_Q4_all hEQT hmT hL he (by simp) (redT hr)) (condG (o := o_Q4_Check_1 p4 m0 m1) (fun he hr => goN g_Q4_all hEQT hmT hL he (ih (w64 (p7 + (1 : Int))) x T' M' N' hr)) (fun _ hr => False.elim (redF (redF hr))))) (fun he hr => stopN g_Q4_all hEQT hmT hL he (by simp) (redT (redF hr))))
def f_Q4_Check_1 : List AV → List Blk → LT := fun vs Ms => match vs, Ms with
  | [.v (.c (.aslice 0 none)), .v (.c (.d (.int .i64 p4))), .v (.c (.aslice 1 none)), .v (.c (.d (.int .i64 p7)))], [.arr none .site m0, .arr (some 105) .vec m1] => o_Q4_Check_1 p4 m0 m1 (lp_Q4_Check_1 p4 m0 m1 p7)
  | _, _ => .no
def L_Q4_Check_1 := LamN 12 65 1 [1, 4, 6, 7] f_Q4_Check_1
theorem k_Q4_Check_1 : LOKbn Tryz.prog GT gbT 1 L_Q4_Check_1 (loopB Tryz.prog 85 1) := by
  refine LOKbn.lamN (by kernel_rfl) fun vs Ms x T' M' N' hr => ?_
  unfold f_Q4_Check_1 at hr
  split at hr
  · obtain ⟨q1, j, q2⟩ := r_Q4_Check_1 _ _ _ _ _ x T' M' N' hr
    exact ⟨q1, j, q2⟩
  · exact hr.elim
structure O_Q4_Check where
  ok : Bool
  r0 : Int
def m_Q4_Check (a0 : Globe) (a1 : List Site) : O_Q4_Check := bif ((checkG a0) != (0 : Int)) then ⟨true, (checkG a0)⟩ else (bif decide ((8 : Int) < (a1.length : Int)) then ⟨true, (4 : Int)⟩ else (bif Nat.beq (lp_Q4_Check_0 (0 : Int) a1 a0 (0 : Int)).k 0 then ⟨true, (8 : Int)⟩ else (bif Nat.beq (lp_Q4_Check_0 (0 : Int) a1 a0 (0 : Int)).k 1 then (bif (m_Q4_all a0 a1).ok then (bif Nat.beq (lp_Q4_Check_1 (0 : Int) a1 ((m_Q4_all a0 a1).r0) (0 : Int)).k 0 then ⟨true, (14 : Int)⟩ else (bif Nat.beq (lp_Q4_Check_1 (0 : Int) a1 ((m_Q4_all a0 a1).r0) (0 : Int)).k 1 then ⟨true, (0 : Int)⟩ else ⟨false, 0⟩)) else ⟨false, 0⟩) else ⟨false, 0⟩)))
def F_Q4_Check (_a0 : Globe) (a1 : List Site) (K : AV → List Blk → Ans) (r : O_Q4_Check) : Ans := bif r.ok then K (.v (.c (.d (.int .i64 r.r0)))) [.arr none .site a1] else none
theorem e_Q4_Check (a0 : Globe) (a1 : List Site) (K : AV → List Blk → Ans) : evFn Tryz.prog GT EQT T_Q4_all XT (orL L_Q4_Check_1 (orL L_Q4_Check_2 (orL L_Q4_Check_0 noL))) 80 85 [.v (.agg [.int .i64 a0.a, .int .i64 a0.b]), .v (.c (.aslice 0 none))] [.arr none .site a1] (fun v M => K (finR 1 v M).1 (finR 1 v M).2) = F_Q4_Check a0 a1 K (m_Q4_Check a0 a1) := by
  unfold m_Q4_Check
  refine Eq.trans ?_ (Eq.symm (pushT rfl (pushT rfl (pushT rfl (pushT (pushT (pushT rfl (pushT rfl rfl)) rfl) rfl)))))
  kernel_rfl
theorem lok_Q4_Check : ∀ fn c, Tryz.prog.funcs[85]? = some fn → fn.body = some c → LOKn Tryz.prog GT gbT 1 (orL L_Q4_Check_1 (orL L_Q4_Check_2 (orL L_Q4_Check_0 noL))) (loopsIn c) := by
  refine LOKn.ofF fun b hb => ?_
  have e : loopsF Tryz.prog 85 = [loopB Tryz.prog 85 0, loopB Tryz.prog 85 1, loopB Tryz.prog 85 2] := by kernel_rfl
  rw [e] at hb
  simp only [List.mem_cons, List.not_mem_nil, or_false] at hb
  rcases hb with rfl | rfl | rfl
  · exact (LOKbn.or (LOKbn.lamN_other (by kernel_rfl)) (LOKbn.or (LOKbn.lamN_other (by kernel_rfl)) (LOKbn.or k_Q4_Check_0 (fun _ _ _ _ _ _ _ h => h.elim))))
  · exact (LOKbn.or k_Q4_Check_1 (LOKbn.or (LOKbn.lamN_other (by kernel_rfl)) (LOKbn.or (LOKbn.lamN_other (by kernel_rfl)) (fun _ _ _ _ _ _ _ h => h.elim))))
  · exact (LOKbn.or (LOKbn.lamN_other (by kernel_rfl)) (LOKbn.or k_Q4_Check_2 (LOKbn.or (LOKbn.lamN_other (by kernel_rfl)) (fun _ _ _ _ _ _ _ h => h.elim))))
theorem c_Q4_Check (a0 : Globe) (a1 : List Site) (hd : (m_Q4_Check a0 a1).ok = true) : CallsA Tryz.prog GT gbT 85 [.v (.agg [.int .i64 a0.a, .int .i64 a0.b]), .v (.c (.aslice 0 none))] [.arr none .site a1] (.v (.c (.d (.int .i64 ((m_Q4_Check a0 a1).r0))))) [.arr none .site a1] := by
  refine CallsA.ofEvR g_Q4_all hEQT hmT (n0 := 1) rfl lok_Q4_Check ((e_Q4_Check a0 a1 (fun v M => some (Res.fin v M))).trans ?_)
  unfold F_Q4_Check
  rw [hd]
  rfl
def s_Q4_Check : List AV → List Blk → (AV → List Blk → Ans) → Ans := fun xs bs K => match xs, bs with
  | [.v (.agg [.int .i64 a0_0, .int .i64 a0_1]), .v (.c (.aslice 0 none))], [.arr none .site a1] => F_Q4_Check (⟨a0_0, a0_1⟩ : Globe) a1 K (m_Q4_Check (⟨a0_0, a0_1⟩ : Globe) a1)
  | _, _ => none
def T_Q4_Check : Nat → List AV → List Blk → (AV → List Blk → Ans) → Ans := upd T_Q4_all 85 s_Q4_Check
theorem g_Q4_Check : GOK Tryz.prog GT gbT T_Q4_Check XT := by
  refine GOK.upd g_Q4_all (fun args w => Tryz.call85 args w) fun xs bs K r h => ?_
  unfold s_Q4_Check at h
  split at h
  · unfold F_Q4_Check at h
    simp only [cond_eq_ite] at h
    split at h
    · rename_i hd
      exact ⟨_, _, c_Q4_Check _ _ hd, h⟩
    · cases h
  · cases h
structure O_Q4_Places where
  ok : Bool
  r0 : List Vec
  r1 : Int
def m_Q4_Places (a0 : Globe) (a1 : List Site) : O_Q4_Places := bif (m_Q4_Check a0 a1).ok then (bif ((m_Q4_Check a0 a1).r0 != (0 : Int)) then (bif (m_Q4_Check a0 a1).ok then ⟨true, ([] : List Vec), (m_Q4_Check a0 a1).r0⟩ else ⟨false, [], 0⟩) else (bif (m_Q4_all a0 a1).ok then ⟨true, (m_Q4_all a0 a1).r0, (0 : Int)⟩ else ⟨false, [], 0⟩)) else ⟨false, [], 0⟩
def F_Q4_Places (_a0 : Globe) (a1 : List Site) (K : AV → List Blk → Ans) (r : O_Q4_Places) : Ans := bif r.ok then K (.tup [.c (.aslice 1 none), .c (.d (.int .i64 r.r1))]) [.arr none .site a1, .arr (some 105) .vec r.r0] else none
theorem e_Q4_Places (a0 : Globe) (a1 : List Site) (K : AV → List Blk → Ans) : evFn Tryz.prog GT EQT T_Q4_Check XT noL 80 94 [.v (.agg [.int .i64 a0.a, .int .i64 a0.b]), .v (.c (.aslice 0 none))] [.arr none .site a1] (fun v M => K (finR 1 v M).1 (finR 1 v M).2) = F_Q4_Places a0 a1 K (m_Q4_Places a0 a1) := by
  unfold m_Q4_Places
  refine Eq.trans ?_ (Eq.symm (pushT (pushT (pushT rfl rfl) (pushT rfl rfl)) rfl))
  kernel_rfl
theorem c_Q4_Places (a0 : Globe) (a1 : List Site) (hd : (m_Q4_Places a0 a1).ok = true) : CallsA Tryz.prog GT gbT 94 [.v (.agg [.int .i64 a0.a, .int .i64 a0.b]), .v (.c (.aslice 0 none))] [.arr none .site a1] (.tup [.c (.aslice 1 none), .c (.d (.int .i64 ((m_Q4_Places a0 a1).r1)))]) [.arr none .site a1, .arr (some 105) .vec ((m_Q4_Places a0 a1).r0)] := by
  refine CallsA.ofEvR g_Q4_Check hEQT hmT (n0 := 1) rfl (fun _ _ _ _ => LOKn.nil) ((e_Q4_Places a0 a1 (fun v M => some (Res.fin v M))).trans ?_)
  unfold F_Q4_Places
  rw [hd]
  rfl
def s_Q4_Places : List AV → List Blk → (AV → List Blk → Ans) → Ans := fun xs bs K => match xs, bs with
  | [.v (.agg [.int .i64 a0_0, .int .i64 a0_1]), .v (.c (.aslice 0 none))], [.arr none .site a1] => F_Q4_Places (⟨a0_0, a0_1⟩ : Globe) a1 K (m_Q4_Places (⟨a0_0, a0_1⟩ : Globe) a1)
  | _, _ => none
def T_Q4_Places : Nat → List AV → List Blk → (AV → List Blk → Ans) → Ans := upd T_Q4_Check 94 s_Q4_Places
theorem g_Q4_Places : GOK Tryz.prog GT gbT T_Q4_Places XT := by
  refine GOK.upd g_Q4_Check (fun args w => Tryz.call94 args w) fun xs bs K r h => ?_
  unfold s_Q4_Places at h
  split at h
  · unfold F_Q4_Places at h
    simp only [cond_eq_ite] at h
    split at h
    · rename_i hd
      exact ⟨_, _, c_Q4_Places _ _ hd, h⟩
    · cases h
  · cases h
structure O_Q4_Line where
  ok : Bool
  r0 : Vec
  r1 : Int
def m_Q4_Line (a0 : Globe) (a1 : List Site) (a2 : Int) (a3 : Int) : O_Q4_Line := bif (m_Q4_Places a0 a1).ok then (bif ((m_Q4_Places a0 a1).r1 != (0 : Int)) then ⟨true, ⟨⟨(0 : Int), (0 : Int)⟩, ⟨(0 : Int), (0 : Int)⟩, ⟨(0 : Int), (0 : Int)⟩⟩, (m_Q4_Places a0 a1).r1⟩ else (bif decide (a2 < (0 : Int)) then ⟨true, ⟨⟨(0 : Int), (0 : Int)⟩, ⟨(0 : Int), (0 : Int)⟩, ⟨(0 : Int), (0 : Int)⟩⟩, (2 : Int)⟩ else (bif decide (a3 < (0 : Int)) then ⟨true, ⟨⟨(0 : Int), (0 : Int)⟩, ⟨(0 : Int), (0 : Int)⟩, ⟨(0 : Int), (0 : Int)⟩⟩, (2 : Int)⟩ else (bif decide ((a1.length : Int) ≤ a2) then ⟨true, ⟨⟨(0 : Int), (0 : Int)⟩, ⟨(0 : Int), (0 : Int)⟩, ⟨(0 : Int), (0 : Int)⟩⟩, (2 : Int)⟩ else (bif decide ((a1.length : Int) ≤ a3) then ⟨true, ⟨⟨(0 : Int), (0 : Int)⟩, ⟨(0 : Int), (0 : Int)⟩, ⟨(0 : Int), (0 : Int)⟩⟩, (2 : Int)⟩ else (bif (decide ((0 : Int) ≤ a3) && decide (a3 < (((m_Q4_Places a0 a1).r0).length : Int))) then (bif (decide ((0 : Int) ≤ a2) && decide (a2 < (((m_Q4_Places a0 a1).r0).length : Int))) then ⟨true, (subV ⟨⟨(((((m_Q4_Places a0 a1).r0).getD a3.toNat (ET.z .vec)).x).num), (((((m_Q4_Places a0 a1).r0).getD a3.toNat (ET.z .vec)).x).den)⟩, ⟨(((((m_Q4_Places a0 a1).r0).getD a3.toNat (ET.z .vec)).y).num), (((((m_Q4_Places a0 a1).r0).getD a3.toNat (ET.z .vec)).y).den)⟩, ⟨(((((m_Q4_Places a0 a1).r0).getD a3.toNat (ET.z .vec)).z).num), (((((m_Q4_Places a0 a1).r0).getD a3.toNat (ET.z .vec)).z).den)⟩⟩ ⟨⟨(((((m_Q4_Places a0 a1).r0).getD a2.toNat (ET.z .vec)).x).num), (((((m_Q4_Places a0 a1).r0).getD a2.toNat (ET.z .vec)).x).den)⟩, ⟨(((((m_Q4_Places a0 a1).r0).getD a2.toNat (ET.z .vec)).y).num), (((((m_Q4_Places a0 a1).r0).getD a2.toNat (ET.z .vec)).y).den)⟩, ⟨(((((m_Q4_Places a0 a1).r0).getD a2.toNat (ET.z .vec)).z).num), (((((m_Q4_Places a0 a1).r0).getD a2.toNat (ET.z .vec)).z).den)⟩⟩).1, (subV ⟨⟨(((((m_Q4_Places a0 a1).r0).getD a3.toNat (ET.z .vec)).x).num), (((((m_Q4_Places a0 a1).r0).getD a3.toNat (ET.z .vec)).x).den)⟩, ⟨(((((m_Q4_Places a0 a1).r0).getD a3.toNat (ET.z .vec)).y).num), (((((m_Q4_Places a0 a1).r0).getD a3.toNat (ET.z .vec)).y).den)⟩, ⟨(((((m_Q4_Places a0 a1).r0).getD a3.toNat (ET.z .vec)).z).num), (((((m_Q4_Places a0 a1).r0).getD a3.toNat (ET.z .vec)).z).den)⟩⟩ ⟨⟨(((((m_Q4_Places a0 a1).r0).getD a2.toNat (ET.z .vec)).x).num), (((((m_Q4_Places a0 a1).r0).getD a2.toNat (ET.z .vec)).x).den)⟩, ⟨(((((m_Q4_Places a0 a1).r0).getD a2.toNat (ET.z .vec)).y).num), (((((m_Q4_Places a0 a1).r0).getD a2.toNat (ET.z .vec)).y).den)⟩, ⟨(((((m_Q4_Places a0 a1).r0).getD a2.toNat (ET.z .vec)).z).num), (((((m_Q4_Places a0 a1).r0).getD a2.toNat (ET.z .vec)).z).den)⟩⟩).2⟩ else ⟨false, ⟨⟨0, 0⟩, ⟨0, 0⟩, ⟨0, 0⟩⟩, 0⟩) else ⟨false, ⟨⟨0, 0⟩, ⟨0, 0⟩, ⟨0, 0⟩⟩, 0⟩)))))) else ⟨false, ⟨⟨0, 0⟩, ⟨0, 0⟩, ⟨0, 0⟩⟩, 0⟩
def F_Q4_Line (_a0 : Globe) (a1 : List Site) (_a2 : Int) (_a3 : Int) (K : AV → List Blk → Ans) (r : O_Q4_Line) : Ans := bif r.ok then K (.tup [.agg [.int .i64 r.r0.x.num, .int .i64 r.r0.x.den, .int .i64 r.r0.y.num, .int .i64 r.r0.y.den, .int .i64 r.r0.z.num, .int .i64 r.r0.z.den], .c (.d (.int .i64 r.r1))]) [.arr none .site a1] else none
theorem e_Q4_Line (a0 : Globe) (a1 : List Site) (a2 : Int) (a3 : Int) (K : AV → List Blk → Ans) : evFn Tryz.prog GT EQT T_Q4_Places XT noL 80 74 [.v (.agg [.int .i64 a0.a, .int .i64 a0.b]), .v (.c (.aslice 0 none)), .v (.c (.d (.int .i64 a2))), .v (.c (.d (.int .i64 a3)))] [.arr none .site a1] (fun v M => K (finR 1 v M).1 (finR 1 v M).2) = F_Q4_Line a0 a1 a2 a3 K (m_Q4_Line a0 a1 a2 a3) := by
  unfold m_Q4_Line
  refine Eq.trans ?_ (Eq.symm (pushT (pushT rfl (pushT rfl (pushT rfl (pushT rfl (pushT rfl (pushT (pushT rfl rfl) rfl)))))) rfl))
  kernel_rfl
theorem c_Q4_Line (a0 : Globe) (a1 : List Site) (a2 : Int) (a3 : Int) (hd : (m_Q4_Line a0 a1 a2 a3).ok = true) : CallsA Tryz.prog GT gbT 74 [.v (.agg [.int .i64 a0.a, .int .i64 a0.b]), .v (.c (.aslice 0 none)), .v (.c (.d (.int .i64 a2))), .v (.c (.d (.int .i64 a3)))] [.arr none .site a1] (.tup [.agg [.int .i64 ((((m_Q4_Line a0 a1 a2 a3).r0).x).num), .int .i64 ((((m_Q4_Line a0 a1 a2 a3).r0).x).den), .int .i64 ((((m_Q4_Line a0 a1 a2 a3).r0).y).num), .int .i64 ((((m_Q4_Line a0 a1 a2 a3).r0).y).den), .int .i64 ((((m_Q4_Line a0 a1 a2 a3).r0).z).num), .int .i64 ((((m_Q4_Line a0 a1 a2 a3).r0).z).den)], .c (.d (.int .i64 ((m_Q4_Line a0 a1 a2 a3).r1)))]) [.arr none .site a1] := by
  refine CallsA.ofEvR g_Q4_Places hEQT hmT (n0 := 1) rfl (fun _ _ _ _ => LOKn.nil) ((e_Q4_Line a0 a1 a2 a3 (fun v M => some (Res.fin v M))).trans ?_)
  unfold F_Q4_Line
  rw [hd]
  rfl
def s_Q4_Line : List AV → List Blk → (AV → List Blk → Ans) → Ans := fun xs bs K => match xs, bs with
  | [.v (.agg [.int .i64 a0_0, .int .i64 a0_1]), .v (.c (.aslice 0 none)), .v (.c (.d (.int .i64 a2))), .v (.c (.d (.int .i64 a3)))], [.arr none .site a1] => F_Q4_Line (⟨a0_0, a0_1⟩ : Globe) a1 a2 a3 K (m_Q4_Line (⟨a0_0, a0_1⟩ : Globe) a1 a2 a3)
  | _, _ => none
def T_Q4_Line : Nat → List AV → List Blk → (AV → List Blk → Ans) → Ans := upd T_Q4_Places 74 s_Q4_Line
theorem g_Q4_Line : GOK Tryz.prog GT gbT T_Q4_Line XT := by
  refine GOK.upd g_Q4_Places (fun args w => Tryz.call74 args w) fun xs bs K r h => ?_
  unfold s_Q4_Line at h
  split at h
  · unfold F_Q4_Line at h
    simp only [cond_eq_ite] at h
    split at h
    · rename_i hd
      exact ⟨_, _, c_Q4_Line _ _ _ _ hd, h⟩
    · cases h
  · cases h
structure O_Q8_Line where
  ok : Bool
  r0 : Dir
  r1 : Int
def m_Q8_Line (a0 : Globe) (a1 : List Site) (a2 : Int) (a3 : Int) (a4 : Source) (a5 : Int) : O_Q8_Line := bif (m_Q4_Line a0 a1 a2 a3).ok then (bif ((m_Q4_Line a0 a1 a2 a3).r1 != (0 : Int)) then ⟨true, ⟨⟨(0 : Int), (0 : Int)⟩, ⟨(0 : Int), (0 : Int)⟩, ⟨(0 : Int), (0 : Int)⟩⟩, (m_Q4_Line a0 a1 a2 a3).r1⟩ else ⟨true, (projV ((m_Q4_Line a0 a1 a2 a3).r0) a4 a5).1, (projV ((m_Q4_Line a0 a1 a2 a3).r0) a4 a5).2⟩) else ⟨false, ⟨⟨0, 0⟩, ⟨0, 0⟩, ⟨0, 0⟩⟩, 0⟩
def F_Q8_Line (_a0 : Globe) (a1 : List Site) (_a2 : Int) (_a3 : Int) (_a4 : Source) (_a5 : Int) (K : AV → List Blk → Ans) (r : O_Q8_Line) : Ans := bif r.ok then K (.tup [.agg [.int .i64 r.r0.x.lo, .int .i64 r.r0.x.hi, .int .i64 r.r0.y.lo, .int .i64 r.r0.y.hi, .int .i64 r.r0.z.lo, .int .i64 r.r0.z.hi], .c (.d (.int .i64 r.r1))]) [.arr none .site a1] else none
theorem e_Q8_Line (a0 : Globe) (a1 : List Site) (a2 : Int) (a3 : Int) (a4 : Source) (a5 : Int) (K : AV → List Blk → Ans) : evFn Tryz.prog GT EQT T_Q4_Line XT noL 80 55 [.v (.agg [.int .i64 a0.a, .int .i64 a0.b]), .v (.c (.aslice 0 none)), .v (.c (.d (.int .i64 a2))), .v (.c (.d (.int .i64 a3))), .v (.agg [.str a4.name, .int .i64 a4.ra, .int .i64 a4.dec]), .v (.c (.d (.int .i64 a5)))] [.arr none .site a1] (fun v M => K (finR 1 v M).1 (finR 1 v M).2) = F_Q8_Line a0 a1 a2 a3 a4 a5 K (m_Q8_Line a0 a1 a2 a3 a4 a5) := by
  unfold m_Q8_Line
  refine Eq.trans ?_ (Eq.symm (pushT (pushT rfl rfl) rfl))
  kernel_rfl
theorem c_Q8_Line (a0 : Globe) (a1 : List Site) (a2 : Int) (a3 : Int) (a4 : Source) (a5 : Int) (hd : (m_Q8_Line a0 a1 a2 a3 a4 a5).ok = true) : CallsA Tryz.prog GT gbT 55 [.v (.agg [.int .i64 a0.a, .int .i64 a0.b]), .v (.c (.aslice 0 none)), .v (.c (.d (.int .i64 a2))), .v (.c (.d (.int .i64 a3))), .v (.agg [.str a4.name, .int .i64 a4.ra, .int .i64 a4.dec]), .v (.c (.d (.int .i64 a5)))] [.arr none .site a1] (.tup [.agg [.int .i64 ((((m_Q8_Line a0 a1 a2 a3 a4 a5).r0).x).lo), .int .i64 ((((m_Q8_Line a0 a1 a2 a3 a4 a5).r0).x).hi), .int .i64 ((((m_Q8_Line a0 a1 a2 a3 a4 a5).r0).y).lo), .int .i64 ((((m_Q8_Line a0 a1 a2 a3 a4 a5).r0).y).hi), .int .i64 ((((m_Q8_Line a0 a1 a2 a3 a4 a5).r0).z).lo), .int .i64 ((((m_Q8_Line a0 a1 a2 a3 a4 a5).r0).z).hi)], .c (.d (.int .i64 ((m_Q8_Line a0 a1 a2 a3 a4 a5).r1)))]) [.arr none .site a1] := by
  refine CallsA.ofEvR g_Q4_Line hEQT hmT (n0 := 1) rfl (fun _ _ _ _ => LOKn.nil) ((e_Q8_Line a0 a1 a2 a3 a4 a5 (fun v M => some (Res.fin v M))).trans ?_)
  unfold F_Q8_Line
  rw [hd]
  rfl
def s_Q8_Line : List AV → List Blk → (AV → List Blk → Ans) → Ans := fun xs bs K => match xs, bs with
  | [.v (.agg [.int .i64 a0_0, .int .i64 a0_1]), .v (.c (.aslice 0 none)), .v (.c (.d (.int .i64 a2))), .v (.c (.d (.int .i64 a3))), .v (.agg [.str a4_0, .int .i64 a4_1, .int .i64 a4_2]), .v (.c (.d (.int .i64 a5)))], [.arr none .site a1] => F_Q8_Line (⟨a0_0, a0_1⟩ : Globe) a1 a2 a3 (⟨a4_0, a4_1, a4_2⟩ : Source) a5 K (m_Q8_Line (⟨a0_0, a0_1⟩ : Globe) a1 a2 a3 (⟨a4_0, a4_1, a4_2⟩ : Source) a5)
  | _, _ => none
def T_Q8_Line : Nat → List AV → List Blk → (AV → List Blk → Ans) → Ans := upd T_Q4_Line 55 s_Q8_Line
theorem g_Q8_Line : GOK Tryz.prog GT gbT T_Q8_Line XT := by
  refine GOK.upd g_Q4_Line (fun args w => Tryz.call55 args w) fun xs bs K r h => ?_
  unfold s_Q8_Line at h
  split at h
  · unfold F_Q8_Line at h
    simp only [cond_eq_ite] at h
    split at h
    · rename_i hd
      exact ⟨_, _, c_Q8_Line _ _ _ _ _ _ hd, h⟩
    · cases h
  · cases h
end Go.Ev

namespace Go.Ev
open Go Go.Proofs
structure O_Q9_Great where
  ok : Bool
  r0 : Bool
def m_Q9_Great (a0 : List Site) (a1 : Source) : O_Q9_Great := bif (m_Q4_Great a0).ok then (bif (m_Q4_Great a0).r0 then ⟨true, true⟩ else ⟨true, decide ((200 : Int) < (a1.name.size : Int))⟩) else ⟨false, false⟩
def F_Q9_Great (a0 : List Site) (_a1 : Source) (K : AV → List Blk → Ans) (r : O_Q9_Great) : Ans := bif r.ok then K (.v (.c (.d (.bool r.r0)))) [.arr none .site a0] else none
theorem e_Q9_Great (a0 : List Site) (a1 : Source) (K : AV → List Blk → Ans) : evFn Tryz.prog GT EQT T_Q8_Line XT noL 80 6 [.v (.c (.aslice 0 none)), .v (.agg [.str a1.name, .int .i64 a1.ra, .int .i64 a1.dec])] [.arr none .site a0] (fun v M => K (finR 1 v M).1 (finR 1 v M).2) = F_Q9_Great a0 a1 K (m_Q9_Great a0 a1) := by
  unfold m_Q9_Great
  refine Eq.trans ?_ (Eq.symm (pushT (pushT rfl rfl) rfl))
  kernel_rfl
theorem c_Q9_Great (a0 : List Site) (a1 : Source) (hd : (m_Q9_Great a0 a1).ok = true) : CallsA Tryz.prog GT gbT 6 [.v (.c (.aslice 0 none)), .v (.agg [.str a1.name, .int .i64 a1.ra, .int .i64 a1.dec])] [.arr none .site a0] (.v (.c (.d (.bool ((m_Q9_Great a0 a1).r0))))) [.arr none .site a0] := by
  refine CallsA.ofEvR g_Q8_Line hEQT hmT (n0 := 1) rfl (fun _ _ _ _ => LOKn.nil) ((e_Q9_Great a0 a1 (fun v M => some (Res.fin v M))).trans ?_)
  unfold F_Q9_Great
  rw [hd]
  rfl
def s_Q9_Great : List AV → List Blk → (AV → List Blk → Ans) → Ans := fun xs bs K => match xs, bs with
  | [.v (.c (.aslice 0 none)), .v (.agg [.str a1_0, .int .i64 a1_1, .int .i64 a1_2])], [.arr none .site a0] => F_Q9_Great a0 (⟨a1_0, a1_1, a1_2⟩ : Source) K (m_Q9_Great a0 (⟨a1_0, a1_1, a1_2⟩ : Source))
  | _, _ => none
def T_Q9_Great : Nat → List AV → List Blk → (AV → List Blk → Ans) → Ans := upd T_Q8_Line 6 s_Q9_Great
theorem g_Q9_Great : GOK Tryz.prog GT gbT T_Q9_Great XT := by
  refine GOK.upd g_Q8_Line (fun args w => Tryz.call6 args w) fun xs bs K r h => ?_
  unfold s_Q9_Great at h
  split at h
  · unfold F_Q9_Great at h
    simp only [cond_eq_ite] at h
    split at h
    · rename_i hd
      exact ⟨_, _, c_Q9_Great _ _ hd, h⟩
    · cases h
  · cases h
structure O_delay_between where
  ok : Bool
  r0 : Bool
def m_delay_between (a0 : Frac) (a1 : Int) (a2 : Int) : O_delay_between := bif ((cmpF a0 ⟨a1, (1 : Int)⟩).2 != (0 : Int)) then ⟨true, false⟩ else (bif decide ((cmpF a0 ⟨a1, (1 : Int)⟩).1 < (0 : Int)) then ⟨true, false⟩ else (bif ((cmpF a0 ⟨a2, (1 : Int)⟩).2 == (0 : Int)) then ⟨true, decide ((cmpF a0 ⟨a2, (1 : Int)⟩).1 ≤ (0 : Int))⟩ else ⟨true, false⟩))
def F_delay_between (_a0 : Frac) (_a1 : Int) (_a2 : Int) (K : AV → List Blk → Ans) (r : O_delay_between) : Ans := bif r.ok then K (.v (.c (.d (.bool r.r0)))) [] else none
theorem e_delay_between (a0 : Frac) (a1 : Int) (a2 : Int) (K : AV → List Blk → Ans) : evFn Tryz.prog GT EQT T_Q9_Great XT noL 80 41 [.v (.agg [.int .i64 a0.num, .int .i64 a0.den]), .v (.c (.d (.int .i64 a1))), .v (.c (.d (.int .i64 a2)))] [] (fun v M => K (finR 0 v M).1 (finR 0 v M).2) = F_delay_between a0 a1 a2 K (m_delay_between a0 a1 a2) := by
  unfold m_delay_between
  refine Eq.trans ?_ (Eq.symm (pushT rfl (pushT rfl (pushT rfl rfl))))
  kernel_rfl
theorem c_delay_between (a0 : Frac) (a1 : Int) (a2 : Int) (hd : (m_delay_between a0 a1 a2).ok = true) : CallsA Tryz.prog GT gbT 41 [.v (.agg [.int .i64 a0.num, .int .i64 a0.den]), .v (.c (.d (.int .i64 a1))), .v (.c (.d (.int .i64 a2)))] [] (.v (.c (.d (.bool ((m_delay_between a0 a1 a2).r0))))) [] := by
  refine CallsA.ofEvR g_Q9_Great hEQT hmT (n0 := 0) rfl (fun _ _ _ _ => LOKn.nil) ((e_delay_between a0 a1 a2 (fun v M => some (Res.fin v M))).trans ?_)
  unfold F_delay_between
  rw [hd]
  rfl
def s_delay_between : List AV → List Blk → (AV → List Blk → Ans) → Ans := fun xs bs K => match xs, bs with
  | [.v (.agg [.int .i64 a0_0, .int .i64 a0_1]), .v (.c (.d (.int .i64 a1))), .v (.c (.d (.int .i64 a2)))], [] => F_delay_between (⟨a0_0, a0_1⟩ : Frac) a1 a2 K (m_delay_between (⟨a0_0, a0_1⟩ : Frac) a1 a2)
  | _, _ => none
def T_delay_between : Nat → List AV → List Blk → (AV → List Blk → Ans) → Ans := upd T_Q9_Great 41 s_delay_between
theorem g_delay_between : GOK Tryz.prog GT gbT T_delay_between XT := by
  refine GOK.upd g_Q9_Great (fun args w => Tryz.call41 args w) fun xs bs K r h => ?_
  unfold s_delay_between at h
  split at h
  · unfold F_delay_between at h
    simp only [cond_eq_ite] at h
    split at h
    · rename_i hd
      exact ⟨_, _, c_delay_between _ _ _ hd, h⟩
    · cases h
  · cases h
structure O_delay_check where
  ok : Bool
  r0 : Int
def m_delay_check (a0 : Globe) (a1 : List Site) (a2 : Source) (a3 : Frac) : O_delay_check := bif (m_array_Check a0 a1).ok then (bif ((m_array_Check a0 a1).r0 != (0 : Int)) then ⟨true, (m_array_Check a0 a1).r0⟩ else (bif ((checkSrc ⟨a2.name, a2.ra, a2.dec⟩) != (0 : Int)) then ⟨true, (checkSrc ⟨a2.name, a2.ra, a2.dec⟩)⟩ else (bif decide (a3.num < (1 : Int)) then ⟨true, (8 : Int)⟩ else (bif (m_delay_between a3 (0 : Int) (1000 : Int)).ok then (bif (!(m_delay_between a3 (0 : Int) (1000 : Int)).r0) then ⟨true, (8 : Int)⟩ else ⟨true, (0 : Int)⟩) else ⟨false, 0⟩)))) else ⟨false, 0⟩
def F_delay_check (_a0 : Globe) (a1 : List Site) (_a2 : Source) (_a3 : Frac) (K : AV → List Blk → Ans) (r : O_delay_check) : Ans := bif r.ok then K (.v (.c (.d (.int .i64 r.r0)))) [.arr none .site a1] else none
theorem e_delay_check (a0 : Globe) (a1 : List Site) (a2 : Source) (a3 : Frac) (K : AV → List Blk → Ans) : evFn Tryz.prog GT EQT T_delay_between XT noL 80 24 [.v (.agg [.int .i64 a0.a, .int .i64 a0.b]), .v (.c (.aslice 0 none)), .v (.agg [.str a2.name, .int .i64 a2.ra, .int .i64 a2.dec]), .v (.agg [.int .i64 a3.num, .int .i64 a3.den])] [.arr none .site a1] (fun v M => K (finR 1 v M).1 (finR 1 v M).2) = F_delay_check a0 a1 a2 a3 K (m_delay_check a0 a1 a2 a3) := by
  unfold m_delay_check
  refine Eq.trans ?_ (Eq.symm (pushT (pushT rfl (pushT rfl (pushT rfl (pushT (pushT rfl rfl) rfl)))) rfl))
  kernel_rfl
theorem c_delay_check (a0 : Globe) (a1 : List Site) (a2 : Source) (a3 : Frac) (hd : (m_delay_check a0 a1 a2 a3).ok = true) : CallsA Tryz.prog GT gbT 24 [.v (.agg [.int .i64 a0.a, .int .i64 a0.b]), .v (.c (.aslice 0 none)), .v (.agg [.str a2.name, .int .i64 a2.ra, .int .i64 a2.dec]), .v (.agg [.int .i64 a3.num, .int .i64 a3.den])] [.arr none .site a1] (.v (.c (.d (.int .i64 ((m_delay_check a0 a1 a2 a3).r0))))) [.arr none .site a1] := by
  refine CallsA.ofEvR g_delay_between hEQT hmT (n0 := 1) rfl (fun _ _ _ _ => LOKn.nil) ((e_delay_check a0 a1 a2 a3 (fun v M => some (Res.fin v M))).trans ?_)
  unfold F_delay_check
  rw [hd]
  rfl
def s_delay_check : List AV → List Blk → (AV → List Blk → Ans) → Ans := fun xs bs K => match xs, bs with
  | [.v (.agg [.int .i64 a0_0, .int .i64 a0_1]), .v (.c (.aslice 0 none)), .v (.agg [.str a2_0, .int .i64 a2_1, .int .i64 a2_2]), .v (.agg [.int .i64 a3_0, .int .i64 a3_1])], [.arr none .site a1] => F_delay_check (⟨a0_0, a0_1⟩ : Globe) a1 (⟨a2_0, a2_1, a2_2⟩ : Source) (⟨a3_0, a3_1⟩ : Frac) K (m_delay_check (⟨a0_0, a0_1⟩ : Globe) a1 (⟨a2_0, a2_1, a2_2⟩ : Source) (⟨a3_0, a3_1⟩ : Frac))
  | _, _ => none
def T_delay_check : Nat → List AV → List Blk → (AV → List Blk → Ans) → Ans := upd T_delay_between 24 s_delay_check
theorem g_delay_check : GOK Tryz.prog GT gbT T_delay_check XT := by
  refine GOK.upd g_delay_between (fun args w => Tryz.call24 args w) fun xs bs K r h => ?_
  unfold s_delay_check at h
  split at h
  · unfold F_delay_check at h
    simp only [cond_eq_ite] at h
    split at h
    · rename_i hd
      exact ⟨_, _, c_delay_check _ _ _ _ hd, h⟩
    · cases h
  · cases h
structure O_delay_Of where
  ok : Bool
  r0 : Span
  r1 : Int
def m_delay_Of (a0 : Globe) (a1 : List Site) (a2 : Int) (a3 : Int) (a4 : Source) (a5 : Int) (a6 : Frac) : O_delay_Of := bif (m_delay_check a0 a1 a4 a6).ok then (bif ((m_delay_check a0 a1 a4 a6).r0 != (0 : Int)) then ⟨true, ⟨(0 : Int), (0 : Int)⟩, (m_delay_check a0 a1 a4 a6).r0⟩ else (bif (m_proj_Line a0 a1 a2 a3 a4 a5).ok then (bif ((m_proj_Line a0 a1 a2 a3 a4 a5).r1 != (0 : Int)) then ⟨true, ⟨(0 : Int), (0 : Int)⟩, (m_proj_Line a0 a1 a2 a3 a4 a5).r1⟩ else (bif ((ofS ⟨a6.num, a6.den⟩).2 != (0 : Int)) then ⟨true, ⟨(0 : Int), (0 : Int)⟩, (ofS ⟨a6.num, a6.den⟩).2⟩ else ⟨true, (mulS ⟨((((m_proj_Line a0 a1 a2 a3 a4 a5).r0).z).lo), ((((m_proj_Line a0 a1 a2 a3 a4 a5).r0).z).hi)⟩ ⟨(((ofS ⟨a6.num, a6.den⟩).1).lo), (((ofS ⟨a6.num, a6.den⟩).1).hi)⟩).1, (mulS ⟨((((m_proj_Line a0 a1 a2 a3 a4 a5).r0).z).lo), ((((m_proj_Line a0 a1 a2 a3 a4 a5).r0).z).hi)⟩ ⟨(((ofS ⟨a6.num, a6.den⟩).1).lo), (((ofS ⟨a6.num, a6.den⟩).1).hi)⟩).2⟩)) else ⟨false, ⟨0, 0⟩, 0⟩)) else ⟨false, ⟨0, 0⟩, 0⟩
def F_delay_Of (_a0 : Globe) (a1 : List Site) (_a2 : Int) (_a3 : Int) (_a4 : Source) (_a5 : Int) (_a6 : Frac) (K : AV → List Blk → Ans) (r : O_delay_Of) : Ans := bif r.ok then K (.tup [.agg [.int .i64 r.r0.lo, .int .i64 r.r0.hi], .c (.d (.int .i64 r.r1))]) [.arr none .site a1] else none
theorem e_delay_Of (a0 : Globe) (a1 : List Site) (a2 : Int) (a3 : Int) (a4 : Source) (a5 : Int) (a6 : Frac) (K : AV → List Blk → Ans) : evFn Tryz.prog GT EQT T_delay_check XT noL 80 7 [.v (.agg [.int .i64 a0.a, .int .i64 a0.b]), .v (.c (.aslice 0 none)), .v (.c (.d (.int .i64 a2))), .v (.c (.d (.int .i64 a3))), .v (.agg [.str a4.name, .int .i64 a4.ra, .int .i64 a4.dec]), .v (.c (.d (.int .i64 a5))), .v (.agg [.int .i64 a6.num, .int .i64 a6.den])] [.arr none .site a1] (fun v M => K (finR 1 v M).1 (finR 1 v M).2) = F_delay_Of a0 a1 a2 a3 a4 a5 a6 K (m_delay_Of a0 a1 a2 a3 a4 a5 a6) := by
  unfold m_delay_Of
  refine Eq.trans ?_ (Eq.symm (pushT (pushT rfl (pushT (pushT rfl (pushT rfl rfl)) rfl)) rfl))
  kernel_rfl
theorem c_delay_Of (a0 : Globe) (a1 : List Site) (a2 : Int) (a3 : Int) (a4 : Source) (a5 : Int) (a6 : Frac) (hd : (m_delay_Of a0 a1 a2 a3 a4 a5 a6).ok = true) : CallsA Tryz.prog GT gbT 7 [.v (.agg [.int .i64 a0.a, .int .i64 a0.b]), .v (.c (.aslice 0 none)), .v (.c (.d (.int .i64 a2))), .v (.c (.d (.int .i64 a3))), .v (.agg [.str a4.name, .int .i64 a4.ra, .int .i64 a4.dec]), .v (.c (.d (.int .i64 a5))), .v (.agg [.int .i64 a6.num, .int .i64 a6.den])] [.arr none .site a1] (.tup [.agg [.int .i64 (((m_delay_Of a0 a1 a2 a3 a4 a5 a6).r0).lo), .int .i64 (((m_delay_Of a0 a1 a2 a3 a4 a5 a6).r0).hi)], .c (.d (.int .i64 ((m_delay_Of a0 a1 a2 a3 a4 a5 a6).r1)))]) [.arr none .site a1] := by
  refine CallsA.ofEvR g_delay_check hEQT hmT (n0 := 1) rfl (fun _ _ _ _ => LOKn.nil) ((e_delay_Of a0 a1 a2 a3 a4 a5 a6 (fun v M => some (Res.fin v M))).trans ?_)
  unfold F_delay_Of
  rw [hd]
  rfl
def s_delay_Of : List AV → List Blk → (AV → List Blk → Ans) → Ans := fun xs bs K => match xs, bs with
  | [.v (.agg [.int .i64 a0_0, .int .i64 a0_1]), .v (.c (.aslice 0 none)), .v (.c (.d (.int .i64 a2))), .v (.c (.d (.int .i64 a3))), .v (.agg [.str a4_0, .int .i64 a4_1, .int .i64 a4_2]), .v (.c (.d (.int .i64 a5))), .v (.agg [.int .i64 a6_0, .int .i64 a6_1])], [.arr none .site a1] => F_delay_Of (⟨a0_0, a0_1⟩ : Globe) a1 a2 a3 (⟨a4_0, a4_1, a4_2⟩ : Source) a5 (⟨a6_0, a6_1⟩ : Frac) K (m_delay_Of (⟨a0_0, a0_1⟩ : Globe) a1 a2 a3 (⟨a4_0, a4_1, a4_2⟩ : Source) a5 (⟨a6_0, a6_1⟩ : Frac))
  | _, _ => none
def T_delay_Of : Nat → List AV → List Blk → (AV → List Blk → Ans) → Ans := upd T_delay_check 7 s_delay_Of
theorem g_delay_Of : GOK Tryz.prog GT gbT T_delay_Of XT := by
  refine GOK.upd g_delay_check (fun args w => Tryz.call7 args w) fun xs bs K r h => ?_
  unfold s_delay_Of at h
  split at h
  · unfold F_delay_Of at h
    simp only [cond_eq_ite] at h
    split at h
    · rename_i hd
      exact ⟨_, _, c_delay_Of _ _ _ _ _ _ _ hd, h⟩
    · cases h
  · cases h
structure O_Q7_Both where
  ok : Bool
  r0 : Int
def m_Q7_Both (a0 : Globe) (a1 : List Site) (a2 : Source) : O_Q7_Both := bif (m_Q4_Check a0 a1).ok then (bif ((m_Q4_Check a0 a1).r0 != (0 : Int)) then (bif (m_Q4_Check a0 a1).ok then ⟨true, (m_Q4_Check a0 a1).r0⟩ else ⟨false, 0⟩) else ⟨true, (checkSrc ⟨a2.name, a2.ra, a2.dec⟩)⟩) else ⟨false, 0⟩
def F_Q7_Both (_a0 : Globe) (a1 : List Site) (_a2 : Source) (K : AV → List Blk → Ans) (r : O_Q7_Both) : Ans := bif r.ok then K (.v (.c (.d (.int .i64 r.r0)))) [.arr none .site a1] else none
theorem e_Q7_Both (a0 : Globe) (a1 : List Site) (a2 : Source) (K : AV → List Blk → Ans) : evFn Tryz.prog GT EQT T_delay_Of XT noL 80 65 [.v (.agg [.int .i64 a0.a, .int .i64 a0.b]), .v (.c (.aslice 0 none)), .v (.agg [.str a2.name, .int .i64 a2.ra, .int .i64 a2.dec])] [.arr none .site a1] (fun v M => K (finR 1 v M).1 (finR 1 v M).2) = F_Q7_Both a0 a1 a2 K (m_Q7_Both a0 a1 a2) := by
  unfold m_Q7_Both
  refine Eq.trans ?_ (Eq.symm (pushT (pushT (pushT rfl rfl) rfl) rfl))
  kernel_rfl
theorem c_Q7_Both (a0 : Globe) (a1 : List Site) (a2 : Source) (hd : (m_Q7_Both a0 a1 a2).ok = true) : CallsA Tryz.prog GT gbT 65 [.v (.agg [.int .i64 a0.a, .int .i64 a0.b]), .v (.c (.aslice 0 none)), .v (.agg [.str a2.name, .int .i64 a2.ra, .int .i64 a2.dec])] [.arr none .site a1] (.v (.c (.d (.int .i64 ((m_Q7_Both a0 a1 a2).r0))))) [.arr none .site a1] := by
  refine CallsA.ofEvR g_delay_Of hEQT hmT (n0 := 1) rfl (fun _ _ _ _ => LOKn.nil) ((e_Q7_Both a0 a1 a2 (fun v M => some (Res.fin v M))).trans ?_)
  unfold F_Q7_Both
  rw [hd]
  rfl
def s_Q7_Both : List AV → List Blk → (AV → List Blk → Ans) → Ans := fun xs bs K => match xs, bs with
  | [.v (.agg [.int .i64 a0_0, .int .i64 a0_1]), .v (.c (.aslice 0 none)), .v (.agg [.str a2_0, .int .i64 a2_1, .int .i64 a2_2])], [.arr none .site a1] => F_Q7_Both (⟨a0_0, a0_1⟩ : Globe) a1 (⟨a2_0, a2_1, a2_2⟩ : Source) K (m_Q7_Both (⟨a0_0, a0_1⟩ : Globe) a1 (⟨a2_0, a2_1, a2_2⟩ : Source))
  | _, _ => none
def T_Q7_Both : Nat → List AV → List Blk → (AV → List Blk → Ans) → Ans := upd T_delay_Of 65 s_Q7_Both
theorem g_Q7_Both : GOK Tryz.prog GT gbT T_Q7_Both XT := by
  refine GOK.upd g_delay_Of (fun args w => Tryz.call65 args w) fun xs bs K r h => ?_
  unfold s_Q7_Both at h
  split at h
  · unfold F_Q7_Both at h
    simp only [cond_eq_ite] at h
    split at h
    · rename_i hd
      exact ⟨_, _, c_Q7_Both _ _ _ hd, h⟩
    · cases h
  · cases h
end Go.Ev

namespace Go.Ev
open Go Go.Proofs
structure O_Q9_Rate where
  ok : Bool
  r0 : Bool
def m_Q9_Rate (a0 : Frac) : O_Q9_Rate := bif ((checkF ⟨a0.num, a0.den⟩) == (0 : Int)) then (bif decide ((0 : Int) < a0.num) then ⟨true, (!(lessN ⟨(1000 : Int), 1⟩ ⟨a0.num, a0.den⟩))⟩ else ⟨true, false⟩) else ⟨true, false⟩
def F_Q9_Rate (_a0 : Frac) (K : AV → List Blk → Ans) (r : O_Q9_Rate) : Ans := bif r.ok then K (.v (.c (.d (.bool r.r0)))) [] else none
theorem e_Q9_Rate (a0 : Frac) (K : AV → List Blk → Ans) : evFn Tryz.prog GT EQT T_Q7_Both XT noL 80 66 [.v (.agg [.int .i64 a0.num, .int .i64 a0.den])] [] (fun v M => K (finR 0 v M).1 (finR 0 v M).2) = F_Q9_Rate a0 K (m_Q9_Rate a0) := by
  unfold m_Q9_Rate
  refine Eq.trans ?_ (Eq.symm (pushT (pushT rfl rfl) rfl))
  kernel_rfl
theorem c_Q9_Rate (a0 : Frac) (hd : (m_Q9_Rate a0).ok = true) : CallsA Tryz.prog GT gbT 66 [.v (.agg [.int .i64 a0.num, .int .i64 a0.den])] [] (.v (.c (.d (.bool ((m_Q9_Rate a0).r0))))) [] := by
  refine CallsA.ofEvR g_Q7_Both hEQT hmT (n0 := 0) rfl (fun _ _ _ _ => LOKn.nil) ((e_Q9_Rate a0 (fun v M => some (Res.fin v M))).trans ?_)
  unfold F_Q9_Rate
  rw [hd]
  rfl
def s_Q9_Rate : List AV → List Blk → (AV → List Blk → Ans) → Ans := fun xs bs K => match xs, bs with
  | [.v (.agg [.int .i64 a0_0, .int .i64 a0_1])], [] => F_Q9_Rate (⟨a0_0, a0_1⟩ : Frac) K (m_Q9_Rate (⟨a0_0, a0_1⟩ : Frac))
  | _, _ => none
def T_Q9_Rate : Nat → List AV → List Blk → (AV → List Blk → Ans) → Ans := upd T_Q7_Both 66 s_Q9_Rate
theorem g_Q9_Rate : GOK Tryz.prog GT gbT T_Q9_Rate XT := by
  refine GOK.upd g_Q7_Both (fun args w => Tryz.call66 args w) fun xs bs K r h => ?_
  unfold s_Q9_Rate at h
  split at h
  · unfold F_Q9_Rate at h
    simp only [cond_eq_ite] at h
    split at h
    · rename_i hd
      exact ⟨_, _, c_Q9_Rate _ hd, h⟩
    · cases h
  · cases h
structure O_Q9_Ready where
  ok : Bool
  r0 : Int
def m_Q9_Ready (a0 : Globe) (a1 : List Site) (a2 : Source) (a3 : Frac) : O_Q9_Ready := bif (m_Q7_Both a0 a1 a2).ok then (bif ((m_Q7_Both a0 a1 a2).r0 != (0 : Int)) then ⟨true, (m_Q7_Both a0 a1 a2).r0⟩ else (bif (m_Q9_Rate a3).ok then (bif (!(m_Q9_Rate a3).r0) then ⟨true, (8 : Int)⟩ else ⟨true, (0 : Int)⟩) else ⟨false, 0⟩)) else ⟨false, 0⟩
def F_Q9_Ready (_a0 : Globe) (a1 : List Site) (_a2 : Source) (_a3 : Frac) (K : AV → List Blk → Ans) (r : O_Q9_Ready) : Ans := bif r.ok then K (.v (.c (.d (.int .i64 r.r0)))) [.arr none .site a1] else none
theorem e_Q9_Ready (a0 : Globe) (a1 : List Site) (a2 : Source) (a3 : Frac) (K : AV → List Blk → Ans) : evFn Tryz.prog GT EQT T_Q9_Rate XT noL 80 28 [.v (.agg [.int .i64 a0.a, .int .i64 a0.b]), .v (.c (.aslice 0 none)), .v (.agg [.str a2.name, .int .i64 a2.ra, .int .i64 a2.dec]), .v (.agg [.int .i64 a3.num, .int .i64 a3.den])] [.arr none .site a1] (fun v M => K (finR 1 v M).1 (finR 1 v M).2) = F_Q9_Ready a0 a1 a2 a3 K (m_Q9_Ready a0 a1 a2 a3) := by
  unfold m_Q9_Ready
  refine Eq.trans ?_ (Eq.symm (pushT (pushT rfl (pushT (pushT rfl rfl) rfl)) rfl))
  kernel_rfl
theorem c_Q9_Ready (a0 : Globe) (a1 : List Site) (a2 : Source) (a3 : Frac) (hd : (m_Q9_Ready a0 a1 a2 a3).ok = true) : CallsA Tryz.prog GT gbT 28 [.v (.agg [.int .i64 a0.a, .int .i64 a0.b]), .v (.c (.aslice 0 none)), .v (.agg [.str a2.name, .int .i64 a2.ra, .int .i64 a2.dec]), .v (.agg [.int .i64 a3.num, .int .i64 a3.den])] [.arr none .site a1] (.v (.c (.d (.int .i64 ((m_Q9_Ready a0 a1 a2 a3).r0))))) [.arr none .site a1] := by
  refine CallsA.ofEvR g_Q9_Rate hEQT hmT (n0 := 1) rfl (fun _ _ _ _ => LOKn.nil) ((e_Q9_Ready a0 a1 a2 a3 (fun v M => some (Res.fin v M))).trans ?_)
  unfold F_Q9_Ready
  rw [hd]
  rfl
def s_Q9_Ready : List AV → List Blk → (AV → List Blk → Ans) → Ans := fun xs bs K => match xs, bs with
  | [.v (.agg [.int .i64 a0_0, .int .i64 a0_1]), .v (.c (.aslice 0 none)), .v (.agg [.str a2_0, .int .i64 a2_1, .int .i64 a2_2]), .v (.agg [.int .i64 a3_0, .int .i64 a3_1])], [.arr none .site a1] => F_Q9_Ready (⟨a0_0, a0_1⟩ : Globe) a1 (⟨a2_0, a2_1, a2_2⟩ : Source) (⟨a3_0, a3_1⟩ : Frac) K (m_Q9_Ready (⟨a0_0, a0_1⟩ : Globe) a1 (⟨a2_0, a2_1, a2_2⟩ : Source) (⟨a3_0, a3_1⟩ : Frac))
  | _, _ => none
def T_Q9_Ready : Nat → List AV → List Blk → (AV → List Blk → Ans) → Ans := upd T_Q9_Rate 28 s_Q9_Ready
theorem g_Q9_Ready : GOK Tryz.prog GT gbT T_Q9_Ready XT := by
  refine GOK.upd g_Q9_Rate (fun args w => Tryz.call28 args w) fun xs bs K r h => ?_
  unfold s_Q9_Ready at h
  split at h
  · unfold F_Q9_Ready at h
    simp only [cond_eq_ite] at h
    split at h
    · rename_i hd
      exact ⟨_, _, c_Q9_Ready _ _ _ _ hd, h⟩
    · cases h
  · cases h
end Go.Ev

namespace Go.Ev
open Go Go.Proofs
structure O_delay_valid where
  ok : Bool
  r0 : Bool
def m_delay_valid (a0 : Span) : O_delay_valid := bif decide (a0.lo ≤ a0.hi) then (bif decide ((-3000000000 : Int) ≤ a0.lo) then ⟨true, decide (a0.hi ≤ (3000000000 : Int))⟩ else ⟨true, false⟩) else ⟨true, false⟩
def F_delay_valid (_a0 : Span) (K : AV → List Blk → Ans) (r : O_delay_valid) : Ans := bif r.ok then K (.v (.c (.d (.bool r.r0)))) [] else none
theorem e_delay_valid (a0 : Span) (K : AV → List Blk → Ans) : evFn Tryz.prog GT EQT T_Q9_Ready XT noL 80 53 [.v (.agg [.int .i64 a0.lo, .int .i64 a0.hi])] [] (fun v M => K (finR 0 v M).1 (finR 0 v M).2) = F_delay_valid a0 K (m_delay_valid a0) := by
  unfold m_delay_valid
  refine Eq.trans ?_ (Eq.symm (pushT (pushT rfl rfl) rfl))
  kernel_rfl
theorem c_delay_valid (a0 : Span) (hd : (m_delay_valid a0).ok = true) : CallsA Tryz.prog GT gbT 53 [.v (.agg [.int .i64 a0.lo, .int .i64 a0.hi])] [] (.v (.c (.d (.bool ((m_delay_valid a0).r0))))) [] := by
  refine CallsA.ofEvR g_Q9_Ready hEQT hmT (n0 := 0) rfl (fun _ _ _ _ => LOKn.nil) ((e_delay_valid a0 (fun v M => some (Res.fin v M))).trans ?_)
  unfold F_delay_valid
  rw [hd]
  rfl
def s_delay_valid : List AV → List Blk → (AV → List Blk → Ans) → Ans := fun xs bs K => match xs, bs with
  | [.v (.agg [.int .i64 a0_0, .int .i64 a0_1])], [] => F_delay_valid (⟨a0_0, a0_1⟩ : Span) K (m_delay_valid (⟨a0_0, a0_1⟩ : Span))
  | _, _ => none
def T_delay_valid : Nat → List AV → List Blk → (AV → List Blk → Ans) → Ans := upd T_Q9_Ready 53 s_delay_valid
theorem g_delay_valid : GOK Tryz.prog GT gbT T_delay_valid XT := by
  refine GOK.upd g_Q9_Ready (fun args w => Tryz.call53 args w) fun xs bs K r h => ?_
  unfold s_delay_valid at h
  split at h
  · unfold F_delay_valid at h
    simp only [cond_eq_ite] at h
    split at h
    · rename_i hd
      exact ⟨_, _, c_delay_valid _ hd, h⟩
    · cases h
  · cases h
structure O_delay_nearest where
  ok : Bool
  r0 : Int
def m_delay_nearest (a0 : Int) : O_delay_nearest := bif decide (((w64 (a0 + (500000 : Int))).tmod (1000000 : Int)) < (0 : Int)) then ⟨true, (w64 ((w64 ((w64 (a0 + (500000 : Int))).tdiv (1000000 : Int))) - (1 : Int)))⟩ else ⟨true, (w64 ((w64 (a0 + (500000 : Int))).tdiv (1000000 : Int)))⟩
def F_delay_nearest (_a0 : Int) (K : AV → List Blk → Ans) (r : O_delay_nearest) : Ans := bif r.ok then K (.v (.c (.d (.int .i64 r.r0)))) [] else none
theorem e_delay_nearest (a0 : Int) (K : AV → List Blk → Ans) : evFn Tryz.prog GT EQT T_delay_valid XT noL 80 54 [.v (.c (.d (.int .i64 a0)))] [] (fun v M => K (finR 0 v M).1 (finR 0 v M).2) = F_delay_nearest a0 K (m_delay_nearest a0) := by
  unfold m_delay_nearest
  refine Eq.trans ?_ (Eq.symm (pushT rfl rfl))
  kernel_rfl
theorem c_delay_nearest (a0 : Int) (hd : (m_delay_nearest a0).ok = true) : CallsA Tryz.prog GT gbT 54 [.v (.c (.d (.int .i64 a0)))] [] (.v (.c (.d (.int .i64 ((m_delay_nearest a0).r0))))) [] := by
  refine CallsA.ofEvR g_delay_valid hEQT hmT (n0 := 0) rfl (fun _ _ _ _ => LOKn.nil) ((e_delay_nearest a0 (fun v M => some (Res.fin v M))).trans ?_)
  unfold F_delay_nearest
  rw [hd]
  rfl
def s_delay_nearest : List AV → List Blk → (AV → List Blk → Ans) → Ans := fun xs bs K => match xs, bs with
  | [.v (.c (.d (.int .i64 a0)))], [] => F_delay_nearest a0 K (m_delay_nearest a0)
  | _, _ => none
def T_delay_nearest : Nat → List AV → List Blk → (AV → List Blk → Ans) → Ans := upd T_delay_valid 54 s_delay_nearest
theorem g_delay_nearest : GOK Tryz.prog GT gbT T_delay_nearest XT := by
  refine GOK.upd g_delay_valid (fun args w => Tryz.call54 args w) fun xs bs K r h => ?_
  unfold s_delay_nearest at h
  split at h
  · unfold F_delay_nearest at h
    simp only [cond_eq_ite] at h
    split at h
    · rename_i hd
      exact ⟨_, _, c_delay_nearest _ hd, h⟩
    · cases h
  · cases h
structure O_delay_Split where
  ok : Bool
  r0 : Delay
  r1 : Int
def m_delay_Split (a0 : Span) : O_delay_Split := bif (m_delay_valid a0).ok then (bif (!(m_delay_valid a0).r0) then ⟨true, ⟨(0 : Int), ⟨(0 : Int), (0 : Int)⟩⟩, (8 : Int)⟩ else (bif (m_delay_nearest a0.lo).ok then (bif (m_delay_nearest a0.hi).ok then (bif ((m_delay_nearest a0.hi).r0 != (m_delay_nearest a0.lo).r0) then ⟨true, ⟨(0 : Int), ⟨(0 : Int), (0 : Int)⟩⟩, (24 : Int)⟩ else ⟨true, ⟨(m_delay_nearest a0.lo).r0, ⟨(w64 (a0.lo - (w64 ((m_delay_nearest a0.lo).r0 * (1000000 : Int))))), (w64 (a0.hi - (w64 ((m_delay_nearest a0.lo).r0 * (1000000 : Int)))))⟩⟩, (0 : Int)⟩) else ⟨false, ⟨0, ⟨0, 0⟩⟩, 0⟩) else ⟨false, ⟨0, ⟨0, 0⟩⟩, 0⟩)) else ⟨false, ⟨0, ⟨0, 0⟩⟩, 0⟩
def F_delay_Split (_a0 : Span) (K : AV → List Blk → Ans) (r : O_delay_Split) : Ans := bif r.ok then K (.tup [.agg [.int .i64 r.r0.whole, .int .i64 r.r0.part.lo, .int .i64 r.r0.part.hi], .c (.d (.int .i64 r.r1))]) [] else none
theorem e_delay_Split (a0 : Span) (K : AV → List Blk → Ans) : evFn Tryz.prog GT EQT T_delay_nearest XT noL 80 21 [.v (.agg [.int .i64 a0.lo, .int .i64 a0.hi])] [] (fun v M => K (finR 0 v M).1 (finR 0 v M).2) = F_delay_Split a0 K (m_delay_Split a0) := by
  unfold m_delay_Split
  refine Eq.trans ?_ (Eq.symm (pushT (pushT rfl (pushT (pushT (pushT rfl rfl) rfl) rfl)) rfl))
  kernel_rfl
theorem c_delay_Split (a0 : Span) (hd : (m_delay_Split a0).ok = true) : CallsA Tryz.prog GT gbT 21 [.v (.agg [.int .i64 a0.lo, .int .i64 a0.hi])] [] (.tup [.agg [.int .i64 (((m_delay_Split a0).r0).whole), .int .i64 ((((m_delay_Split a0).r0).part).lo), .int .i64 ((((m_delay_Split a0).r0).part).hi)], .c (.d (.int .i64 ((m_delay_Split a0).r1)))]) [] := by
  refine CallsA.ofEvR g_delay_nearest hEQT hmT (n0 := 0) rfl (fun _ _ _ _ => LOKn.nil) ((e_delay_Split a0 (fun v M => some (Res.fin v M))).trans ?_)
  unfold F_delay_Split
  rw [hd]
  rfl
def s_delay_Split : List AV → List Blk → (AV → List Blk → Ans) → Ans := fun xs bs K => match xs, bs with
  | [.v (.agg [.int .i64 a0_0, .int .i64 a0_1])], [] => F_delay_Split (⟨a0_0, a0_1⟩ : Span) K (m_delay_Split (⟨a0_0, a0_1⟩ : Span))
  | _, _ => none
def T_delay_Split : Nat → List AV → List Blk → (AV → List Blk → Ans) → Ans := upd T_delay_nearest 21 s_delay_Split
theorem g_delay_Split : GOK Tryz.prog GT gbT T_delay_Split XT := by
  refine GOK.upd g_delay_nearest (fun args w => Tryz.call21 args w) fun xs bs K r h => ?_
  unfold s_delay_Split at h
  split at h
  · unfold F_delay_Split at h
    simp only [cond_eq_ite] at h
    split at h
    · rename_i hd
      exact ⟨_, _, c_delay_Split _ hd, h⟩
    · cases h
  · cases h
structure O_W9_alive where
  ok : Bool
  r0 : Bool
def m_W9_alive : O_W9_alive := bif (m_delay_Of ⟨(5 : Int), (5 : Int)⟩ ([⟨(ByteArray.mk #[97]), ⟨(0 : Int), (1 : Int)⟩, ⟨(0 : Int), (1 : Int)⟩⟩, ⟨(ByteArray.mk #[98]), ⟨(0 : Int), (1 : Int)⟩, ⟨(1 : Int), (1 : Int)⟩⟩] : List Site) (0 : Int) (1 : Int) ⟨(ByteArray.mk #[115]), (0 : Int), (0 : Int)⟩ (0 : Int) ⟨(3 : Int), (2 : Int)⟩).ok then (bif (m_delay_Split ((m_delay_Of ⟨(5 : Int), (5 : Int)⟩ ([⟨(ByteArray.mk #[97]), ⟨(0 : Int), (1 : Int)⟩, ⟨(0 : Int), (1 : Int)⟩⟩, ⟨(ByteArray.mk #[98]), ⟨(0 : Int), (1 : Int)⟩, ⟨(1 : Int), (1 : Int)⟩⟩] : List Site) (0 : Int) (1 : Int) ⟨(ByteArray.mk #[115]), (0 : Int), (0 : Int)⟩ (0 : Int) ⟨(3 : Int), (2 : Int)⟩).r0)).ok then (bif (m_delay_Split ⟨(1200000 : Int), (1400000 : Int)⟩).ok then (bif (m_delay_Split ⟨(1400000 : Int), (1600000 : Int)⟩).ok then (bif ((m_delay_Of ⟨(5 : Int), (5 : Int)⟩ ([⟨(ByteArray.mk #[97]), ⟨(0 : Int), (1 : Int)⟩, ⟨(0 : Int), (1 : Int)⟩⟩, ⟨(ByteArray.mk #[98]), ⟨(0 : Int), (1 : Int)⟩, ⟨(1 : Int), (1 : Int)⟩⟩] : List Site) (0 : Int) (1 : Int) ⟨(ByteArray.mk #[115]), (0 : Int), (0 : Int)⟩ (0 : Int) ⟨(3 : Int), (2 : Int)⟩).r1 == (0 : Int)) then (bif eqAll [.int .i64 (((m_delay_Of ⟨(5 : Int), (5 : Int)⟩ ([⟨(ByteArray.mk #[97]), ⟨(0 : Int), (1 : Int)⟩, ⟨(0 : Int), (1 : Int)⟩⟩, ⟨(ByteArray.mk #[98]), ⟨(0 : Int), (1 : Int)⟩, ⟨(1 : Int), (1 : Int)⟩⟩] : List Site) (0 : Int) (1 : Int) ⟨(ByteArray.mk #[115]), (0 : Int), (0 : Int)⟩ (0 : Int) ⟨(3 : Int), (2 : Int)⟩).r0).lo), .int .i64 (((m_delay_Of ⟨(5 : Int), (5 : Int)⟩ ([⟨(ByteArray.mk #[97]), ⟨(0 : Int), (1 : Int)⟩, ⟨(0 : Int), (1 : Int)⟩⟩, ⟨(ByteArray.mk #[98]), ⟨(0 : Int), (1 : Int)⟩, ⟨(1 : Int), (1 : Int)⟩⟩] : List Site) (0 : Int) (1 : Int) ⟨(ByteArray.mk #[115]), (0 : Int), (0 : Int)⟩ (0 : Int) ⟨(3 : Int), (2 : Int)⟩).r0).hi)] [.int .i64 (-7500000 : Int), .int .i64 (-7500000 : Int)] then (bif ((m_delay_Split ((m_delay_Of ⟨(5 : Int), (5 : Int)⟩ ([⟨(ByteArray.mk #[97]), ⟨(0 : Int), (1 : Int)⟩, ⟨(0 : Int), (1 : Int)⟩⟩, ⟨(ByteArray.mk #[98]), ⟨(0 : Int), (1 : Int)⟩, ⟨(1 : Int), (1 : Int)⟩⟩] : List Site) (0 : Int) (1 : Int) ⟨(ByteArray.mk #[115]), (0 : Int), (0 : Int)⟩ (0 : Int) ⟨(3 : Int), (2 : Int)⟩).r0)).r1 == (0 : Int)) then (bif eqAll [.int .i64 (((m_delay_Split ((m_delay_Of ⟨(5 : Int), (5 : Int)⟩ ([⟨(ByteArray.mk #[97]), ⟨(0 : Int), (1 : Int)⟩, ⟨(0 : Int), (1 : Int)⟩⟩, ⟨(ByteArray.mk #[98]), ⟨(0 : Int), (1 : Int)⟩, ⟨(1 : Int), (1 : Int)⟩⟩] : List Site) (0 : Int) (1 : Int) ⟨(ByteArray.mk #[115]), (0 : Int), (0 : Int)⟩ (0 : Int) ⟨(3 : Int), (2 : Int)⟩).r0)).r0).whole), .int .i64 ((((m_delay_Split ((m_delay_Of ⟨(5 : Int), (5 : Int)⟩ ([⟨(ByteArray.mk #[97]), ⟨(0 : Int), (1 : Int)⟩, ⟨(0 : Int), (1 : Int)⟩⟩, ⟨(ByteArray.mk #[98]), ⟨(0 : Int), (1 : Int)⟩, ⟨(1 : Int), (1 : Int)⟩⟩] : List Site) (0 : Int) (1 : Int) ⟨(ByteArray.mk #[115]), (0 : Int), (0 : Int)⟩ (0 : Int) ⟨(3 : Int), (2 : Int)⟩).r0)).r0).part).lo), .int .i64 ((((m_delay_Split ((m_delay_Of ⟨(5 : Int), (5 : Int)⟩ ([⟨(ByteArray.mk #[97]), ⟨(0 : Int), (1 : Int)⟩, ⟨(0 : Int), (1 : Int)⟩⟩, ⟨(ByteArray.mk #[98]), ⟨(0 : Int), (1 : Int)⟩, ⟨(1 : Int), (1 : Int)⟩⟩] : List Site) (0 : Int) (1 : Int) ⟨(ByteArray.mk #[115]), (0 : Int), (0 : Int)⟩ (0 : Int) ⟨(3 : Int), (2 : Int)⟩).r0)).r0).part).hi)] [.int .i64 (-7 : Int), .int .i64 (-500000 : Int), .int .i64 (-500000 : Int)] then (bif ((m_delay_Split ⟨(1200000 : Int), (1400000 : Int)⟩).r1 == (0 : Int)) then (bif eqAll [.int .i64 (((m_delay_Split ⟨(1200000 : Int), (1400000 : Int)⟩).r0).whole), .int .i64 ((((m_delay_Split ⟨(1200000 : Int), (1400000 : Int)⟩).r0).part).lo), .int .i64 ((((m_delay_Split ⟨(1200000 : Int), (1400000 : Int)⟩).r0).part).hi)] [.int .i64 (1 : Int), .int .i64 (200000 : Int), .int .i64 (400000 : Int)] then ⟨true, ((m_delay_Split ⟨(1400000 : Int), (1600000 : Int)⟩).r1 == (24 : Int))⟩ else ⟨true, false⟩) else ⟨true, false⟩) else ⟨true, false⟩) else ⟨true, false⟩) else ⟨true, false⟩) else ⟨true, false⟩) else ⟨false, false⟩) else ⟨false, false⟩) else ⟨false, false⟩) else ⟨false, false⟩
def F_W9_alive (K : AV → List Blk → Ans) (r : O_W9_alive) : Ans := bif r.ok then K (.v (.c (.d (.bool r.r0)))) [] else none
theorem e_W9_alive (K : AV → List Blk → Ans) : evFn Tryz.prog GT EQT (inl Tryz.prog GT EQT XT [34, 35] T_delay_Split 150 3) XT noL 150 12 [] [] (fun v M => K (finR 0 v M).1 (finR 0 v M).2) = F_W9_alive K (m_W9_alive) := by
  unfold m_W9_alive
  refine Eq.trans ?_ (Eq.symm (pushT (pushT (pushT (pushT (pushT (pushT (pushT (pushT (pushT (pushT rfl rfl) rfl) rfl) rfl) rfl) rfl) rfl) rfl) rfl) rfl))
  kernel_rfl
theorem c_W9_alive (hd : (m_W9_alive).ok = true) : CallsA Tryz.prog GT gbT 12 [] [] (.v (.c (.d (.bool ((m_W9_alive).r0))))) [] := by
  refine CallsA.ofEvR (g_delay_Split.inl hEQT hmT (fun f hf => by simp only [List.mem_cons, List.not_mem_nil, or_false] at hf; rcases hf with rfl | rfl; exact (fun args w => Tryz.call34 args w); exact (fun args w => Tryz.call35 args w)) 150 3) hEQT hmT (n0 := 0) rfl (fun _ _ _ _ => LOKn.nil) ((e_W9_alive (fun v M => some (Res.fin v M))).trans ?_)
  unfold F_W9_alive
  rw [hd]
  rfl
def s_W9_alive : List AV → List Blk → (AV → List Blk → Ans) → Ans := fun xs bs K => match xs, bs with
  | [], [] => F_W9_alive K (m_W9_alive)
  | _, _ => none
def T_W9_alive : Nat → List AV → List Blk → (AV → List Blk → Ans) → Ans := upd T_delay_Split 12 s_W9_alive
theorem g_W9_alive : GOK Tryz.prog GT gbT T_W9_alive XT := by
  refine GOK.upd g_delay_Split (fun args w => Tryz.call12 args w) fun xs bs K r h => ?_
  unfold s_W9_alive at h
  split at h
  · unfold F_W9_alive at h
    simp only [cond_eq_ite] at h
    split at h
    · rename_i hd
      exact ⟨_, _, c_W9_alive hd, h⟩
    · cases h
  · cases h
structure O_W9_fit where
  ok : Bool
  r0 : Bool
def m_W9_fit (a0 : Globe) (a1 : List Site) (a2 : Source) (a3 : Int) (a4 : Frac) : O_W9_fit := bif (m_Q9_Great a1 a2).ok then (bif (!(m_Q9_Great a1 a2).r0) then (bif (m_Q9_Ready a0 a1 a2 a4).ok then (bif ((m_Q9_Ready a0 a1 a2 a4).r0 == (0 : Int)) then (bif decide ((-900000 : Int) ≤ a3) then ⟨true, decide (a3 ≤ (900000 : Int))⟩ else ⟨true, false⟩) else ⟨true, false⟩) else ⟨false, false⟩) else ⟨true, false⟩) else ⟨false, false⟩
def F_W9_fit (_a0 : Globe) (a1 : List Site) (_a2 : Source) (_a3 : Int) (_a4 : Frac) (K : AV → List Blk → Ans) (r : O_W9_fit) : Ans := bif r.ok then K (.v (.c (.d (.bool r.r0)))) [.arr none .site a1] else none
theorem e_W9_fit (a0 : Globe) (a1 : List Site) (a2 : Source) (a3 : Int) (a4 : Frac) (K : AV → List Blk → Ans) : evFn Tryz.prog GT EQT T_W9_alive XT noL 80 11 [.v (.agg [.int .i64 a0.a, .int .i64 a0.b]), .v (.c (.aslice 0 none)), .v (.agg [.str a2.name, .int .i64 a2.ra, .int .i64 a2.dec]), .v (.c (.d (.int .i64 a3))), .v (.agg [.int .i64 a4.num, .int .i64 a4.den])] [.arr none .site a1] (fun v M => K (finR 1 v M).1 (finR 1 v M).2) = F_W9_fit a0 a1 a2 a3 a4 K (m_W9_fit a0 a1 a2 a3 a4) := by
  unfold m_W9_fit
  refine Eq.trans ?_ (Eq.symm (pushT (pushT (pushT (pushT (pushT rfl rfl) rfl) rfl) rfl) rfl))
  kernel_rfl
theorem c_W9_fit (a0 : Globe) (a1 : List Site) (a2 : Source) (a3 : Int) (a4 : Frac) (hd : (m_W9_fit a0 a1 a2 a3 a4).ok = true) : CallsA Tryz.prog GT gbT 11 [.v (.agg [.int .i64 a0.a, .int .i64 a0.b]), .v (.c (.aslice 0 none)), .v (.agg [.str a2.name, .int .i64 a2.ra, .int .i64 a2.dec]), .v (.c (.d (.int .i64 a3))), .v (.agg [.int .i64 a4.num, .int .i64 a4.den])] [.arr none .site a1] (.v (.c (.d (.bool ((m_W9_fit a0 a1 a2 a3 a4).r0))))) [.arr none .site a1] := by
  refine CallsA.ofEvR g_W9_alive hEQT hmT (n0 := 1) rfl (fun _ _ _ _ => LOKn.nil) ((e_W9_fit a0 a1 a2 a3 a4 (fun v M => some (Res.fin v M))).trans ?_)
  unfold F_W9_fit
  rw [hd]
  rfl
def s_W9_fit : List AV → List Blk → (AV → List Blk → Ans) → Ans := fun xs bs K => match xs, bs with
  | [.v (.agg [.int .i64 a0_0, .int .i64 a0_1]), .v (.c (.aslice 0 none)), .v (.agg [.str a2_0, .int .i64 a2_1, .int .i64 a2_2]), .v (.c (.d (.int .i64 a3))), .v (.agg [.int .i64 a4_0, .int .i64 a4_1])], [.arr none .site a1] => F_W9_fit (⟨a0_0, a0_1⟩ : Globe) a1 (⟨a2_0, a2_1, a2_2⟩ : Source) a3 (⟨a4_0, a4_1⟩ : Frac) K (m_W9_fit (⟨a0_0, a0_1⟩ : Globe) a1 (⟨a2_0, a2_1, a2_2⟩ : Source) a3 (⟨a4_0, a4_1⟩ : Frac))
  | _, _ => none
def T_W9_fit : Nat → List AV → List Blk → (AV → List Blk → Ans) → Ans := upd T_W9_alive 11 s_W9_fit
theorem g_W9_fit : GOK Tryz.prog GT gbT T_W9_fit XT := by
  refine GOK.upd g_W9_alive (fun args w => Tryz.call11 args w) fun xs bs K r h => ?_
  unfold s_W9_fit at h
  split at h
  · unfold F_W9_fit at h
    simp only [cond_eq_ite] at h
    split at h
    · rename_i hd
      exact ⟨_, _, c_W9_fit _ _ _ _ _ hd, h⟩
    · cases h
  · cases h
end Go.Ev

namespace Go.Ev
end Go.Ev

namespace Go.Ev
open Go
def nearN (n : Int) : Int := (n + 500000) / 1000000
theorem m_validD (a : Span) : m_delay_valid a = ⟨true, spanValid a⟩ := by
  unfold m_delay_valid spanValid
  cases decide (a.lo ≤ a.hi) <;> cases decide (-3000000000 ≤ a.lo) <;> rfl
theorem m_nearest {n : Int} (h : -4000000000 ≤ n ∧ n ≤ 4000000000) : m_delay_nearest n = ⟨true, nearN n⟩ := by
  have e : m_delay_nearest n = ⟨true, floorRaw (w64 (n + 500000)) 1000000⟩ := by
    unfold m_delay_nearest floorRaw
    cases decide ((w64 (n + 500000)).tmod 1000000 < 0) <;> rfl
  rw [e, w64_keep (by omega) (by omega), floorRaw_ok (by omega) (by omega)]
  rfl
theorem nearN_spec (n : Int) : nearN n * 1000000 ≤ n + 500000 ∧ n + 500000 < nearN n * 1000000 + 1000000 := by unfold nearN; omega
def splitV (a : Span) : Delay × Int :=
  bif !(spanValid a) then (delayZ, 8) else bif nearN a.hi != nearN a.lo then (delayZ, 24) else (⟨nearN a.lo, ⟨a.lo - nearN a.lo * 1000000, a.hi - nearN a.lo * 1000000⟩⟩, 0)
theorem m_split (a : Span) : m_delay_Split a = ⟨true, (splitV a).1, (splitV a).2⟩ := by
  unfold m_delay_Split splitV
  simp only [m_validD, cond_true]
  cases h : spanValid a with
  | false => rfl
  | true =>
    have h' := spanValid_iff.1 h
    have s1 := nearN_spec a.lo
    simp only [Bool.not_true, cond_false, m_nearest (n := a.lo) (by omega), m_nearest (n := a.hi) (by omega), cond_true]
    cases (nearN a.hi != nearN a.lo) with
    | true => rfl
    | false =>
      simp only [cond_false]
      rw [w64_keep (n := nearN a.lo * 1000000) (by omega) (by omega), w64_keep (n := a.lo - nearN a.lo * 1000000) (by omega) (by omega), w64_keep (n := a.hi - nearN a.lo * 1000000) (by omega) (by omega)]
theorem split_err (a : Span) : (splitV a).2 = 0 ∨ (splitV a).2 = 8 ∨ (splitV a).2 = 24 := by
  unfold splitV
  cases spanValid a with
  | false => exact .inr (.inl rfl)
  | true =>
    cases (nearN a.hi != nearN a.lo) with
    | true => exact .inr (.inr rfl)
    | false => exact .inl rfl
theorem split_valid {a : Span} (h : spanValid a = true) : (splitV a).2 = 0 ∨ (splitV a).2 = 24 := by
  rcases split_err a with k | k | k
  · exact .inl k
  · unfold splitV at k
    rw [h] at k
    cases h2 : (nearN a.hi != nearN a.lo) with
    | true => rw [h2] at k; cases k
    | false => rw [h2] at k; cases k
  · exact .inr k
theorem eq_delay (a b : Delay) : eqAll [.int .i64 a.whole, .int .i64 a.part.lo, .int .i64 a.part.hi] [.int .i64 b.whole, .int .i64 b.part.lo, .int .i64 b.part.hi] = decide (a = b) := by
  obtain ⟨x, y, z⟩ := a; obtain ⟨u, v, w⟩ := b
  simp [eqAll, D.eq, Delay.mk.injEq, Span.mk.injEq]
  rfl
end Go.Ev

namespace Go.Ev
end Go.Ev

