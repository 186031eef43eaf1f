/-
  array.place: the stations with their places, or an error; by a loop over the pairs of stations. No condition.
  Plain functions that mirror functions of the program, and that it computes them. No condition beyond those of the statements.
-/
import Derived.Test.YtlmjaedhcphglaaGreatDoorPkS8
set_option maxRecDepth 100000
namespace Go.Ev
open Go Go.Proofs Go.RowKit
def dupAt (ps : List Placed) (i j : Nat) : Bool :=
  bif ((ps.getD i (ET.z .placed)).site.name.data.toList == (ps.getD j (ET.z .placed)).site.name.data.toList) then true else
    eqAll [.int .i64 (ps.getD i (ET.z .placed)).at_.x.num, .int .i64 (ps.getD i (ET.z .placed)).at_.x.den, .int .i64 (ps.getD i (ET.z .placed)).at_.y.num, .int .i64 (ps.getD i (ET.z .placed)).at_.y.den, .int .i64 (ps.getD i (ET.z .placed)).at_.z.num, .int .i64 (ps.getD i (ET.z .placed)).at_.z.den]
      [.int .i64 (ps.getD j (ET.z .placed)).at_.x.num, .int .i64 (ps.getD j (ET.z .placed)).at_.x.den, .int .i64 (ps.getD j (ET.z .placed)).at_.y.num, .int .i64 (ps.getD j (ET.z .placed)).at_.y.den, .int .i64 (ps.getD j (ET.z .placed)).at_.z.num, .int .i64 (ps.getD j (ET.z .placed)).at_.z.den]
def dupP (ps : List Placed) : Bool := (List.range ps.length).any fun j => (List.range j).any fun i => dupAt ps i j
theorem dupP_true {ps : List Placed} {i j : Nat} (h1 : i < j) (h2 : j < ps.length) (h : dupAt ps i j = true) : dupP ps = true := by
  unfold dupP
  rw [List.any_eq_true]
  exact ⟨j, List.mem_range.2 h2, List.any_eq_true.2 ⟨i, List.mem_range.2 h1, h⟩⟩
theorem dupP_false {ps : List Placed} (h : ∀ i j, i < j → j < ps.length → dupAt ps i j = false) : dupP ps = false := by
  unfold dupP
  rw [List.any_eq_false]
  intro j hj
  rw [List.any_eq_true]
  rintro ⟨i, hi, he⟩
  rw [h i j (List.mem_range.1 hi) (List.mem_range.1 hj)] at he
  cases he
structure O_array_place where
  ok : Bool
  r0 : List Placed
  r1 : Int
def m_array_place (a0 : Globe) (a1 : List Site) : O_array_place :=
  bif Nat.beq (m0_array_place a0 a1).k 0 then ⟨true, [], (m0_array_place a0 a1).e⟩
  else bif Nat.beq (m0_array_place a0 a1).k 1 then (bif dupP (m0_array_place a0 a1).ps then ⟨true, [], 14⟩ else ⟨true, (m0_array_place a0 a1).ps, 0⟩)
  else ⟨false, [], 0⟩
theorem round_eval (l : List Site) (ps : List Placed) (i j : Nat) (hi : i < j) (hj : j < ps.length) :
    evCode Tryz.prog GT EQT TP XT noL 120 (bodC (sndC (fstC (splitC 5 (bodyC Tryz.prog 44)).2))) (tset (.v (.c (.ptr 6 0))) (tset (.v (.agg [.int .i64 i, .int .i64 j])) (headT [4, 5, 8, 55] 88 [.v (.c (.ptr 1 0)), .v (.c (.ptr 2 0)), .v (.c (.ptr 3 0)), .v (.c (.fn 88 [4]))]) 56) 13) [.arr none .site l, .cell 97 .nilS, .rw 32 [.int .i64 (0 : Int)], .cell 97 (.aslice 5 none), .dead, .arr (some 101) .placed ps, .rw 125 [.int .i64 i, .int .i64 j]] 7 (cutR 6) =
    bif dupAt ps i j then some (.st .ret ⟨0, .any, []⟩ [.arr none .site l, .cell 97 .nilS, .rw 32 [.int .i64 (14 : Int)], .cell 97 (.aslice 5 none), .dead, .arr (some 101) .placed ps] 7)
    else some (.st .normal ⟨0, .any, []⟩ [.arr none .site l, .cell 97 .nilS, .rw 32 [.int .i64 (0 : Int)], .cell 97 (.aslice 5 none), .dead, .arr (some 101) .placed ps] 7) := by
  refine (wb_array_place l ps i j).trans ?_
  unfold dupAt
  simp only [nn_t, lt_t (show i < ps.length by omega), lt_t hj, Bool.and_self, cond_true, Int.toNat_natCast]
  cases ((ps.getD i (ET.z .placed)).site.name.data.toList == (ps.getD j (ET.z .placed)).site.name.data.toList) <;> rfl
theorem tail_eval (l : List Site) (ps : List Placed) : evCode Tryz.prog GT EQT TP XT noL 20 (fstC (sndC (splitC 5 (bodyC Tryz.prog 44)).2)) (headT [4, 5, 8, 55] 88 [.v (.c (.ptr 1 0)), .v (.c (.ptr 2 0)), .v (.c (.ptr 3 0)), .v (.c (.fn 88 [4]))])
      [.arr none .site l, .cell 97 .nilS, .rw 32 [.int .i64 (0 : Int)], .cell 97 (.aslice 5 none), .dead, .arr (some 101) .placed ps] 6 (fun x T M N => some (.st x T M N)) =
    some (.st .normal (tset (.v (.c (.aslice 5 none))) (headT [4, 5, 8, 55] 88 [.v (.c (.ptr 1 0)), .v (.c (.ptr 2 0)), .v (.c (.ptr 3 0)), .v (.c (.fn 88 [4]))]) 87)
      [.arr none .site l, .cell 97 (.aslice 5 none), .rw 32 [.int .i64 (0 : Int)], .cell 97 (.aslice 5 none), .dead, .arr (some 101) .placed ps] 6) := by
  kernel_rfl
theorem shape_place : (splitC 5 (bodyC Tryz.prog 44)).2 = .seq (.seq (fstC (fstC (splitC 5 (bodyC Tryz.prog 44)).2)) (.block 2 (.rangeFunc (.tmp 55) #[56] (asgC (sndC (fstC (splitC 5 (bodyC Tryz.prog 44)).2))) (bodC (sndC (fstC (splitC 5 (bodyC Tryz.prog 44)).2)))))) (.seq (fstC (sndC (splitC 5 (bodyC Tryz.prog 44)).2)) .ret) := by kernel_rfl
theorem none_result {P : Program} {wA w : World} {W : Nat → Prop} {σ τ : Sg} {T : TS} {M : List Blk} {a : Act} {l : List Site} {e : Int} {fn : Func} {n0 : Nat} (ty : Nat) (hn0 : n0 = 1) (hfr : ∀ b, n0 ≤ b → σ b = none) (hle : leB n0 σ τ) (hT : TRel τ T a) (hM : MRel wA W τ M w) (hm0 : mget M 0 = .arr none .site l)
    (hr : resDs P T M fn.results.toList = some [.c .nilS, .c (.d (.int .i64 e))]) : ∃ v, (results fn a.tmps).run P w = .ok v w ∧ ∃ υ, σ.le υ ∧ AVRel υ (.tup [.c (.aslice 1 none), .c (.d (.int .i64 e))]) v ∧ MRel wA W υ [.arr none .site l, .arr (some ty) .placed []] w := by
  subst hn0
  obtain ⟨v, h1, h2⟩ := results_rel hT hM hr
  refine ⟨v, h1, fun c => if c = 0 then τ 0 else if c = 1 then some ⟨0, 0, 0, true, 0, ET.len .placed⟩ else none, fun b L hL => ?_, ?_, ?_⟩
  · have hb : b < 1 := by
      rcases Nat.lt_or_ge b 1 with h | h
      · exact h
      · rw [hfr b h] at hL; cases hL
    obtain rfl : b = 0 := by omega
    exact hle 0 L hb hL
  · obtain ⟨vs, e1, e2⟩ := h2
    refine ⟨vs, e1, ?_⟩
    cases hv : vs.toList with
    | nil => rw [hv] at e2; exact e2.elim
    | cons v1 r =>
      rw [hv] at e2
      obtain ⟨k1, k2⟩ := e2
      refine ⟨⟨_, rfl, .inl ⟨rfl, k1⟩⟩, ?_⟩
      cases r with
      | nil => exact k2.elim
      | cons v2 s =>
        obtain ⟨k3, k4⟩ := k2
        refine ⟨k3, ?_⟩
        cases s with
        | nil => trivial
        | cons _ _ => exact k4.elim
  · refine ⟨fun b => ?_, fun b _ _ _ _ hb => ?_, fun b _ hb => ?_, hM.kept⟩
    · match b with
      | 0 =>
        have := hM.blk 0
        rw [hm0] at this
        obtain ⟨L, h3, h4⟩ := this
        exact ⟨L, h3, h4⟩
      | 1 => exact ⟨_, rfl, rfl, rfl, by simp [ET.flat], rfl, rfl, .inl rfl⟩
      | _ + 2 => trivial
    · match b with
      | 0 => cases l <;> cases hb
      | 1 => cases hb
      | _ + 2 => cases hb
    · match b with
      | 0 => cases l <;> cases hb
      | 1 => cases hb
      | _ + 2 => cases hb
theorem some_result {P : Program} {wA w : World} {W : Nat → Prop} {σ τ : Sg} {T : TS} {M : List Blk} {a : Act} {l : List Site} {ps : List Placed} {e : Int} {fn : Func} {n0 b5 : Nat} (ty : Nat) (hn0 : n0 = 1) (hb5 : 1 ≤ b5) (hfr : ∀ b, n0 ≤ b → σ b = none) (hle : leB n0 σ τ) (hT : TRel τ T a) (hM : MRel wA W τ M w) (hm0 : mget M 0 = .arr none .site l) (hm5 : mget M b5 = .arr (some ty) .placed ps)
    (hr : resDs P T M fn.results.toList = some [.c (.aslice b5 none), .c (.d (.int .i64 e))]) : ∃ v, (results fn a.tmps).run P w = .ok v w ∧ ∃ υ, σ.le υ ∧ AVRel υ (.tup [.c (.aslice 1 none), .c (.d (.int .i64 e))]) v ∧ MRel wA W υ [.arr none .site l, .arr (some ty) .placed ps] w := by
  subst hn0
  obtain ⟨v, h1, h2⟩ := results_rel hT hM hr
  refine ⟨v, h1, _, fun b L hL => ?_, ?_, hM.ren (N' := 2) (fun c => if c = 1 then b5 else c) (fun c => ?_) (fun c c' h1 h2 h3 => ?_)⟩
  · have hb : b < 1 := by
      rcases Nat.lt_or_ge b 1 with h | h
      · exact h
      · rw [hfr b h] at hL; cases hL
    obtain rfl : b = 0 := by omega
    exact hle 0 L hb hL
  · have : AVRel τ (renA (fun c => if c = 1 then b5 else c) (.tup [.c (.aslice 1 none), .c (.d (.int .i64 e))])) v := h2
    refine AVRel.ren (fun b hb => ?_) this
    simp [refsX, refsV, refsC] at hb
    subst hb
    rfl
  · match c with
    | 0 => exact .inr ⟨hm0, by omega, fun b hb => by cases hb⟩
    | 1 => exact .inr ⟨hm5, by omega, fun b hb => by cases hb⟩
    | _ + 2 => exact .inl rfl
  · split at h3 <;> split at h3 <;> omega
set_option maxHeartbeats 1000000 in
theorem place_calls (g : Globe) (l : List Site) (hok : (m_array_place g l).ok = true) :
    CallsA Tryz.prog GT gbT 44 [.v (.agg [.int .i64 g.a, .int .i64 g.b]), .v (.c (.aslice 0 none))] [.arr none .site l] (.tup [.c (.aslice 1 none), .c (.d (.int .i64 (m_array_place g l).r1))]) [.arr none .site l, .arr (some 101) .placed (m_array_place g l).r0] := by
  intro σ w args hargs hM hG hfr
  have hbody : Tryz.f44.body = some (bodyC Tryz.prog 44) := by kernel_rfl
  have hE := e0_array_place g l
  have hL : ∀ c ∈ (splitC 5 (bodyC Tryz.prog 44)).1, LOKn Tryz.prog GT gbT 1 LP (loopsIn c) := fun c hc b hb => lok_array_place _ _ Tryz.func44 hbody b (splitC_loops _ _ _ hc b hb)
  have hLc : LOKn Tryz.prog GT gbT 1 LP (loopsIn (fstC (fstC (splitC 5 (bodyC Tryz.prog 44)).2))) := by
    have : loopsIn (fstC (fstC (splitC 5 (bodyC Tryz.prog 44)).2)) = [] := by kernel_rfl
    rw [this]
    intro b hb
    cases hb
  have hlen := hargs.length
  have hT0 : TRel σ (frameT [.v (.agg [.int .i64 g.a, .int .i64 g.b]), .v (.c (.aslice 0 none))] 86) { tmps := args ++ Array.replicate (Tryz.f44.ntmps - args.size) undef, defers := [] } := by
    refine ⟨?_, fun t => ?_, rfl⟩
    · have : Tryz.f44.ntmps = 88 := by kernel_rfl
      simp [frameT, TS.length] at hlen ⊢
      omega
    · have := enter_rel 86 hargs t
      rw [frame_get]
      rw [Array.getD_eq_getD_getElem?]
      rw [List.getD_eq_getElem?_getD] at this
      rw [← Array.getElem?_toList, Array.toList_append, Array.toList_replicate]
      have e : Tryz.f44.ntmps - args.size = 86 := by
        have : Tryz.f44.ntmps = 88 := by kernel_rfl
        simp at hlen
        omega
      rw [e]
      exact this
  refine callsIn_wide.1 (callsIn_of_wp_marks (n := 10) Tryz.func44 hbody trivial ?_ rfl)
  rw [wpIn_wide]
  rw [← splitC_eq 5 (bodyC Tryz.prog 44), shape_place]
  unfold m_array_place at hok ⊢
  unfold F0_array_place at hE
  cases hk0 : Nat.beq (m0_array_place g l).k 0 with
  | true =>
    rw [hk0] at hE
    simp only [cond_true] at hE ⊢
    refine place_pre hEQT hmT gP hL hLc hE _ _ w (Wof σ [.arr none .site l]) σ _ w _ hG hT0 hM hfr fun τ a' w' hle hT' hM' hN' => ?_
    show LeavesInM _ _ _ _ _ _ a'.defers _ _
    rw [hT'.df]
    obtain ⟨v, hv1, υ, hv2, hv3, hv4⟩ := none_result (P := Tryz.prog) (fn := Tryz.f44) 101 rfl hfr hle hT' hM' rfl (by kernel_rfl)
    exact ⟨v, hv1, v, υ, rfl, hv2, hv3, hv4⟩
  | false =>
    rw [hk0] at hE hok
    simp only [cond_false] at hE hok ⊢
    cases hk1 : Nat.beq (m0_array_place g l).k 1 with
    | false => rw [hk1] at hok; cases hok
    | true =>
    rw [hk1] at hE
    simp only [cond_true] at hE ⊢
    generalize (m0_array_place g l).ps = ps at hE ⊢
    refine place_pre hEQT hmT gP hL hLc hE _ _ w (Wof σ [.arr none .site l]) σ _ w _ hG hT0 hM hfr fun τ a' w' hle hT' hM' hN' => ?_
    -- what lies in memory
    obtain ⟨Mr, hMrd⟩ : ∃ Mr : List Blk, Mr = [.arr none .site l, .cell 97 .nilS, .rw 32 [.int .i64 (0 : Int)], .cell 97 (.aslice 5 none), .dead, .arr (some 101) .placed ps] := ⟨_, rfl⟩
    have d0 : ∃ L, τ 0 = some L := by obtain ⟨L, h, _⟩ := hM'.blk 0; exact ⟨L, h⟩
    have d1 : ∃ L, τ 1 = some L := by obtain ⟨L, _, h, _⟩ := hM'.blk 1; exact ⟨L, h⟩
    have d2 : ∃ L, τ 2 = some L := by obtain ⟨L, _, h, _⟩ := hM'.blk 2; exact ⟨L, h⟩
    have d3 : ∃ L, τ 3 = some L := by obtain ⟨L, _, h, _⟩ := hM'.blk 3; exact ⟨L, h⟩
    have d5 : ∃ L, τ 5 = some L := by obtain ⟨L, h, _⟩ := hM'.blk 5; exact ⟨L, h⟩
    have hn : ps.length ≤ 9223372036854775807 := by
      obtain ⟨_, _, _, _, _, _, _, L5, h1, h2⟩ := hM'.blk 3
      obtain ⟨L5', h3, h4, _⟩ := hM'.blk 5
      rw [h1] at h3
      cases h3
      rcases h2 with ⟨h2, _⟩ | ⟨_, _, _, h2, _⟩
      · omega
      · simp only [maxLen] at h2; omega
    obtain ⟨L4, cur4, q1, q2, q3, q4, q5, q6, q7⟩ := hM'.blk 4
    obtain ⟨bn, hbn⟩ : ∃ bn, L4.blk = bn := ⟨_, rfl⟩
    rw [hbn] at q4
    have hbnlt : bn < w'.heap.size := (Array.getElem?_eq_some_iff.1 q4).1
    have hbncell : w'.cell? ⟨bn, 0, none⟩ = some (.int .i64 (ps.length : Int)) := by
      rw [cell_of_heap q4]
      have : (cur4.toList.take 1)[0]? = ([D.int .i64 (ps.length : Int)].map D.val)[0]? := by rw [← q7]; rfl
      simpa [D.val] using this
    have hMr : MRel w (Wof σ [.arr none .site l]) τ Mr w' := hM'.congr fun b => by
      rw [hMrd]
      match b with
      | 0 | 1 | 2 | 3 | 5 => exact .inl rfl
      | 4 => exact .inr rfl
      | _ + 6 => exact .inl rfl
    have notbn : ¬ Wof τ Mr bn := by
      rintro ⟨b, L, hw, hL, e⟩
      rw [hMrd] at hw
      refine hM'.sep b 4 L L4 ?_ ?_ rfl hL q1 (by rw [e, hbn])
      · rintro rfl; cases hw
      · match b with
        | 0 | 1 | 2 | 3 | 5 => exact hw
        | 4 => cases hw
        | _ + 6 => exact hw
    have dom : ∀ b, mget Mr b = .dead ∨ ((∃ L, τ b = some L) ∧ ∀ r ∈ refsB (mget Mr b), ∃ L, τ r = some L) := by
      intro b
      rw [hMrd]
      match b with
      | 0 => exact .inr ⟨d0, fun r hr => by cases hr⟩
      | 1 => exact .inr ⟨d1, fun r hr => by cases hr⟩
      | 2 => exact .inr ⟨d2, fun r hr => by cases hr⟩
      | 3 => exact .inr ⟨d3, fun r hr => by simp [mget, gets, refsB, refsC] at hr; subst hr; exact d5⟩
      | 4 => exact .inl rfl
      | 5 => exact .inr ⟨d5, fun r hr => by cases hr⟩
      | _ + 6 => exact .inl rfl
    have domx : ∀ b, mget ([.arr none .site l, .cell 97 .nilS, .rw 32 [.int .i64 (14 : Int)]] : List Blk) b = .dead ∨ ((∃ L, τ b = some L) ∧ ∀ r ∈ refsB (mget ([.arr none .site l, .cell 97 .nilS, .rw 32 [.int .i64 (14 : Int)]] : List Blk) b), ∃ L, τ r = some L) := by
      intro b
      match b with
      | 0 => exact .inr ⟨d0, fun r hr => by cases hr⟩
      | 1 => exact .inr ⟨d1, fun r hr => by cases hr⟩
      | 2 => exact .inr ⟨d2, fun r hr => by cases hr⟩
      | _ + 3 => exact .inl rfl
    -- the function that is ranged over
    obtain ⟨vs, hvs, hvp⟩ := hT'.val 55
    have hvl : vs = #[.pointer (some ⟨bn, 0, none⟩)] := by
      cases hv : vs.toList with
      | nil => rw [hv] at hvp; exact hvp.elim
      | cons v1 r =>
        rw [hv] at hvp
        obtain ⟨⟨L, k1, k2⟩, k3⟩ := hvp
        rw [q1] at k1
        cases k1
        cases r with
        | nil => apply Array.ext'; rw [hv, k2, q2, hbn]
        | cons _ _ => exact k3.elim
    have hg : a'.eval (.tmp 55) = .func (.func 88) #[] #[.pointer (some ⟨bn, 0, none⟩)] := by
      rw [← hvl]
      exact hvs
    have hseq : SeqStopsK Fence.wide (10 - 1) Tryz.prog 88 #[.pointer (some ⟨bn, 0, none⟩)] (encP (n := ps.length)) (fun X Y => Y.heap[bn]? = X.heap[bn]?) (fun ys => ∀ p, p ∈ ys) (fun _ => True) (ps.length * ps.length) w' :=
      fun lp J Jx W hW _ _ hY h0 => pairs1_in 9 lp bn ps.length hn J Jx hY W ((hW.cell (p := ⟨bn, 0, none⟩) hbnlt).trans hbncell) h0
    have hG' : ∀ {τ' : Sg} {M'' : List Blk} {X : World}, MRel w (Wof σ [.arr none .site l]) τ' M'' X → Glob GT gbT (Wof τ' M'') X := fun h => hG.rebase h
    have hwB : w.heap.size ≤ w'.heap.size := hM'.kept.size
    have stay : ∀ {τ' : Sg} {M'' : List Blk} {X Y : World}, X.heap[bn]? = w'.heap[bn]? → ¬ Wof τ' M'' bn → Kept (Wof τ' M'') X Y → Y.heap[bn]? = X.heap[bn]? := fun h1 h2 h3 =>
      h3.block bn (Array.getElem?_eq_some_iff.1 (h1.trans q4)).1 h2
    refine wp_block (wpIn_wide.1 (wpIn_rangeFunc_ownH (n := 10) (α := PairN ps.length) rfl (by decide) hg trivial (fun args w => Tryz.call88 args w) hseq (fun h k => k.trans h)
      (fun W lp o o' hl _ _ _ => World.putObj_heap_other (by omega)) (Below.refl _ _) (fun _ => rfl)
      (fun pre W => (∀ p ∈ pre, dupAt ps p.1.1 p.1.2 = false) ∧ MRel w (Wof σ [.arr none .site l]) τ Mr W ∧ W.heap[bn]? = w'.heap[bn]?)
      (fun c pre W => c = .ret ∧ (∃ p ∈ pre, dupAt ps p.1.1 p.1.2 = true) ∧ MRel w (Wof σ [.arr none .site l]) τ [.arr none .site l, .cell 97 .nilS, .rw 32 [.int .i64 (14 : Int)]] W)
      ?hI ?hIx ⟨fun p hp => (by cases hp), hMr, rfl⟩
      (fun x a2 W => ∃ υ, τ.le υ ∧ TRel υ (tset (.v (.c (.ptr 6 0))) (tset (.v (.agg [.int .i64 (x.1.1 : Int), .int .i64 (x.1.2 : Int)])) (headT [4, 5, 8, 55] 88 [.v (.c (.ptr 1 0)), .v (.c (.ptr 2 0)), .v (.c (.ptr 3 0)), .v (.c (.fn 88 [4]))]) 56) 13) a2 ∧ MRel w (Wof σ [.arr none .site l]) υ (Mr ++ [.rw 125 [.int .i64 (x.1.1 : Int), .int .i64 (x.1.2 : Int)]]) W ∧ (∀ b, 7 ≤ b → υ b = none) ∧ ¬ Wof υ (Mr ++ [.rw 125 [.int .i64 (x.1.1 : Int), .int .i64 (x.1.2 : Int)]]) bn)
      ?hAx ?asg ?bod ?done ?stop))
    case hI =>
      rintro pre X Y row ⟨h1, h2, h3⟩ hg' hr
      refine ⟨h1, h2.grown hg' fun r e => ⟨Nat.le_trans hwB (hr r e).1, (hr r e).2⟩, (hg'.block bn ?_ fun e => ?_).trans h3⟩
      · rw [q4] at h3; exact (Array.getElem?_eq_some_iff.1 h3).1
      · have := (hr bn e.symm).1; omega
    case hIx =>
      rintro c pre X Y row ⟨h1, h2, h3⟩ hg' hr
      exact ⟨h1, h2, h3.grown hg' fun r e => ⟨Nat.le_trans hwB (hr r e).1, (hr r e).2⟩⟩
    case hAx =>
      rintro x a2 _ X Y row ⟨υ, h1, h2, h3, h4⟩ hg' hr
      exact ⟨υ, h1, h2, h3.grown hg' fun r e => ⟨Nat.le_trans hwB (hr r e).1, (hr r e).2⟩, h4⟩
    case asg =>
      rintro lp pre x W K ⟨h1, h2, h3⟩ hK
      have hwa := wa_array_place l ps (x.1.1 : Int) (x.1.2 : Int)
      rw [← hMrd] at hwa
      have hcr := CodeR.ofEv (b := asgC (sndC (fstC (splitC 5 (bodyC Tryz.prog 44)).2))) gP hEQT hmT (by kernel_rfl) hwa
      have hT1 := hT'.put (some 56) (x := .v (.agg [.int .i64 (x.1.1 : Int), .int .i64 (x.1.2 : Int)])) (v := .agg #[.int .i64 (x.1.1 : Int), .int .i64 (x.1.2 : Int)]) ⟨rfl, by
        have hx1 := x.2.1
        have hx2 := x.2.2
        intro d hd
        simp only [List.mem_cons, List.not_mem_nil, or_false] at hd
        rcases hd with rfl | rfl <;> simp only [D.ok, inR, Bool.and_eq_true, decide_eq_true_eq] <;> omega⟩
      have hact : (a'.put (some 56) (.agg #[.int .i64 (x.1.1 : Int), .int .i64 (x.1.2 : Int)])) = { tmps := ((#[56] : Array Tmp).zip (encP x)).foldl (fun t (p, v) => t.setIfInBounds p v) a'.tmps, defers := [] } := by
        simp [Act.put, encP, hT'.df]
      rw [hact] at hT1
      refine hcr lp _ W (Wof τ Mr) τ _ W _ (fun ⟨_, _, h⟩ => h) (hG' h2) hT1 h2.rebase ?_ fun υ a2 W2 hle2 hT2 hM2 hN2 => ?_
      · intro b hb
        exact hN' b hb
      · have hkept := hM2.kept
        have hsince := h2.since hM2
        have hbn2 := stay h3 notbn hkept
        have hap : Mr ++ [.rw 125 [.int .i64 (x.1.1 : Int), .int .i64 (x.1.2 : Int)]] = [.arr none .site l, .cell 97 .nilS, .rw 32 [.int .i64 (0 : Int)], .cell 97 (.aslice 5 none), .dead, .arr (some 101) .placed ps, .rw 125 [.int .i64 (x.1.1 : Int), .int .i64 (x.1.2 : Int)]] := by rw [hMrd]; rfl
        have hnot : ¬ Wof υ (Mr ++ [.rw 125 [.int .i64 (x.1.1 : Int), .int .i64 (x.1.2 : Int)]]) bn := by
          rintro ⟨b, L, hw, hL, e⟩
          rcases hM2.own b L (by rw [hap] at hw; exact hw) hL with h5 | h5
          · exact notbn (e ▸ h5)
          · have hlt : bn < W.heap.size := (Array.getElem?_eq_some_iff.1 (h3.trans q4)).1
            omega
        refine hK a2 W2 (Kept.keepsFrom h2.rebase hkept _) hbn2 ⟨h1, ?_, hbn2.trans h3⟩ ⟨υ, hle2, hT2, ?_, hN2, hnot⟩
        · refine MRel.under hle2 (hsince.congr fun b => ?_) dom
          rw [hMrd]
          match b with
          | 0 | 1 | 2 | 3 | 5 => exact .inl rfl
          | 4 => exact .inl rfl
          | 6 => exact .inr rfl
          | _ + 7 => exact .inl rfl
        · rw [hap]
          exact hsince
    case bod =>
      rintro lp pre x a2 W hlp _ ⟨h1, h2, h3⟩ ⟨υ, k1, k2, k3, k4, k5⟩ _
      have hev := round_eval l ps x.1.1 x.1.2 x.2.1 x.2.2
      have hap : Mr ++ [.rw 125 [.int .i64 (x.1.1 : Int), .int .i64 (x.1.2 : Int)]] = [.arr none .site l, .cell 97 .nilS, .rw 32 [.int .i64 (0 : Int)], .cell 97 (.aslice 5 none), .dead, .arr (some 101) .placed ps, .rw 125 [.int .i64 (x.1.1 : Int), .int .i64 (x.1.2 : Int)]] := by rw [hMrd]; rfl
      rw [hap] at k3 k5
      cases hdup : dupAt ps x.1.1 x.1.2 with
      | false =>
        rw [hdup] at hev
        obtain ⟨T2, M2, hc, hcr⟩ := CodeR.ofCut (b := bodC (sndC (fstC (splitC 5 (bodyC Tryz.prog 44)).2))) gP hEQT hmT (by kernel_rfl) hev
        refine hcr lp _ W _ υ a2 W _ (fun ⟨_, _, h⟩ => h) (hG' k3) k2 k3.rebase k4 fun ω a3 W3 hle3 _ hM3 _ => ?_
        have hbn3 := stay h3 k5 hM3.kept
        refine ⟨Kept.keepsFrom k3.rebase hM3.kept _, hbn3, fun p hp => ?_, ?_, hbn3.trans h3⟩
        · rcases List.mem_append.1 hp with hp | hp
          · exact h1 p hp
          · rw [List.mem_singleton.1 hp]; exact hdup
        · refine MRel.under (Sg.le_trans k1 hle3) ((k3.since hM3).congr fun b => ?_) dom
          rw [hMrd]
          exact hc b
      | true =>
        rw [hdup] at hev
        obtain ⟨T2, M2, hc, hcr⟩ := CodeR.ofCut (b := bodC (sndC (fstC (splitC 5 (bodyC Tryz.prog 44)).2))) gP hEQT hmT (by kernel_rfl) hev
        refine hcr lp _ W _ υ a2 W _ (fun ⟨_, _, h⟩ => h) (hG' k3) k2 k3.rebase k4 fun ω a3 W3 hle3 _ hM3 _ => ?_
        refine ⟨Kept.keepsFrom k3.rebase hM3.kept _, rfl, ⟨x, by simp, hdup⟩, ?_⟩
        refine MRel.under (Sg.le_trans k1 hle3) ((k3.since hM3).congr fun b => ?_) domx
        match b with
        | 0 => exact hc 0
        | 1 => exact hc 1
        | 2 => exact hc 2
        | _ + 3 => exact .inr rfl
    case done =>
      rintro D xs W hD hS ⟨h1, h2, h3⟩ hKd
      rw [dupP_false fun i j hi hj => h1 ⟨(i, j), hi, hj⟩ (hS _)]
      show (Code.seq _ .ret).wp _ _ _ _
      have hreg : ∃ id ops, fstC (sndC (splitC 5 (bodyC Tryz.prog 44)).2) = .region id ops false ∧ (ops.toList.all fun o => plainOp o.op) = true := by
        refine ⟨20, _, (by kernel_rfl : fstC (sndC (splitC 5 (bodyC Tryz.prog 44)).2) = .region 20 (opsC (fstC (sndC (splitC 5 (bodyC Tryz.prog 44)).2))) false), by kernel_rfl⟩
      obtain ⟨id, ops, hr1, hr2⟩ := hreg
      have hte := tail_eval l ps
      rw [← hMrd] at hte
      rw [hr1] at hte ⊢
      rw [hT'.df]
      have hnl : ¬ LetsOut (bodyPostM Fence.wide 10 Tryz.prog Tryz.f44 fun e w'_1 => ∃ v' τ, e = .returned v' ∧ σ.le τ ∧ AVRel τ (.tup [.c (.aslice 1 none), .c (.d (.int .i64 (0 : Int)))]) v' ∧ MRel w (Wof σ [.arr none .site l]) τ [.arr none .site l, .arr (some 101) .placed ps] w'_1) := by
        rintro ⟨_, _, _, _, h, _⟩
        cases h
      have hdf : ({ a' with defers := [{ target := .collected D, args := #[] }] } : Act) = { a' with defers := [{ target := .collected D, args := #[] }] } := rfl
      refine wp_seq (region_defers hEQT gP hr2 hte W (Wof τ Mr) τ a' W _ _ (then_out hnl) (hG' h2) hT' h2.rebase hN' fun υ a2 W2 hle2 hT2 hM2 => ?_)
      refine wp_ret ?_
      show LeavesInM _ _ _ _ _ _ [_] _ _
      have hD2 : W2.heap[D]? = some (.deferred (some [])) := by
        have hlt : D < W.heap.size := (Array.getElem?_eq_some_iff.1 hKd).1
        refine (hM2.kept.block D hlt ?_).trans hKd
        rintro ⟨b, L, hw, hL, e⟩
        obtain ⟨cur, t, fr, h5⟩ := (h2.blk b).cellsAt (wr_live hw) hL
        rw [e, hKd] at h5
        cases h5
      refine ⟨by simp, .inl ⟨D, _, rfl, run_takeDeferred hD2, ?_⟩⟩
      have h4 := (h2.since hM2).grown (grownBy_putObj' W2 D (.deferred none)) fun r e => by cases e; exact ⟨Nat.le_trans hwB hD, _, hD2, rfl⟩
      obtain ⟨v, hv1, υ', hv2, hv3, hv4⟩ := some_result (P := Tryz.prog) (fn := Tryz.f44) 101 rfl (by decide) hfr (fun b L hb hL => hle2 b L (hle b L hb hL)) hT2 h4 rfl rfl (b5 := 5) (by kernel_rfl)
      exact ⟨v, hv1, v, υ', rfl, hv2, hv3, hv4⟩
    case stop =>
      rintro D c pre W hD _ ⟨rfl, ⟨p, _, hp⟩, h3⟩ hKd
      refine wpIn_ret ?_
      show LeavesInM _ _ _ _ _ _ (_ :: a'.defers) _ _
      rw [hT'.df, dupP_true p.2.1 p.2.2 hp]
      refine ⟨by simp, .inl ⟨D, _, rfl, run_takeDeferred hKd, ?_⟩⟩
      have h4 := h3.grown (grownBy_putObj' W D (.deferred none)) fun r e => by cases e; exact ⟨Nat.le_trans hwB hD, _, hKd, rfl⟩
      obtain ⟨v, hv1, υ, hv2, hv3, hv4⟩ := none_result (P := Tryz.prog) (fn := Tryz.f44) 101 rfl hfr hle hT' h4 rfl (by kernel_rfl)
      exact ⟨v, hv1, v, υ, rfl, hv2, hv3, hv4⟩
def s_array_place : List AV → List Blk → (AV → List Blk → Ans) → Ans := fun xs bs K => match xs, bs with
  | [.v (.agg [.int .i64 a0_0, .int .i64 a0_1]), .v (.c (.aslice 0 none))], [.arr none .site a1] => bif (m_array_place (⟨a0_0, a0_1⟩ : Globe) a1).ok then K (.tup [.c (.aslice 1 none), .c (.d (.int .i64 (m_array_place (⟨a0_0, a0_1⟩ : Globe) a1).r1))]) [.arr none .site a1, .arr (some 101) .placed (m_array_place (⟨a0_0, a0_1⟩ : Globe) a1).r0] else none
  | _, _ => none
def T_array_place : Nat → List AV → List Blk → (AV → List Blk → Ans) → Ans := upd TP 44 s_array_place
theorem g_array_place : GOK Tryz.prog GT gbT T_array_place XT := by
  refine GOK.upd gP (fun args w => Tryz.call44 args w) fun xs bs K r h => ?_
  unfold s_array_place at h
  split at h
  · simp only [cond_eq_ite] at h
    split at h
    · rename_i hd
      exact ⟨_, _, place_calls _ _ hd, h⟩
    · cases h
  · cases h
end Go.Ev

namespace Go.Ev
open Go Go.Proofs
structure R_array_Places_0 where
  k : Nat
  p25 : Int
  m1 : List Vec
def run_array_Places_0 (p24 : Int) (m0 : List Site) (m2 : List Placed) : Nat → Int → List Vec → R_array_Places_0
  | 0, p25, m1 => ⟨1, p25, m1⟩
  | n + 1, p25, m1 => bif decide (p25 < p24) then (bif (decide ((0 : Int) ≤ p25) && decide (p25 < (m2.length : Int))) then (bif (decide ((0 : Int) ≤ p25) && decide (p25 < (m1.length : Int))) then run_array_Places_0 p24 m0 m2 n (w64 (p25 + (1 : Int))) (m1.set p25.toNat ((m2.getD p25.toNat (ET.z .placed)).at_)) else ⟨1, p25, m1⟩) else ⟨1, p25, m1⟩) else ⟨0, p25, m1⟩
def lp_array_Places_0 (p24 : Int) (m0 : List Site) (m2 : List Placed) (p25 : Int) (m1 : List Vec) : R_array_Places_0 := run_array_Places_0 p24 m0 m2 (2000 + (m0.length + m1.length + m2.length)) p25 m1
abbrev H_array_Places_0 (p24 : Int) (_m0 : List Site) (_m2 : List Placed) (p25 : Int) (_m1 : List Vec) : TS := headT [8, 23, 24, 25] 37 [.v (.c (.aslice 1 none)), .v (.c (.aslice 2 none)), .v (.c (.d (.int .i64 p24))), .v (.c (.d (.int .i64 p25)))]
theorem b_array_Places_0 (p24 : Int) (m0 : List Site) (m2 : List Placed) (p25 : Int) (m1 : List Vec) : evCode Tryz.prog GT EQT T_array_place XT noL 80 (loopB Tryz.prog 29 0) (H_array_Places_0 p24 m0 m2 p25 m1) [.arr none .site m0, .arr (some 59) .vec m1, .arr (some 101) .placed m2] 3 (normK 1 [8, 23, 24, 25]) =
    bif decide (p25 < p24) then (bif (decide ((0 : Int) ≤ p25) && decide (p25 < (m2.length : Int))) then (bif (decide ((0 : Int) ≤ p25) && decide (p25 < (m1.length : Int))) then some (.st .normal (headT [8, 23, 24, 25] 37 [.v (.c (.aslice 1 none)), .v (.c (.aslice 2 none)), .v (.c (.d (.int .i64 p24))), .v (.c (.d (.int .i64 (w64 (p25 + (1 : Int))))))]) [.arr none .site m0, .arr (some 59) .vec (m1.set p25.toNat ((m2.getD p25.toNat (ET.z .placed)).at_)), .arr (some 101) .placed m2] 3) else none) else none) else some (.st (.exit 0) (headT [8, 23, 24, 25] 37 [.v (.c (.aslice 1 none)), .v (.c (.aslice 2 none)), .v (.c (.d (.int .i64 p24))), .v (.c (.d (.int .i64 p25)))]) [.arr none .site m0, .arr (some 59) .vec m1, .arr (some 101) .placed m2] 3) := by
  kernel_rfl
def o_array_Places_0 (p24 : Int) (m0 : List Site) (m2 : List Placed) (r : R_array_Places_0) : LT := .br (Nat.beq r.k 0) (.st (.exit 0) (headT [8, 23, 24, 25] 37 [.v (.c (.aslice 1 none)), .v (.c (.aslice 2 none)), .v (.c (.d (.int .i64 p24))), .v (.c (.d (.int .i64 r.p25)))]) [.arr none .site m0, .arr (some 59) .vec r.m1, .arr (some 101) .placed m2] 3) (.no)
theorem r_array_Places_0 (p24 : Int) (m0 : List Site) (m2 : List Placed) : ∀ (n : Nat) (p25 : Int) (m1 : List Vec) (x : Ex) (T' : TS) (M' : List Blk) (N' : Nat), LReach (o_array_Places_0 p24 m0 m2 (run_array_Places_0 p24 m0 m2 n p25 m1)) x T' M' N' → x ≠ .normal ∧ ∃ j, RoundsN Tryz.prog GT gbT 1 (loopB Tryz.prog 29 0) j (H_array_Places_0 p24 m0 m2 p25 m1) [.arr none .site m0, .arr (some 59) .vec m1, .arr (some 101) .placed m2] 3 x T' M' N' := by
  have hL : LOKn Tryz.prog GT gbT 1 noL (loopsIn (loopB Tryz.prog 29 0)) := fun _ _ _ _ _ _ _ _ _ h => h.elim
  intro n
  induction n with
  | zero =>
    intro p25 m1 x T' M' N' hr
    exact False.elim (redF hr)
  | succ n ih =>
    intro p25 m1 x T' M' N'
    rw [run_array_Places_0]
    exact viaE (b_array_Places_0 p24 m0 m2 p25 m1) (condG (o := o_array_Places_0 p24 m0 m2) (condG (o := o_array_Places_0 p24 m0 m2) (condG (o := o_array_Places_0 p24 m0 m2) (fun he hr => goN g_array_place hEQT hmT hL he (ih (w64 (p25 + (1 : Int))) (m1.set p25.toNat ((m2.getD p25.toNat (ET.z .placed)).at_)) x T' M' N' hr)) (fun _ hr => False.elim (redF hr))) (fun _ hr => False.elim (redF hr))) (fun he hr => stopN g_array_place hEQT hmT hL he (by simp) (redT hr)))
def f_array_Places_0 : List AV → List Blk → LT := fun vs Ms => match vs, Ms with
  | [.v (.c (.aslice 1 none)), .v (.c (.aslice 2 none)), .v (.c (.d (.int .i64 p24))), .v (.c (.d (.int .i64 p25)))], [.arr none .site m0, .arr (some 59) .vec m1, .arr (some 101) .placed m2] => o_array_Places_0 p24 m0 m2 (lp_array_Places_0 p24 m0 m2 p25 m1)
  | _, _ => .no
def L_array_Places_0 := LamN 6 37 1 [8, 23, 24, 25] f_array_Places_0
theorem k_array_Places_0 : LOKbn Tryz.prog GT gbT 1 L_array_Places_0 (loopB Tryz.prog 29 0) := by
  refine LOKbn.lamN (by kernel_rfl) fun vs Ms x T' M' N' hr => ?_
  unfold f_array_Places_0 at hr
  split at hr
  · obtain ⟨q1, j, q2⟩ := r_array_Places_0 _ _ _ _ _ _ x T' M' N' hr
    exact ⟨q1, j, q2⟩
  · exact hr.elim
structure O_array_Places where
  ok : Bool
  r0 : List Vec
  r1 : Int
def m_array_Places (a0 : Globe) (a1 : List Site) : O_array_Places := bif (m_array_place a0 a1).ok then (bif ((m_array_place a0 a1).r1 != (0 : Int)) then ⟨true, ([] : List Vec), (m_array_place a0 a1).r1⟩ else (bif (decide ((((m_array_place a0 a1).r0).length : Int) = (((m_array_place a0 a1).r0).length : Int)) && (decide (0 ≤ (((m_array_place a0 a1).r0).length : Int)) && (decide ((((m_array_place a0 a1).r0).length : Int) ≤ 1048576) && ((6 == 6) && (Nat.blt 0 6 && Nat.ble 48 4096))))) then (bif Nat.beq (lp_array_Places_0 (((m_array_place a0 a1).r0).length : Int) a1 ((m_array_place a0 a1).r0) (0 : Int) (List.replicate ((((m_array_place a0 a1).r0).length : Int).toNat) (⟨⟨(0 : Int), (0 : Int)⟩, ⟨(0 : Int), (0 : Int)⟩, ⟨(0 : Int), (0 : Int)⟩⟩ : Vec))).k 0 then ⟨true, ((lp_array_Places_0 (((m_array_place a0 a1).r0).length : Int) a1 ((m_array_place a0 a1).r0) (0 : Int) (List.replicate ((((m_array_place a0 a1).r0).length : Int).toNat) (⟨⟨(0 : Int), (0 : Int)⟩, ⟨(0 : Int), (0 : Int)⟩, ⟨(0 : Int), (0 : Int)⟩⟩ : Vec))).m1), (0 : Int)⟩ else ⟨false, [], 0⟩) else ⟨false, [], 0⟩)) else ⟨false, [], 0⟩
def F_array_Places (_a0 : Globe) (a1 : List Site) (K : AV → List Blk → Ans) (r : O_array_Places) : Ans := bif r.ok then K (.tup [.c (.aslice 1 none), .c (.d (.int .i64 r.r1))]) [.arr none .site a1, .arr (some 59) .vec r.r0] else none
theorem e_array_Places (a0 : Globe) (a1 : List Site) (K : AV → List Blk → Ans) : evFn Tryz.prog GT EQT T_array_place XT (orL L_array_Places_0 noL) 80 29 [.v (.agg [.int .i64 a0.a, .int .i64 a0.b]), .v (.c (.aslice 0 none))] [.arr none .site a1] (fun v M => K (finR 1 v M).1 (finR 1 v M).2) = F_array_Places a0 a1 K (m_array_Places a0 a1) := by
  unfold m_array_Places
  refine Eq.trans ?_ (Eq.symm (pushT (pushT rfl (pushT (pushT rfl rfl) rfl)) rfl))
  kernel_rfl
theorem lok_array_Places : ∀ fn c, Tryz.prog.funcs[29]? = some fn → fn.body = some c → LOKn Tryz.prog GT gbT 1 (orL L_array_Places_0 noL) (loopsIn c) := by
  refine LOKn.ofF fun b hb => ?_
  have e : loopsF Tryz.prog 29 = [loopB Tryz.prog 29 0] := by kernel_rfl
  rw [e] at hb
  simp only [List.mem_cons, List.not_mem_nil, or_false] at hb
  subst hb
  exact (LOKbn.or k_array_Places_0 (fun _ _ _ _ _ _ _ h => h.elim))
theorem c_array_Places (a0 : Globe) (a1 : List Site) (hd : (m_array_Places a0 a1).ok = true) : CallsA Tryz.prog GT gbT 29 [.v (.agg [.int .i64 a0.a, .int .i64 a0.b]), .v (.c (.aslice 0 none))] [.arr none .site a1] (.tup [.c (.aslice 1 none), .c (.d (.int .i64 ((m_array_Places a0 a1).r1)))]) [.arr none .site a1, .arr (some 59) .vec ((m_array_Places a0 a1).r0)] := by
  refine CallsA.ofEvR g_array_place hEQT hmT (n0 := 1) rfl lok_array_Places ((e_array_Places a0 a1 (fun v M => some (Res.fin v M))).trans ?_)
  unfold F_array_Places
  rw [hd]
  rfl
def s_array_Places : List AV → List Blk → (AV → List Blk → Ans) → Ans := fun xs bs K => match xs, bs with
  | [.v (.agg [.int .i64 a0_0, .int .i64 a0_1]), .v (.c (.aslice 0 none))], [.arr none .site a1] => F_array_Places (⟨a0_0, a0_1⟩ : Globe) a1 K (m_array_Places (⟨a0_0, a0_1⟩ : Globe) a1)
  | _, _ => none
def T_array_Places : Nat → List AV → List Blk → (AV → List Blk → Ans) → Ans := upd T_array_place 29 s_array_Places
theorem g_array_Places : GOK Tryz.prog GT gbT T_array_Places XT := by
  refine GOK.upd g_array_place (fun args w => Tryz.call29 args w) fun xs bs K r h => ?_
  unfold s_array_Places at h
  split at h
  · unfold F_array_Places at h
    simp only [cond_eq_ite] at h
    split at h
    · rename_i hd
      exact ⟨_, _, c_array_Places _ _ hd, h⟩
    · cases h
  · cases h
structure O_rise_look where
  ok : Bool
  r0 : List Vec
  r1 : Int
def m_rise_look (a0 : Globe) (a1 : List Site) (a2 : Source) (a3 : Frac) : O_rise_look := bif (m_array_Places a0 a1).ok then (bif ((m_array_Places a0 a1).r1 != (0 : Int)) then ⟨true, ([] : List Vec), (m_array_Places a0 a1).r1⟩ else (bif ((checkSrc ⟨a2.name, a2.ra, a2.dec⟩) != (0 : Int)) then ⟨true, ([] : List Vec), (checkSrc ⟨a2.name, a2.ra, a2.dec⟩)⟩ else (bif ((checkF ⟨a3.num, a3.den⟩) != (0 : Int)) then ⟨true, ([] : List Vec), (8 : Int)⟩ else (bif decide (a3.num < (0 : Int)) then ⟨true, ([] : List Vec), (8 : Int)⟩ else (bif decide (a3.den < a3.num) then ⟨true, ([] : List Vec), (8 : Int)⟩ else (bif decide ((1000 : Int) < a3.den) then ⟨true, ([] : List Vec), (8 : Int)⟩ else ⟨true, (m_array_Places a0 a1).r0, (0 : Int)⟩)))))) else ⟨false, [], 0⟩
def F_rise_look (_a0 : Globe) (a1 : List Site) (_a2 : Source) (_a3 : Frac) (K : AV → List Blk → Ans) (r : O_rise_look) : Ans := bif r.ok then K (.tup [.c (.aslice 1 none), .c (.d (.int .i64 r.r1))]) [.arr none .site a1, .arr (some 59) .vec r.r0] else none
theorem e_rise_look (a0 : Globe) (a1 : List Site) (a2 : Source) (a3 : Frac) (K : AV → List Blk → Ans) : evFn Tryz.prog GT EQT T_array_Places XT noL 80 18 [.v (.agg [.int .i64 a0.a, .int .i64 a0.b]), .v (.c (.aslice 0 none)), .v (.agg [.str a2.name, .int .i64 a2.ra, .int .i64 a2.dec]), .v (.agg [.int .i64 a3.num, .int .i64 a3.den])] [.arr none .site a1] (fun v M => K (finR 1 v M).1 (finR 1 v M).2) = F_rise_look a0 a1 a2 a3 K (m_rise_look a0 a1 a2 a3) := by
  unfold m_rise_look
  refine Eq.trans ?_ (Eq.symm (pushT (pushT rfl (pushT rfl (pushT rfl (pushT rfl (pushT rfl (pushT rfl rfl)))))) rfl))
  kernel_rfl
theorem c_rise_look (a0 : Globe) (a1 : List Site) (a2 : Source) (a3 : Frac) (hd : (m_rise_look a0 a1 a2 a3).ok = true) : CallsA Tryz.prog GT gbT 18 [.v (.agg [.int .i64 a0.a, .int .i64 a0.b]), .v (.c (.aslice 0 none)), .v (.agg [.str a2.name, .int .i64 a2.ra, .int .i64 a2.dec]), .v (.agg [.int .i64 a3.num, .int .i64 a3.den])] [.arr none .site a1] (.tup [.c (.aslice 1 none), .c (.d (.int .i64 ((m_rise_look a0 a1 a2 a3).r1)))]) [.arr none .site a1, .arr (some 59) .vec ((m_rise_look a0 a1 a2 a3).r0)] := by
  refine CallsA.ofEvR g_array_Places hEQT hmT (n0 := 1) rfl (fun _ _ _ _ => LOKn.nil) ((e_rise_look a0 a1 a2 a3 (fun v M => some (Res.fin v M))).trans ?_)
  unfold F_rise_look
  rw [hd]
  rfl
def s_rise_look : List AV → List Blk → (AV → List Blk → Ans) → Ans := fun xs bs K => match xs, bs with
  | [.v (.agg [.int .i64 a0_0, .int .i64 a0_1]), .v (.c (.aslice 0 none)), .v (.agg [.str a2_0, .int .i64 a2_1, .int .i64 a2_2]), .v (.agg [.int .i64 a3_0, .int .i64 a3_1])], [.arr none .site a1] => F_rise_look (⟨a0_0, a0_1⟩ : Globe) a1 (⟨a2_0, a2_1, a2_2⟩ : Source) (⟨a3_0, a3_1⟩ : Frac) K (m_rise_look (⟨a0_0, a0_1⟩ : Globe) a1 (⟨a2_0, a2_1, a2_2⟩ : Source) (⟨a3_0, a3_1⟩ : Frac))
  | _, _ => none
def T_rise_look : Nat → List AV → List Blk → (AV → List Blk → Ans) → Ans := upd T_array_Places 18 s_rise_look
theorem g_rise_look : GOK Tryz.prog GT gbT T_rise_look XT := by
  refine GOK.upd g_array_Places (fun args w => Tryz.call18 args w) fun xs bs K r h => ?_
  unfold s_rise_look at h
  split at h
  · unfold F_rise_look at h
    simp only [cond_eq_ite] at h
    split at h
    · rename_i hd
      exact ⟨_, _, c_rise_look _ _ _ _ hd, h⟩
    · cases h
  · cases h
structure O_rise_uprightOf where
  ok : Bool
  r0 : Vec
  r1 : Int
def m_rise_uprightOf (a0 : Globe) (a1 : Vec) : O_rise_uprightOf := bif ((makeF a0.b (w64 (a0.a * (if a0.b > a0.a then a0.b else a0.a)))).2 != (0 : Int)) then ⟨true, ⟨⟨(0 : Int), (0 : Int)⟩, ⟨(0 : Int), (0 : Int)⟩, ⟨(0 : Int), (0 : Int)⟩⟩, (makeF a0.b (w64 (a0.a * (if a0.b > a0.a then a0.b else a0.a)))).2⟩ else (bif ((makeF a0.a (w64 (a0.b * (if a0.b > a0.a then a0.b else a0.a)))).2 != (0 : Int)) then ⟨true, ⟨⟨(0 : Int), (0 : Int)⟩, ⟨(0 : Int), (0 : Int)⟩, ⟨(0 : Int), (0 : Int)⟩⟩, (makeF a0.a (w64 (a0.b * (if a0.b > a0.a then a0.b else a0.a)))).2⟩ else (bif ((scaleV ⟨⟨a1.x.num, a1.x.den⟩, ⟨a1.y.num, a1.y.den⟩, ⟨a1.z.num, a1.z.den⟩⟩ ⟨(((makeF a0.b (w64 (a0.a * (if a0.b > a0.a then a0.b else a0.a)))).1).num), (((makeF a0.b (w64 (a0.a * (if a0.b > a0.a then a0.b else a0.a)))).1).den)⟩).2 != (0 : Int)) then ⟨true, ⟨⟨(0 : Int), (0 : Int)⟩, ⟨(0 : Int), (0 : Int)⟩, ⟨(0 : Int), (0 : Int)⟩⟩, (scaleV ⟨⟨a1.x.num, a1.x.den⟩, ⟨a1.y.num, a1.y.den⟩, ⟨a1.z.num, a1.z.den⟩⟩ ⟨(((makeF a0.b (w64 (a0.a * (if a0.b > a0.a then a0.b else a0.a)))).1).num), (((makeF a0.b (w64 (a0.a * (if a0.b > a0.a then a0.b else a0.a)))).1).den)⟩).2⟩ else (bif ((mulF ⟨a1.z.num, a1.z.den⟩ ⟨(((makeF a0.a (w64 (a0.b * (if a0.b > a0.a then a0.b else a0.a)))).1).num), (((makeF a0.a (w64 (a0.b * (if a0.b > a0.a then a0.b else a0.a)))).1).den)⟩).2 != (0 : Int)) then ⟨true, ⟨⟨(0 : Int), (0 : Int)⟩, ⟨(0 : Int), (0 : Int)⟩, ⟨(0 : Int), (0 : Int)⟩⟩, (mulF ⟨a1.z.num, a1.z.den⟩ ⟨(((makeF a0.a (w64 (a0.b * (if a0.b > a0.a then a0.b else a0.a)))).1).num), (((makeF a0.a (w64 (a0.b * (if a0.b > a0.a then a0.b else a0.a)))).1).den)⟩).2⟩ else ⟨true, ⟨((scaleV ⟨⟨a1.x.num, a1.x.den⟩, ⟨a1.y.num, a1.y.den⟩, ⟨a1.z.num, a1.z.den⟩⟩ ⟨(((makeF a0.b (w64 (a0.a * (if a0.b > a0.a then a0.b else a0.a)))).1).num), (((makeF a0.b (w64 (a0.a * (if a0.b > a0.a then a0.b else a0.a)))).1).den)⟩).1).x, ((scaleV ⟨⟨a1.x.num, a1.x.den⟩, ⟨a1.y.num, a1.y.den⟩, ⟨a1.z.num, a1.z.den⟩⟩ ⟨(((makeF a0.b (w64 (a0.a * (if a0.b > a0.a then a0.b else a0.a)))).1).num), (((makeF a0.b (w64 (a0.a * (if a0.b > a0.a then a0.b else a0.a)))).1).den)⟩).1).y, (mulF ⟨a1.z.num, a1.z.den⟩ ⟨(((makeF a0.a (w64 (a0.b * (if a0.b > a0.a then a0.b else a0.a)))).1).num), (((makeF a0.a (w64 (a0.b * (if a0.b > a0.a then a0.b else a0.a)))).1).den)⟩).1⟩, (0 : Int)⟩)))
def F_rise_uprightOf (_a0 : Globe) (_a1 : Vec) (K : AV → List Blk → Ans) (r : O_rise_uprightOf) : Ans := bif r.ok then K (.tup [.agg [.int .i64 r.r0.x.num, .int .i64 r.r0.x.den, .int .i64 r.r0.y.num, .int .i64 r.r0.y.den, .int .i64 r.r0.z.num, .int .i64 r.r0.z.den], .c (.d (.int .i64 r.r1))]) [] else none
theorem e_rise_uprightOf (a0 : Globe) (a1 : Vec) (K : AV → List Blk → Ans) : evFn Tryz.prog GT EQT T_rise_look XT noL 80 32 [.v (.agg [.int .i64 a0.a, .int .i64 a0.b]), .v (.agg [.int .i64 a1.x.num, .int .i64 a1.x.den, .int .i64 a1.y.num, .int .i64 a1.y.den, .int .i64 a1.z.num, .int .i64 a1.z.den])] [] (fun v M => K (finR 0 v M).1 (finR 0 v M).2) = F_rise_uprightOf a0 a1 K (m_rise_uprightOf a0 a1) := by
  unfold m_rise_uprightOf
  refine Eq.trans ?_ (Eq.symm (pushT rfl (pushT rfl (pushT rfl (pushT rfl rfl)))))
  kernel_rfl
theorem c_rise_uprightOf (a0 : Globe) (a1 : Vec) (hd : (m_rise_uprightOf a0 a1).ok = true) : CallsA Tryz.prog GT gbT 32 [.v (.agg [.int .i64 a0.a, .int .i64 a0.b]), .v (.agg [.int .i64 a1.x.num, .int .i64 a1.x.den, .int .i64 a1.y.num, .int .i64 a1.y.den, .int .i64 a1.z.num, .int .i64 a1.z.den])] [] (.tup [.agg [.int .i64 ((((m_rise_uprightOf a0 a1).r0).x).num), .int .i64 ((((m_rise_uprightOf a0 a1).r0).x).den), .int .i64 ((((m_rise_uprightOf a0 a1).r0).y).num), .int .i64 ((((m_rise_uprightOf a0 a1).r0).y).den), .int .i64 ((((m_rise_uprightOf a0 a1).r0).z).num), .int .i64 ((((m_rise_uprightOf a0 a1).r0).z).den)], .c (.d (.int .i64 ((m_rise_uprightOf a0 a1).r1)))]) [] := by
  refine CallsA.ofEvR g_rise_look hEQT hmT (n0 := 0) rfl (fun _ _ _ _ => LOKn.nil) ((e_rise_uprightOf a0 a1 (fun v M => some (Res.fin v M))).trans ?_)
  unfold F_rise_uprightOf
  rw [hd]
  rfl
def s_rise_uprightOf : List AV → List Blk → (AV → List Blk → Ans) → Ans := fun xs bs K => match xs, bs with
  | [.v (.agg [.int .i64 a0_0, .int .i64 a0_1]), .v (.agg [.int .i64 a1_0, .int .i64 a1_1, .int .i64 a1_2, .int .i64 a1_3, .int .i64 a1_4, .int .i64 a1_5])], [] => F_rise_uprightOf (⟨a0_0, a0_1⟩ : Globe) (⟨⟨a1_0, a1_1⟩, ⟨a1_2, a1_3⟩, ⟨a1_4, a1_5⟩⟩ : Vec) K (m_rise_uprightOf (⟨a0_0, a0_1⟩ : Globe) (⟨⟨a1_0, a1_1⟩, ⟨a1_2, a1_3⟩, ⟨a1_4, a1_5⟩⟩ : Vec))
  | _, _ => none
def T_rise_uprightOf : Nat → List AV → List Blk → (AV → List Blk → Ans) → Ans := upd T_rise_look 32 s_rise_uprightOf
theorem g_rise_uprightOf : GOK Tryz.prog GT gbT T_rise_uprightOf XT := by
  refine GOK.upd g_rise_look (fun args w => Tryz.call32 args w) fun xs bs K r h => ?_
  unfold s_rise_uprightOf at h
  split at h
  · unfold F_rise_uprightOf at h
    simp only [cond_eq_ite] at h
    split at h
    · rename_i hd
      exact ⟨_, _, c_rise_uprightOf _ _ hd, h⟩
    · cases h
  · cases h
structure O_rise_viewOf where
  ok : Bool
  r0 : View
  r1 : Int
def m_rise_viewOf (a0 : Globe) (a1 : Vec) (a2 : Frac) : O_rise_viewOf := bif (m_rise_uprightOf a0 a1).ok then (bif ((m_rise_uprightOf a0 a1).r1 != (0 : Int)) then ⟨true, ⟨⟨⟨(0 : Int), (0 : Int)⟩, ⟨(0 : Int), (0 : Int)⟩, ⟨(0 : Int), (0 : Int)⟩⟩, ⟨(0 : Int), (0 : Int)⟩⟩, (m_rise_uprightOf a0 a1).r1⟩ else (bif ((mulF ⟨a2.num, a2.den⟩ ⟨a2.num, a2.den⟩).2 != (0 : Int)) then ⟨true, ⟨⟨⟨(0 : Int), (0 : Int)⟩, ⟨(0 : Int), (0 : Int)⟩, ⟨(0 : Int), (0 : Int)⟩⟩, ⟨(0 : Int), (0 : Int)⟩⟩, (mulF ⟨a2.num, a2.den⟩ ⟨a2.num, a2.den⟩).2⟩ else (bif ((dotV ⟨⟨((((m_rise_uprightOf a0 a1).r0).x).num), ((((m_rise_uprightOf a0 a1).r0).x).den)⟩, ⟨((((m_rise_uprightOf a0 a1).r0).y).num), ((((m_rise_uprightOf a0 a1).r0).y).den)⟩, ⟨((((m_rise_uprightOf a0 a1).r0).z).num), ((((m_rise_uprightOf a0 a1).r0).z).den)⟩⟩ ⟨⟨((((m_rise_uprightOf a0 a1).r0).x).num), ((((m_rise_uprightOf a0 a1).r0).x).den)⟩, ⟨((((m_rise_uprightOf a0 a1).r0).y).num), ((((m_rise_uprightOf a0 a1).r0).y).den)⟩, ⟨((((m_rise_uprightOf a0 a1).r0).z).num), ((((m_rise_uprightOf a0 a1).r0).z).den)⟩⟩).2 != (0 : Int)) then ⟨true, ⟨⟨⟨(0 : Int), (0 : Int)⟩, ⟨(0 : Int), (0 : Int)⟩, ⟨(0 : Int), (0 : Int)⟩⟩, ⟨(0 : Int), (0 : Int)⟩⟩, (dotV ⟨⟨((((m_rise_uprightOf a0 a1).r0).x).num), ((((m_rise_uprightOf a0 a1).r0).x).den)⟩, ⟨((((m_rise_uprightOf a0 a1).r0).y).num), ((((m_rise_uprightOf a0 a1).r0).y).den)⟩, ⟨((((m_rise_uprightOf a0 a1).r0).z).num), ((((m_rise_uprightOf a0 a1).r0).z).den)⟩⟩ ⟨⟨((((m_rise_uprightOf a0 a1).r0).x).num), ((((m_rise_uprightOf a0 a1).r0).x).den)⟩, ⟨((((m_rise_uprightOf a0 a1).r0).y).num), ((((m_rise_uprightOf a0 a1).r0).y).den)⟩, ⟨((((m_rise_uprightOf a0 a1).r0).z).num), ((((m_rise_uprightOf a0 a1).r0).z).den)⟩⟩).2⟩ else (bif ((ofS ⟨(((mulF ⟨a2.num, a2.den⟩ ⟨a2.num, a2.den⟩).1).num), (((mulF ⟨a2.num, a2.den⟩ ⟨a2.num, a2.den⟩).1).den)⟩).2 != (0 : Int)) then ⟨true, ⟨⟨⟨(0 : Int), (0 : Int)⟩, ⟨(0 : Int), (0 : Int)⟩, ⟨(0 : Int), (0 : Int)⟩⟩, ⟨(0 : Int), (0 : Int)⟩⟩, (ofS ⟨(((mulF ⟨a2.num, a2.den⟩ ⟨a2.num, a2.den⟩).1).num), (((mulF ⟨a2.num, a2.den⟩ ⟨a2.num, a2.den⟩).1).den)⟩).2⟩ else (bif ((ofS ⟨(((dotV ⟨⟨((((m_rise_uprightOf a0 a1).r0).x).num), ((((m_rise_uprightOf a0 a1).r0).x).den)⟩, ⟨((((m_rise_uprightOf a0 a1).r0).y).num), ((((m_rise_uprightOf a0 a1).r0).y).den)⟩, ⟨((((m_rise_uprightOf a0 a1).r0).z).num), ((((m_rise_uprightOf a0 a1).r0).z).den)⟩⟩ ⟨⟨((((m_rise_uprightOf a0 a1).r0).x).num), ((((m_rise_uprightOf a0 a1).r0).x).den)⟩, ⟨((((m_rise_uprightOf a0 a1).r0).y).num), ((((m_rise_uprightOf a0 a1).r0).y).den)⟩, ⟨((((m_rise_uprightOf a0 a1).r0).z).num), ((((m_rise_uprightOf a0 a1).r0).z).den)⟩⟩).1).num), (((dotV ⟨⟨((((m_rise_uprightOf a0 a1).r0).x).num), ((((m_rise_uprightOf a0 a1).r0).x).den)⟩, ⟨((((m_rise_uprightOf a0 a1).r0).y).num), ((((m_rise_uprightOf a0 a1).r0).y).den)⟩, ⟨((((m_rise_uprightOf a0 a1).r0).z).num), ((((m_rise_uprightOf a0 a1).r0).z).den)⟩⟩ ⟨⟨((((m_rise_uprightOf a0 a1).r0).x).num), ((((m_rise_uprightOf a0 a1).r0).x).den)⟩, ⟨((((m_rise_uprightOf a0 a1).r0).y).num), ((((m_rise_uprightOf a0 a1).r0).y).den)⟩, ⟨((((m_rise_uprightOf a0 a1).r0).z).num), ((((m_rise_uprightOf a0 a1).r0).z).den)⟩⟩).1).den)⟩).2 != (0 : Int)) then ⟨true, ⟨⟨⟨(0 : Int), (0 : Int)⟩, ⟨(0 : Int), (0 : Int)⟩, ⟨(0 : Int), (0 : Int)⟩⟩, ⟨(0 : Int), (0 : Int)⟩⟩, (ofS ⟨(((dotV ⟨⟨((((m_rise_uprightOf a0 a1).r0).x).num), ((((m_rise_uprightOf a0 a1).r0).x).den)⟩, ⟨((((m_rise_uprightOf a0 a1).r0).y).num), ((((m_rise_uprightOf a0 a1).r0).y).den)⟩, ⟨((((m_rise_uprightOf a0 a1).r0).z).num), ((((m_rise_uprightOf a0 a1).r0).z).den)⟩⟩ ⟨⟨((((m_rise_uprightOf a0 a1).r0).x).num), ((((m_rise_uprightOf a0 a1).r0).x).den)⟩, ⟨((((m_rise_uprightOf a0 a1).r0).y).num), ((((m_rise_uprightOf a0 a1).r0).y).den)⟩, ⟨((((m_rise_uprightOf a0 a1).r0).z).num), ((((m_rise_uprightOf a0 a1).r0).z).den)⟩⟩).1).num), (((dotV ⟨⟨((((m_rise_uprightOf a0 a1).r0).x).num), ((((m_rise_uprightOf a0 a1).r0).x).den)⟩, ⟨((((m_rise_uprightOf a0 a1).r0).y).num), ((((m_rise_uprightOf a0 a1).r0).y).den)⟩, ⟨((((m_rise_uprightOf a0 a1).r0).z).num), ((((m_rise_uprightOf a0 a1).r0).z).den)⟩⟩ ⟨⟨((((m_rise_uprightOf a0 a1).r0).x).num), ((((m_rise_uprightOf a0 a1).r0).x).den)⟩, ⟨((((m_rise_uprightOf a0 a1).r0).y).num), ((((m_rise_uprightOf a0 a1).r0).y).den)⟩, ⟨((((m_rise_uprightOf a0 a1).r0).z).num), ((((m_rise_uprightOf a0 a1).r0).z).den)⟩⟩).1).den)⟩).2⟩ else (bif ((mulS ⟨(((ofS ⟨(((mulF ⟨a2.num, a2.den⟩ ⟨a2.num, a2.den⟩).1).num), (((mulF ⟨a2.num, a2.den⟩ ⟨a2.num, a2.den⟩).1).den)⟩).1).lo), (((ofS ⟨(((mulF ⟨a2.num, a2.den⟩ ⟨a2.num, a2.den⟩).1).num), (((mulF ⟨a2.num, a2.den⟩ ⟨a2.num, a2.den⟩).1).den)⟩).1).hi)⟩ ⟨(((ofS ⟨(((dotV ⟨⟨((((m_rise_uprightOf a0 a1).r0).x).num), ((((m_rise_uprightOf a0 a1).r0).x).den)⟩, ⟨((((m_rise_uprightOf a0 a1).r0).y).num), ((((m_rise_uprightOf a0 a1).r0).y).den)⟩, ⟨((((m_rise_uprightOf a0 a1).r0).z).num), ((((m_rise_uprightOf a0 a1).r0).z).den)⟩⟩ ⟨⟨((((m_rise_uprightOf a0 a1).r0).x).num), ((((m_rise_uprightOf a0 a1).r0).x).den)⟩, ⟨((((m_rise_uprightOf a0 a1).r0).y).num), ((((m_rise_uprightOf a0 a1).r0).y).den)⟩, ⟨((((m_rise_uprightOf a0 a1).r0).z).num), ((((m_rise_uprightOf a0 a1).r0).z).den)⟩⟩).1).num), (((dotV ⟨⟨((((m_rise_uprightOf a0 a1).r0).x).num), ((((m_rise_uprightOf a0 a1).r0).x).den)⟩, ⟨((((m_rise_uprightOf a0 a1).r0).y).num), ((((m_rise_uprightOf a0 a1).r0).y).den)⟩, ⟨((((m_rise_uprightOf a0 a1).r0).z).num), ((((m_rise_uprightOf a0 a1).r0).z).den)⟩⟩ ⟨⟨((((m_rise_uprightOf a0 a1).r0).x).num), ((((m_rise_uprightOf a0 a1).r0).x).den)⟩, ⟨((((m_rise_uprightOf a0 a1).r0).y).num), ((((m_rise_uprightOf a0 a1).r0).y).den)⟩, ⟨((((m_rise_uprightOf a0 a1).r0).z).num), ((((m_rise_uprightOf a0 a1).r0).z).den)⟩⟩).1).den)⟩).1).lo), (((ofS ⟨(((dotV ⟨⟨((((m_rise_uprightOf a0 a1).r0).x).num), ((((m_rise_uprightOf a0 a1).r0).x).den)⟩, ⟨((((m_rise_uprightOf a0 a1).r0).y).num), ((((m_rise_uprightOf a0 a1).r0).y).den)⟩, ⟨((((m_rise_uprightOf a0 a1).r0).z).num), ((((m_rise_uprightOf a0 a1).r0).z).den)⟩⟩ ⟨⟨((((m_rise_uprightOf a0 a1).r0).x).num), ((((m_rise_uprightOf a0 a1).r0).x).den)⟩, ⟨((((m_rise_uprightOf a0 a1).r0).y).num), ((((m_rise_uprightOf a0 a1).r0).y).den)⟩, ⟨((((m_rise_uprightOf a0 a1).r0).z).num), ((((m_rise_uprightOf a0 a1).r0).z).den)⟩⟩).1).num), (((dotV ⟨⟨((((m_rise_uprightOf a0 a1).r0).x).num), ((((m_rise_uprightOf a0 a1).r0).x).den)⟩, ⟨((((m_rise_uprightOf a0 a1).r0).y).num), ((((m_rise_uprightOf a0 a1).r0).y).den)⟩, ⟨((((m_rise_uprightOf a0 a1).r0).z).num), ((((m_rise_uprightOf a0 a1).r0).z).den)⟩⟩ ⟨⟨((((m_rise_uprightOf a0 a1).r0).x).num), ((((m_rise_uprightOf a0 a1).r0).x).den)⟩, ⟨((((m_rise_uprightOf a0 a1).r0).y).num), ((((m_rise_uprightOf a0 a1).r0).y).den)⟩, ⟨((((m_rise_uprightOf a0 a1).r0).z).num), ((((m_rise_uprightOf a0 a1).r0).z).den)⟩⟩).1).den)⟩).1).hi)⟩).2 != (0 : Int)) then ⟨true, ⟨⟨⟨(0 : Int), (0 : Int)⟩, ⟨(0 : Int), (0 : Int)⟩, ⟨(0 : Int), (0 : Int)⟩⟩, ⟨(0 : Int), (0 : Int)⟩⟩, (mulS ⟨(((ofS ⟨(((mulF ⟨a2.num, a2.den⟩ ⟨a2.num, a2.den⟩).1).num), (((mulF ⟨a2.num, a2.den⟩ ⟨a2.num, a2.den⟩).1).den)⟩).1).lo), (((ofS ⟨(((mulF ⟨a2.num, a2.den⟩ ⟨a2.num, a2.den⟩).1).num), (((mulF ⟨a2.num, a2.den⟩ ⟨a2.num, a2.den⟩).1).den)⟩).1).hi)⟩ ⟨(((ofS ⟨(((dotV ⟨⟨((((m_rise_uprightOf a0 a1).r0).x).num), ((((m_rise_uprightOf a0 a1).r0).x).den)⟩, ⟨((((m_rise_uprightOf a0 a1).r0).y).num), ((((m_rise_uprightOf a0 a1).r0).y).den)⟩, ⟨((((m_rise_uprightOf a0 a1).r0).z).num), ((((m_rise_uprightOf a0 a1).r0).z).den)⟩⟩ ⟨⟨((((m_rise_uprightOf a0 a1).r0).x).num), ((((m_rise_uprightOf a0 a1).r0).x).den)⟩, ⟨((((m_rise_uprightOf a0 a1).r0).y).num), ((((m_rise_uprightOf a0 a1).r0).y).den)⟩, ⟨((((m_rise_uprightOf a0 a1).r0).z).num), ((((m_rise_uprightOf a0 a1).r0).z).den)⟩⟩).1).num), (((dotV ⟨⟨((((m_rise_uprightOf a0 a1).r0).x).num), ((((m_rise_uprightOf a0 a1).r0).x).den)⟩, ⟨((((m_rise_uprightOf a0 a1).r0).y).num), ((((m_rise_uprightOf a0 a1).r0).y).den)⟩, ⟨((((m_rise_uprightOf a0 a1).r0).z).num), ((((m_rise_uprightOf a0 a1).r0).z).den)⟩⟩ ⟨⟨((((m_rise_uprightOf a0 a1).r0).x).num), ((((m_rise_uprightOf a0 a1).r0).x).den)⟩, ⟨((((m_rise_uprightOf a0 a1).r0).y).num), ((((m_rise_uprightOf a0 a1).r0).y).den)⟩, ⟨((((m_rise_uprightOf a0 a1).r0).z).num), ((((m_rise_uprightOf a0 a1).r0).z).den)⟩⟩).1).den)⟩).1).lo), (((ofS ⟨(((dotV ⟨⟨((((m_rise_uprightOf a0 a1).r0).x).num), ((((m_rise_uprightOf a0 a1).r0).x).den)⟩, ⟨((((m_rise_uprightOf a0 a1).r0).y).num), ((((m_rise_uprightOf a0 a1).r0).y).den)⟩, ⟨((((m_rise_uprightOf a0 a1).r0).z).num), ((((m_rise_uprightOf a0 a1).r0).z).den)⟩⟩ ⟨⟨((((m_rise_uprightOf a0 a1).r0).x).num), ((((m_rise_uprightOf a0 a1).r0).x).den)⟩, ⟨((((m_rise_uprightOf a0 a1).r0).y).num), ((((m_rise_uprightOf a0 a1).r0).y).den)⟩, ⟨((((m_rise_uprightOf a0 a1).r0).z).num), ((((m_rise_uprightOf a0 a1).r0).z).den)⟩⟩).1).num), (((dotV ⟨⟨((((m_rise_uprightOf a0 a1).r0).x).num), ((((m_rise_uprightOf a0 a1).r0).x).den)⟩, ⟨((((m_rise_uprightOf a0 a1).r0).y).num), ((((m_rise_uprightOf a0 a1).r0).y).den)⟩, ⟨((((m_rise_uprightOf a0 a1).r0).z).num), ((((m_rise_uprightOf a0 a1).r0).z).den)⟩⟩ ⟨⟨((((m_rise_uprightOf a0 a1).r0).x).num), ((((m_rise_uprightOf a0 a1).r0).x).den)⟩, ⟨((((m_rise_uprightOf a0 a1).r0).y).num), ((((m_rise_uprightOf a0 a1).r0).y).den)⟩, ⟨((((m_rise_uprightOf a0 a1).r0).z).num), ((((m_rise_uprightOf a0 a1).r0).z).den)⟩⟩).1).den)⟩).1).hi)⟩).2⟩ else ⟨true, ⟨(m_rise_uprightOf a0 a1).r0, (mulS ⟨(((ofS ⟨(((mulF ⟨a2.num, a2.den⟩ ⟨a2.num, a2.den⟩).1).num), (((mulF ⟨a2.num, a2.den⟩ ⟨a2.num, a2.den⟩).1).den)⟩).1).lo), (((ofS ⟨(((mulF ⟨a2.num, a2.den⟩ ⟨a2.num, a2.den⟩).1).num), (((mulF ⟨a2.num, a2.den⟩ ⟨a2.num, a2.den⟩).1).den)⟩).1).hi)⟩ ⟨(((ofS ⟨(((dotV ⟨⟨((((m_rise_uprightOf a0 a1).r0).x).num), ((((m_rise_uprightOf a0 a1).r0).x).den)⟩, ⟨((((m_rise_uprightOf a0 a1).r0).y).num), ((((m_rise_uprightOf a0 a1).r0).y).den)⟩, ⟨((((m_rise_uprightOf a0 a1).r0).z).num), ((((m_rise_uprightOf a0 a1).r0).z).den)⟩⟩ ⟨⟨((((m_rise_uprightOf a0 a1).r0).x).num), ((((m_rise_uprightOf a0 a1).r0).x).den)⟩, ⟨((((m_rise_uprightOf a0 a1).r0).y).num), ((((m_rise_uprightOf a0 a1).r0).y).den)⟩, ⟨((((m_rise_uprightOf a0 a1).r0).z).num), ((((m_rise_uprightOf a0 a1).r0).z).den)⟩⟩).1).num), (((dotV ⟨⟨((((m_rise_uprightOf a0 a1).r0).x).num), ((((m_rise_uprightOf a0 a1).r0).x).den)⟩, ⟨((((m_rise_uprightOf a0 a1).r0).y).num), ((((m_rise_uprightOf a0 a1).r0).y).den)⟩, ⟨((((m_rise_uprightOf a0 a1).r0).z).num), ((((m_rise_uprightOf a0 a1).r0).z).den)⟩⟩ ⟨⟨((((m_rise_uprightOf a0 a1).r0).x).num), ((((m_rise_uprightOf a0 a1).r0).x).den)⟩, ⟨((((m_rise_uprightOf a0 a1).r0).y).num), ((((m_rise_uprightOf a0 a1).r0).y).den)⟩, ⟨((((m_rise_uprightOf a0 a1).r0).z).num), ((((m_rise_uprightOf a0 a1).r0).z).den)⟩⟩).1).den)⟩).1).lo), (((ofS ⟨(((dotV ⟨⟨((((m_rise_uprightOf a0 a1).r0).x).num), ((((m_rise_uprightOf a0 a1).r0).x).den)⟩, ⟨((((m_rise_uprightOf a0 a1).r0).y).num), ((((m_rise_uprightOf a0 a1).r0).y).den)⟩, ⟨((((m_rise_uprightOf a0 a1).r0).z).num), ((((m_rise_uprightOf a0 a1).r0).z).den)⟩⟩ ⟨⟨((((m_rise_uprightOf a0 a1).r0).x).num), ((((m_rise_uprightOf a0 a1).r0).x).den)⟩, ⟨((((m_rise_uprightOf a0 a1).r0).y).num), ((((m_rise_uprightOf a0 a1).r0).y).den)⟩, ⟨((((m_rise_uprightOf a0 a1).r0).z).num), ((((m_rise_uprightOf a0 a1).r0).z).den)⟩⟩).1).num), (((dotV ⟨⟨((((m_rise_uprightOf a0 a1).r0).x).num), ((((m_rise_uprightOf a0 a1).r0).x).den)⟩, ⟨((((m_rise_uprightOf a0 a1).r0).y).num), ((((m_rise_uprightOf a0 a1).r0).y).den)⟩, ⟨((((m_rise_uprightOf a0 a1).r0).z).num), ((((m_rise_uprightOf a0 a1).r0).z).den)⟩⟩ ⟨⟨((((m_rise_uprightOf a0 a1).r0).x).num), ((((m_rise_uprightOf a0 a1).r0).x).den)⟩, ⟨((((m_rise_uprightOf a0 a1).r0).y).num), ((((m_rise_uprightOf a0 a1).r0).y).den)⟩, ⟨((((m_rise_uprightOf a0 a1).r0).z).num), ((((m_rise_uprightOf a0 a1).r0).z).den)⟩⟩).1).den)⟩).1).hi)⟩).1⟩, (0 : Int)⟩)))))) else ⟨false, ⟨⟨⟨0, 0⟩, ⟨0, 0⟩, ⟨0, 0⟩⟩, ⟨0, 0⟩⟩, 0⟩
def F_rise_viewOf (_a0 : Globe) (_a1 : Vec) (_a2 : Frac) (K : AV → List Blk → Ans) (r : O_rise_viewOf) : Ans := bif r.ok then K (.tup [.agg [.int .i64 r.r0.up.x.num, .int .i64 r.r0.up.x.den, .int .i64 r.r0.up.y.num, .int .i64 r.r0.up.y.den, .int .i64 r.r0.up.z.num, .int .i64 r.r0.up.z.den, .int .i64 r.r0.bound.lo, .int .i64 r.r0.bound.hi], .c (.d (.int .i64 r.r1))]) [] else none
theorem e_rise_viewOf (a0 : Globe) (a1 : Vec) (a2 : Frac) (K : AV → List Blk → Ans) : evFn Tryz.prog GT EQT T_rise_uprightOf XT noL 80 20 [.v (.agg [.int .i64 a0.a, .int .i64 a0.b]), .v (.agg [.int .i64 a1.x.num, .int .i64 a1.x.den, .int .i64 a1.y.num, .int .i64 a1.y.den, .int .i64 a1.z.num, .int .i64 a1.z.den]), .v (.agg [.int .i64 a2.num, .int .i64 a2.den])] [] (fun v M => K (finR 0 v M).1 (finR 0 v M).2) = F_rise_viewOf a0 a1 a2 K (m_rise_viewOf a0 a1 a2) := by
  unfold m_rise_viewOf
  refine Eq.trans ?_ (Eq.symm (pushT (pushT rfl (pushT rfl (pushT rfl (pushT rfl (pushT rfl (pushT rfl rfl)))))) rfl))
  kernel_rfl
theorem c_rise_viewOf (a0 : Globe) (a1 : Vec) (a2 : Frac) (hd : (m_rise_viewOf a0 a1 a2).ok = true) : CallsA Tryz.prog GT gbT 20 [.v (.agg [.int .i64 a0.a, .int .i64 a0.b]), .v (.agg [.int .i64 a1.x.num, .int .i64 a1.x.den, .int .i64 a1.y.num, .int .i64 a1.y.den, .int .i64 a1.z.num, .int .i64 a1.z.den]), .v (.agg [.int .i64 a2.num, .int .i64 a2.den])] [] (.tup [.agg [.int .i64 (((((m_rise_viewOf a0 a1 a2).r0).up).x).num), .int .i64 (((((m_rise_viewOf a0 a1 a2).r0).up).x).den), .int .i64 (((((m_rise_viewOf a0 a1 a2).r0).up).y).num), .int .i64 (((((m_rise_viewOf a0 a1 a2).r0).up).y).den), .int .i64 (((((m_rise_viewOf a0 a1 a2).r0).up).z).num), .int .i64 (((((m_rise_viewOf a0 a1 a2).r0).up).z).den), .int .i64 ((((m_rise_viewOf a0 a1 a2).r0).bound).lo), .int .i64 ((((m_rise_viewOf a0 a1 a2).r0).bound).hi)], .c (.d (.int .i64 ((m_rise_viewOf a0 a1 a2).r1)))]) [] := by
  refine CallsA.ofEvR g_rise_uprightOf hEQT hmT (n0 := 0) rfl (fun _ _ _ _ => LOKn.nil) ((e_rise_viewOf a0 a1 a2 (fun v M => some (Res.fin v M))).trans ?_)
  unfold F_rise_viewOf
  rw [hd]
  rfl
def s_rise_viewOf : List AV → List Blk → (AV → List Blk → Ans) → Ans := fun xs bs K => match xs, bs with
  | [.v (.agg [.int .i64 a0_0, .int .i64 a0_1]), .v (.agg [.int .i64 a1_0, .int .i64 a1_1, .int .i64 a1_2, .int .i64 a1_3, .int .i64 a1_4, .int .i64 a1_5]), .v (.agg [.int .i64 a2_0, .int .i64 a2_1])], [] => F_rise_viewOf (⟨a0_0, a0_1⟩ : Globe) (⟨⟨a1_0, a1_1⟩, ⟨a1_2, a1_3⟩, ⟨a1_4, a1_5⟩⟩ : Vec) (⟨a2_0, a2_1⟩ : Frac) K (m_rise_viewOf (⟨a0_0, a0_1⟩ : Globe) (⟨⟨a1_0, a1_1⟩, ⟨a1_2, a1_3⟩, ⟨a1_4, a1_5⟩⟩ : Vec) (⟨a2_0, a2_1⟩ : Frac))
  | _, _ => none
def T_rise_viewOf : Nat → List AV → List Blk → (AV → List Blk → Ans) → Ans := upd T_rise_uprightOf 20 s_rise_viewOf
theorem g_rise_viewOf : GOK Tryz.prog GT gbT T_rise_viewOf XT := by
  refine GOK.upd g_rise_uprightOf (fun args w => Tryz.call20 args w) fun xs bs K r h => ?_
  unfold s_rise_viewOf at h
  split at h
  · unfold F_rise_viewOf at h
    simp only [cond_eq_ite] at h
    split at h
    · rename_i hd
      exact ⟨_, _, c_rise_viewOf _ _ _ hd, h⟩
    · cases h
  · cases h
structure O__rise_view__state where
  ok : Bool
  r0 : Int
  r1 : Int
def m__rise_view__state (a0 : View) (a1 : Dir) : O__rise_view__state := bif ((alongS ⟨⟨a1.x.lo, a1.x.hi⟩, ⟨a1.y.lo, a1.y.hi⟩, ⟨a1.z.lo, a1.z.hi⟩⟩ ⟨⟨a0.up.x.num, a0.up.x.den⟩, ⟨a0.up.y.num, a0.up.y.den⟩, ⟨a0.up.z.num, a0.up.z.den⟩⟩).2 != (0 : Int)) then ⟨true, (0 : Int), (alongS ⟨⟨a1.x.lo, a1.x.hi⟩, ⟨a1.y.lo, a1.y.hi⟩, ⟨a1.z.lo, a1.z.hi⟩⟩ ⟨⟨a0.up.x.num, a0.up.x.den⟩, ⟨a0.up.y.num, a0.up.y.den⟩, ⟨a0.up.z.num, a0.up.z.den⟩⟩).2⟩ else (bif ((mulS ⟨(((alongS ⟨⟨a1.x.lo, a1.x.hi⟩, ⟨a1.y.lo, a1.y.hi⟩, ⟨a1.z.lo, a1.z.hi⟩⟩ ⟨⟨a0.up.x.num, a0.up.x.den⟩, ⟨a0.up.y.num, a0.up.y.den⟩, ⟨a0.up.z.num, a0.up.z.den⟩⟩).1).lo), (((alongS ⟨⟨a1.x.lo, a1.x.hi⟩, ⟨a1.y.lo, a1.y.hi⟩, ⟨a1.z.lo, a1.z.hi⟩⟩ ⟨⟨a0.up.x.num, a0.up.x.den⟩, ⟨a0.up.y.num, a0.up.y.den⟩, ⟨a0.up.z.num, a0.up.z.den⟩⟩).1).hi)⟩ ⟨(((alongS ⟨⟨a1.x.lo, a1.x.hi⟩, ⟨a1.y.lo, a1.y.hi⟩, ⟨a1.z.lo, a1.z.hi⟩⟩ ⟨⟨a0.up.x.num, a0.up.x.den⟩, ⟨a0.up.y.num, a0.up.y.den⟩, ⟨a0.up.z.num, a0.up.z.den⟩⟩).1).lo), (((alongS ⟨⟨a1.x.lo, a1.x.hi⟩, ⟨a1.y.lo, a1.y.hi⟩, ⟨a1.z.lo, a1.z.hi⟩⟩ ⟨⟨a0.up.x.num, a0.up.x.den⟩, ⟨a0.up.y.num, a0.up.y.den⟩, ⟨a0.up.z.num, a0.up.z.den⟩⟩).1).hi)⟩).2 != (0 : Int)) then ⟨true, (0 : Int), (mulS ⟨(((alongS ⟨⟨a1.x.lo, a1.x.hi⟩, ⟨a1.y.lo, a1.y.hi⟩, ⟨a1.z.lo, a1.z.hi⟩⟩ ⟨⟨a0.up.x.num, a0.up.x.den⟩, ⟨a0.up.y.num, a0.up.y.den⟩, ⟨a0.up.z.num, a0.up.z.den⟩⟩).1).lo), (((alongS ⟨⟨a1.x.lo, a1.x.hi⟩, ⟨a1.y.lo, a1.y.hi⟩, ⟨a1.z.lo, a1.z.hi⟩⟩ ⟨⟨a0.up.x.num, a0.up.x.den⟩, ⟨a0.up.y.num, a0.up.y.den⟩, ⟨a0.up.z.num, a0.up.z.den⟩⟩).1).hi)⟩ ⟨(((alongS ⟨⟨a1.x.lo, a1.x.hi⟩, ⟨a1.y.lo, a1.y.hi⟩, ⟨a1.z.lo, a1.z.hi⟩⟩ ⟨⟨a0.up.x.num, a0.up.x.den⟩, ⟨a0.up.y.num, a0.up.y.den⟩, ⟨a0.up.z.num, a0.up.z.den⟩⟩).1).lo), (((alongS ⟨⟨a1.x.lo, a1.x.hi⟩, ⟨a1.y.lo, a1.y.hi⟩, ⟨a1.z.lo, a1.z.hi⟩⟩ ⟨⟨a0.up.x.num, a0.up.x.den⟩, ⟨a0.up.y.num, a0.up.y.den⟩, ⟨a0.up.z.num, a0.up.z.den⟩⟩).1).hi)⟩).2⟩ else (bif decide ((0 : Int) < ((alongS ⟨⟨a1.x.lo, a1.x.hi⟩, ⟨a1.y.lo, a1.y.hi⟩, ⟨a1.z.lo, a1.z.hi⟩⟩ ⟨⟨a0.up.x.num, a0.up.x.den⟩, ⟨a0.up.y.num, a0.up.y.den⟩, ⟨a0.up.z.num, a0.up.z.den⟩⟩).1).lo) then (bif decide (a0.bound.hi < ((mulS ⟨(((alongS ⟨⟨a1.x.lo, a1.x.hi⟩, ⟨a1.y.lo, a1.y.hi⟩, ⟨a1.z.lo, a1.z.hi⟩⟩ ⟨⟨a0.up.x.num, a0.up.x.den⟩, ⟨a0.up.y.num, a0.up.y.den⟩, ⟨a0.up.z.num, a0.up.z.den⟩⟩).1).lo), (((alongS ⟨⟨a1.x.lo, a1.x.hi⟩, ⟨a1.y.lo, a1.y.hi⟩, ⟨a1.z.lo, a1.z.hi⟩⟩ ⟨⟨a0.up.x.num, a0.up.x.den⟩, ⟨a0.up.y.num, a0.up.y.den⟩, ⟨a0.up.z.num, a0.up.z.den⟩⟩).1).hi)⟩ ⟨(((alongS ⟨⟨a1.x.lo, a1.x.hi⟩, ⟨a1.y.lo, a1.y.hi⟩, ⟨a1.z.lo, a1.z.hi⟩⟩ ⟨⟨a0.up.x.num, a0.up.x.den⟩, ⟨a0.up.y.num, a0.up.y.den⟩, ⟨a0.up.z.num, a0.up.z.den⟩⟩).1).lo), (((alongS ⟨⟨a1.x.lo, a1.x.hi⟩, ⟨a1.y.lo, a1.y.hi⟩, ⟨a1.z.lo, a1.z.hi⟩⟩ ⟨⟨a0.up.x.num, a0.up.x.den⟩, ⟨a0.up.y.num, a0.up.y.den⟩, ⟨a0.up.z.num, a0.up.z.den⟩⟩).1).hi)⟩).1).lo) then ⟨true, (1 : Int), (0 : Int)⟩ else (bif decide (((alongS ⟨⟨a1.x.lo, a1.x.hi⟩, ⟨a1.y.lo, a1.y.hi⟩, ⟨a1.z.lo, a1.z.hi⟩⟩ ⟨⟨a0.up.x.num, a0.up.x.den⟩, ⟨a0.up.y.num, a0.up.y.den⟩, ⟨a0.up.z.num, a0.up.z.den⟩⟩).1).hi < (0 : Int)) then ⟨true, (-1 : Int), (0 : Int)⟩ else (bif decide (((mulS ⟨(((alongS ⟨⟨a1.x.lo, a1.x.hi⟩, ⟨a1.y.lo, a1.y.hi⟩, ⟨a1.z.lo, a1.z.hi⟩⟩ ⟨⟨a0.up.x.num, a0.up.x.den⟩, ⟨a0.up.y.num, a0.up.y.den⟩, ⟨a0.up.z.num, a0.up.z.den⟩⟩).1).lo), (((alongS ⟨⟨a1.x.lo, a1.x.hi⟩, ⟨a1.y.lo, a1.y.hi⟩, ⟨a1.z.lo, a1.z.hi⟩⟩ ⟨⟨a0.up.x.num, a0.up.x.den⟩, ⟨a0.up.y.num, a0.up.y.den⟩, ⟨a0.up.z.num, a0.up.z.den⟩⟩).1).hi)⟩ ⟨(((alongS ⟨⟨a1.x.lo, a1.x.hi⟩, ⟨a1.y.lo, a1.y.hi⟩, ⟨a1.z.lo, a1.z.hi⟩⟩ ⟨⟨a0.up.x.num, a0.up.x.den⟩, ⟨a0.up.y.num, a0.up.y.den⟩, ⟨a0.up.z.num, a0.up.z.den⟩⟩).1).lo), (((alongS ⟨⟨a1.x.lo, a1.x.hi⟩, ⟨a1.y.lo, a1.y.hi⟩, ⟨a1.z.lo, a1.z.hi⟩⟩ ⟨⟨a0.up.x.num, a0.up.x.den⟩, ⟨a0.up.y.num, a0.up.y.den⟩, ⟨a0.up.z.num, a0.up.z.den⟩⟩).1).hi)⟩).1).hi < a0.bound.lo) then ⟨true, (-1 : Int), (0 : Int)⟩ else ⟨true, (0 : Int), (0 : Int)⟩))) else (bif decide (((alongS ⟨⟨a1.x.lo, a1.x.hi⟩, ⟨a1.y.lo, a1.y.hi⟩, ⟨a1.z.lo, a1.z.hi⟩⟩ ⟨⟨a0.up.x.num, a0.up.x.den⟩, ⟨a0.up.y.num, a0.up.y.den⟩, ⟨a0.up.z.num, a0.up.z.den⟩⟩).1).hi < (0 : Int)) then ⟨true, (-1 : Int), (0 : Int)⟩ else (bif decide (((mulS ⟨(((alongS ⟨⟨a1.x.lo, a1.x.hi⟩, ⟨a1.y.lo, a1.y.hi⟩, ⟨a1.z.lo, a1.z.hi⟩⟩ ⟨⟨a0.up.x.num, a0.up.x.den⟩, ⟨a0.up.y.num, a0.up.y.den⟩, ⟨a0.up.z.num, a0.up.z.den⟩⟩).1).lo), (((alongS ⟨⟨a1.x.lo, a1.x.hi⟩, ⟨a1.y.lo, a1.y.hi⟩, ⟨a1.z.lo, a1.z.hi⟩⟩ ⟨⟨a0.up.x.num, a0.up.x.den⟩, ⟨a0.up.y.num, a0.up.y.den⟩, ⟨a0.up.z.num, a0.up.z.den⟩⟩).1).hi)⟩ ⟨(((alongS ⟨⟨a1.x.lo, a1.x.hi⟩, ⟨a1.y.lo, a1.y.hi⟩, ⟨a1.z.lo, a1.z.hi⟩⟩ ⟨⟨a0.up.x.num, a0.up.x.den⟩, ⟨a0.up.y.num, a0.up.y.den⟩, ⟨a0.up.z.num, a0.up.z.den⟩⟩).1).lo), (((alongS ⟨⟨a1.x.lo, a1.x.hi⟩, ⟨a1.y.lo, a1.y.hi⟩, ⟨a1.z.lo, a1.z.hi⟩⟩ ⟨⟨a0.up.x.num, a0.up.x.den⟩, ⟨a0.up.y.num, a0.up.y.den⟩, ⟨a0.up.z.num, a0.up.z.den⟩⟩).1).hi)⟩).1).hi < a0.bound.lo) then ⟨true, (-1 : Int), (0 : Int)⟩ else ⟨true, (0 : Int), (0 : Int)⟩))))
def F__rise_view__state (_a0 : View) (_a1 : Dir) (K : AV → List Blk → Ans) (r : O__rise_view__state) : Ans := bif r.ok then K (.tup [.c (.d (.int .i64 r.r0)), .c (.d (.int .i64 r.r1))]) [] else none
theorem e__rise_view__state (a0 : View) (a1 : Dir) (K : AV → List Blk → Ans) : evFn Tryz.prog GT EQT T_rise_viewOf XT noL 80 38 [.v (.agg [.int .i64 a0.up.x.num, .int .i64 a0.up.x.den, .int .i64 a0.up.y.num, .int .i64 a0.up.y.den, .int .i64 a0.up.z.num, .int .i64 a0.up.z.den, .int .i64 a0.bound.lo, .int .i64 a0.bound.hi]), .v (.agg [.int .i64 a1.x.lo, .int .i64 a1.x.hi, .int .i64 a1.y.lo, .int .i64 a1.y.hi, .int .i64 a1.z.lo, .int .i64 a1.z.hi])] [] (fun v M => K (finR 0 v M).1 (finR 0 v M).2) = F__rise_view__state a0 a1 K (m__rise_view__state a0 a1) := by
  unfold m__rise_view__state
  refine Eq.trans ?_ (Eq.symm (pushT rfl (pushT rfl (pushT (pushT rfl (pushT rfl (pushT rfl rfl))) (pushT rfl (pushT rfl rfl))))))
  kernel_rfl
theorem c__rise_view__state (a0 : View) (a1 : Dir) (hd : (m__rise_view__state a0 a1).ok = true) : CallsA Tryz.prog GT gbT 38 [.v (.agg [.int .i64 a0.up.x.num, .int .i64 a0.up.x.den, .int .i64 a0.up.y.num, .int .i64 a0.up.y.den, .int .i64 a0.up.z.num, .int .i64 a0.up.z.den, .int .i64 a0.bound.lo, .int .i64 a0.bound.hi]), .v (.agg [.int .i64 a1.x.lo, .int .i64 a1.x.hi, .int .i64 a1.y.lo, .int .i64 a1.y.hi, .int .i64 a1.z.lo, .int .i64 a1.z.hi])] [] (.tup [.c (.d (.int .i64 ((m__rise_view__state a0 a1).r0))), .c (.d (.int .i64 ((m__rise_view__state a0 a1).r1)))]) [] := by
  refine CallsA.ofEvR g_rise_viewOf hEQT hmT (n0 := 0) rfl (fun _ _ _ _ => LOKn.nil) ((e__rise_view__state a0 a1 (fun v M => some (Res.fin v M))).trans ?_)
  unfold F__rise_view__state
  rw [hd]
  rfl
def s__rise_view__state : List AV → List Blk → (AV → List Blk → Ans) → Ans := fun xs bs K => match xs, bs with
  | [.v (.agg [.int .i64 a0_0, .int .i64 a0_1, .int .i64 a0_2, .int .i64 a0_3, .int .i64 a0_4, .int .i64 a0_5, .int .i64 a0_6, .int .i64 a0_7]), .v (.agg [.int .i64 a1_0, .int .i64 a1_1, .int .i64 a1_2, .int .i64 a1_3, .int .i64 a1_4, .int .i64 a1_5])], [] => F__rise_view__state (⟨⟨⟨a0_0, a0_1⟩, ⟨a0_2, a0_3⟩, ⟨a0_4, a0_5⟩⟩, ⟨a0_6, a0_7⟩⟩ : View) (⟨⟨a1_0, a1_1⟩, ⟨a1_2, a1_3⟩, ⟨a1_4, a1_5⟩⟩ : Dir) K (m__rise_view__state (⟨⟨⟨a0_0, a0_1⟩, ⟨a0_2, a0_3⟩, ⟨a0_4, a0_5⟩⟩, ⟨a0_6, a0_7⟩⟩ : View) (⟨⟨a1_0, a1_1⟩, ⟨a1_2, a1_3⟩, ⟨a1_4, a1_5⟩⟩ : Dir))
  | _, _ => none
def T__rise_view__state : Nat → List AV → List Blk → (AV → List Blk → Ans) → Ans := upd T_rise_viewOf 38 s__rise_view__state
theorem g__rise_view__state : GOK Tryz.prog GT gbT T__rise_view__state XT := by
  refine GOK.upd g_rise_viewOf (fun args w => Tryz.call38 args w) fun xs bs K r h => ?_
  unfold s__rise_view__state at h
  split at h
  · unfold F__rise_view__state at h
    simp only [cond_eq_ite] at h
    split at h
    · rename_i hd
      exact ⟨_, _, c__rise_view__state _ _ hd, h⟩
    · cases h
  · cases h
end Go.Ev

namespace Go.Ev
open Go Go.Proofs
structure R_rise_upForAll_0 where
  k : Nat
  p25 : Int
def run_rise_upForAll_0 (p6 : Bool) (p7 : Int) (p24 : Int) (m0 : List View) (q1 : Dir) : Nat → Int → R_rise_upForAll_0
  | 0, p25 => ⟨3, p25⟩
  | n + 1, p25 => bif decide (p25 < p24) then (bif (decide ((0 : Int) ≤ p25) && decide (p25 < (m0.length : Int))) then (bif (m__rise_view__state (m0.getD p25.toNat (ET.z .view)) q1).ok then (bif ((m__rise_view__state (m0.getD p25.toNat (ET.z .view)) q1).r1 != (0 : Int)) then ⟨0, p25⟩ else (bif ((m__rise_view__state (m0.getD p25.toNat (ET.z .view)) q1).r0 != (1 : Int)) then ⟨1, p25⟩ else run_rise_upForAll_0 p6 p7 p24 m0 q1 n (w64 (p25 + (1 : Int))))) else ⟨3, p25⟩) else ⟨3, p25⟩) else ⟨2, p25⟩
def lp_rise_upForAll_0 (p6 : Bool) (p7 : Int) (p24 : Int) (m0 : List View) (q1 : Dir) (p25 : Int) : R_rise_upForAll_0 := run_rise_upForAll_0 p6 p7 p24 m0 q1 (2000 + (m0.length)) p25
abbrev H_rise_upForAll_0 (p6 : Bool) (p7 : Int) (p24 : Int) (_m0 : List View) (_q1 : Dir) (p25 : Int) : TS := headT [6, 7, 8, 23, 24, 25] 41 [.v (.c (.d (.bool p6))), .v (.c (.d (.int .i64 p7))), .v (.c (.ptr 1 0)), .v (.c (.aslice 0 none)), .v (.c (.d (.int .i64 p24))), .v (.c (.d (.int .i64 p25)))]
theorem b_rise_upForAll_0 (p6 : Bool) (p7 : Int) (p24 : Int) (m0 : List View) (q1 : Dir) (p25 : Int) : evCode Tryz.prog GT EQT T__rise_view__state XT noL 80 (loopB Tryz.prog 21 0) (H_rise_upForAll_0 p6 p7 p24 m0 q1 p25) [.arr none .view m0, .rw 88 [.int .i64 q1.x.lo, .int .i64 q1.x.hi, .int .i64 q1.y.lo, .int .i64 q1.y.hi, .int .i64 q1.z.lo, .int .i64 q1.z.hi]] 2 (normK 1 [6, 7, 8, 23, 24, 25]) =
    bif decide (p25 < p24) then (bif (decide ((0 : Int) ≤ p25) && decide (p25 < (m0.length : Int))) then (bif (m__rise_view__state (m0.getD p25.toNat (ET.z .view)) q1).ok then (bif ((m__rise_view__state (m0.getD p25.toNat (ET.z .view)) q1).r1 != (0 : Int)) then some (.st .ret (headT [6, 7, 8, 23, 24, 25] 41 [.v (.c (.d (.bool false))), .v (.c (.d (.int .i64 ((m__rise_view__state (m0.getD p25.toNat (ET.z .view)) q1).r1)))), .v (.c (.ptr 1 0)), .v (.c (.aslice 0 none)), .v (.c (.d (.int .i64 p24))), .v (.c (.d (.int .i64 p25)))]) [.arr none .view m0, .rw 88 [.int .i64 q1.x.lo, .int .i64 q1.x.hi, .int .i64 q1.y.lo, .int .i64 q1.y.hi, .int .i64 q1.z.lo, .int .i64 q1.z.hi]] 2) else (bif ((m__rise_view__state (m0.getD p25.toNat (ET.z .view)) q1).r0 != (1 : Int)) then some (.st .ret (headT [6, 7, 8, 23, 24, 25] 41 [.v (.c (.d (.bool false))), .v (.c (.d (.int .i64 (0 : Int)))), .v (.c (.ptr 1 0)), .v (.c (.aslice 0 none)), .v (.c (.d (.int .i64 p24))), .v (.c (.d (.int .i64 p25)))]) [.arr none .view m0, .rw 88 [.int .i64 q1.x.lo, .int .i64 q1.x.hi, .int .i64 q1.y.lo, .int .i64 q1.y.hi, .int .i64 q1.z.lo, .int .i64 q1.z.hi]] 2) else some (.st .normal (headT [6, 7, 8, 23, 24, 25] 41 [.v (.c (.d (.bool p6))), .v (.c (.d (.int .i64 p7))), .v (.c (.ptr 1 0)), .v (.c (.aslice 0 none)), .v (.c (.d (.int .i64 p24))), .v (.c (.d (.int .i64 (w64 (p25 + (1 : Int))))))]) [.arr none .view m0, .rw 88 [.int .i64 q1.x.lo, .int .i64 q1.x.hi, .int .i64 q1.y.lo, .int .i64 q1.y.hi, .int .i64 q1.z.lo, .int .i64 q1.z.hi]] 2))) else none) else none) else some (.st (.exit 0) (headT [6, 7, 8, 23, 24, 25] 41 [.v (.c (.d (.bool p6))), .v (.c (.d (.int .i64 p7))), .v (.c (.ptr 1 0)), .v (.c (.aslice 0 none)), .v (.c (.d (.int .i64 p24))), .v (.c (.d (.int .i64 p25)))]) [.arr none .view m0, .rw 88 [.int .i64 q1.x.lo, .int .i64 q1.x.hi, .int .i64 q1.y.lo, .int .i64 q1.y.hi, .int .i64 q1.z.lo, .int .i64 q1.z.hi]] 2) := by
  kernel_rfl
def o_rise_upForAll_0 (p6 : Bool) (p7 : Int) (p24 : Int) (m0 : List View) (q1 : Dir) (r : R_rise_upForAll_0) : LT := .br (Nat.beq r.k 0) (.st .ret (headT [6, 7, 8, 23, 24, 25] 41 [.v (.c (.d (.bool false))), .v (.c (.d (.int .i64 ((m__rise_view__state (m0.getD r.p25.toNat (ET.z .view)) q1).r1)))), .v (.c (.ptr 1 0)), .v (.c (.aslice 0 none)), .v (.c (.d (.int .i64 p24))), .v (.c (.d (.int .i64 r.p25)))]) [.arr none .view m0, .rw 88 [.int .i64 q1.x.lo, .int .i64 q1.x.hi, .int .i64 q1.y.lo, .int .i64 q1.y.hi, .int .i64 q1.z.lo, .int .i64 q1.z.hi]] 2) (.br (Nat.beq r.k 1) (.st .ret (headT [6, 7, 8, 23, 24, 25] 41 [.v (.c (.d (.bool false))), .v (.c (.d (.int .i64 (0 : Int)))), .v (.c (.ptr 1 0)), .v (.c (.aslice 0 none)), .v (.c (.d (.int .i64 p24))), .v (.c (.d (.int .i64 r.p25)))]) [.arr none .view m0, .rw 88 [.int .i64 q1.x.lo, .int .i64 q1.x.hi, .int .i64 q1.y.lo, .int .i64 q1.y.hi, .int .i64 q1.z.lo, .int .i64 q1.z.hi]] 2) (.br (Nat.beq r.k 2) (.st (.exit 0) (headT [6, 7, 8, 23, 24, 25] 41 [.v (.c (.d (.bool p6))), .v (.c (.d (.int .i64 p7))), .v (.c (.ptr 1 0)), .v (.c (.aslice 0 none)), .v (.c (.d (.int .i64 p24))), .v (.c (.d (.int .i64 r.p25)))]) [.arr none .view m0, .rw 88 [.int .i64 q1.x.lo, .int .i64 q1.x.hi, .int .i64 q1.y.lo, .int .i64 q1.y.hi, .int .i64 q1.z.lo, .int .i64 q1.z.hi]] 2) (.no)))
theorem r_rise_upForAll_0 (p6 : Bool) (p7 : Int) (p24 : Int) (m0 : List View) (q1 : Dir) : ∀ (n : Nat) (p25 : Int) (x : Ex) (T' : TS) (M' : List Blk) (N' : Nat), LReach (o_rise_upForAll_0 p6 p7 p24 m0 q1 (run_rise_upForAll_0 p6 p7 p24 m0 q1 n p25)) x T' M' N' → x ≠ .normal ∧ ∃ j, RoundsN Tryz.prog GT gbT 1 (loopB Tryz.prog 21 0) j (H_rise_upForAll_0 p6 p7 p24 m0 q1 p25) [.arr none .view m0, .rw 88 [.int .i64 q1.x.lo, .int .i64 q1.x.hi, .int .i64 q1.y.lo, .int .i64 q1.y.hi, .int .i64 q1.z.lo, .int .i64 q1.z.hi]] 2 x T' M' N' := by
  have hL : LOKn Tryz.prog GT gbT 1 noL (loopsIn (loopB Tryz.prog 21 0)) := fun _ _ _ _ _ _ _ _ _ h => h.elim
  intro n
  induction n with
  | zero =>
    intro p25 x T' M' N' hr
    exact False.elim (redF (redF (redF hr)))
  | succ n ih =>
    intro p25 x T' M' N'
    rw [run_rise_upForAll_0]
    exact viaE (b_rise_upForAll_0 p6 p7 p24 m0 q1 p25) (condG (o := o_rise_upForAll_0 p6 p7 p24 m0 q1) (condG (o := o_rise_upForAll_0 p6 p7 p24 m0 q1) (condG (o := o_rise_upForAll_0 p6 p7 p24 m0 q1) (condG (o := o_rise_upForAll_0 p6 p7 p24 m0 q1) (fun he hr => stopN g__rise_view__state hEQT hmT hL he (by simp) (redT hr)) (condG (o := o_rise_upForAll_0 p6 p7 p24 m0 q1) (fun he hr => stopN g__rise_view__state hEQT hmT hL he (by simp) (redT (redF hr))) (fun he hr => goN g__rise_view__state hEQT hmT hL he (ih (w64 (p25 + (1 : Int))) x T' M' N' hr)))) (fun _ hr => False.elim (redF (redF (redF hr))))) (fun _ hr => False.elim (redF (redF (redF hr))))) (fun he hr => stopN g__rise_view__state hEQT hmT hL he (by simp) (redT (redF (redF hr)))))
def f_rise_upForAll_0 : List AV → List Blk → LT := fun vs Ms => match vs, Ms with
  | [.v (.c (.d (.bool p6))), .v (.c (.d (.int .i64 p7))), .v (.c (.ptr 1 0)), .v (.c (.aslice 0 none)), .v (.c (.d (.int .i64 p24))), .v (.c (.d (.int .i64 p25)))], [.arr none .view m0, .rw 88 [.int .i64 q1_0, .int .i64 q1_1, .int .i64 q1_2, .int .i64 q1_3, .int .i64 q1_4, .int .i64 q1_5]] => o_rise_upForAll_0 p6 p7 p24 m0 (⟨⟨q1_0, q1_1⟩, ⟨q1_2, q1_3⟩, ⟨q1_4, q1_5⟩⟩ : Dir) (lp_rise_upForAll_0 p6 p7 p24 m0 (⟨⟨q1_0, q1_1⟩, ⟨q1_2, q1_3⟩, ⟨q1_4, q1_5⟩⟩ : Dir) p25)
  | _, _ => .no
def L_rise_upForAll_0 := LamN 5 41 1 [6, 7, 8, 23, 24, 25] f_rise_upForAll_0
theorem k_rise_upForAll_0 : LOKbn Tryz.prog GT gbT 1 L_rise_upForAll_0 (loopB Tryz.prog 21 0) := by
  refine LOKbn.lamN (by kernel_rfl) fun vs Ms x T' M' N' hr => ?_
  unfold f_rise_upForAll_0 at hr
  split at hr
  · obtain ⟨q1, j, q2⟩ := r_rise_upForAll_0 _ _ _ _ _ _ _ x T' M' N' hr
    exact ⟨q1, j, q2⟩
  · exact hr.elim
structure O_rise_upForAll where
  ok : Bool
  r0 : Bool
  r1 : Int
def m_rise_upForAll (a0 : List View) (a1 : Source) (a2 : Int) : O_rise_upForAll := bif ((atS ⟨a1.name, a1.ra, a1.dec⟩ a2).2 != (0 : Int)) then ⟨true, false, (atS ⟨a1.name, a1.ra, a1.dec⟩ a2).2⟩ else (bif Nat.beq (lp_rise_upForAll_0 false (0 : Int) (a0.length : Int) a0 ((atS ⟨a1.name, a1.ra, a1.dec⟩ a2).1) (0 : Int)).k 0 then ⟨true, false, (m__rise_view__state (a0.getD ((lp_rise_upForAll_0 false (0 : Int) (a0.length : Int) a0 ((atS ⟨a1.name, a1.ra, a1.dec⟩ a2).1) (0 : Int)).p25).toNat (ET.z .view)) ((atS ⟨a1.name, a1.ra, a1.dec⟩ a2).1)).r1⟩ else (bif Nat.beq (lp_rise_upForAll_0 false (0 : Int) (a0.length : Int) a0 ((atS ⟨a1.name, a1.ra, a1.dec⟩ a2).1) (0 : Int)).k 1 then ⟨true, false, (0 : Int)⟩ else (bif Nat.beq (lp_rise_upForAll_0 false (0 : Int) (a0.length : Int) a0 ((atS ⟨a1.name, a1.ra, a1.dec⟩ a2).1) (0 : Int)).k 2 then ⟨true, true, (0 : Int)⟩ else ⟨false, false, 0⟩)))
def F_rise_upForAll (a0 : List View) (_a1 : Source) (_a2 : Int) (K : AV → List Blk → Ans) (r : O_rise_upForAll) : Ans := bif r.ok then K (.tup [.c (.d (.bool r.r0)), .c (.d (.int .i64 r.r1))]) [.arr none .view a0] else none
theorem e_rise_upForAll (a0 : List View) (a1 : Source) (a2 : Int) (K : AV → List Blk → Ans) : evFn Tryz.prog GT EQT T__rise_view__state XT (orL L_rise_upForAll_0 noL) 80 21 [.v (.c (.aslice 0 none)), .v (.agg [.str a1.name, .int .i64 a1.ra, .int .i64 a1.dec]), .v (.c (.d (.int .i64 a2)))] [.arr none .view a0] (fun v M => K (finR 1 v M).1 (finR 1 v M).2) = F_rise_upForAll a0 a1 a2 K (m_rise_upForAll a0 a1 a2) := by
  unfold m_rise_upForAll
  refine Eq.trans ?_ (Eq.symm (pushT rfl (pushT rfl (pushT rfl (pushT rfl rfl)))))
  kernel_rfl
theorem lok_rise_upForAll : ∀ fn c, Tryz.prog.funcs[21]? = some fn → fn.body = some c → LOKn Tryz.prog GT gbT 1 (orL L_rise_upForAll_0 noL) (loopsIn c) := by
  refine LOKn.ofF fun b hb => ?_
  have e : loopsF Tryz.prog 21 = [loopB Tryz.prog 21 0] := by kernel_rfl
  rw [e] at hb
  simp only [List.mem_cons, List.not_mem_nil, or_false] at hb
  subst hb
  exact (LOKbn.or k_rise_upForAll_0 (fun _ _ _ _ _ _ _ h => h.elim))
theorem c_rise_upForAll (a0 : List View) (a1 : Source) (a2 : Int) (hd : (m_rise_upForAll a0 a1 a2).ok = true) : CallsA Tryz.prog GT gbT 21 [.v (.c (.aslice 0 none)), .v (.agg [.str a1.name, .int .i64 a1.ra, .int .i64 a1.dec]), .v (.c (.d (.int .i64 a2)))] [.arr none .view a0] (.tup [.c (.d (.bool ((m_rise_upForAll a0 a1 a2).r0))), .c (.d (.int .i64 ((m_rise_upForAll a0 a1 a2).r1)))]) [.arr none .view a0] := by
  refine CallsA.ofEvR g__rise_view__state hEQT hmT (n0 := 1) rfl lok_rise_upForAll ((e_rise_upForAll a0 a1 a2 (fun v M => some (Res.fin v M))).trans ?_)
  unfold F_rise_upForAll
  rw [hd]
  rfl
def s_rise_upForAll : List AV → List Blk → (AV → List Blk → Ans) → Ans := fun xs bs K => match xs, bs with
  | [.v (.c (.aslice 0 none)), .v (.agg [.str a1_0, .int .i64 a1_1, .int .i64 a1_2]), .v (.c (.d (.int .i64 a2)))], [.arr none .view a0] => F_rise_upForAll a0 (⟨a1_0, a1_1, a1_2⟩ : Source) a2 K (m_rise_upForAll a0 (⟨a1_0, a1_1, a1_2⟩ : Source) a2)
  | _, _ => none
def T_rise_upForAll : Nat → List AV → List Blk → (AV → List Blk → Ans) → Ans := upd T__rise_view__state 21 s_rise_upForAll
theorem g_rise_upForAll : GOK Tryz.prog GT gbT T_rise_upForAll XT := by
  refine GOK.upd g__rise_view__state (fun args w => Tryz.call21 args w) fun xs bs K r h => ?_
  unfold s_rise_upForAll at h
  split at h
  · unfold F_rise_upForAll at h
    simp only [cond_eq_ite] at h
    split at h
    · rename_i hd
      exact ⟨_, _, c_rise_upForAll _ _ _ hd, h⟩
    · cases h
  · cases h
structure O_rise_tick where
  ok : Bool
  r0 : Bool
def m_rise_tick (a0 : Int) : O_rise_tick := bif decide ((-1000000 : Int) ≤ a0) then ⟨true, decide (a0 ≤ (1000000 : Int))⟩ else ⟨true, false⟩
def F_rise_tick (_a0 : Int) (K : AV → List Blk → Ans) (r : O_rise_tick) : Ans := bif r.ok then K (.v (.c (.d (.bool r.r0)))) [] else none
theorem e_rise_tick (a0 : Int) (K : AV → List Blk → Ans) : evFn Tryz.prog GT EQT T_rise_upForAll XT noL 80 19 [.v (.c (.d (.int .i64 a0)))] [] (fun v M => K (finR 0 v M).1 (finR 0 v M).2) = F_rise_tick a0 K (m_rise_tick a0) := by
  unfold m_rise_tick
  refine Eq.trans ?_ (Eq.symm (pushT rfl rfl))
  kernel_rfl
theorem c_rise_tick (a0 : Int) (hd : (m_rise_tick a0).ok = true) : CallsA Tryz.prog GT gbT 19 [.v (.c (.d (.int .i64 a0)))] [] (.v (.c (.d (.bool ((m_rise_tick a0).r0))))) [] := by
  refine CallsA.ofEvR g_rise_upForAll hEQT hmT (n0 := 0) rfl (fun _ _ _ _ => LOKn.nil) ((e_rise_tick a0 (fun v M => some (Res.fin v M))).trans ?_)
  unfold F_rise_tick
  rw [hd]
  rfl
def s_rise_tick : List AV → List Blk → (AV → List Blk → Ans) → Ans := fun xs bs K => match xs, bs with
  | [.v (.c (.d (.int .i64 a0)))], [] => F_rise_tick a0 K (m_rise_tick a0)
  | _, _ => none
def T_rise_tick : Nat → List AV → List Blk → (AV → List Blk → Ans) → Ans := upd T_rise_upForAll 19 s_rise_tick
theorem g_rise_tick : GOK Tryz.prog GT gbT T_rise_tick XT := by
  refine GOK.upd g_rise_upForAll (fun args w => Tryz.call19 args w) fun xs bs K r h => ?_
  unfold s_rise_tick at h
  split at h
  · unfold F_rise_tick at h
    simp only [cond_eq_ite] at h
    split at h
    · rename_i hd
      exact ⟨_, _, c_rise_tick _ hd, h⟩
    · cases h
  · cases h
structure R_rise_All_0 where
  k : Nat
  p57 : Int
  m5 : List View
def run_rise_All_0 (p3 : Int) (p4 : Int) (p13 : Int) (p56 : Int) (m0 : List Site) (q1 : Globe) (q2 : Source) (q3 : Frac) (m4 : List Window) (m6 : List Vec) : Nat → Int → List View → R_rise_All_0
  | 0, p57, m5 => ⟨2, p57, m5⟩
  | n + 1, p57, m5 => bif decide (p57 < p56) then (bif (decide ((0 : Int) ≤ p57) && decide (p57 < (m6.length : Int))) then (bif (m_rise_viewOf q1 (m6.getD p57.toNat (ET.z .vec)) q3).ok then (bif (decide ((0 : Int) ≤ p57) && decide (p57 < (m5.length : Int))) then (bif ((m_rise_viewOf q1 (m6.getD p57.toNat (ET.z .vec)) q3).r1 != (0 : Int)) then ⟨0, p57, m5⟩ else run_rise_All_0 p3 p4 p13 p56 m0 q1 q2 q3 m4 m6 n (w64 (p57 + (1 : Int))) (m5.set p57.toNat ((m_rise_viewOf q1 (m6.getD p57.toNat (ET.z .vec)) q3).r0))) else ⟨2, p57, m5⟩) else ⟨2, p57, m5⟩) else ⟨2, p57, m5⟩) else ⟨1, p57, m5⟩
def lp_rise_All_0 (p3 : Int) (p4 : Int) (p13 : Int) (p56 : Int) (m0 : List Site) (q1 : Globe) (q2 : Source) (q3 : Frac) (m4 : List Window) (m6 : List Vec) (p57 : Int) (m5 : List View) : R_rise_All_0 := run_rise_All_0 p3 p4 p13 p56 m0 q1 q2 q3 m4 m6 (2000 + (m0.length + m4.length + m5.length + m6.length)) p57 m5
abbrev H_rise_All_0 (p3 : Int) (p4 : Int) (p13 : Int) (p56 : Int) (_m0 : List Site) (_q1 : Globe) (_q2 : Source) (_q3 : Frac) (_m4 : List Window) (_m6 : List Vec) (p57 : Int) (_m5 : List View) : TS := headT [3, 4, 6, 8, 11, 12, 13, 16, 55, 56, 57] 126 [.v (.c (.d (.int .i64 p3))), .v (.c (.d (.int .i64 p4))), .v (.c (.ptr 1 0)), .v (.c (.ptr 2 0)), .v (.c (.ptr 3 0)), .v (.c (.aslice 4 none)), .v (.c (.d (.int .i64 p13))), .v (.c (.aslice 5 none)), .v (.c (.aslice 6 none)), .v (.c (.d (.int .i64 p56))), .v (.c (.d (.int .i64 p57)))]
theorem b_rise_All_0 (p3 : Int) (p4 : Int) (p13 : Int) (p56 : Int) (m0 : List Site) (q1 : Globe) (q2 : Source) (q3 : Frac) (m4 : List Window) (m6 : List Vec) (p57 : Int) (m5 : List View) : evCode Tryz.prog GT EQT T_rise_tick XT noL 80 (loopB Tryz.prog 7 0) (H_rise_All_0 p3 p4 p13 p56 m0 q1 q2 q3 m4 m6 p57 m5) [.arr none .site m0, .rw 23 [.int .i64 q1.a, .int .i64 q1.b], .rw 26 [.str q2.name, .int .i64 q2.ra, .int .i64 q2.dec], .rw 28 [.int .i64 q3.num, .int .i64 q3.den], .arr (some 52) .win m4, .arr (some 63) .view m5, .arr (some 59) .vec m6] 7 (normK 1 [3, 4, 6, 8, 11, 12, 13, 16, 55, 56, 57]) =
    bif decide (p57 < p56) then (bif (decide ((0 : Int) ≤ p57) && decide (p57 < (m6.length : Int))) then (bif (m_rise_viewOf q1 (m6.getD p57.toNat (ET.z .vec)) q3).ok then (bif (decide ((0 : Int) ≤ p57) && decide (p57 < (m5.length : Int))) then (bif ((m_rise_viewOf q1 (m6.getD p57.toNat (ET.z .vec)) q3).r1 != (0 : Int)) then some (.st .ret (headT [3, 4, 6, 8, 11, 12, 13, 16, 55, 56, 57] 126 [.v (.c (.d (.int .i64 p3))), .v (.c (.d (.int .i64 p4))), .v (.c (.ptr 1 0)), .v (.c (.ptr 2 0)), .v (.c (.ptr 3 0)), .v (.c (.aslice 4 none)), .v (.c (.d (.int .i64 ((m_rise_viewOf q1 (m6.getD p57.toNat (ET.z .vec)) q3).r1)))), .v (.c (.aslice 5 none)), .v (.c (.aslice 6 none)), .v (.c (.d (.int .i64 p56))), .v (.c (.d (.int .i64 p57)))]) [.arr none .site m0, .rw 23 [.int .i64 q1.a, .int .i64 q1.b], .rw 26 [.str q2.name, .int .i64 q2.ra, .int .i64 q2.dec], .rw 28 [.int .i64 q3.num, .int .i64 q3.den], .arr (some 52) .win ([] : List Window), .arr (some 63) .view (m5.set p57.toNat ((m_rise_viewOf q1 (m6.getD p57.toNat (ET.z .vec)) q3).r0)), .arr (some 59) .vec m6] 7) else some (.st .normal (headT [3, 4, 6, 8, 11, 12, 13, 16, 55, 56, 57] 126 [.v (.c (.d (.int .i64 p3))), .v (.c (.d (.int .i64 p4))), .v (.c (.ptr 1 0)), .v (.c (.ptr 2 0)), .v (.c (.ptr 3 0)), .v (.c (.aslice 4 none)), .v (.c (.d (.int .i64 p13))), .v (.c (.aslice 5 none)), .v (.c (.aslice 6 none)), .v (.c (.d (.int .i64 p56))), .v (.c (.d (.int .i64 (w64 (p57 + (1 : Int))))))]) [.arr none .site m0, .rw 23 [.int .i64 q1.a, .int .i64 q1.b], .rw 26 [.str q2.name, .int .i64 q2.ra, .int .i64 q2.dec], .rw 28 [.int .i64 q3.num, .int .i64 q3.den], .arr (some 52) .win m4, .arr (some 63) .view (m5.set p57.toNat ((m_rise_viewOf q1 (m6.getD p57.toNat (ET.z .vec)) q3).r0)), .arr (some 59) .vec m6] 7)) else none) else none) else none) else some (.st (.exit 0) (headT [3, 4, 6, 8, 11, 12, 13, 16, 55, 56, 57] 126 [.v (.c (.d (.int .i64 p3))), .v (.c (.d (.int .i64 p4))), .v (.c (.ptr 1 0)), .v (.c (.ptr 2 0)), .v (.c (.ptr 3 0)), .v (.c (.aslice 4 none)), .v (.c (.d (.int .i64 p13))), .v (.c (.aslice 5 none)), .v (.c (.aslice 6 none)), .v (.c (.d (.int .i64 p56))), .v (.c (.d (.int .i64 p57)))]) [.arr none .site m0, .rw 23 [.int .i64 q1.a, .int .i64 q1.b], .rw 26 [.str q2.name, .int .i64 q2.ra, .int .i64 q2.dec], .rw 28 [.int .i64 q3.num, .int .i64 q3.den], .arr (some 52) .win m4, .arr (some 63) .view m5, .arr (some 59) .vec m6] 7) := by
  kernel_rfl
def o_rise_All_0 (p3 : Int) (p4 : Int) (p13 : Int) (p56 : Int) (m0 : List Site) (q1 : Globe) (q2 : Source) (q3 : Frac) (m4 : List Window) (m6 : List Vec) (r : R_rise_All_0) : LT := .br (Nat.beq r.k 0) (.st .ret (headT [3, 4, 6, 8, 11, 12, 13, 16, 55, 56, 57] 126 [.v (.c (.d (.int .i64 p3))), .v (.c (.d (.int .i64 p4))), .v (.c (.ptr 1 0)), .v (.c (.ptr 2 0)), .v (.c (.ptr 3 0)), .v (.c (.aslice 4 none)), .v (.c (.d (.int .i64 ((m_rise_viewOf q1 (m6.getD r.p57.toNat (ET.z .vec)) q3).r1)))), .v (.c (.aslice 5 none)), .v (.c (.aslice 6 none)), .v (.c (.d (.int .i64 p56))), .v (.c (.d (.int .i64 r.p57)))]) [.arr none .site m0, .rw 23 [.int .i64 q1.a, .int .i64 q1.b], .rw 26 [.str q2.name, .int .i64 q2.ra, .int .i64 q2.dec], .rw 28 [.int .i64 q3.num, .int .i64 q3.den], .arr (some 52) .win ([] : List Window), .arr (some 63) .view (r.m5.set r.p57.toNat ((m_rise_viewOf q1 (m6.getD r.p57.toNat (ET.z .vec)) q3).r0)), .arr (some 59) .vec m6] 7) (.br (Nat.beq r.k 1) (.st (.exit 0) (headT [3, 4, 6, 8, 11, 12, 13, 16, 55, 56, 57] 126 [.v (.c (.d (.int .i64 p3))), .v (.c (.d (.int .i64 p4))), .v (.c (.ptr 1 0)), .v (.c (.ptr 2 0)), .v (.c (.ptr 3 0)), .v (.c (.aslice 4 none)), .v (.c (.d (.int .i64 p13))), .v (.c (.aslice 5 none)), .v (.c (.aslice 6 none)), .v (.c (.d (.int .i64 p56))), .v (.c (.d (.int .i64 r.p57)))]) [.arr none .site m0, .rw 23 [.int .i64 q1.a, .int .i64 q1.b], .rw 26 [.str q2.name, .int .i64 q2.ra, .int .i64 q2.dec], .rw 28 [.int .i64 q3.num, .int .i64 q3.den], .arr (some 52) .win m4, .arr (some 63) .view r.m5, .arr (some 59) .vec m6] 7) (.no))
theorem r_rise_All_0 (p3 : Int) (p4 : Int) (p13 : Int) (p56 : Int) (m0 : List Site) (q1 : Globe) (q2 : Source) (q3 : Frac) (m4 : List Window) (m6 : List Vec) : ∀ (n : Nat) (p57 : Int) (m5 : List View) (x : Ex) (T' : TS) (M' : List Blk) (N' : Nat), LReach (o_rise_All_0 p3 p4 p13 p56 m0 q1 q2 q3 m4 m6 (run_rise_All_0 p3 p4 p13 p56 m0 q1 q2 q3 m4 m6 n p57 m5)) x T' M' N' → x ≠ .normal ∧ ∃ j, RoundsN Tryz.prog GT gbT 1 (loopB Tryz.prog 7 0) j (H_rise_All_0 p3 p4 p13 p56 m0 q1 q2 q3 m4 m6 p57 m5) [.arr none .site m0, .rw 23 [.int .i64 q1.a, .int .i64 q1.b], .rw 26 [.str q2.name, .int .i64 q2.ra, .int .i64 q2.dec], .rw 28 [.int .i64 q3.num, .int .i64 q3.den], .arr (some 52) .win m4, .arr (some 63) .view m5, .arr (some 59) .vec m6] 7 x T' M' N' := by
  have hL : LOKn Tryz.prog GT gbT 1 noL (loopsIn (loopB Tryz.prog 7 0)) := fun _ _ _ _ _ _ _ _ _ h => h.elim
  intro n
  induction n with
  | zero =>
    intro p57 m5 x T' M' N' hr
    exact False.elim (redF (redF hr))
  | succ n ih =>
    intro p57 m5 x T' M' N'
    rw [run_rise_All_0]
    exact viaE (b_rise_All_0 p3 p4 p13 p56 m0 q1 q2 q3 m4 m6 p57 m5) (condG (o := o_rise_All_0 p3 p4 p13 p56 m0 q1 q2 q3 m4 m6) (condG (o := o_rise_All_0 p3 p4 p13 p56 m0 q1 q2 q3 m4 m6) (condG (o := o_rise_All_0 p3 p4 p13 p56 m0 q1 q2 q3 m4 m6) (condG (o := o_rise_All_0 p3 p4 p13 p56 m0 q1 q2 q3 m4 m6) (condG (o := o_rise_All_0 p3 p4 p13 p56 m0 q1 q2 q3 m4 m6) (fun he hr => stopN g_rise_tick hEQT hmT hL he (by simp) (redT hr)) (fun he hr => goN g_rise_tick hEQT hmT hL he (ih (w64 (p57 + (1 : Int))) (m5.set p57.toNat ((m_rise_viewOf q1 (m6.getD p57.toNat (ET.z .vec)) q3).r0)) x T' M' N' hr))) (fun _ hr => False.elim (redF (redF hr)))) (fun _ hr => False.elim (redF (redF hr)))) (fun _ hr => False.elim (redF (redF hr)))) (fun he hr => stopN g_rise_tick hEQT hmT hL he (by simp) (redT (redF hr))))
def f_rise_All_0 : List AV → List Blk → LT := fun vs Ms => match vs, Ms with
  | [.v (.c (.d (.int .i64 p3))), .v (.c (.d (.int .i64 p4))), .v (.c (.ptr 1 0)), .v (.c (.ptr 2 0)), .v (.c (.ptr 3 0)), .v (.c (.aslice 4 none)), .v (.c (.d (.int .i64 p13))), .v (.c (.aslice 5 none)), .v (.c (.aslice 6 none)), .v (.c (.d (.int .i64 p56))), .v (.c (.d (.int .i64 p57)))], [.arr none .site m0, .rw 23 [.int .i64 q1_0, .int .i64 q1_1], .rw 26 [.str q2_0, .int .i64 q2_1, .int .i64 q2_2], .rw 28 [.int .i64 q3_0, .int .i64 q3_1], .arr (some 52) .win m4, .arr (some 63) .view m5, .arr (some 59) .vec m6] => o_rise_All_0 p3 p4 p13 p56 m0 (⟨q1_0, q1_1⟩ : Globe) (⟨q2_0, q2_1, q2_2⟩ : Source) (⟨q3_0, q3_1⟩ : Frac) m4 m6 (lp_rise_All_0 p3 p4 p13 p56 m0 (⟨q1_0, q1_1⟩ : Globe) (⟨q2_0, q2_1, q2_2⟩ : Source) (⟨q3_0, q3_1⟩ : Frac) m4 m6 p57 m5)
  | _, _ => .no
def L_rise_All_0 := LamN 10 126 1 [3, 4, 6, 8, 11, 12, 13, 16, 55, 56, 57] f_rise_All_0
theorem k_rise_All_0 : LOKbn Tryz.prog GT gbT 1 L_rise_All_0 (loopB Tryz.prog 7 0) := by
  refine LOKbn.lamN (by kernel_rfl) fun vs Ms x T' M' N' hr => ?_
  unfold f_rise_All_0 at hr
  split at hr
  · obtain ⟨q1, j, q2⟩ := r_rise_All_0 _ _ _ _ _ _ _ _ _ _ _ _ _ x T' M' N' hr
    exact ⟨q1, j, q2⟩
  · exact hr.elim
structure R_rise_All_1 where
  k : Nat
  p20 : Int
  m4 : List Window
def run_rise_All_1 (p4 : Int) (p13 : Int) (m0 : List Site) (q1 : Source) (m2 : List Window) (m3 : List View) : Nat → Int → List Window → R_rise_All_1
  | 0, p20, m4 => ⟨2, p20, m4⟩
  | n + 1, p20, m4 => bif decide (p20 < p4) then (bif (m_rise_upForAll m3 q1 p20).ok then (bif ((m_rise_upForAll m3 q1 p20).r1 != (0 : Int)) then ⟨0, p20, m4⟩ else (bif (!(m_rise_upForAll m3 q1 p20).r0) then run_rise_All_1 p4 p13 m0 q1 m2 m3 n (w64 (p20 + (1 : Int))) m4 else (bif decide ((0 : Int) ≤ (w64 ((m4.length : Int) - (1 : Int)))) then (bif (decide ((0 : Int) ≤ (w64 ((m4.length : Int) - (1 : Int)))) && decide ((w64 ((m4.length : Int) - (1 : Int))) < (m4.length : Int))) then (bif ((m4.getD ((w64 ((m4.length : Int) - (1 : Int))).toNat) (ET.z .win)).too == p20) then (bif (decide ((0 : Int) ≤ (w64 ((m4.length : Int) - (1 : Int)))) && decide ((w64 ((m4.length : Int) - (1 : Int))) < (m4.length : Int))) then (bif (decide ((0 : Int) ≤ (w64 ((m4.length : Int) - (1 : Int)))) && decide ((w64 ((m4.length : Int) - (1 : Int))) < (m4.length : Int))) then run_rise_All_1 p4 p13 m0 q1 m2 m3 n (w64 (p20 + (1 : Int))) (m4.set ((w64 ((m4.length : Int) - (1 : Int))).toNat) ⟨(m4.getD ((w64 ((m4.length : Int) - (1 : Int))).toNat) (ET.z .win)).frm, (w64 ((m4.getD ((w64 ((m4.length : Int) - (1 : Int))).toNat) (ET.z .win)).too + (1 : Int)))⟩) else ⟨2, p20, m4⟩) else ⟨2, p20, m4⟩) else (bif (([⟨p20, (w64 (p20 + (1 : Int)))⟩] : List Window).length == 0) then run_rise_All_1 p4 p13 m0 q1 m2 m3 n (w64 (p20 + (1 : Int))) m4 else (bif (Nat.blt 0 2 && ((2 == 2) && ((2 == 2) && (Nat.ble (m4.length + ([⟨p20, (w64 (p20 + (1 : Int)))⟩] : List Window).length) roomD && Nat.ble 16 4096)))) then run_rise_All_1 p4 p13 m0 q1 m2 m3 n (w64 (p20 + (1 : Int))) (m4 ++ ([⟨p20, (w64 (p20 + (1 : Int)))⟩] : List Window)) else ⟨2, p20, m4⟩))) else ⟨2, p20, m4⟩) else (bif (([⟨p20, (w64 (p20 + (1 : Int)))⟩] : List Window).length == 0) then run_rise_All_1 p4 p13 m0 q1 m2 m3 n (w64 (p20 + (1 : Int))) m4 else (bif (Nat.blt 0 2 && ((2 == 2) && ((2 == 2) && (Nat.ble (m4.length + ([⟨p20, (w64 (p20 + (1 : Int)))⟩] : List Window).length) roomD && Nat.ble 16 4096)))) then run_rise_All_1 p4 p13 m0 q1 m2 m3 n (w64 (p20 + (1 : Int))) (m4 ++ ([⟨p20, (w64 (p20 + (1 : Int)))⟩] : List Window)) else ⟨2, p20, m4⟩))))) else ⟨2, p20, m4⟩) else ⟨1, p20, m4⟩
def lp_rise_All_1 (p4 : Int) (p13 : Int) (m0 : List Site) (q1 : Source) (m2 : List Window) (m3 : List View) (p20 : Int) (m4 : List Window) : R_rise_All_1 := run_rise_All_1 p4 p13 m0 q1 m2 m3 (2000 + (m0.length + m2.length + m3.length + m4.length)) p20 m4
abbrev H_rise_All_1 (p4 : Int) (p13 : Int) (_m0 : List Site) (_q1 : Source) (_m2 : List Window) (_m3 : List View) (p20 : Int) (_m4 : List Window) : TS := headT [4, 8, 12, 13, 16, 19, 20] 126 [.v (.c (.d (.int .i64 p4))), .v (.c (.ptr 1 0)), .v (.c (.aslice 2 none)), .v (.c (.d (.int .i64 p13))), .v (.c (.aslice 3 none)), .v (.c (.aslice 4 none)), .v (.c (.d (.int .i64 p20)))]
theorem b_rise_All_1 (p4 : Int) (p13 : Int) (m0 : List Site) (q1 : Source) (m2 : List Window) (m3 : List View) (p20 : Int) (m4 : List Window) : evCode Tryz.prog GT EQT T_rise_tick XT noL 80 (loopB Tryz.prog 7 1) (H_rise_All_1 p4 p13 m0 q1 m2 m3 p20 m4) [.arr none .site m0, .rw 26 [.str q1.name, .int .i64 q1.ra, .int .i64 q1.dec], .arr (some 52) .win m2, .arr (some 63) .view m3, .arr (some 52) .win m4] 5 (normK 1 [4, 8, 12, 13, 16, 19, 20]) =
    bif decide (p20 < p4) then (bif (m_rise_upForAll m3 q1 p20).ok then (bif ((m_rise_upForAll m3 q1 p20).r1 != (0 : Int)) then some (.st .ret (headT [4, 8, 12, 13, 16, 19, 20] 126 [.v (.c (.d (.int .i64 p4))), .v (.c (.ptr 1 0)), .v (.c (.aslice 2 none)), .v (.c (.d (.int .i64 ((m_rise_upForAll m3 q1 p20).r1)))), .v (.c (.aslice 3 none)), .v (.c (.aslice 4 none)), .v (.c (.d (.int .i64 p20)))]) [.arr none .site m0, .rw 26 [.str q1.name, .int .i64 q1.ra, .int .i64 q1.dec], .arr (some 52) .win ([] : List Window), .arr (some 63) .view m3, .arr (some 52) .win m4] 5) else (bif (!(m_rise_upForAll m3 q1 p20).r0) then some (.st .normal (headT [4, 8, 12, 13, 16, 19, 20] 126 [.v (.c (.d (.int .i64 p4))), .v (.c (.ptr 1 0)), .v (.c (.aslice 2 none)), .v (.c (.d (.int .i64 p13))), .v (.c (.aslice 3 none)), .v (.c (.aslice 4 none)), .v (.c (.d (.int .i64 (w64 (p20 + (1 : Int))))))]) [.arr none .site m0, .rw 26 [.str q1.name, .int .i64 q1.ra, .int .i64 q1.dec], .arr (some 52) .win m2, .arr (some 63) .view m3, .arr (some 52) .win m4] 5) else (bif decide ((0 : Int) ≤ (w64 ((m4.length : Int) - (1 : Int)))) then (bif (decide ((0 : Int) ≤ (w64 ((m4.length : Int) - (1 : Int)))) && decide ((w64 ((m4.length : Int) - (1 : Int))) < (m4.length : Int))) then (bif ((m4.getD ((w64 ((m4.length : Int) - (1 : Int))).toNat) (ET.z .win)).too == p20) then (bif (decide ((0 : Int) ≤ (w64 ((m4.length : Int) - (1 : Int)))) && decide ((w64 ((m4.length : Int) - (1 : Int))) < (m4.length : Int))) then (bif (decide ((0 : Int) ≤ (w64 ((m4.length : Int) - (1 : Int)))) && decide ((w64 ((m4.length : Int) - (1 : Int))) < (m4.length : Int))) then some (.st .normal (headT [4, 8, 12, 13, 16, 19, 20] 126 [.v (.c (.d (.int .i64 p4))), .v (.c (.ptr 1 0)), .v (.c (.aslice 2 none)), .v (.c (.d (.int .i64 p13))), .v (.c (.aslice 3 none)), .v (.c (.aslice 4 none)), .v (.c (.d (.int .i64 (w64 (p20 + (1 : Int))))))]) [.arr none .site m0, .rw 26 [.str q1.name, .int .i64 q1.ra, .int .i64 q1.dec], .arr (some 52) .win m2, .arr (some 63) .view m3, .arr (some 52) .win (m4.set ((w64 ((m4.length : Int) - (1 : Int))).toNat) ⟨(m4.getD ((w64 ((m4.length : Int) - (1 : Int))).toNat) (ET.z .win)).frm, (w64 ((m4.getD ((w64 ((m4.length : Int) - (1 : Int))).toNat) (ET.z .win)).too + (1 : Int)))⟩)] 5) else none) else none) else (bif (([⟨p20, (w64 (p20 + (1 : Int)))⟩] : List Window).length == 0) then some (.st .normal (headT [4, 8, 12, 13, 16, 19, 20] 126 [.v (.c (.d (.int .i64 p4))), .v (.c (.ptr 1 0)), .v (.c (.aslice 2 none)), .v (.c (.d (.int .i64 p13))), .v (.c (.aslice 3 none)), .v (.c (.aslice 4 none)), .v (.c (.d (.int .i64 (w64 (p20 + (1 : Int))))))]) [.arr none .site m0, .rw 26 [.str q1.name, .int .i64 q1.ra, .int .i64 q1.dec], .arr (some 52) .win m2, .arr (some 63) .view m3, .arr (some 52) .win m4] 5) else (bif (Nat.blt 0 2 && ((2 == 2) && ((2 == 2) && (Nat.ble (m4.length + ([⟨p20, (w64 (p20 + (1 : Int)))⟩] : List Window).length) roomD && Nat.ble 16 4096)))) then some (.st .normal (headT [4, 8, 12, 13, 16, 19, 20] 126 [.v (.c (.d (.int .i64 p4))), .v (.c (.ptr 1 0)), .v (.c (.aslice 2 none)), .v (.c (.d (.int .i64 p13))), .v (.c (.aslice 3 none)), .v (.c (.aslice 4 none)), .v (.c (.d (.int .i64 (w64 (p20 + (1 : Int))))))]) [.arr none .site m0, .rw 26 [.str q1.name, .int .i64 q1.ra, .int .i64 q1.dec], .arr (some 52) .win m2, .arr (some 63) .view m3, .arr (some 52) .win (m4 ++ ([⟨p20, (w64 (p20 + (1 : Int)))⟩] : List Window))] 5) else none))) else none) else (bif (([⟨p20, (w64 (p20 + (1 : Int)))⟩] : List Window).length == 0) then some (.st .normal (headT [4, 8, 12, 13, 16, 19, 20] 126 [.v (.c (.d (.int .i64 p4))), .v (.c (.ptr 1 0)), .v (.c (.aslice 2 none)), .v (.c (.d (.int .i64 p13))), .v (.c (.aslice 3 none)), .v (.c (.aslice 4 none)), .v (.c (.d (.int .i64 (w64 (p20 + (1 : Int))))))]) [.arr none .site m0, .rw 26 [.str q1.name, .int .i64 q1.ra, .int .i64 q1.dec], .arr (some 52) .win m2, .arr (some 63) .view m3, .arr (some 52) .win m4] 5) else (bif (Nat.blt 0 2 && ((2 == 2) && ((2 == 2) && (Nat.ble (m4.length + ([⟨p20, (w64 (p20 + (1 : Int)))⟩] : List Window).length) roomD && Nat.ble 16 4096)))) then some (.st .normal (headT [4, 8, 12, 13, 16, 19, 20] 126 [.v (.c (.d (.int .i64 p4))), .v (.c (.ptr 1 0)), .v (.c (.aslice 2 none)), .v (.c (.d (.int .i64 p13))), .v (.c (.aslice 3 none)), .v (.c (.aslice 4 none)), .v (.c (.d (.int .i64 (w64 (p20 + (1 : Int))))))]) [.arr none .site m0, .rw 26 [.str q1.name, .int .i64 q1.ra, .int .i64 q1.dec], .arr (some 52) .win m2, .arr (some 63) .view m3, .arr (some 52) .win (m4 ++ ([⟨p20, (w64 (p20 + (1 : Int)))⟩] : List Window))] 5) else none))))) else none) else some (.st (.exit 2) (headT [4, 8, 12, 13, 16, 19, 20] 126 [.v (.c (.d (.int .i64 p4))), .v (.c (.ptr 1 0)), .v (.c (.aslice 2 none)), .v (.c (.d (.int .i64 p13))), .v (.c (.aslice 3 none)), .v (.c (.aslice 4 none)), .v (.c (.d (.int .i64 p20)))]) [.arr none .site m0, .rw 26 [.str q1.name, .int .i64 q1.ra, .int .i64 q1.dec], .arr (some 52) .win m2, .arr (some 63) .view m3, .arr (some 52) .win m4] 5) := by
  kernel_rfl
def o_rise_All_1 (p4 : Int) (p13 : Int) (m0 : List Site) (q1 : Source) (m2 : List Window) (m3 : List View) (r : R_rise_All_1) : LT := .br (Nat.beq r.k 0) (.st .ret (headT [4, 8, 12, 13, 16, 19, 20] 126 [.v (.c (.d (.int .i64 p4))), .v (.c (.ptr 1 0)), .v (.c (.aslice 2 none)), .v (.c (.d (.int .i64 ((m_rise_upForAll m3 q1 r.p20).r1)))), .v (.c (.aslice 3 none)), .v (.c (.aslice 4 none)), .v (.c (.d (.int .i64 r.p20)))]) [.arr none .site m0, .rw 26 [.str q1.name, .int .i64 q1.ra, .int .i64 q1.dec], .arr (some 52) .win ([] : List Window), .arr (some 63) .view m3, .arr (some 52) .win r.m4] 5) (.br (Nat.beq r.k 1) (.st (.exit 2) (headT [4, 8, 12, 13, 16, 19, 20] 126 [.v (.c (.d (.int .i64 p4))), .v (.c (.ptr 1 0)), .v (.c (.aslice 2 none)), .v (.c (.d (.int .i64 p13))), .v (.c (.aslice 3 none)), .v (.c (.aslice 4 none)), .v (.c (.d (.int .i64 r.p20)))]) [.arr none .site m0, .rw 26 [.str q1.name, .int .i64 q1.ra, .int .i64 q1.dec], .arr (some 52) .win m2, .arr (some 63) .view m3, .arr (some 52) .win r.m4] 5) (.no))
theorem r_rise_All_1 (p4 : Int) (p13 : Int) (m0 : List Site) (q1 : Source) (m2 : List Window) (m3 : List View) : ∀ (n : Nat) (p20 : Int) (m4 : List Window) (x : Ex) (T' : TS) (M' : List Blk) (N' : Nat), LReach (o_rise_All_1 p4 p13 m0 q1 m2 m3 (run_rise_All_1 p4 p13 m0 q1 m2 m3 n p20 m4)) x T' M' N' → x ≠ .normal ∧ ∃ j, RoundsN Tryz.prog GT gbT 1 (loopB Tryz.prog 7 1) j (H_rise_All_1 p4 p13 m0 q1 m2 m3 p20 m4) [.arr none .site m0, .rw 26 [.str q1.name, .int .i64 q1.ra, .int .i64 q1.dec], .arr (some 52) .win m2, .arr (some 63) .view m3, .arr (some 52) .win m4] 5 x T' M' N' := by
  have hL : LOKn Tryz.prog GT gbT 1 noL (loopsIn (loopB Tryz.prog 7 1)) := fun _ _ _ _ _ _ _ _ _ h => h.elim
  intro n
  induction n with
  | zero =>
    intro p20 m4 x T' M' N' hr
    exact False.elim (redF (redF hr))
  | succ n ih =>
    intro p20 m4 x T' M' N'
    rw [run_rise_All_1]
    exact viaE (b_rise_All_1 p4 p13 m0 q1 m2 m3 p20 m4) (condG (o := o_rise_All_1 p4 p13 m0 q1 m2 m3) (condG (o := o_rise_All_1 p4 p13 m0 q1 m2 m3) (condG (o := o_rise_All_1 p4 p13 m0 q1 m2 m3) (fun he hr => stopN g_rise_tick hEQT hmT hL he (by simp) (redT hr)) (condG (o := o_rise_All_1 p4 p13 m0 q1 m2 m3) (fun he hr => goN g_rise_tick hEQT hmT hL he (ih (w64 (p20 + (1 : Int))) m4 x T' M' N' hr)) (condG (o := o_rise_All_1 p4 p13 m0 q1 m2 m3) (condG (o := o_rise_All_1 p4 p13 m0 q1 m2 m3) (condG (o := o_rise_All_1 p4 p13 m0 q1 m2 m3) (condG (o := o_rise_All_1 p4 p13 m0 q1 m2 m3) (condG (o := o_rise_All_1 p4 p13 m0 q1 m2 m3) (fun he hr => goN g_rise_tick hEQT hmT hL he (ih (w64 (p20 + (1 : Int))) (m4.set ((w64 ((m4.length : Int) - (1 : Int))).toNat) ⟨(m4.getD ((w64 ((m4.length : Int) - (1 : Int))).toNat) (ET.z .win)).frm, (w64 ((m4.getD ((w64 ((m4.length : Int) - (1 : Int))).toNat) (ET.z .win)).too + (1 : Int)))⟩) x T' M' N' hr)) (fun _ hr => False.elim (redF (redF hr)))) (fun _ hr => False.elim (redF (redF hr)))) (condG (o := o_rise_All_1 p4 p13 m0 q1 m2 m3) (fun he hr => goN g_rise_tick hEQT hmT hL he (ih (w64 (p20 + (1 : Int))) m4 x T' M' N' hr)) (condG (o := o_rise_All_1 p4 p13 m0 q1 m2 m3) (fun he hr => goN g_rise_tick hEQT hmT hL he (ih (w64 (p20 + (1 : Int))) (m4 ++ ([⟨p20, (w64 (p20 + (1 : Int)))⟩] : List Window)) x T' M' N' hr)) (fun _ hr => False.elim (redF (redF hr)))))) (fun _ hr => False.elim (redF (redF hr)))) (condG (o := o_rise_All_1 p4 p13 m0 q1 m2 m3) (fun he hr => goN g_rise_tick hEQT hmT hL he (ih (w64 (p20 + (1 : Int))) m4 x T' M' N' hr)) (condG (o := o_rise_All_1 p4 p13 m0 q1 m2 m3) (fun he hr => goN g_rise_tick hEQT hmT hL he (ih (w64 (p20 + (1 : Int))) (m4 ++ ([⟨p20, (w64 (p20 + (1 : Int)))⟩] : List Window)) x T' M' N' hr)) (fun _ hr => False.elim (redF (redF hr)))))))) (fun _ hr => False.elim (redF (redF hr)))) (fun he hr => stopN g_rise_tick hEQT hmT hL he (by simp) (redT (redF hr))))
def f_rise_All_1 : List AV → List Blk → LT := fun vs Ms => match vs, Ms with
  | [.v (.c (.d (.int .i64 p4))), .v (.c (.ptr 1 0)), .v (.c (.aslice 2 none)), .v (.c (.d (.int .i64 p13))), .v (.c (.aslice 3 none)), .v (.c (.aslice 4 none)), .v (.c (.d (.int .i64 p20)))], [.arr none .site m0, .rw 26 [.str q1_0, .int .i64 q1_1, .int .i64 q1_2], .arr (some 52) .win m2, .arr (some 63) .view m3, .arr (some 52) .win m4] => o_rise_All_1 p4 p13 m0 (⟨q1_0, q1_1, q1_2⟩ : Source) m2 m3 (lp_rise_All_1 p4 p13 m0 (⟨q1_0, q1_1, q1_2⟩ : Source) m2 m3 p20 m4)
  | _, _ => .no
def L_rise_All_1 := LamN 18 126 1 [4, 8, 12, 13, 16, 19, 20] f_rise_All_1
theorem k_rise_All_1 : LOKbn Tryz.prog GT gbT 1 L_rise_All_1 (loopB Tryz.prog 7 1) := by
  refine LOKbn.lamN (by kernel_rfl) fun vs Ms x T' M' N' hr => ?_
  unfold f_rise_All_1 at hr
  split at hr
  · obtain ⟨q1, j, q2⟩ := r_rise_All_1 _ _ _ _ _ _ _ _ _ x T' M' N' hr
    exact ⟨q1, j, q2⟩
  · exact hr.elim
structure O_rise_All where
  ok : Bool
  r0 : List Window
  r1 : Int
def m_rise_All (a0 : Globe) (a1 : List Site) (a2 : Source) (a3 : Int) (a4 : Int) (a5 : Frac) : O_rise_All := bif (m_rise_look a0 a1 a2 a5).ok then (bif ((m_rise_look a0 a1 a2 a5).r1 != (0 : Int)) then ⟨true, ([] : List Window), (m_rise_look a0 a1 a2 a5).r1⟩ else (bif (m_rise_tick a3).ok then (bif (!(m_rise_tick a3).r0) then ⟨true, ([] : List Window), (2 : Int)⟩ else (bif (m_rise_tick a4).ok then (bif (!(m_rise_tick a4).r0) then ⟨true, ([] : List Window), (2 : Int)⟩ else (bif decide (a4 < a3) then ⟨true, ([] : List Window), (2 : Int)⟩ else (bif decide ((720 : Int) < (w64 (a4 - a3))) then ⟨true, ([] : List Window), (4 : Int)⟩ else (bif (decide ((((m_rise_look a0 a1 a2 a5).r0).length : Int) = (((m_rise_look a0 a1 a2 a5).r0).length : Int)) && (decide (0 ≤ (((m_rise_look a0 a1 a2 a5).r0).length : Int)) && (decide ((((m_rise_look a0 a1 a2 a5).r0).length : Int) ≤ 1048576) && ((8 == 8) && (Nat.blt 0 8 && Nat.ble 64 4096))))) then (bif Nat.beq (lp_rise_All_0 a3 a4 (0 : Int) (((m_rise_look a0 a1 a2 a5).r0).length : Int) a1 a0 a2 a5 ([] : List Window) ((m_rise_look a0 a1 a2 a5).r0) (0 : Int) (List.replicate ((((m_rise_look a0 a1 a2 a5).r0).length : Int).toNat) (⟨⟨⟨(0 : Int), (0 : Int)⟩, ⟨(0 : Int), (0 : Int)⟩, ⟨(0 : Int), (0 : Int)⟩⟩, ⟨(0 : Int), (0 : Int)⟩⟩ : View))).k 0 then ⟨true, ([] : List Window), (m_rise_viewOf a0 (((m_rise_look a0 a1 a2 a5).r0).getD ((lp_rise_All_0 a3 a4 (0 : Int) (((m_rise_look a0 a1 a2 a5).r0).length : Int) a1 a0 a2 a5 ([] : List Window) ((m_rise_look a0 a1 a2 a5).r0) (0 : Int) (List.replicate ((((m_rise_look a0 a1 a2 a5).r0).length : Int).toNat) (⟨⟨⟨(0 : Int), (0 : Int)⟩, ⟨(0 : Int), (0 : Int)⟩, ⟨(0 : Int), (0 : Int)⟩⟩, ⟨(0 : Int), (0 : Int)⟩⟩ : View))).p57).toNat (ET.z .vec)) a5).r1⟩ else (bif Nat.beq (lp_rise_All_0 a3 a4 (0 : Int) (((m_rise_look a0 a1 a2 a5).r0).length : Int) a1 a0 a2 a5 ([] : List Window) ((m_rise_look a0 a1 a2 a5).r0) (0 : Int) (List.replicate ((((m_rise_look a0 a1 a2 a5).r0).length : Int).toNat) (⟨⟨⟨(0 : Int), (0 : Int)⟩, ⟨(0 : Int), (0 : Int)⟩, ⟨(0 : Int), (0 : Int)⟩⟩, ⟨(0 : Int), (0 : Int)⟩⟩ : View))).k 1 then (bif Nat.beq (lp_rise_All_1 a4 (0 : Int) a1 a2 ([] : List Window) ((lp_rise_All_0 a3 a4 (0 : Int) (((m_rise_look a0 a1 a2 a5).r0).length : Int) a1 a0 a2 a5 ([] : List Window) ((m_rise_look a0 a1 a2 a5).r0) (0 : Int) (List.replicate ((((m_rise_look a0 a1 a2 a5).r0).length : Int).toNat) (⟨⟨⟨(0 : Int), (0 : Int)⟩, ⟨(0 : Int), (0 : Int)⟩, ⟨(0 : Int), (0 : Int)⟩⟩, ⟨(0 : Int), (0 : Int)⟩⟩ : View))).m5) a3 ([] : List Window)).k 0 then ⟨true, ([] : List Window), (m_rise_upForAll ((lp_rise_All_0 a3 a4 (0 : Int) (((m_rise_look a0 a1 a2 a5).r0).length : Int) a1 a0 a2 a5 ([] : List Window) ((m_rise_look a0 a1 a2 a5).r0) (0 : Int) (List.replicate ((((m_rise_look a0 a1 a2 a5).r0).length : Int).toNat) (⟨⟨⟨(0 : Int), (0 : Int)⟩, ⟨(0 : Int), (0 : Int)⟩, ⟨(0 : Int), (0 : Int)⟩⟩, ⟨(0 : Int), (0 : Int)⟩⟩ : View))).m5) a2 ((lp_rise_All_1 a4 (0 : Int) a1 a2 ([] : List Window) ((lp_rise_All_0 a3 a4 (0 : Int) (((m_rise_look a0 a1 a2 a5).r0).length : Int) a1 a0 a2 a5 ([] : List Window) ((m_rise_look a0 a1 a2 a5).r0) (0 : Int) (List.replicate ((((m_rise_look a0 a1 a2 a5).r0).length : Int).toNat) (⟨⟨⟨(0 : Int), (0 : Int)⟩, ⟨(0 : Int), (0 : Int)⟩, ⟨(0 : Int), (0 : Int)⟩⟩, ⟨(0 : Int), (0 : Int)⟩⟩ : View))).m5) a3 ([] : List Window)).p20)).r1⟩ else (bif Nat.beq (lp_rise_All_1 a4 (0 : Int) a1 a2 ([] : List Window) ((lp_rise_All_0 a3 a4 (0 : Int) (((m_rise_look a0 a1 a2 a5).r0).length : Int) a1 a0 a2 a5 ([] : List Window) ((m_rise_look a0 a1 a2 a5).r0) (0 : Int) (List.replicate ((((m_rise_look a0 a1 a2 a5).r0).length : Int).toNat) (⟨⟨⟨(0 : Int), (0 : Int)⟩, ⟨(0 : Int), (0 : Int)⟩, ⟨(0 : Int), (0 : Int)⟩⟩, ⟨(0 : Int), (0 : Int)⟩⟩ : View))).m5) a3 ([] : List Window)).k 1 then ⟨true, ((lp_rise_All_1 a4 (0 : Int) a1 a2 ([] : List Window) ((lp_rise_All_0 a3 a4 (0 : Int) (((m_rise_look a0 a1 a2 a5).r0).length : Int) a1 a0 a2 a5 ([] : List Window) ((m_rise_look a0 a1 a2 a5).r0) (0 : Int) (List.replicate ((((m_rise_look a0 a1 a2 a5).r0).length : Int).toNat) (⟨⟨⟨(0 : Int), (0 : Int)⟩, ⟨(0 : Int), (0 : Int)⟩, ⟨(0 : Int), (0 : Int)⟩⟩, ⟨(0 : Int), (0 : Int)⟩⟩ : View))).m5) a3 ([] : List Window)).m4), (0 : Int)⟩ else ⟨false, [], 0⟩)) else ⟨false, [], 0⟩)) else ⟨false, [], 0⟩)))) else ⟨false, [], 0⟩)) else ⟨false, [], 0⟩)) else ⟨false, [], 0⟩
def F_rise_All (_a0 : Globe) (a1 : List Site) (_a2 : Source) (_a3 : Int) (_a4 : Int) (_a5 : Frac) (K : AV → List Blk → Ans) (r : O_rise_All) : Ans := bif r.ok then K (.tup [.c (.aslice 1 none), .c (.d (.int .i64 r.r1))]) [.arr none .site a1, .arr (some 52) .win r.r0] else none
theorem e_rise_All (a0 : Globe) (a1 : List Site) (a2 : Source) (a3 : Int) (a4 : Int) (a5 : Frac) (K : AV → List Blk → Ans) : evFn Tryz.prog GT EQT T_rise_tick XT (orL L_rise_All_1 (orL L_rise_All_0 noL)) 80 7 [.v (.agg [.int .i64 a0.a, .int .i64 a0.b]), .v (.c (.aslice 0 none)), .v (.agg [.str a2.name, .int .i64 a2.ra, .int .i64 a2.dec]), .v (.c (.d (.int .i64 a3))), .v (.c (.d (.int .i64 a4))), .v (.agg [.int .i64 a5.num, .int .i64 a5.den])] [.arr none .site a1] (fun v M => K (finR 1 v M).1 (finR 1 v M).2) = F_rise_All a0 a1 a2 a3 a4 a5 K (m_rise_All a0 a1 a2 a3 a4 a5) := by
  unfold m_rise_All
  refine Eq.trans ?_ (Eq.symm (pushT (pushT rfl (pushT (pushT rfl (pushT (pushT rfl (pushT rfl (pushT rfl (pushT (pushT rfl (pushT (pushT rfl (pushT rfl rfl)) rfl)) rfl)))) rfl)) rfl)) rfl))
  kernel_rfl
theorem lok_rise_All : ∀ fn c, Tryz.prog.funcs[7]? = some fn → fn.body = some c → LOKn Tryz.prog GT gbT 1 (orL L_rise_All_1 (orL L_rise_All_0 noL)) (loopsIn c) := by
  refine LOKn.ofF fun b hb => ?_
  have e : loopsF Tryz.prog 7 = [loopB Tryz.prog 7 0, loopB Tryz.prog 7 1] := by kernel_rfl
  rw [e] at hb
  simp only [List.mem_cons, List.not_mem_nil, or_false] at hb
  rcases hb with rfl | rfl
  · exact (LOKbn.or (LOKbn.lamN_other (by kernel_rfl)) (LOKbn.or k_rise_All_0 (fun _ _ _ _ _ _ _ h => h.elim)))
  · exact (LOKbn.or k_rise_All_1 (LOKbn.or (LOKbn.lamN_other (by kernel_rfl)) (fun _ _ _ _ _ _ _ h => h.elim)))
theorem c_rise_All (a0 : Globe) (a1 : List Site) (a2 : Source) (a3 : Int) (a4 : Int) (a5 : Frac) (hd : (m_rise_All a0 a1 a2 a3 a4 a5).ok = true) : CallsA Tryz.prog GT gbT 7 [.v (.agg [.int .i64 a0.a, .int .i64 a0.b]), .v (.c (.aslice 0 none)), .v (.agg [.str a2.name, .int .i64 a2.ra, .int .i64 a2.dec]), .v (.c (.d (.int .i64 a3))), .v (.c (.d (.int .i64 a4))), .v (.agg [.int .i64 a5.num, .int .i64 a5.den])] [.arr none .site a1] (.tup [.c (.aslice 1 none), .c (.d (.int .i64 ((m_rise_All a0 a1 a2 a3 a4 a5).r1)))]) [.arr none .site a1, .arr (some 52) .win ((m_rise_All a0 a1 a2 a3 a4 a5).r0)] := by
  refine CallsA.ofEvR g_rise_tick hEQT hmT (n0 := 1) rfl lok_rise_All ((e_rise_All a0 a1 a2 a3 a4 a5 (fun v M => some (Res.fin v M))).trans ?_)
  unfold F_rise_All
  rw [hd]
  rfl
def s_rise_All : List AV → List Blk → (AV → List Blk → Ans) → Ans := fun xs bs K => match xs, bs with
  | [.v (.agg [.int .i64 a0_0, .int .i64 a0_1]), .v (.c (.aslice 0 none)), .v (.agg [.str a2_0, .int .i64 a2_1, .int .i64 a2_2]), .v (.c (.d (.int .i64 a3))), .v (.c (.d (.int .i64 a4))), .v (.agg [.int .i64 a5_0, .int .i64 a5_1])], [.arr none .site a1] => F_rise_All (⟨a0_0, a0_1⟩ : Globe) a1 (⟨a2_0, a2_1, a2_2⟩ : Source) a3 a4 (⟨a5_0, a5_1⟩ : Frac) K (m_rise_All (⟨a0_0, a0_1⟩ : Globe) a1 (⟨a2_0, a2_1, a2_2⟩ : Source) a3 a4 (⟨a5_0, a5_1⟩ : Frac))
  | _, _ => none
def T_rise_All : Nat → List AV → List Blk → (AV → List Blk → Ans) → Ans := upd T_rise_tick 7 s_rise_All
theorem g_rise_All : GOK Tryz.prog GT gbT T_rise_All XT := by
  refine GOK.upd g_rise_tick (fun args w => Tryz.call7 args w) fun xs bs K r h => ?_
  unfold s_rise_All at h
  split at h
  · unfold F_rise_All at h
    simp only [cond_eq_ite] at h
    split at h
    · rename_i hd
      exact ⟨_, _, c_rise_All _ _ _ _ _ _ hd, h⟩
    · cases h
  · cases h
structure O_rise_State where
  ok : Bool
  r0 : Int
  r1 : Int
def m_rise_State (a0 : Globe) (a1 : Site) (a2 : Source) (a3 : Int) (a4 : Frac) : O_rise_State := bif (m_rise_look a0 ([a1] : List Site) a2 a4).ok then (bif ((m_rise_look a0 ([a1] : List Site) a2 a4).r1 != (0 : Int)) then ⟨true, (0 : Int), (m_rise_look a0 ([a1] : List Site) a2 a4).r1⟩ else (bif ((atS ⟨a2.name, a2.ra, a2.dec⟩ a3).2 != (0 : Int)) then ⟨true, (0 : Int), (atS ⟨a2.name, a2.ra, a2.dec⟩ a3).2⟩ else (bif (decide ((0 : Int) ≤ (0 : Int)) && decide ((0 : Int) < (((m_rise_look a0 ([a1] : List Site) a2 a4).r0).length : Int))) then (bif (m_rise_viewOf a0 (((m_rise_look a0 ([a1] : List Site) a2 a4).r0).getD 0 (ET.z .vec)) a4).ok then (bif ((m_rise_viewOf a0 (((m_rise_look a0 ([a1] : List Site) a2 a4).r0).getD 0 (ET.z .vec)) a4).r1 != (0 : Int)) then ⟨true, (0 : Int), (m_rise_viewOf a0 (((m_rise_look a0 ([a1] : List Site) a2 a4).r0).getD 0 (ET.z .vec)) a4).r1⟩ else (bif (m__rise_view__state ((m_rise_viewOf a0 (((m_rise_look a0 ([a1] : List Site) a2 a4).r0).getD 0 (ET.z .vec)) a4).r0) ((atS ⟨a2.name, a2.ra, a2.dec⟩ a3).1)).ok then ⟨true, (m__rise_view__state ((m_rise_viewOf a0 (((m_rise_look a0 ([a1] : List Site) a2 a4).r0).getD 0 (ET.z .vec)) a4).r0) ((atS ⟨a2.name, a2.ra, a2.dec⟩ a3).1)).r0, (m__rise_view__state ((m_rise_viewOf a0 (((m_rise_look a0 ([a1] : List Site) a2 a4).r0).getD 0 (ET.z .vec)) a4).r0) ((atS ⟨a2.name, a2.ra, a2.dec⟩ a3).1)).r1⟩ else ⟨false, 0, 0⟩)) else ⟨false, 0, 0⟩) else ⟨false, 0, 0⟩))) else ⟨false, 0, 0⟩
def F_rise_State (_a0 : Globe) (_a1 : Site) (_a2 : Source) (_a3 : Int) (_a4 : Frac) (K : AV → List Blk → Ans) (r : O_rise_State) : Ans := bif r.ok then K (.tup [.c (.d (.int .i64 r.r0)), .c (.d (.int .i64 r.r1))]) [] else none
theorem e_rise_State (a0 : Globe) (a1 : Site) (a2 : Source) (a3 : Int) (a4 : Frac) (K : AV → List Blk → Ans) : evFn Tryz.prog GT EQT T_rise_All XT noL 80 28 [.v (.agg [.int .i64 a0.a, .int .i64 a0.b]), .v (.agg [.str a1.name, .int .i64 a1.s.num, .int .i64 a1.s.den, .int .i64 a1.t.num, .int .i64 a1.t.den]), .v (.agg [.str a2.name, .int .i64 a2.ra, .int .i64 a2.dec]), .v (.c (.d (.int .i64 a3))), .v (.agg [.int .i64 a4.num, .int .i64 a4.den])] [] (fun v M => K (finR 0 v M).1 (finR 0 v M).2) = F_rise_State a0 a1 a2 a3 a4 K (m_rise_State a0 a1 a2 a3 a4) := by
  unfold m_rise_State
  refine Eq.trans ?_ (Eq.symm (pushT (pushT rfl (pushT rfl (pushT (pushT (pushT rfl (pushT rfl rfl)) rfl) rfl))) rfl))
  kernel_rfl
theorem c_rise_State (a0 : Globe) (a1 : Site) (a2 : Source) (a3 : Int) (a4 : Frac) (hd : (m_rise_State a0 a1 a2 a3 a4).ok = true) : CallsA Tryz.prog GT gbT 28 [.v (.agg [.int .i64 a0.a, .int .i64 a0.b]), .v (.agg [.str a1.name, .int .i64 a1.s.num, .int .i64 a1.s.den, .int .i64 a1.t.num, .int .i64 a1.t.den]), .v (.agg [.str a2.name, .int .i64 a2.ra, .int .i64 a2.dec]), .v (.c (.d (.int .i64 a3))), .v (.agg [.int .i64 a4.num, .int .i64 a4.den])] [] (.tup [.c (.d (.int .i64 ((m_rise_State a0 a1 a2 a3 a4).r0))), .c (.d (.int .i64 ((m_rise_State a0 a1 a2 a3 a4).r1)))]) [] := by
  refine CallsA.ofEvR g_rise_All hEQT hmT (n0 := 0) rfl (fun _ _ _ _ => LOKn.nil) ((e_rise_State a0 a1 a2 a3 a4 (fun v M => some (Res.fin v M))).trans ?_)
  unfold F_rise_State
  rw [hd]
  rfl
def s_rise_State : List AV → List Blk → (AV → List Blk → Ans) → Ans := fun xs bs K => match xs, bs with
  | [.v (.agg [.int .i64 a0_0, .int .i64 a0_1]), .v (.agg [.str a1_0, .int .i64 a1_1, .int .i64 a1_2, .int .i64 a1_3, .int .i64 a1_4]), .v (.agg [.str a2_0, .int .i64 a2_1, .int .i64 a2_2]), .v (.c (.d (.int .i64 a3))), .v (.agg [.int .i64 a4_0, .int .i64 a4_1])], [] => F_rise_State (⟨a0_0, a0_1⟩ : Globe) (⟨a1_0, ⟨a1_1, a1_2⟩, ⟨a1_3, a1_4⟩⟩ : Site) (⟨a2_0, a2_1, a2_2⟩ : Source) a3 (⟨a4_0, a4_1⟩ : Frac) K (m_rise_State (⟨a0_0, a0_1⟩ : Globe) (⟨a1_0, ⟨a1_1, a1_2⟩, ⟨a1_3, a1_4⟩⟩ : Site) (⟨a2_0, a2_1, a2_2⟩ : Source) a3 (⟨a4_0, a4_1⟩ : Frac))
  | _, _ => none
def T_rise_State : Nat → List AV → List Blk → (AV → List Blk → Ans) → Ans := upd T_rise_All 28 s_rise_State
theorem g_rise_State : GOK Tryz.prog GT gbT T_rise_State XT := by
  refine GOK.upd g_rise_All (fun args w => Tryz.call28 args w) fun xs bs K r h => ?_
  unfold s_rise_State at h
  split at h
  · unfold F_rise_State at h
    simp only [cond_eq_ite] at h
    split at h
    · rename_i hd
      exact ⟨_, _, c_rise_State _ _ _ _ _ hd, h⟩
    · cases h
  · cases h
structure O_rise_Windows where
  ok : Bool
  r0 : List Window
  r1 : Int
def m_rise_Windows (a0 : Globe) (a1 : Site) (a2 : Source) (a3 : Int) (a4 : Int) (a5 : Frac) : O_rise_Windows := bif (m_rise_All a0 ([a1] : List Site) a2 a3 a4 a5).ok then ⟨true, (m_rise_All a0 ([a1] : List Site) a2 a3 a4 a5).r0, (m_rise_All a0 ([a1] : List Site) a2 a3 a4 a5).r1⟩ else ⟨false, [], 0⟩
def F_rise_Windows (_a0 : Globe) (_a1 : Site) (_a2 : Source) (_a3 : Int) (_a4 : Int) (_a5 : Frac) (K : AV → List Blk → Ans) (r : O_rise_Windows) : Ans := bif r.ok then K (.tup [.c (.aslice 0 none), .c (.d (.int .i64 r.r1))]) [.arr (some 52) .win r.r0] else none
theorem e_rise_Windows (a0 : Globe) (a1 : Site) (a2 : Source) (a3 : Int) (a4 : Int) (a5 : Frac) (K : AV → List Blk → Ans) : evFn Tryz.prog GT EQT T_rise_State XT noL 80 6 [.v (.agg [.int .i64 a0.a, .int .i64 a0.b]), .v (.agg [.str a1.name, .int .i64 a1.s.num, .int .i64 a1.s.den, .int .i64 a1.t.num, .int .i64 a1.t.den]), .v (.agg [.str a2.name, .int .i64 a2.ra, .int .i64 a2.dec]), .v (.c (.d (.int .i64 a3))), .v (.c (.d (.int .i64 a4))), .v (.agg [.int .i64 a5.num, .int .i64 a5.den])] [] (fun v M => K (finR 0 v M).1 (finR 0 v M).2) = F_rise_Windows a0 a1 a2 a3 a4 a5 K (m_rise_Windows a0 a1 a2 a3 a4 a5) := by
  unfold m_rise_Windows
  refine Eq.trans ?_ (Eq.symm (pushT rfl rfl))
  kernel_rfl
theorem c_rise_Windows (a0 : Globe) (a1 : Site) (a2 : Source) (a3 : Int) (a4 : Int) (a5 : Frac) (hd : (m_rise_Windows a0 a1 a2 a3 a4 a5).ok = true) : CallsA Tryz.prog GT gbT 6 [.v (.agg [.int .i64 a0.a, .int .i64 a0.b]), .v (.agg [.str a1.name, .int .i64 a1.s.num, .int .i64 a1.s.den, .int .i64 a1.t.num, .int .i64 a1.t.den]), .v (.agg [.str a2.name, .int .i64 a2.ra, .int .i64 a2.dec]), .v (.c (.d (.int .i64 a3))), .v (.c (.d (.int .i64 a4))), .v (.agg [.int .i64 a5.num, .int .i64 a5.den])] [] (.tup [.c (.aslice 0 none), .c (.d (.int .i64 ((m_rise_Windows a0 a1 a2 a3 a4 a5).r1)))]) [.arr (some 52) .win ((m_rise_Windows a0 a1 a2 a3 a4 a5).r0)] := by
  refine CallsA.ofEvR g_rise_State hEQT hmT (n0 := 0) rfl (fun _ _ _ _ => LOKn.nil) ((e_rise_Windows a0 a1 a2 a3 a4 a5 (fun v M => some (Res.fin v M))).trans ?_)
  unfold F_rise_Windows
  rw [hd]
  rfl
def s_rise_Windows : List AV → List Blk → (AV → List Blk → Ans) → Ans := fun xs bs K => match xs, bs with
  | [.v (.agg [.int .i64 a0_0, .int .i64 a0_1]), .v (.agg [.str a1_0, .int .i64 a1_1, .int .i64 a1_2, .int .i64 a1_3, .int .i64 a1_4]), .v (.agg [.str a2_0, .int .i64 a2_1, .int .i64 a2_2]), .v (.c (.d (.int .i64 a3))), .v (.c (.d (.int .i64 a4))), .v (.agg [.int .i64 a5_0, .int .i64 a5_1])], [] => F_rise_Windows (⟨a0_0, a0_1⟩ : Globe) (⟨a1_0, ⟨a1_1, a1_2⟩, ⟨a1_3, a1_4⟩⟩ : Site) (⟨a2_0, a2_1, a2_2⟩ : Source) a3 a4 (⟨a5_0, a5_1⟩ : Frac) K (m_rise_Windows (⟨a0_0, a0_1⟩ : Globe) (⟨a1_0, ⟨a1_1, a1_2⟩, ⟨a1_3, a1_4⟩⟩ : Site) (⟨a2_0, a2_1, a2_2⟩ : Source) a3 a4 (⟨a5_0, a5_1⟩ : Frac))
  | _, _ => none
def T_rise_Windows : Nat → List AV → List Blk → (AV → List Blk → Ans) → Ans := upd T_rise_State 6 s_rise_Windows
theorem g_rise_Windows : GOK Tryz.prog GT gbT T_rise_Windows XT := by
  refine GOK.upd g_rise_State (fun args w => Tryz.call6 args w) fun xs bs K r h => ?_
  unfold s_rise_Windows at h
  split at h
  · unfold F_rise_Windows at h
    simp only [cond_eq_ite] at h
    split at h
    · rename_i hd
      exact ⟨_, _, c_rise_Windows _ _ _ _ _ _ hd, h⟩
    · cases h
  · cases h
end Go.Ev

