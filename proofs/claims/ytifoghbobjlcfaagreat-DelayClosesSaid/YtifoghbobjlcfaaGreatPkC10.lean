/-
  array.place: the stations with their places, or an error; by a loop over the pairs of stations. No condition.
  Plain functions that mirror functions of the program, and that it computes them. No condition beyond those of the statements.
  Nothing is said here.
  Arrays of stations as plain functions: which are valid, their places, their baselines; the program's and the reference's are the same. No condition.
  Baselines of arrays and their projections as plain functions: the program's and the reference's are the same. No condition.
  Baselines that close: opposite ones are opposite, two in a row sum to the third. No condition.
-/
import Derived.Test.YtifoghbobjlcfaaGreatPkC9
set_option maxRecDepth 100000
namespace Go.Ev
open Go Go.Proofs Go.RowKit
def dupAt (ps : List Placed) (i j : Nat) : Bool :=
  bif ((ps.getD i (ET.z .placed)).site.name.data.toList == (ps.getD j (ET.z .placed)).site.name.data.toList) then true else
    eqAll [.int .i64 (ps.getD i (ET.z .placed)).at_.x.num, .int .i64 (ps.getD i (ET.z .placed)).at_.x.den, .int .i64 (ps.getD i (ET.z .placed)).at_.y.num, .int .i64 (ps.getD i (ET.z .placed)).at_.y.den, .int .i64 (ps.getD i (ET.z .placed)).at_.z.num, .int .i64 (ps.getD i (ET.z .placed)).at_.z.den]
      [.int .i64 (ps.getD j (ET.z .placed)).at_.x.num, .int .i64 (ps.getD j (ET.z .placed)).at_.x.den, .int .i64 (ps.getD j (ET.z .placed)).at_.y.num, .int .i64 (ps.getD j (ET.z .placed)).at_.y.den, .int .i64 (ps.getD j (ET.z .placed)).at_.z.num, .int .i64 (ps.getD j (ET.z .placed)).at_.z.den]
def dupP (ps : List Placed) : Bool := (List.range ps.length).any fun j => (List.range j).any fun i => dupAt ps i j
theorem dupP_true {ps : List Placed} {i j : Nat} (h1 : i < j) (h2 : j < ps.length) (h : dupAt ps i j = true) : dupP ps = true := by
  unfold dupP
  rw [List.any_eq_true]
  exact ⟨j, List.mem_range.2 h2, List.any_eq_true.2 ⟨i, List.mem_range.2 h1, h⟩⟩
theorem dupP_false {ps : List Placed} (h : ∀ i j, i < j → j < ps.length → dupAt ps i j = false) : dupP ps = false := by
  unfold dupP
  rw [List.any_eq_false]
  intro j hj
  rw [List.any_eq_true]
  rintro ⟨i, hi, he⟩
  rw [h i j (List.mem_range.1 hi) (List.mem_range.1 hj)] at he
  cases he
structure O_array_place where
  ok : Bool
  r0 : List Placed
  r1 : Int
def m_array_place (a0 : Globe) (a1 : List Site) : O_array_place :=
  bif Nat.beq (m0_array_place a0 a1).k 0 then ⟨true, [], (m0_array_place a0 a1).e⟩
  else bif Nat.beq (m0_array_place a0 a1).k 1 then (bif dupP (m0_array_place a0 a1).ps then ⟨true, [], 14⟩ else ⟨true, (m0_array_place a0 a1).ps, 0⟩)
  else ⟨false, [], 0⟩
theorem round_eval (l : List Site) (ps : List Placed) (i j : Nat) (hi : i < j) (hj : j < ps.length) :
    evCode Tryz.prog GT EQT TP XT noL 120 (bodC (sndC (fstC (splitC 5 (bodyC Tryz.prog 76)).2))) (tset (.v (.c (.ptr 6 0))) (tset (.v (.agg [.int .i64 i, .int .i64 j])) (headT [4, 5, 8, 55] 88 [.v (.c (.ptr 1 0)), .v (.c (.ptr 2 0)), .v (.c (.ptr 3 0)), .v (.c (.fn 131 [4]))]) 56) 13) [.arr none .site l, .cell 126 .nilS, .rw 32 [.int .i64 (0 : Int)], .cell 126 (.aslice 5 none), .dead, .arr (some 132) .placed ps, .rw 161 [.int .i64 i, .int .i64 j]] 7 (cutR 6) =
    bif dupAt ps i j then some (.st .ret ⟨0, .any, []⟩ [.arr none .site l, .cell 126 .nilS, .rw 32 [.int .i64 (14 : Int)], .cell 126 (.aslice 5 none), .dead, .arr (some 132) .placed ps] 7)
    else some (.st .normal ⟨0, .any, []⟩ [.arr none .site l, .cell 126 .nilS, .rw 32 [.int .i64 (0 : Int)], .cell 126 (.aslice 5 none), .dead, .arr (some 132) .placed ps] 7) := by
  refine (wb_array_place l ps i j).trans ?_
  unfold dupAt
  simp only [nn_t, lt_t (show i < ps.length by omega), lt_t hj, Bool.and_self, cond_true, Int.toNat_natCast]
  cases ((ps.getD i (ET.z .placed)).site.name.data.toList == (ps.getD j (ET.z .placed)).site.name.data.toList) <;> rfl
theorem tail_eval (l : List Site) (ps : List Placed) : evCode Tryz.prog GT EQT TP XT noL 20 (fstC (sndC (splitC 5 (bodyC Tryz.prog 76)).2)) (headT [4, 5, 8, 55] 88 [.v (.c (.ptr 1 0)), .v (.c (.ptr 2 0)), .v (.c (.ptr 3 0)), .v (.c (.fn 131 [4]))])
      [.arr none .site l, .cell 126 .nilS, .rw 32 [.int .i64 (0 : Int)], .cell 126 (.aslice 5 none), .dead, .arr (some 132) .placed ps] 6 (fun x T M N => some (.st x T M N)) =
    some (.st .normal (tset (.v (.c (.aslice 5 none))) (headT [4, 5, 8, 55] 88 [.v (.c (.ptr 1 0)), .v (.c (.ptr 2 0)), .v (.c (.ptr 3 0)), .v (.c (.fn 131 [4]))]) 87)
      [.arr none .site l, .cell 126 (.aslice 5 none), .rw 32 [.int .i64 (0 : Int)], .cell 126 (.aslice 5 none), .dead, .arr (some 132) .placed ps] 6) := by
  kernel_rfl
theorem shape_place : (splitC 5 (bodyC Tryz.prog 76)).2 = .seq (.seq (fstC (fstC (splitC 5 (bodyC Tryz.prog 76)).2)) (.block 2 (.rangeFunc (.tmp 55) #[56] (asgC (sndC (fstC (splitC 5 (bodyC Tryz.prog 76)).2))) (bodC (sndC (fstC (splitC 5 (bodyC Tryz.prog 76)).2)))))) (.seq (fstC (sndC (splitC 5 (bodyC Tryz.prog 76)).2)) .ret) := by kernel_rfl
theorem none_result {P : Program} {wA w : World} {W : Nat → Prop} {σ τ : Sg} {T : TS} {M : List Blk} {a : Act} {l : List Site} {e : Int} {fn : Func} {n0 : Nat} (ty : Nat) (hn0 : n0 = 1) (hfr : ∀ b, n0 ≤ b → σ b = none) (hle : leB n0 σ τ) (hT : TRel τ T a) (hM : MRel wA W τ M w) (hm0 : mget M 0 = .arr none .site l)
    (hr : resDs P T M fn.results.toList = some [.c .nilS, .c (.d (.int .i64 e))]) : ∃ v, (results fn a.tmps).run P w = .ok v w ∧ ∃ υ, σ.le υ ∧ AVRel υ (.tup [.c (.aslice 1 none), .c (.d (.int .i64 e))]) v ∧ MRel wA W υ [.arr none .site l, .arr (some ty) .placed []] w := by
  subst hn0
  obtain ⟨v, h1, h2⟩ := results_rel hT hM hr
  refine ⟨v, h1, fun c => if c = 0 then τ 0 else if c = 1 then some ⟨0, 0, 0, true, 0, ET.len .placed⟩ else none, fun b L hL => ?_, ?_, ?_⟩
  · have hb : b < 1 := by
      rcases Nat.lt_or_ge b 1 with h | h
      · exact h
      · rw [hfr b h] at hL; cases hL
    obtain rfl : b = 0 := by omega
    exact hle 0 L hb hL
  · obtain ⟨vs, e1, e2⟩ := h2
    refine ⟨vs, e1, ?_⟩
    cases hv : vs.toList with
    | nil => rw [hv] at e2; exact e2.elim
    | cons v1 r =>
      rw [hv] at e2
      obtain ⟨k1, k2⟩ := e2
      refine ⟨⟨_, rfl, .inl ⟨rfl, k1⟩⟩, ?_⟩
      cases r with
      | nil => exact k2.elim
      | cons v2 s =>
        obtain ⟨k3, k4⟩ := k2
        refine ⟨k3, ?_⟩
        cases s with
        | nil => trivial
        | cons _ _ => exact k4.elim
  · refine ⟨fun b => ?_, fun b _ _ _ _ hb => ?_, fun b _ hb => ?_, hM.kept⟩
    · match b with
      | 0 =>
        have := hM.blk 0
        rw [hm0] at this
        obtain ⟨L, h3, h4⟩ := this
        exact ⟨L, h3, h4⟩
      | 1 => exact ⟨_, rfl, rfl, rfl, by simp [ET.flat], rfl, rfl, .inl rfl⟩
      | _ + 2 => trivial
    · match b with
      | 0 => cases l <;> cases hb
      | 1 => cases hb
      | _ + 2 => cases hb
    · match b with
      | 0 => cases l <;> cases hb
      | 1 => cases hb
      | _ + 2 => cases hb
theorem some_result {P : Program} {wA w : World} {W : Nat → Prop} {σ τ : Sg} {T : TS} {M : List Blk} {a : Act} {l : List Site} {ps : List Placed} {e : Int} {fn : Func} {n0 b5 : Nat} (ty : Nat) (hn0 : n0 = 1) (hb5 : 1 ≤ b5) (hfr : ∀ b, n0 ≤ b → σ b = none) (hle : leB n0 σ τ) (hT : TRel τ T a) (hM : MRel wA W τ M w) (hm0 : mget M 0 = .arr none .site l) (hm5 : mget M b5 = .arr (some ty) .placed ps)
    (hr : resDs P T M fn.results.toList = some [.c (.aslice b5 none), .c (.d (.int .i64 e))]) : ∃ v, (results fn a.tmps).run P w = .ok v w ∧ ∃ υ, σ.le υ ∧ AVRel υ (.tup [.c (.aslice 1 none), .c (.d (.int .i64 e))]) v ∧ MRel wA W υ [.arr none .site l, .arr (some ty) .placed ps] w := by
  subst hn0
  obtain ⟨v, h1, h2⟩ := results_rel hT hM hr
  refine ⟨v, h1, _, fun b L hL => ?_, ?_, hM.ren (N' := 2) (fun c => if c = 1 then b5 else c) (fun c => ?_) (fun c c' h1 h2 h3 => ?_)⟩
  · have hb : b < 1 := by
      rcases Nat.lt_or_ge b 1 with h | h
      · exact h
      · rw [hfr b h] at hL; cases hL
    obtain rfl : b = 0 := by omega
    exact hle 0 L hb hL
  · have : AVRel τ (renA (fun c => if c = 1 then b5 else c) (.tup [.c (.aslice 1 none), .c (.d (.int .i64 e))])) v := h2
    refine AVRel.ren (fun b hb => ?_) this
    simp [refsX, refsV, refsC] at hb
    subst hb
    rfl
  · match c with
    | 0 => exact .inr ⟨hm0, by omega, fun b hb => by cases hb⟩
    | 1 => exact .inr ⟨hm5, by omega, fun b hb => by cases hb⟩
    | _ + 2 => exact .inl rfl
  · split at h3 <;> split at h3 <;> omega
set_option maxHeartbeats 1000000 in
theorem place_calls (g : Globe) (l : List Site) (hok : (m_array_place g l).ok = true) :
    CallsA Tryz.prog GT gbT 76 [.v (.agg [.int .i64 g.a, .int .i64 g.b]), .v (.c (.aslice 0 none))] [.arr none .site l] (.tup [.c (.aslice 1 none), .c (.d (.int .i64 (m_array_place g l).r1))]) [.arr none .site l, .arr (some 132) .placed (m_array_place g l).r0] := by
  intro σ w args hargs hM hG hfr
  have hbody : Tryz.f76.body = some (bodyC Tryz.prog 76) := by kernel_rfl
  have hE := e0_array_place g l
  have hL : ∀ c ∈ (splitC 5 (bodyC Tryz.prog 76)).1, LOKn Tryz.prog GT gbT 1 LP (loopsIn c) := fun c hc b hb => lok_array_place _ _ Tryz.func76 hbody b (splitC_loops _ _ _ hc b hb)
  have hLc : LOKn Tryz.prog GT gbT 1 LP (loopsIn (fstC (fstC (splitC 5 (bodyC Tryz.prog 76)).2))) := by
    have : loopsIn (fstC (fstC (splitC 5 (bodyC Tryz.prog 76)).2)) = [] := by kernel_rfl
    rw [this]
    intro b hb
    cases hb
  have hlen := hargs.length
  have hT0 : TRel σ (frameT [.v (.agg [.int .i64 g.a, .int .i64 g.b]), .v (.c (.aslice 0 none))] 86) { tmps := args ++ Array.replicate (Tryz.f76.ntmps - args.size) undef, defers := [] } := by
    refine ⟨?_, fun t => ?_, rfl⟩
    · have : Tryz.f76.ntmps = 88 := by kernel_rfl
      simp [frameT, TS.length] at hlen ⊢
      omega
    · have := enter_rel 86 hargs t
      rw [frame_get]
      rw [Array.getD_eq_getD_getElem?]
      rw [List.getD_eq_getElem?_getD] at this
      rw [← Array.getElem?_toList, Array.toList_append, Array.toList_replicate]
      have e : Tryz.f76.ntmps - args.size = 86 := by
        have : Tryz.f76.ntmps = 88 := by kernel_rfl
        simp at hlen
        omega
      rw [e]
      exact this
  refine callsIn_wide.1 (callsIn_of_wp_marks (n := 10) Tryz.func76 hbody trivial ?_ rfl)
  rw [wpIn_wide]
  rw [← splitC_eq 5 (bodyC Tryz.prog 76), shape_place]
  unfold m_array_place at hok ⊢
  unfold F0_array_place at hE
  cases hk0 : Nat.beq (m0_array_place g l).k 0 with
  | true =>
    rw [hk0] at hE
    simp only [cond_true] at hE ⊢
    refine place_pre hEQT hmT gP hL hLc hE _ _ w (Wof σ [.arr none .site l]) σ _ w _ hG hT0 hM hfr fun τ a' w' hle hT' hM' hN' => ?_
    show LeavesInM _ _ _ _ _ _ a'.defers _ _
    rw [hT'.df]
    obtain ⟨v, hv1, υ, hv2, hv3, hv4⟩ := none_result (P := Tryz.prog) (fn := Tryz.f76) 132 rfl hfr hle hT' hM' rfl (by kernel_rfl)
    exact ⟨v, hv1, v, υ, rfl, hv2, hv3, hv4⟩
  | false =>
    rw [hk0] at hE hok
    simp only [cond_false] at hE hok ⊢
    cases hk1 : Nat.beq (m0_array_place g l).k 1 with
    | false => rw [hk1] at hok; cases hok
    | true =>
    rw [hk1] at hE
    simp only [cond_true] at hE ⊢
    generalize (m0_array_place g l).ps = ps at hE ⊢
    refine place_pre hEQT hmT gP hL hLc hE _ _ w (Wof σ [.arr none .site l]) σ _ w _ hG hT0 hM hfr fun τ a' w' hle hT' hM' hN' => ?_
    -- what lies in memory
    obtain ⟨Mr, hMrd⟩ : ∃ Mr : List Blk, Mr = [.arr none .site l, .cell 126 .nilS, .rw 32 [.int .i64 (0 : Int)], .cell 126 (.aslice 5 none), .dead, .arr (some 132) .placed ps] := ⟨_, rfl⟩
    have d0 : ∃ L, τ 0 = some L := by obtain ⟨L, h, _⟩ := hM'.blk 0; exact ⟨L, h⟩
    have d1 : ∃ L, τ 1 = some L := by obtain ⟨L, _, h, _⟩ := hM'.blk 1; exact ⟨L, h⟩
    have d2 : ∃ L, τ 2 = some L := by obtain ⟨L, _, h, _⟩ := hM'.blk 2; exact ⟨L, h⟩
    have d3 : ∃ L, τ 3 = some L := by obtain ⟨L, _, h, _⟩ := hM'.blk 3; exact ⟨L, h⟩
    have d5 : ∃ L, τ 5 = some L := by obtain ⟨L, h, _⟩ := hM'.blk 5; exact ⟨L, h⟩
    have hn : ps.length ≤ 9223372036854775807 := by
      obtain ⟨_, _, _, _, _, _, _, L5, h1, h2⟩ := hM'.blk 3
      obtain ⟨L5', h3, h4, _⟩ := hM'.blk 5
      rw [h1] at h3
      cases h3
      rcases h2 with ⟨h2, _⟩ | ⟨_, _, _, h2, _⟩
      · omega
      · simp only [maxLen] at h2; omega
    obtain ⟨L4, cur4, q1, q2, q3, q4, q5, q6, q7⟩ := hM'.blk 4
    obtain ⟨bn, hbn⟩ : ∃ bn, L4.blk = bn := ⟨_, rfl⟩
    rw [hbn] at q4
    have hbnlt : bn < w'.heap.size := (Array.getElem?_eq_some_iff.1 q4).1
    have hbncell : w'.cell? ⟨bn, 0, none⟩ = some (.int .i64 (ps.length : Int)) := by
      rw [cell_of_heap q4]
      have : (cur4.toList.take 1)[0]? = ([D.int .i64 (ps.length : Int)].map D.val)[0]? := by rw [← q7]; rfl
      simpa [D.val] using this
    have hMr : MRel w (Wof σ [.arr none .site l]) τ Mr w' := hM'.congr fun b => by
      rw [hMrd]
      match b with
      | 0 | 1 | 2 | 3 | 5 => exact .inl rfl
      | 4 => exact .inr rfl
      | _ + 6 => exact .inl rfl
    have notbn : ¬ Wof τ Mr bn := by
      rintro ⟨b, L, hw, hL, e⟩
      rw [hMrd] at hw
      refine hM'.sep b 4 L L4 ?_ ?_ rfl hL q1 (by rw [e, hbn])
      · rintro rfl; cases hw
      · match b with
        | 0 | 1 | 2 | 3 | 5 => exact hw
        | 4 => cases hw
        | _ + 6 => exact hw
    have dom : ∀ b, mget Mr b = .dead ∨ ((∃ L, τ b = some L) ∧ ∀ r ∈ refsB (mget Mr b), ∃ L, τ r = some L) := by
      intro b
      rw [hMrd]
      match b with
      | 0 => exact .inr ⟨d0, fun r hr => by cases hr⟩
      | 1 => exact .inr ⟨d1, fun r hr => by cases hr⟩
      | 2 => exact .inr ⟨d2, fun r hr => by cases hr⟩
      | 3 => exact .inr ⟨d3, fun r hr => by simp [mget, gets, refsB, refsC] at hr; subst hr; exact d5⟩
      | 4 => exact .inl rfl
      | 5 => exact .inr ⟨d5, fun r hr => by cases hr⟩
      | _ + 6 => exact .inl rfl
    have domx : ∀ b, mget ([.arr none .site l, .cell 126 .nilS, .rw 32 [.int .i64 (14 : Int)]] : List Blk) b = .dead ∨ ((∃ L, τ b = some L) ∧ ∀ r ∈ refsB (mget ([.arr none .site l, .cell 126 .nilS, .rw 32 [.int .i64 (14 : Int)]] : List Blk) b), ∃ L, τ r = some L) := by
      intro b
      match b with
      | 0 => exact .inr ⟨d0, fun r hr => by cases hr⟩
      | 1 => exact .inr ⟨d1, fun r hr => by cases hr⟩
      | 2 => exact .inr ⟨d2, fun r hr => by cases hr⟩
      | _ + 3 => exact .inl rfl
    -- the function that is ranged over
    obtain ⟨vs, hvs, hvp⟩ := hT'.val 55
    have hvl : vs = #[.pointer (some ⟨bn, 0, none⟩)] := by
      cases hv : vs.toList with
      | nil => rw [hv] at hvp; exact hvp.elim
      | cons v1 r =>
        rw [hv] at hvp
        obtain ⟨⟨L, k1, k2⟩, k3⟩ := hvp
        rw [q1] at k1
        cases k1
        cases r with
        | nil => apply Array.ext'; rw [hv, k2, q2, hbn]
        | cons _ _ => exact k3.elim
    have hg : a'.eval (.tmp 55) = .func (.func 131) #[] #[.pointer (some ⟨bn, 0, none⟩)] := by
      rw [← hvl]
      exact hvs
    have hseq : SeqStopsK Fence.wide (10 - 1) Tryz.prog 131 #[.pointer (some ⟨bn, 0, none⟩)] (encP (n := ps.length)) (fun X Y => Y.heap[bn]? = X.heap[bn]?) (fun ys => ∀ p, p ∈ ys) (fun _ => True) (ps.length * ps.length) w' :=
      fun lp J Jx W hW _ _ hY h0 => pairs1_in 9 lp bn ps.length hn J Jx hY W ((hW.cell (p := ⟨bn, 0, none⟩) hbnlt).trans hbncell) h0
    have hG' : ∀ {τ' : Sg} {M'' : List Blk} {X : World}, MRel w (Wof σ [.arr none .site l]) τ' M'' X → Glob GT gbT (Wof τ' M'') X := fun h => hG.rebase h
    have hwB : w.heap.size ≤ w'.heap.size := hM'.kept.size
    have stay : ∀ {τ' : Sg} {M'' : List Blk} {X Y : World}, X.heap[bn]? = w'.heap[bn]? → ¬ Wof τ' M'' bn → Kept (Wof τ' M'') X Y → Y.heap[bn]? = X.heap[bn]? := fun h1 h2 h3 =>
      h3.block bn (Array.getElem?_eq_some_iff.1 (h1.trans q4)).1 h2
    refine wp_block (wpIn_wide.1 (wpIn_rangeFunc_ownH (n := 10) (α := PairN ps.length) rfl (by decide) hg trivial (fun args w => Tryz.call131 args w) hseq (fun h k => k.trans h)
      (fun W lp o o' hl _ _ _ => World.putObj_heap_other (by omega)) (Below.refl _ _) (fun _ => rfl)
      (fun pre W => (∀ p ∈ pre, dupAt ps p.1.1 p.1.2 = false) ∧ MRel w (Wof σ [.arr none .site l]) τ Mr W ∧ W.heap[bn]? = w'.heap[bn]?)
      (fun c pre W => c = .ret ∧ (∃ p ∈ pre, dupAt ps p.1.1 p.1.2 = true) ∧ MRel w (Wof σ [.arr none .site l]) τ [.arr none .site l, .cell 126 .nilS, .rw 32 [.int .i64 (14 : Int)]] W)
      ?hI ?hIx ⟨fun p hp => (by cases hp), hMr, rfl⟩
      (fun x a2 W => ∃ υ, τ.le υ ∧ TRel υ (tset (.v (.c (.ptr 6 0))) (tset (.v (.agg [.int .i64 (x.1.1 : Int), .int .i64 (x.1.2 : Int)])) (headT [4, 5, 8, 55] 88 [.v (.c (.ptr 1 0)), .v (.c (.ptr 2 0)), .v (.c (.ptr 3 0)), .v (.c (.fn 131 [4]))]) 56) 13) a2 ∧ MRel w (Wof σ [.arr none .site l]) υ (Mr ++ [.rw 161 [.int .i64 (x.1.1 : Int), .int .i64 (x.1.2 : Int)]]) W ∧ (∀ b, 7 ≤ b → υ b = none) ∧ ¬ Wof υ (Mr ++ [.rw 161 [.int .i64 (x.1.1 : Int), .int .i64 (x.1.2 : Int)]]) bn)
      ?hAx ?asg ?bod ?done ?stop))
    case hI =>
      rintro pre X Y row ⟨h1, h2, h3⟩ hg' hr
      refine ⟨h1, h2.grown hg' fun r e => ⟨Nat.le_trans hwB (hr r e).1, (hr r e).2⟩, (hg'.block bn ?_ fun e => ?_).trans h3⟩
      · rw [q4] at h3; exact (Array.getElem?_eq_some_iff.1 h3).1
      · have := (hr bn e.symm).1; omega
    case hIx =>
      rintro c pre X Y row ⟨h1, h2, h3⟩ hg' hr
      exact ⟨h1, h2, h3.grown hg' fun r e => ⟨Nat.le_trans hwB (hr r e).1, (hr r e).2⟩⟩
    case hAx =>
      rintro x a2 _ X Y row ⟨υ, h1, h2, h3, h4⟩ hg' hr
      exact ⟨υ, h1, h2, h3.grown hg' fun r e => ⟨Nat.le_trans hwB (hr r e).1, (hr r e).2⟩, h4⟩
    case asg =>
      rintro lp pre x W K ⟨h1, h2, h3⟩ hK
      have hwa := wa_array_place l ps (x.1.1 : Int) (x.1.2 : Int)
      rw [← hMrd] at hwa
      have hcr := CodeR.ofEv (b := asgC (sndC (fstC (splitC 5 (bodyC Tryz.prog 76)).2))) gP hEQT hmT (by kernel_rfl) hwa
      have hT1 := hT'.put (some 56) (x := .v (.agg [.int .i64 (x.1.1 : Int), .int .i64 (x.1.2 : Int)])) (v := .agg #[.int .i64 (x.1.1 : Int), .int .i64 (x.1.2 : Int)]) ⟨rfl, by
        have hx1 := x.2.1
        have hx2 := x.2.2
        intro d hd
        simp only [List.mem_cons, List.not_mem_nil, or_false] at hd
        rcases hd with rfl | rfl <;> simp only [D.ok, inR, Bool.and_eq_true, decide_eq_true_eq] <;> omega⟩
      have hact : (a'.put (some 56) (.agg #[.int .i64 (x.1.1 : Int), .int .i64 (x.1.2 : Int)])) = { tmps := ((#[56] : Array Tmp).zip (encP x)).foldl (fun t (p, v) => t.setIfInBounds p v) a'.tmps, defers := [] } := by
        simp [Act.put, encP, hT'.df]
      rw [hact] at hT1
      refine hcr lp _ W (Wof τ Mr) τ _ W _ (fun ⟨_, _, h⟩ => h) (hG' h2) hT1 h2.rebase ?_ fun υ a2 W2 hle2 hT2 hM2 hN2 => ?_
      · intro b hb
        exact hN' b hb
      · have hkept := hM2.kept
        have hsince := h2.since hM2
        have hbn2 := stay h3 notbn hkept
        have hap : Mr ++ [.rw 161 [.int .i64 (x.1.1 : Int), .int .i64 (x.1.2 : Int)]] = [.arr none .site l, .cell 126 .nilS, .rw 32 [.int .i64 (0 : Int)], .cell 126 (.aslice 5 none), .dead, .arr (some 132) .placed ps, .rw 161 [.int .i64 (x.1.1 : Int), .int .i64 (x.1.2 : Int)]] := by rw [hMrd]; rfl
        have hnot : ¬ Wof υ (Mr ++ [.rw 161 [.int .i64 (x.1.1 : Int), .int .i64 (x.1.2 : Int)]]) bn := by
          rintro ⟨b, L, hw, hL, e⟩
          rcases hM2.own b L (by rw [hap] at hw; exact hw) hL with h5 | h5
          · exact notbn (e ▸ h5)
          · have hlt : bn < W.heap.size := (Array.getElem?_eq_some_iff.1 (h3.trans q4)).1
            omega
        refine hK a2 W2 (Kept.keepsFrom h2.rebase hkept _) hbn2 ⟨h1, ?_, hbn2.trans h3⟩ ⟨υ, hle2, hT2, ?_, hN2, hnot⟩
        · refine MRel.under hle2 (hsince.congr fun b => ?_) dom
          rw [hMrd]
          match b with
          | 0 | 1 | 2 | 3 | 5 => exact .inl rfl
          | 4 => exact .inl rfl
          | 6 => exact .inr rfl
          | _ + 7 => exact .inl rfl
        · rw [hap]
          exact hsince
    case bod =>
      rintro lp pre x a2 W hlp _ ⟨h1, h2, h3⟩ ⟨υ, k1, k2, k3, k4, k5⟩ _
      have hev := round_eval l ps x.1.1 x.1.2 x.2.1 x.2.2
      have hap : Mr ++ [.rw 161 [.int .i64 (x.1.1 : Int), .int .i64 (x.1.2 : Int)]] = [.arr none .site l, .cell 126 .nilS, .rw 32 [.int .i64 (0 : Int)], .cell 126 (.aslice 5 none), .dead, .arr (some 132) .placed ps, .rw 161 [.int .i64 (x.1.1 : Int), .int .i64 (x.1.2 : Int)]] := by rw [hMrd]; rfl
      rw [hap] at k3 k5
      cases hdup : dupAt ps x.1.1 x.1.2 with
      | false =>
        rw [hdup] at hev
        obtain ⟨T2, M2, hc, hcr⟩ := CodeR.ofCut (b := bodC (sndC (fstC (splitC 5 (bodyC Tryz.prog 76)).2))) gP hEQT hmT (by kernel_rfl) hev
        refine hcr lp _ W _ υ a2 W _ (fun ⟨_, _, h⟩ => h) (hG' k3) k2 k3.rebase k4 fun ω a3 W3 hle3 _ hM3 _ => ?_
        have hbn3 := stay h3 k5 hM3.kept
        refine ⟨Kept.keepsFrom k3.rebase hM3.kept _, hbn3, fun p hp => ?_, ?_, hbn3.trans h3⟩
        · rcases List.mem_append.1 hp with hp | hp
          · exact h1 p hp
          · rw [List.mem_singleton.1 hp]; exact hdup
        · refine MRel.under (Sg.le_trans k1 hle3) ((k3.since hM3).congr fun b => ?_) dom
          rw [hMrd]
          exact hc b
      | true =>
        rw [hdup] at hev
        obtain ⟨T2, M2, hc, hcr⟩ := CodeR.ofCut (b := bodC (sndC (fstC (splitC 5 (bodyC Tryz.prog 76)).2))) gP hEQT hmT (by kernel_rfl) hev
        refine hcr lp _ W _ υ a2 W _ (fun ⟨_, _, h⟩ => h) (hG' k3) k2 k3.rebase k4 fun ω a3 W3 hle3 _ hM3 _ => ?_
        refine ⟨Kept.keepsFrom k3.rebase hM3.kept _, rfl, ⟨x, by simp, hdup⟩, ?_⟩
        refine MRel.under (Sg.le_trans k1 hle3) ((k3.since hM3).congr fun b => ?_) domx
        match b with
        | 0 => exact hc 0
        | 1 => exact hc 1
        | 2 => exact hc 2
        | _ + 3 => exact .inr rfl
    case done =>
      rintro D xs W hD hS ⟨h1, h2, h3⟩ hKd
      rw [dupP_false fun i j hi hj => h1 ⟨(i, j), hi, hj⟩ (hS _)]
      show (Code.seq _ .ret).wp _ _ _ _
      have hreg : ∃ id ops, fstC (sndC (splitC 5 (bodyC Tryz.prog 76)).2) = .region id ops false ∧ (ops.toList.all fun o => plainOp o.op) = true := by
        refine ⟨20, _, (by kernel_rfl : fstC (sndC (splitC 5 (bodyC Tryz.prog 76)).2) = .region 20 (opsC (fstC (sndC (splitC 5 (bodyC Tryz.prog 76)).2))) false), by kernel_rfl⟩
      obtain ⟨id, ops, hr1, hr2⟩ := hreg
      have hte := tail_eval l ps
      rw [← hMrd] at hte
      rw [hr1] at hte ⊢
      rw [hT'.df]
      have hnl : ¬ LetsOut (bodyPostM Fence.wide 10 Tryz.prog Tryz.f76 fun e w'_1 => ∃ v' τ, e = .returned v' ∧ σ.le τ ∧ AVRel τ (.tup [.c (.aslice 1 none), .c (.d (.int .i64 (0 : Int)))]) v' ∧ MRel w (Wof σ [.arr none .site l]) τ [.arr none .site l, .arr (some 132) .placed ps] w'_1) := by
        rintro ⟨_, _, _, _, h, _⟩
        cases h
      have hdf : ({ a' with defers := [{ target := .collected D, args := #[] }] } : Act) = { a' with defers := [{ target := .collected D, args := #[] }] } := rfl
      refine wp_seq (region_defers hEQT gP hr2 hte W (Wof τ Mr) τ a' W _ _ (then_out hnl) (hG' h2) hT' h2.rebase hN' fun υ a2 W2 hle2 hT2 hM2 => ?_)
      refine wp_ret ?_
      show LeavesInM _ _ _ _ _ _ [_] _ _
      have hD2 : W2.heap[D]? = some (.deferred (some [])) := by
        have hlt : D < W.heap.size := (Array.getElem?_eq_some_iff.1 hKd).1
        refine (hM2.kept.block D hlt ?_).trans hKd
        rintro ⟨b, L, hw, hL, e⟩
        obtain ⟨cur, t, fr, h5⟩ := (h2.blk b).cellsAt (wr_live hw) hL
        rw [e, hKd] at h5
        cases h5
      refine ⟨by simp, .inl ⟨D, _, rfl, run_takeDeferred hD2, ?_⟩⟩
      have h4 := (h2.since hM2).grown (grownBy_putObj' W2 D (.deferred none)) fun r e => by cases e; exact ⟨Nat.le_trans hwB hD, _, hD2, rfl⟩
      obtain ⟨v, hv1, υ', hv2, hv3, hv4⟩ := some_result (P := Tryz.prog) (fn := Tryz.f76) 132 rfl (by decide) hfr (fun b L hb hL => hle2 b L (hle b L hb hL)) hT2 h4 rfl rfl (b5 := 5) (by kernel_rfl)
      exact ⟨v, hv1, v, υ', rfl, hv2, hv3, hv4⟩
    case stop =>
      rintro D c pre W hD _ ⟨rfl, ⟨p, _, hp⟩, h3⟩ hKd
      refine wpIn_ret ?_
      show LeavesInM _ _ _ _ _ _ (_ :: a'.defers) _ _
      rw [hT'.df, dupP_true p.2.1 p.2.2 hp]
      refine ⟨by simp, .inl ⟨D, _, rfl, run_takeDeferred hKd, ?_⟩⟩
      have h4 := h3.grown (grownBy_putObj' W D (.deferred none)) fun r e => by cases e; exact ⟨Nat.le_trans hwB hD, _, hKd, rfl⟩
      obtain ⟨v, hv1, υ, hv2, hv3, hv4⟩ := none_result (P := Tryz.prog) (fn := Tryz.f76) 132 rfl hfr hle hT' h4 rfl (by kernel_rfl)
      exact ⟨v, hv1, v, υ, rfl, hv2, hv3, hv4⟩
def s_array_place : List AV → List Blk → (AV → List Blk → Ans) → Ans := fun xs bs K => match xs, bs with
  | [.v (.agg [.int .i64 a0_0, .int .i64 a0_1]), .v (.c (.aslice 0 none))], [.arr none .site a1] => bif (m_array_place (⟨a0_0, a0_1⟩ : Globe) a1).ok then K (.tup [.c (.aslice 1 none), .c (.d (.int .i64 (m_array_place (⟨a0_0, a0_1⟩ : Globe) a1).r1))]) [.arr none .site a1, .arr (some 132) .placed (m_array_place (⟨a0_0, a0_1⟩ : Globe) a1).r0] else none
  | _, _ => none
def T_array_place : Nat → List AV → List Blk → (AV → List Blk → Ans) → Ans := upd TP 76 s_array_place
theorem g_array_place : GOK Tryz.prog GT gbT T_array_place XT := by
  refine GOK.upd gP (fun args w => Tryz.call76 args w) fun xs bs K r h => ?_
  unfold s_array_place at h
  split at h
  · simp only [cond_eq_ite] at h
    split at h
    · rename_i hd
      exact ⟨_, _, place_calls _ _ hd, h⟩
    · cases h
  · cases h
end Go.Ev

namespace Go.Ev
open Go Go.Proofs
structure O_array_Check where
  ok : Bool
  r0 : Int
def m_array_Check (a0 : Globe) (a1 : List Site) : O_array_Check := bif (m_array_place a0 a1).ok then ⟨true, (m_array_place a0 a1).r1⟩ else ⟨false, 0⟩
def F_array_Check (_a0 : Globe) (a1 : List Site) (K : AV → List Blk → Ans) (r : O_array_Check) : Ans := bif r.ok then K (.v (.c (.d (.int .i64 r.r0)))) [.arr none .site a1] else none
theorem e_array_Check (a0 : Globe) (a1 : List Site) (K : AV → List Blk → Ans) : evFn Tryz.prog GT EQT T_array_place XT noL 80 56 [.v (.agg [.int .i64 a0.a, .int .i64 a0.b]), .v (.c (.aslice 0 none))] [.arr none .site a1] (fun v M => K (finR 1 v M).1 (finR 1 v M).2) = F_array_Check a0 a1 K (m_array_Check a0 a1) := by
  unfold m_array_Check
  refine Eq.trans ?_ (Eq.symm (pushT rfl rfl))
  kernel_rfl
theorem c_array_Check (a0 : Globe) (a1 : List Site) (hd : (m_array_Check a0 a1).ok = true) : CallsA Tryz.prog GT gbT 56 [.v (.agg [.int .i64 a0.a, .int .i64 a0.b]), .v (.c (.aslice 0 none))] [.arr none .site a1] (.v (.c (.d (.int .i64 ((m_array_Check a0 a1).r0))))) [.arr none .site a1] := by
  refine CallsA.ofEvR g_array_place hEQT hmT (n0 := 1) rfl (fun _ _ _ _ => LOKn.nil) ((e_array_Check a0 a1 (fun v M => some (Res.fin v M))).trans ?_)
  unfold F_array_Check
  rw [hd]
  rfl
def s_array_Check : List AV → List Blk → (AV → List Blk → Ans) → Ans := fun xs bs K => match xs, bs with
  | [.v (.agg [.int .i64 a0_0, .int .i64 a0_1]), .v (.c (.aslice 0 none))], [.arr none .site a1] => F_array_Check (⟨a0_0, a0_1⟩ : Globe) a1 K (m_array_Check (⟨a0_0, a0_1⟩ : Globe) a1)
  | _, _ => none
def T_array_Check : Nat → List AV → List Blk → (AV → List Blk → Ans) → Ans := upd T_array_place 56 s_array_Check
theorem g_array_Check : GOK Tryz.prog GT gbT T_array_Check XT := by
  refine GOK.upd g_array_place (fun args w => Tryz.call56 args w) fun xs bs K r h => ?_
  unfold s_array_Check at h
  split at h
  · unfold F_array_Check at h
    simp only [cond_eq_ite] at h
    split at h
    · rename_i hd
      exact ⟨_, _, c_array_Check _ _ hd, h⟩
    · cases h
  · cases h
structure O_array_Line where
  ok : Bool
  r0 : Vec
  r1 : Int
def m_array_Line (a0 : Globe) (a1 : List Site) (a2 : Int) (a3 : Int) : O_array_Line := bif (m_array_place a0 a1).ok then (bif ((m_array_place a0 a1).r1 != (0 : Int)) then ⟨true, ⟨⟨(0 : Int), (0 : Int)⟩, ⟨(0 : Int), (0 : Int)⟩, ⟨(0 : Int), (0 : Int)⟩⟩, (m_array_place a0 a1).r1⟩ else (bif decide (a2 < (0 : Int)) then ⟨true, ⟨⟨(0 : Int), (0 : Int)⟩, ⟨(0 : Int), (0 : Int)⟩, ⟨(0 : Int), (0 : Int)⟩⟩, (2 : Int)⟩ else (bif decide ((((m_array_place a0 a1).r0).length : Int) ≤ a2) then ⟨true, ⟨⟨(0 : Int), (0 : Int)⟩, ⟨(0 : Int), (0 : Int)⟩, ⟨(0 : Int), (0 : Int)⟩⟩, (2 : Int)⟩ else (bif decide (a3 < (0 : Int)) then ⟨true, ⟨⟨(0 : Int), (0 : Int)⟩, ⟨(0 : Int), (0 : Int)⟩, ⟨(0 : Int), (0 : Int)⟩⟩, (2 : Int)⟩ else (bif decide ((((m_array_place a0 a1).r0).length : Int) ≤ a3) then ⟨true, ⟨⟨(0 : Int), (0 : Int)⟩, ⟨(0 : Int), (0 : Int)⟩, ⟨(0 : Int), (0 : Int)⟩⟩, (2 : Int)⟩ else (bif (decide ((0 : Int) ≤ a3) && decide (a3 < (((m_array_place a0 a1).r0).length : Int))) then (bif (decide ((0 : Int) ≤ a2) && decide (a2 < (((m_array_place a0 a1).r0).length : Int))) then ⟨true, (subV ⟨⟨((((((m_array_place a0 a1).r0).getD a3.toNat (ET.z .placed)).at_).x).num), ((((((m_array_place a0 a1).r0).getD a3.toNat (ET.z .placed)).at_).x).den)⟩, ⟨((((((m_array_place a0 a1).r0).getD a3.toNat (ET.z .placed)).at_).y).num), ((((((m_array_place a0 a1).r0).getD a3.toNat (ET.z .placed)).at_).y).den)⟩, ⟨((((((m_array_place a0 a1).r0).getD a3.toNat (ET.z .placed)).at_).z).num), ((((((m_array_place a0 a1).r0).getD a3.toNat (ET.z .placed)).at_).z).den)⟩⟩ ⟨⟨((((((m_array_place a0 a1).r0).getD a2.toNat (ET.z .placed)).at_).x).num), ((((((m_array_place a0 a1).r0).getD a2.toNat (ET.z .placed)).at_).x).den)⟩, ⟨((((((m_array_place a0 a1).r0).getD a2.toNat (ET.z .placed)).at_).y).num), ((((((m_array_place a0 a1).r0).getD a2.toNat (ET.z .placed)).at_).y).den)⟩, ⟨((((((m_array_place a0 a1).r0).getD a2.toNat (ET.z .placed)).at_).z).num), ((((((m_array_place a0 a1).r0).getD a2.toNat (ET.z .placed)).at_).z).den)⟩⟩).1, (subV ⟨⟨((((((m_array_place a0 a1).r0).getD a3.toNat (ET.z .placed)).at_).x).num), ((((((m_array_place a0 a1).r0).getD a3.toNat (ET.z .placed)).at_).x).den)⟩, ⟨((((((m_array_place a0 a1).r0).getD a3.toNat (ET.z .placed)).at_).y).num), ((((((m_array_place a0 a1).r0).getD a3.toNat (ET.z .placed)).at_).y).den)⟩, ⟨((((((m_array_place a0 a1).r0).getD a3.toNat (ET.z .placed)).at_).z).num), ((((((m_array_place a0 a1).r0).getD a3.toNat (ET.z .placed)).at_).z).den)⟩⟩ ⟨⟨((((((m_array_place a0 a1).r0).getD a2.toNat (ET.z .placed)).at_).x).num), ((((((m_array_place a0 a1).r0).getD a2.toNat (ET.z .placed)).at_).x).den)⟩, ⟨((((((m_array_place a0 a1).r0).getD a2.toNat (ET.z .placed)).at_).y).num), ((((((m_array_place a0 a1).r0).getD a2.toNat (ET.z .placed)).at_).y).den)⟩, ⟨((((((m_array_place a0 a1).r0).getD a2.toNat (ET.z .placed)).at_).z).num), ((((((m_array_place a0 a1).r0).getD a2.toNat (ET.z .placed)).at_).z).den)⟩⟩).2⟩ else ⟨false, ⟨⟨0, 0⟩, ⟨0, 0⟩, ⟨0, 0⟩⟩, 0⟩) else ⟨false, ⟨⟨0, 0⟩, ⟨0, 0⟩, ⟨0, 0⟩⟩, 0⟩)))))) else ⟨false, ⟨⟨0, 0⟩, ⟨0, 0⟩, ⟨0, 0⟩⟩, 0⟩
def F_array_Line (_a0 : Globe) (a1 : List Site) (_a2 : Int) (_a3 : Int) (K : AV → List Blk → Ans) (r : O_array_Line) : Ans := bif r.ok then K (.tup [.agg [.int .i64 r.r0.x.num, .int .i64 r.r0.x.den, .int .i64 r.r0.y.num, .int .i64 r.r0.y.den, .int .i64 r.r0.z.num, .int .i64 r.r0.z.den], .c (.d (.int .i64 r.r1))]) [.arr none .site a1] else none
theorem e_array_Line (a0 : Globe) (a1 : List Site) (a2 : Int) (a3 : Int) (K : AV → List Blk → Ans) : evFn Tryz.prog GT EQT T_array_Check XT noL 80 58 [.v (.agg [.int .i64 a0.a, .int .i64 a0.b]), .v (.c (.aslice 0 none)), .v (.c (.d (.int .i64 a2))), .v (.c (.d (.int .i64 a3)))] [.arr none .site a1] (fun v M => K (finR 1 v M).1 (finR 1 v M).2) = F_array_Line a0 a1 a2 a3 K (m_array_Line a0 a1 a2 a3) := by
  unfold m_array_Line
  refine Eq.trans ?_ (Eq.symm (pushT (pushT rfl (pushT rfl (pushT rfl (pushT rfl (pushT rfl (pushT (pushT rfl rfl) rfl)))))) rfl))
  kernel_rfl
theorem c_array_Line (a0 : Globe) (a1 : List Site) (a2 : Int) (a3 : Int) (hd : (m_array_Line a0 a1 a2 a3).ok = true) : CallsA Tryz.prog GT gbT 58 [.v (.agg [.int .i64 a0.a, .int .i64 a0.b]), .v (.c (.aslice 0 none)), .v (.c (.d (.int .i64 a2))), .v (.c (.d (.int .i64 a3)))] [.arr none .site a1] (.tup [.agg [.int .i64 ((((m_array_Line a0 a1 a2 a3).r0).x).num), .int .i64 ((((m_array_Line a0 a1 a2 a3).r0).x).den), .int .i64 ((((m_array_Line a0 a1 a2 a3).r0).y).num), .int .i64 ((((m_array_Line a0 a1 a2 a3).r0).y).den), .int .i64 ((((m_array_Line a0 a1 a2 a3).r0).z).num), .int .i64 ((((m_array_Line a0 a1 a2 a3).r0).z).den)], .c (.d (.int .i64 ((m_array_Line a0 a1 a2 a3).r1)))]) [.arr none .site a1] := by
  refine CallsA.ofEvR g_array_Check hEQT hmT (n0 := 1) rfl (fun _ _ _ _ => LOKn.nil) ((e_array_Line a0 a1 a2 a3 (fun v M => some (Res.fin v M))).trans ?_)
  unfold F_array_Line
  rw [hd]
  rfl
def s_array_Line : List AV → List Blk → (AV → List Blk → Ans) → Ans := fun xs bs K => match xs, bs with
  | [.v (.agg [.int .i64 a0_0, .int .i64 a0_1]), .v (.c (.aslice 0 none)), .v (.c (.d (.int .i64 a2))), .v (.c (.d (.int .i64 a3)))], [.arr none .site a1] => F_array_Line (⟨a0_0, a0_1⟩ : Globe) a1 a2 a3 K (m_array_Line (⟨a0_0, a0_1⟩ : Globe) a1 a2 a3)
  | _, _ => none
def T_array_Line : Nat → List AV → List Blk → (AV → List Blk → Ans) → Ans := upd T_array_Check 58 s_array_Line
theorem g_array_Line : GOK Tryz.prog GT gbT T_array_Line XT := by
  refine GOK.upd g_array_Check (fun args w => Tryz.call58 args w) fun xs bs K r h => ?_
  unfold s_array_Line at h
  split at h
  · unfold F_array_Line at h
    simp only [cond_eq_ite] at h
    split at h
    · rename_i hd
      exact ⟨_, _, c_array_Line _ _ _ _ hd, h⟩
    · cases h
  · cases h
structure O_proj_Line where
  ok : Bool
  r0 : Dir
  r1 : Int
def m_proj_Line (a0 : Globe) (a1 : List Site) (a2 : Int) (a3 : Int) (a4 : Source) (a5 : Int) : O_proj_Line := bif (m_array_Line a0 a1 a2 a3).ok then (bif ((m_array_Line a0 a1 a2 a3).r1 != (0 : Int)) then ⟨true, ⟨⟨(0 : Int), (0 : Int)⟩, ⟨(0 : Int), (0 : Int)⟩, ⟨(0 : Int), (0 : Int)⟩⟩, (m_array_Line a0 a1 a2 a3).r1⟩ else ⟨true, (projV ((m_array_Line a0 a1 a2 a3).r0) a4 a5).1, (projV ((m_array_Line a0 a1 a2 a3).r0) a4 a5).2⟩) else ⟨false, ⟨⟨0, 0⟩, ⟨0, 0⟩, ⟨0, 0⟩⟩, 0⟩
def F_proj_Line (_a0 : Globe) (a1 : List Site) (_a2 : Int) (_a3 : Int) (_a4 : Source) (_a5 : Int) (K : AV → List Blk → Ans) (r : O_proj_Line) : Ans := bif r.ok then K (.tup [.agg [.int .i64 r.r0.x.lo, .int .i64 r.r0.x.hi, .int .i64 r.r0.y.lo, .int .i64 r.r0.y.hi, .int .i64 r.r0.z.lo, .int .i64 r.r0.z.hi], .c (.d (.int .i64 r.r1))]) [.arr none .site a1] else none
theorem e_proj_Line (a0 : Globe) (a1 : List Site) (a2 : Int) (a3 : Int) (a4 : Source) (a5 : Int) (K : AV → List Blk → Ans) : evFn Tryz.prog GT EQT T_array_Line XT noL 80 25 [.v (.agg [.int .i64 a0.a, .int .i64 a0.b]), .v (.c (.aslice 0 none)), .v (.c (.d (.int .i64 a2))), .v (.c (.d (.int .i64 a3))), .v (.agg [.str a4.name, .int .i64 a4.ra, .int .i64 a4.dec]), .v (.c (.d (.int .i64 a5)))] [.arr none .site a1] (fun v M => K (finR 1 v M).1 (finR 1 v M).2) = F_proj_Line a0 a1 a2 a3 a4 a5 K (m_proj_Line a0 a1 a2 a3 a4 a5) := by
  unfold m_proj_Line
  refine Eq.trans ?_ (Eq.symm (pushT (pushT rfl rfl) rfl))
  kernel_rfl
theorem c_proj_Line (a0 : Globe) (a1 : List Site) (a2 : Int) (a3 : Int) (a4 : Source) (a5 : Int) (hd : (m_proj_Line a0 a1 a2 a3 a4 a5).ok = true) : CallsA Tryz.prog GT gbT 25 [.v (.agg [.int .i64 a0.a, .int .i64 a0.b]), .v (.c (.aslice 0 none)), .v (.c (.d (.int .i64 a2))), .v (.c (.d (.int .i64 a3))), .v (.agg [.str a4.name, .int .i64 a4.ra, .int .i64 a4.dec]), .v (.c (.d (.int .i64 a5)))] [.arr none .site a1] (.tup [.agg [.int .i64 ((((m_proj_Line a0 a1 a2 a3 a4 a5).r0).x).lo), .int .i64 ((((m_proj_Line a0 a1 a2 a3 a4 a5).r0).x).hi), .int .i64 ((((m_proj_Line a0 a1 a2 a3 a4 a5).r0).y).lo), .int .i64 ((((m_proj_Line a0 a1 a2 a3 a4 a5).r0).y).hi), .int .i64 ((((m_proj_Line a0 a1 a2 a3 a4 a5).r0).z).lo), .int .i64 ((((m_proj_Line a0 a1 a2 a3 a4 a5).r0).z).hi)], .c (.d (.int .i64 ((m_proj_Line a0 a1 a2 a3 a4 a5).r1)))]) [.arr none .site a1] := by
  refine CallsA.ofEvR g_array_Line hEQT hmT (n0 := 1) rfl (fun _ _ _ _ => LOKn.nil) ((e_proj_Line a0 a1 a2 a3 a4 a5 (fun v M => some (Res.fin v M))).trans ?_)
  unfold F_proj_Line
  rw [hd]
  rfl
def s_proj_Line : List AV → List Blk → (AV → List Blk → Ans) → Ans := fun xs bs K => match xs, bs with
  | [.v (.agg [.int .i64 a0_0, .int .i64 a0_1]), .v (.c (.aslice 0 none)), .v (.c (.d (.int .i64 a2))), .v (.c (.d (.int .i64 a3))), .v (.agg [.str a4_0, .int .i64 a4_1, .int .i64 a4_2]), .v (.c (.d (.int .i64 a5)))], [.arr none .site a1] => F_proj_Line (⟨a0_0, a0_1⟩ : Globe) a1 a2 a3 (⟨a4_0, a4_1, a4_2⟩ : Source) a5 K (m_proj_Line (⟨a0_0, a0_1⟩ : Globe) a1 a2 a3 (⟨a4_0, a4_1, a4_2⟩ : Source) a5)
  | _, _ => none
def T_proj_Line : Nat → List AV → List Blk → (AV → List Blk → Ans) → Ans := upd T_array_Line 25 s_proj_Line
theorem g_proj_Line : GOK Tryz.prog GT gbT T_proj_Line XT := by
  refine GOK.upd g_array_Line (fun args w => Tryz.call25 args w) fun xs bs K r h => ?_
  unfold s_proj_Line at h
  split at h
  · unfold F_proj_Line at h
    simp only [cond_eq_ite] at h
    split at h
    · rename_i hd
      exact ⟨_, _, c_proj_Line _ _ _ _ _ _ hd, h⟩
    · cases h
  · cases h
structure O_Q4_Valid where
  ok : Bool
  r0 : Bool
def m_Q4_Valid (a0 : Site) : O_Q4_Valid := bif (namedB a0.name) then ⟨true, (placedB a0.s a0.t)⟩ else ⟨true, false⟩
def F_Q4_Valid (_a0 : Site) (K : AV → List Blk → Ans) (r : O_Q4_Valid) : Ans := bif r.ok then K (.v (.c (.d (.bool r.r0)))) [] else none
theorem e_Q4_Valid (a0 : Site) (K : AV → List Blk → Ans) : evFn Tryz.prog GT EQT T_proj_Line XT noL 80 112 [.v (.agg [.str a0.name, .int .i64 a0.s.num, .int .i64 a0.s.den, .int .i64 a0.t.num, .int .i64 a0.t.den])] [] (fun v M => K (finR 0 v M).1 (finR 0 v M).2) = F_Q4_Valid a0 K (m_Q4_Valid a0) := by
  unfold m_Q4_Valid
  refine Eq.trans ?_ (Eq.symm (pushT rfl rfl))
  kernel_rfl
theorem c_Q4_Valid (a0 : Site) (hd : (m_Q4_Valid a0).ok = true) : CallsA Tryz.prog GT gbT 112 [.v (.agg [.str a0.name, .int .i64 a0.s.num, .int .i64 a0.s.den, .int .i64 a0.t.num, .int .i64 a0.t.den])] [] (.v (.c (.d (.bool ((m_Q4_Valid a0).r0))))) [] := by
  refine CallsA.ofEvR g_proj_Line hEQT hmT (n0 := 0) rfl (fun _ _ _ _ => LOKn.nil) ((e_Q4_Valid a0 (fun v M => some (Res.fin v M))).trans ?_)
  unfold F_Q4_Valid
  rw [hd]
  rfl
def s_Q4_Valid : List AV → List Blk → (AV → List Blk → Ans) → Ans := fun xs bs K => match xs, bs with
  | [.v (.agg [.str a0_0, .int .i64 a0_1, .int .i64 a0_2, .int .i64 a0_3, .int .i64 a0_4])], [] => F_Q4_Valid (⟨a0_0, ⟨a0_1, a0_2⟩, ⟨a0_3, a0_4⟩⟩ : Site) K (m_Q4_Valid (⟨a0_0, ⟨a0_1, a0_2⟩, ⟨a0_3, a0_4⟩⟩ : Site))
  | _, _ => none
def T_Q4_Valid : Nat → List AV → List Blk → (AV → List Blk → Ans) → Ans := upd T_proj_Line 112 s_Q4_Valid
theorem g_Q4_Valid : GOK Tryz.prog GT gbT T_Q4_Valid XT := by
  refine GOK.upd g_proj_Line (fun args w => Tryz.call112 args w) fun xs bs K r h => ?_
  unfold s_Q4_Valid at h
  split at h
  · unfold F_Q4_Valid at h
    simp only [cond_eq_ite] at h
    split at h
    · rename_i hd
      exact ⟨_, _, c_Q4_Valid _ hd, h⟩
    · cases h
  · cases h
structure R_Q4_all_0 where
  k : Nat
  p6 : Int
  m2 : List Vec
def run_Q4_all_0 (m0 : List Site) (q1 : Globe) : Nat → Int → List Vec → R_Q4_all_0
  | 0, p6, m2 => ⟨1, p6, m2⟩
  | n + 1, p6, m2 => bif decide (p6 < (m0.length : Int)) then (bif (decide ((0 : Int) ≤ p6) && decide (p6 < (m0.length : Int))) then (bif (decide ((0 : Int) ≤ p6) && decide (p6 < (m0.length : Int))) then (bif (Nat.blt 0 6 && ((6 == 6) && ((6 == 6) && (Nat.ble (m2.length + ([placeR q1 ((m0.getD p6.toNat (ET.z .site)).s) ((m0.getD p6.toNat (ET.z .site)).t)] : List Vec).length) roomD && Nat.ble 48 4096)))) then run_Q4_all_0 m0 q1 n (w64 (p6 + (1 : Int))) (m2 ++ ([placeR q1 ((m0.getD p6.toNat (ET.z .site)).s) ((m0.getD p6.toNat (ET.z .site)).t)] : List Vec)) else ⟨1, p6, m2⟩) else ⟨1, p6, m2⟩) else ⟨1, p6, m2⟩) else ⟨0, p6, m2⟩
def lp_Q4_all_0 (m0 : List Site) (q1 : Globe) (p6 : Int) (m2 : List Vec) : R_Q4_all_0 := run_Q4_all_0 m0 q1 (2000 + (m0.length + m2.length)) p6 m2
abbrev H_Q4_all_0 (_m0 : List Site) (_q1 : Globe) (p6 : Int) (_m2 : List Vec) : TS := headT [1, 2, 5, 6] 29 [.v (.c (.aslice 0 none)), .v (.c (.ptr 1 0)), .v (.c (.aslice 2 none)), .v (.c (.d (.int .i64 p6)))]
theorem b_Q4_all_0 (m0 : List Site) (q1 : Globe) (p6 : Int) (m2 : List Vec) : evCode Tryz.prog GT EQT T_Q4_Valid XT noL 80 (loopB Tryz.prog 113 0) (H_Q4_all_0 m0 q1 p6 m2) [.arr none .site m0, .rw 23 [.int .i64 q1.a, .int .i64 q1.b], .arr (some 105) .vec m2] 3 (normK 1 [1, 2, 5, 6]) =
    bif decide (p6 < (m0.length : Int)) then (bif (decide ((0 : Int) ≤ p6) && decide (p6 < (m0.length : Int))) then (bif (decide ((0 : Int) ≤ p6) && decide (p6 < (m0.length : Int))) then (bif (Nat.blt 0 6 && ((6 == 6) && ((6 == 6) && (Nat.ble (m2.length + ([placeR q1 ((m0.getD p6.toNat (ET.z .site)).s) ((m0.getD p6.toNat (ET.z .site)).t)] : List Vec).length) roomD && Nat.ble 48 4096)))) then some (.st .normal (headT [1, 2, 5, 6] 29 [.v (.c (.aslice 0 none)), .v (.c (.ptr 1 0)), .v (.c (.aslice 2 none)), .v (.c (.d (.int .i64 (w64 (p6 + (1 : Int))))))]) [.arr none .site m0, .rw 23 [.int .i64 q1.a, .int .i64 q1.b], .arr (some 105) .vec (m2 ++ ([placeR q1 ((m0.getD p6.toNat (ET.z .site)).s) ((m0.getD p6.toNat (ET.z .site)).t)] : List Vec))] 3) else none) else none) else none) else some (.st (.exit 0) (headT [1, 2, 5, 6] 29 [.v (.c (.aslice 0 none)), .v (.c (.ptr 1 0)), .v (.c (.aslice 2 none)), .v (.c (.d (.int .i64 p6)))]) [.arr none .site m0, .rw 23 [.int .i64 q1.a, .int .i64 q1.b], .arr (some 105) .vec m2] 3) := by
  kernel_rfl
def o_Q4_all_0 (m0 : List Site) (q1 : Globe) (r : R_Q4_all_0) : LT := .br (Nat.beq r.k 0) (.st (.exit 0) (headT [1, 2, 5, 6] 29 [.v (.c (.aslice 0 none)), .v (.c (.ptr 1 0)), .v (.c (.aslice 2 none)), .v (.c (.d (.int .i64 r.p6)))]) [.arr none .site m0, .rw 23 [.int .i64 q1.a, .int .i64 q1.b], .arr (some 105) .vec r.m2] 3) (.no)
theorem r_Q4_all_0 (m0 : List Site) (q1 : Globe) : ∀ (n : Nat) (p6 : Int) (m2 : List Vec) (x : Ex) (T' : TS) (M' : List Blk) (N' : Nat), LReach (o_Q4_all_0 m0 q1 (run_Q4_all_0 m0 q1 n p6 m2)) x T' M' N' → x ≠ .normal ∧ ∃ j, RoundsN Tryz.prog GT gbT 1 (loopB Tryz.prog 113 0) j (H_Q4_all_0 m0 q1 p6 m2) [.arr none .site m0, .rw 23 [.int .i64 q1.a, .int .i64 q1.b], .arr (some 105) .vec m2] 3 x T' M' N' := by
  have hL : LOKn Tryz.prog GT gbT 1 noL (loopsIn (loopB Tryz.prog 113 0)) := fun _ _ _ _ _ _ _ _ _ h => h.elim
  intro n
  induction n with
  | zero =>
    intro p6 m2 x T' M' N' hr
    exact False.elim (redF hr)
  | succ n ih =>
    intro p6 m2 x T' M' N'
    rw [run_Q4_all_0]
    exact viaE (b_Q4_all_0 m0 q1 p6 m2) (condG (o := o_Q4_all_0 m0 q1) (condG (o := o_Q4_all_0 m0 q1) (condG (o := o_Q4_all_0 m0 q1) (condG (o := o_Q4_all_0 m0 q1) (fun he hr => goN g_Q4_Valid hEQT hmT hL he (ih (w64 (p6 + (1 : Int))) (m2 ++ ([placeR q1 ((m0.getD p6.toNat (ET.z .site)).s) ((m0.getD p6.toNat (ET.z .site)).t)] : List Vec)) x T' M' N' hr)) (fun _ hr => False.elim (redF hr))) (fun _ hr => False.elim (redF hr))) (fun _ hr => False.elim (redF hr))) (fun he hr => stopN g_Q4_Valid hEQT hmT hL he (by simp) (redT hr)))
def f_Q4_all_0 : List AV → List Blk → LT := fun vs Ms => match vs, Ms with
  | [.v (.c (.aslice 0 none)), .v (.c (.ptr 1 0)), .v (.c (.aslice 2 none)), .v (.c (.d (.int .i64 p6)))], [.arr none .site m0, .rw 23 [.int .i64 q1_0, .int .i64 q1_1], .arr (some 105) .vec m2] => o_Q4_all_0 m0 (⟨q1_0, q1_1⟩ : Globe) (lp_Q4_all_0 m0 (⟨q1_0, q1_1⟩ : Globe) p6 m2)
  | _, _ => .no
def L_Q4_all_0 := LamN 3 29 1 [1, 2, 5, 6] f_Q4_all_0
theorem k_Q4_all_0 : LOKbn Tryz.prog GT gbT 1 L_Q4_all_0 (loopB Tryz.prog 113 0) := by
  refine LOKbn.lamN (by kernel_rfl) fun vs Ms x T' M' N' hr => ?_
  unfold f_Q4_all_0 at hr
  split at hr
  · obtain ⟨q1, j, q2⟩ := r_Q4_all_0 _ _ _ _ _ x T' M' N' hr
    exact ⟨q1, j, q2⟩
  · exact hr.elim
structure O_Q4_all where
  ok : Bool
  r0 : List Vec
def m_Q4_all (a0 : Globe) (a1 : List Site) : O_Q4_all := bif Nat.beq (lp_Q4_all_0 a1 a0 (0 : Int) ([] : List Vec)).k 0 then ⟨true, ((lp_Q4_all_0 a1 a0 (0 : Int) ([] : List Vec)).m2)⟩ else ⟨false, []⟩
def F_Q4_all (_a0 : Globe) (a1 : List Site) (K : AV → List Blk → Ans) (r : O_Q4_all) : Ans := bif r.ok then K (.v (.c (.aslice 1 none))) [.arr none .site a1, .arr (some 105) .vec r.r0] else none
theorem e_Q4_all (a0 : Globe) (a1 : List Site) (K : AV → List Blk → Ans) : evFn Tryz.prog GT EQT T_Q4_Valid XT (orL L_Q4_all_0 noL) 80 113 [.v (.agg [.int .i64 a0.a, .int .i64 a0.b]), .v (.c (.aslice 0 none))] [.arr none .site a1] (fun v M => K (finR 1 v M).1 (finR 1 v M).2) = F_Q4_all a0 a1 K (m_Q4_all a0 a1) := by
  unfold m_Q4_all
  refine Eq.trans ?_ (Eq.symm (pushT rfl rfl))
  kernel_rfl
theorem lok_Q4_all : ∀ fn c, Tryz.prog.funcs[113]? = some fn → fn.body = some c → LOKn Tryz.prog GT gbT 1 (orL L_Q4_all_0 noL) (loopsIn c) := by
  refine LOKn.ofF fun b hb => ?_
  have e : loopsF Tryz.prog 113 = [loopB Tryz.prog 113 0] := by kernel_rfl
  rw [e] at hb
  simp only [List.mem_cons, List.not_mem_nil, or_false] at hb
  subst hb
  exact (LOKbn.or k_Q4_all_0 (fun _ _ _ _ _ _ _ h => h.elim))
theorem c_Q4_all (a0 : Globe) (a1 : List Site) (hd : (m_Q4_all a0 a1).ok = true) : CallsA Tryz.prog GT gbT 113 [.v (.agg [.int .i64 a0.a, .int .i64 a0.b]), .v (.c (.aslice 0 none))] [.arr none .site a1] (.v (.c (.aslice 1 none))) [.arr none .site a1, .arr (some 105) .vec ((m_Q4_all a0 a1).r0)] := by
  refine CallsA.ofEvR g_Q4_Valid hEQT hmT (n0 := 1) rfl lok_Q4_all ((e_Q4_all a0 a1 (fun v M => some (Res.fin v M))).trans ?_)
  unfold F_Q4_all
  rw [hd]
  rfl
def s_Q4_all : List AV → List Blk → (AV → List Blk → Ans) → Ans := fun xs bs K => match xs, bs with
  | [.v (.agg [.int .i64 a0_0, .int .i64 a0_1]), .v (.c (.aslice 0 none))], [.arr none .site a1] => F_Q4_all (⟨a0_0, a0_1⟩ : Globe) a1 K (m_Q4_all (⟨a0_0, a0_1⟩ : Globe) a1)
  | _, _ => none
def T_Q4_all : Nat → List AV → List Blk → (AV → List Blk → Ans) → Ans := upd T_Q4_Valid 113 s_Q4_all
theorem g_Q4_all : GOK Tryz.prog GT gbT T_Q4_all XT := by
  refine GOK.upd g_Q4_Valid (fun args w => Tryz.call113 args w) fun xs bs K r h => ?_
  unfold s_Q4_all at h
  split at h
  · unfold F_Q4_all at h
    simp only [cond_eq_ite] at h
    split at h
    · rename_i hd
      exact ⟨_, _, c_Q4_all _ _ hd, h⟩
    · cases h
  · cases h
end Go.Ev

namespace Go.Ev
open Go Go.Proofs
structure R_Q4_Check_0 where
  k : Nat
  p5 : Int
def run_Q4_Check_0 (p4 : Int) (m0 : List Site) (q1 : Globe) : Nat → Int → R_Q4_Check_0
  | 0, p5 => ⟨2, p5⟩
  | n + 1, p5 => bif decide (p5 < (m0.length : Int)) then (bif (decide ((0 : Int) ≤ p5) && decide (p5 < (m0.length : Int))) then (bif (m_Q4_Valid (m0.getD p5.toNat (ET.z .site))).ok then (bif (!(m_Q4_Valid (m0.getD p5.toNat (ET.z .site))).r0) then ⟨0, p5⟩ else run_Q4_Check_0 p4 m0 q1 n (w64 (p5 + (1 : Int)))) else ⟨2, p5⟩) else ⟨2, p5⟩) else ⟨1, p5⟩
def lp_Q4_Check_0 (p4 : Int) (m0 : List Site) (q1 : Globe) (p5 : Int) : R_Q4_Check_0 := run_Q4_Check_0 p4 m0 q1 (2000 + (m0.length)) p5
abbrev H_Q4_Check_0 (p4 : Int) (_m0 : List Site) (_q1 : Globe) (p5 : Int) : TS := headT [1, 2, 4, 5] 65 [.v (.c (.aslice 0 none)), .v (.c (.ptr 1 0)), .v (.c (.d (.int .i64 p4))), .v (.c (.d (.int .i64 p5)))]
theorem b_Q4_Check_0 (p4 : Int) (m0 : List Site) (q1 : Globe) (p5 : Int) : evCode Tryz.prog GT EQT T_Q4_all XT noL 80 (loopB Tryz.prog 85 0) (H_Q4_Check_0 p4 m0 q1 p5) [.arr none .site m0, .rw 23 [.int .i64 q1.a, .int .i64 q1.b]] 2 (normK 1 [1, 2, 4, 5]) =
    bif decide (p5 < (m0.length : Int)) then (bif (decide ((0 : Int) ≤ p5) && decide (p5 < (m0.length : Int))) then (bif (m_Q4_Valid (m0.getD p5.toNat (ET.z .site))).ok then (bif (!(m_Q4_Valid (m0.getD p5.toNat (ET.z .site))).r0) then some (.st .ret (headT [1, 2, 4, 5] 65 [.v (.c (.aslice 0 none)), .v (.c (.ptr 1 0)), .v (.c (.d (.int .i64 (8 : Int)))), .v (.c (.d (.int .i64 p5)))]) [.arr none .site m0, .rw 23 [.int .i64 q1.a, .int .i64 q1.b]] 2) else some (.st .normal (headT [1, 2, 4, 5] 65 [.v (.c (.aslice 0 none)), .v (.c (.ptr 1 0)), .v (.c (.d (.int .i64 p4))), .v (.c (.d (.int .i64 (w64 (p5 + (1 : Int))))))]) [.arr none .site m0, .rw 23 [.int .i64 q1.a, .int .i64 q1.b]] 2)) else none) else none) else some (.st (.exit 0) (headT [1, 2, 4, 5] 65 [.v (.c (.aslice 0 none)), .v (.c (.ptr 1 0)), .v (.c (.d (.int .i64 p4))), .v (.c (.d (.int .i64 p5)))]) [.arr none .site m0, .rw 23 [.int .i64 q1.a, .int .i64 q1.b]] 2) := by
  kernel_rfl
def o_Q4_Check_0 (p4 : Int) (m0 : List Site) (q1 : Globe) (r : R_Q4_Check_0) : LT := .br (Nat.beq r.k 0) (.st .ret (headT [1, 2, 4, 5] 65 [.v (.c (.aslice 0 none)), .v (.c (.ptr 1 0)), .v (.c (.d (.int .i64 (8 : Int)))), .v (.c (.d (.int .i64 r.p5)))]) [.arr none .site m0, .rw 23 [.int .i64 q1.a, .int .i64 q1.b]] 2) (.br (Nat.beq r.k 1) (.st (.exit 0) (headT [1, 2, 4, 5] 65 [.v (.c (.aslice 0 none)), .v (.c (.ptr 1 0)), .v (.c (.d (.int .i64 p4))), .v (.c (.d (.int .i64 r.p5)))]) [.arr none .site m0, .rw 23 [.int .i64 q1.a, .int .i64 q1.b]] 2) (.no))
theorem r_Q4_Check_0 (p4 : Int) (m0 : List Site) (q1 : Globe) : ∀ (n : Nat) (p5 : Int) (x : Ex) (T' : TS) (M' : List Blk) (N' : Nat), LReach (o_Q4_Check_0 p4 m0 q1 (run_Q4_Check_0 p4 m0 q1 n p5)) x T' M' N' → x ≠ .normal ∧ ∃ j, RoundsN Tryz.prog GT gbT 1 (loopB Tryz.prog 85 0) j (H_Q4_Check_0 p4 m0 q1 p5) [.arr none .site m0, .rw 23 [.int .i64 q1.a, .int .i64 q1.b]] 2 x T' M' N' := by
  have hL : LOKn Tryz.prog GT gbT 1 noL (loopsIn (loopB Tryz.prog 85 0)) := fun _ _ _ _ _ _ _ _ _ h => h.elim
  intro n
  induction n with
  | zero =>
    intro p5 x T' M' N' hr
    exact False.elim (redF (redF hr))
  | succ n ih =>
    intro p5 x T' M' N'
    rw [run_Q4_Check_0]
    exact viaE (b_Q4_Check_0 p4 m0 q1 p5) (condG (o := o_Q4_Check_0 p4 m0 q1) (condG (o := o_Q4_Check_0 p4 m0 q1) (condG (o := o_Q4_Check_0 p4 m0 q1) (condG (o := o_Q4_Check_0 p4 m0 q1) (fun he hr => stopN g_Q4_all hEQT hmT hL he (by simp) (redT hr)) (fun he hr => goN g_Q4_all hEQT hmT hL he (ih (w64 (p5 + (1 : Int))) x T' M' N' hr))) (fun _ hr => False.elim (redF (redF hr)))) (fun _ hr => False.elim (redF (redF hr)))) (fun he hr => stopN g_Q4_all hEQT hmT hL he (by simp) (redT (redF hr))))
def f_Q4_Check_0 : List AV → List Blk → LT := fun vs Ms => match vs, Ms with
  | [.v (.c (.aslice 0 none)), .v (.c (.ptr 1 0)), .v (.c (.d (.int .i64 p4))), .v (.c (.d (.int .i64 p5)))], [.arr none .site m0, .rw 23 [.int .i64 q1_0, .int .i64 q1_1]] => o_Q4_Check_0 p4 m0 (⟨q1_0, q1_1⟩ : Globe) (lp_Q4_Check_0 p4 m0 (⟨q1_0, q1_1⟩ : Globe) p5)
  | _, _ => .no
def L_Q4_Check_0 := LamN 6 65 1 [1, 2, 4, 5] f_Q4_Check_0
theorem k_Q4_Check_0 : LOKbn Tryz.prog GT gbT 1 L_Q4_Check_0 (loopB Tryz.prog 85 0) := by
  refine LOKbn.lamN (by kernel_rfl) fun vs Ms x T' M' N' hr => ?_
  unfold f_Q4_Check_0 at hr
  split at hr
  · obtain ⟨q1, j, q2⟩ := r_Q4_Check_0 _ _ _ _ _ x T' M' N' hr
    exact ⟨q1, j, q2⟩
  · exact hr.elim
structure R_Q4_Check_2 where
  k : Nat
  p8 : Int
def run_Q4_Check_2 (p4 : Int) (p7 : Int) (m0 : List Site) (m1 : List Vec) : Nat → Int → R_Q4_Check_2
  | 0, p8 => ⟨2, p8⟩
  | n + 1, p8 => bif decide (p8 < p7) then (bif (decide ((0 : Int) ≤ p7) && decide (p7 < (m0.length : Int))) then (bif (decide ((0 : Int) ≤ p8) && decide (p8 < (m0.length : Int))) then (bif (((m0.getD p7.toNat (ET.z .site)).name).data.toList == ((m0.getD p8.toNat (ET.z .site)).name).data.toList) then ⟨0, p8⟩ else (bif (decide ((0 : Int) ≤ p7) && decide (p7 < (m1.length : Int))) then (bif (decide ((0 : Int) ≤ p8) && decide (p8 < (m1.length : Int))) then (bif eqAll [.int .i64 (((m1.getD p7.toNat (ET.z .vec)).x).num), .int .i64 (((m1.getD p7.toNat (ET.z .vec)).x).den), .int .i64 (((m1.getD p7.toNat (ET.z .vec)).y).num), .int .i64 (((m1.getD p7.toNat (ET.z .vec)).y).den), .int .i64 (((m1.getD p7.toNat (ET.z .vec)).z).num), .int .i64 (((m1.getD p7.toNat (ET.z .vec)).z).den)] [.int .i64 (((m1.getD p8.toNat (ET.z .vec)).x).num), .int .i64 (((m1.getD p8.toNat (ET.z .vec)).x).den), .int .i64 (((m1.getD p8.toNat (ET.z .vec)).y).num), .int .i64 (((m1.getD p8.toNat (ET.z .vec)).y).den), .int .i64 (((m1.getD p8.toNat (ET.z .vec)).z).num), .int .i64 (((m1.getD p8.toNat (ET.z .vec)).z).den)] then ⟨0, p8⟩ else run_Q4_Check_2 p4 p7 m0 m1 n (w64 (p8 + (1 : Int)))) else ⟨2, p8⟩) else ⟨2, p8⟩)) else ⟨2, p8⟩) else ⟨2, p8⟩) else ⟨1, p8⟩
def lp_Q4_Check_2 (p4 : Int) (p7 : Int) (m0 : List Site) (m1 : List Vec) (p8 : Int) : R_Q4_Check_2 := run_Q4_Check_2 p4 p7 m0 m1 (2000 + (m0.length + m1.length)) p8
abbrev H_Q4_Check_2 (p4 : Int) (p7 : Int) (_m0 : List Site) (_m1 : List Vec) (p8 : Int) : TS := headT [1, 4, 6, 7, 8] 65 [.v (.c (.aslice 0 none)), .v (.c (.d (.int .i64 p4))), .v (.c (.aslice 1 none)), .v (.c (.d (.int .i64 p7))), .v (.c (.d (.int .i64 p8)))]
theorem b_Q4_Check_2 (p4 : Int) (p7 : Int) (m0 : List Site) (m1 : List Vec) (p8 : Int) : evCode Tryz.prog GT EQT T_Q4_all XT noL 80 (loopB Tryz.prog 85 2) (H_Q4_Check_2 p4 p7 m0 m1 p8) [.arr none .site m0, .arr (some 105) .vec m1] 2 (normK 1 [1, 4, 6, 7, 8]) =
    bif decide (p8 < p7) then (bif (decide ((0 : Int) ≤ p7) && decide (p7 < (m0.length : Int))) then (bif (decide ((0 : Int) ≤ p8) && decide (p8 < (m0.length : Int))) then (bif (((m0.getD p7.toNat (ET.z .site)).name).data.toList == ((m0.getD p8.toNat (ET.z .site)).name).data.toList) then some (.st .ret (headT [1, 4, 6, 7, 8] 65 [.v (.c (.aslice 0 none)), .v (.c (.d (.int .i64 (14 : Int)))), .v (.c (.aslice 1 none)), .v (.c (.d (.int .i64 p7))), .v (.c (.d (.int .i64 p8)))]) [.arr none .site m0, .arr (some 105) .vec m1] 2) else (bif (decide ((0 : Int) ≤ p7) && decide (p7 < (m1.length : Int))) then (bif (decide ((0 : Int) ≤ p8) && decide (p8 < (m1.length : Int))) then (bif eqAll [.int .i64 (((m1.getD p7.toNat (ET.z .vec)).x).num), .int .i64 (((m1.getD p7.toNat (ET.z .vec)).x).den), .int .i64 (((m1.getD p7.toNat (ET.z .vec)).y).num), .int .i64 (((m1.getD p7.toNat (ET.z .vec)).y).den), .int .i64 (((m1.getD p7.toNat (ET.z .vec)).z).num), .int .i64 (((m1.getD p7.toNat (ET.z .vec)).z).den)] [.int .i64 (((m1.getD p8.toNat (ET.z .vec)).x).num), .int .i64 (((m1.getD p8.toNat (ET.z .vec)).x).den), .int .i64 (((m1.getD p8.toNat (ET.z .vec)).y).num), .int .i64 (((m1.getD p8.toNat (ET.z .vec)).y).den), .int .i64 (((m1.getD p8.toNat (ET.z .vec)).z).num), .int .i64 (((m1.getD p8.toNat (ET.z .vec)).z).den)] then some (.st .ret (headT [1, 4, 6, 7, 8] 65 [.v (.c (.aslice 0 none)), .v (.c (.d (.int .i64 (14 : Int)))), .v (.c (.aslice 1 none)), .v (.c (.d (.int .i64 p7))), .v (.c (.d (.int .i64 p8)))]) [.arr none .site m0, .arr (some 105) .vec m1] 2) else some (.st .normal (headT [1, 4, 6, 7, 8] 65 [.v (.c (.aslice 0 none)), .v (.c (.d (.int .i64 p4))), .v (.c (.aslice 1 none)), .v (.c (.d (.int .i64 p7))), .v (.c (.d (.int .i64 (w64 (p8 + (1 : Int))))))]) [.arr none .site m0, .arr (some 105) .vec m1] 2)) else none) else none)) else none) else none) else some (.st (.exit 4) (headT [1, 4, 6, 7, 8] 65 [.v (.c (.aslice 0 none)), .v (.c (.d (.int .i64 p4))), .v (.c (.aslice 1 none)), .v (.c (.d (.int .i64 p7))), .v (.c (.d (.int .i64 p8)))]) [.arr none .site m0, .arr (some 105) .vec m1] 2) := by
  kernel_rfl
def o_Q4_Check_2 (p4 : Int) (p7 : Int) (m0 : List Site) (m1 : List Vec) (r : R_Q4_Check_2) : LT := .br (Nat.beq r.k 0) (.st .ret (headT [1, 4, 6, 7, 8] 65 [.v (.c (.aslice 0 none)), .v (.c (.d (.int .i64 (14 : Int)))), .v (.c (.aslice 1 none)), .v (.c (.d (.int .i64 p7))), .v (.c (.d (.int .i64 r.p8)))]) [.arr none .site m0, .arr (some 105) .vec m1] 2) (.br (Nat.beq r.k 1) (.st (.exit 4) (headT [1, 4, 6, 7, 8] 65 [.v (.c (.aslice 0 none)), .v (.c (.d (.int .i64 p4))), .v (.c (.aslice 1 none)), .v (.c (.d (.int .i64 p7))), .v (.c (.d (.int .i64 r.p8)))]) [.arr none .site m0, .arr (some 105) .vec m1] 2) (.no))
theorem r_Q4_Check_2 (p4 : Int) (p7 : Int) (m0 : List Site) (m1 : List Vec) : ∀ (n : Nat) (p8 : Int) (x : Ex) (T' : TS) (M' : List Blk) (N' : Nat), LReach (o_Q4_Check_2 p4 p7 m0 m1 (run_Q4_Check_2 p4 p7 m0 m1 n p8)) x T' M' N' → x ≠ .normal ∧ ∃ j, RoundsN Tryz.prog GT gbT 1 (loopB Tryz.prog 85 2) j (H_Q4_Check_2 p4 p7 m0 m1 p8) [.arr none .site m0, .arr (some 105) .vec m1] 2 x T' M' N' := by
  have hL : LOKn Tryz.prog GT gbT 1 noL (loopsIn (loopB Tryz.prog 85 2)) := fun _ _ _ _ _ _ _ _ _ h => h.elim
  intro n
  induction n with
  | zero =>
    intro p8 x T' M' N' hr
    exact False.elim (redF (redF hr))
  | succ n ih =>
    intro p8 x T' M' N'
    rw [run_Q4_Check_2]
    exact viaE (b_Q4_Check_2 p4 p7 m0 m1 p8) (condG (o := o_Q4_Check_2 p4 p7 m0 m1) (condG (o := o_Q4_Check_2 p4 p7 m0 m1) (condG (o := o_Q4_Check_2 p4 p7 m0 m1) (condG (o := o_Q4_Check_2 p4 p7 m0 m1) (fun he hr => stopN g_Q4_all hEQT hmT hL he (by simp) (redT hr)) (condG (o := o_Q4_Check_2 p4 p7 m0 m1) (condG (o := o_Q4_Check_2 p4 p7 m0 m1) (condG (o := o_Q4_Check_2 p4 p7 m0 m1) (fun he hr => stopN g_Q4_all hEQT hmT hL he (by simp) (redT hr)) (fun he hr => goN g_Q4_all hEQT hmT hL he (ih (w64 (p8 + (1 : Int))) x T' M' N' hr))) (fun _ hr => False.elim (redF (redF hr)))) (fun _ hr => False.elim (redF (redF hr))))) (fun _ hr => False.elim (redF (redF hr)))) (fun _ hr => False.elim (redF (redF hr)))) (fun he hr => stopN g_Q4_all hEQT hmT hL he (by simp) (redT (redF hr))))
def f_Q4_Check_2 : List AV → List Blk → LT := fun vs Ms => match vs, Ms with
  | [.v (.c (.aslice 0 none)), .v (.c (.d (.int .i64 p4))), .v (.c (.aslice 1 none)), .v (.c (.d (.int .i64 p7))), .v (.c (.d (.int .i64 p8)))], [.arr none .site m0, .arr (some 105) .vec m1] => o_Q4_Check_2 p4 p7 m0 m1 (lp_Q4_Check_2 p4 p7 m0 m1 p8)
  | _, _ => .no
def L_Q4_Check_2 := LamN 15 65 1 [1, 4, 6, 7, 8] f_Q4_Check_2
theorem k_Q4_Check_2 : LOKbn Tryz.prog GT gbT 1 L_Q4_Check_2 (loopB Tryz.prog 85 2) := by
  refine LOKbn.lamN (by kernel_rfl) fun vs Ms x T' M' N' hr => ?_
  unfold f_Q4_Check_2 at hr
  split at hr
  · obtain ⟨q1, j, q2⟩ := r_Q4_Check_2 _ _ _ _ _ _ x T' M' N' hr
    exact ⟨q1, j, q2⟩
  · exact hr.elim
structure R_Q4_Check_1 where
  k : Nat
  p7 : Int
def run_Q4_Check_1 (p4 : Int) (m0 : List Site) (m1 : List Vec) : Nat → Int → R_Q4_Check_1
  | 0, p7 => ⟨2, p7⟩
  | n + 1, p7 => bif decide (p7 < (m0.length : Int)) then (bif Nat.beq (lp_Q4_Check_2 p4 p7 m0 m1 (0 : Int)).k 0 then ⟨0, p7⟩ else (bif Nat.beq (lp_Q4_Check_2 p4 p7 m0 m1 (0 : Int)).k 1 then run_Q4_Check_1 p4 m0 m1 n (w64 (p7 + (1 : Int))) else ⟨2, p7⟩)) else ⟨1, p7⟩
def lp_Q4_Check_1 (p4 : Int) (m0 : List Site) (m1 : List Vec) (p7 : Int) : R_Q4_Check_1 := run_Q4_Check_1 p4 m0 m1 (2000 + (m0.length + m1.length)) p7
abbrev H_Q4_Check_1 (p4 : Int) (_m0 : List Site) (_m1 : List Vec) (p7 : Int) : TS := headT [1, 4, 6, 7] 65 [.v (.c (.aslice 0 none)), .v (.c (.d (.int .i64 p4))), .v (.c (.aslice 1 none)), .v (.c (.d (.int .i64 p7)))]
theorem b_Q4_Check_1 (p4 : Int) (m0 : List Site) (m1 : List Vec) (p7 : Int) : evCode Tryz.prog GT EQT T_Q4_all XT (orL L_Q4_Check_2 noL) 80 (loopB Tryz.prog 85 1) (H_Q4_Check_1 p4 m0 m1 p7) [.arr none .site m0, .arr (some 105) .vec m1] 2 (normK 1 [1, 4, 6, 7]) =
    bif decide (p7 < (m0.length : Int)) then (bif Nat.beq (lp_Q4_Check_2 p4 p7 m0 m1 (0 : Int)).k 0 then some (.st .ret (headT [1, 4, 6, 7] 65 [.v (.c (.aslice 0 none)), .v (.c (.d (.int .i64 (14 : Int)))), .v (.c (.aslice 1 none)), .v (.c (.d (.int .i64 p7)))]) [.arr none .site m0, .arr (some 105) .vec m1] 2) else (bif Nat.beq (lp_Q4_Check_2 p4 p7 m0 m1 (0 : Int)).k 1 then some (.st .normal (headT [1, 4, 6, 7] 65 [.v (.c (.aslice 0 none)), .v (.c (.d (.int .i64 p4))), .v (.c (.aslice 1 none)), .v (.c (.d (.int .i64 (w64 (p7 + (1 : Int))))))]) [.arr none .site m0, .arr (some 105) .vec m1] 2) else none)) else some (.st (.exit 2) (headT [1, 4, 6, 7] 65 [.v (.c (.aslice 0 none)), .v (.c (.d (.int .i64 p4))), .v (.c (.aslice 1 none)), .v (.c (.d (.int .i64 p7)))]) [.arr none .site m0, .arr (some 105) .vec m1] 2) := by
  kernel_rfl
def o_Q4_Check_1 (p4 : Int) (m0 : List Site) (m1 : List Vec) (r : R_Q4_Check_1) : LT := .br (Nat.beq r.k 0) (.st .ret (headT [1, 4, 6, 7] 65 [.v (.c (.aslice 0 none)), .v (.c (.d (.int .i64 (14 : Int)))), .v (.c (.aslice 1 none)), .v (.c (.d (.int .i64 r.p7)))]) [.arr none .site m0, .arr (some 105) .vec m1] 2) (.br (Nat.beq r.k 1) (.st (.exit 2) (headT [1, 4, 6, 7] 65 [.v (.c (.aslice 0 none)), .v (.c (.d (.int .i64 p4))), .v (.c (.aslice 1 none)), .v (.c (.d (.int .i64 r.p7)))]) [.arr none .site m0, .arr (some 105) .vec m1] 2) (.no))
theorem r_Q4_Check_1 (p4 : Int) (m0 : List Site) (m1 : List Vec) : ∀ (n : Nat) (p7 : Int) (x : Ex) (T' : TS) (M' : List Blk) (N' : Nat), LReach (o_Q4_Check_1 p4 m0 m1 (run_Q4_Check_1 p4 m0 m1 n p7)) x T' M' N' → x ≠ .normal ∧ ∃ j, RoundsN Tryz.prog GT gbT 1 (loopB Tryz.prog 85 1) j (H_Q4_Check_1 p4 m0 m1 p7) [.arr none .site m0, .arr (some 105) .vec m1] 2 x T' M' N' := by
  have hL : LOKn Tryz.prog GT gbT 1 (orL L_Q4_Check_2 noL) (loopsIn (loopB Tryz.prog 85 1)) := by
    intro b hb
    have e : loopsIn (loopB Tryz.prog 85 1) = [loopB Tryz.prog 85 2] := by kernel_rfl
    rw [e] at hb
    simp only [List.mem_cons, List.not_mem_nil, or_false] at hb
    subst hb
    exact (LOKbn.or k_Q4_Check_2 (fun _ _ _ _ _ _ _ h => h.elim))
  intro n
  induction n with
  | zero =>
    intro p7 x T' M' N' hr
    exact False.elim (redF (redF hr))
  | succ n ih =>
    intro p7 x T' M' N'
    rw [run_Q4_Check_1]
    exact viaE (b_Q4_Check_1 p4 m0 m1 p7) (condG (o := o_Q4_Check_1 p4 m0 m1) (condG (o := o_Q4_Check_1 p4 m0 m1) (fun he hr => stopN g_Q4_all hEQT hmT hL he (by simp) (redT hr)) (condG (o := o_Q4_Check_1 p4 m0 m1) (fun he hr => goN g_Q4_all hEQT hmT hL he (ih (w64 (p7 + (1 : Int))) x T' M' N' hr)) (fun _ hr => False.elim (redF (redF hr))))) (fun he hr => stopN g_Q4_all hEQT hmT hL he (by simp) (redT (redF hr))))
def f_Q4_Check_1 : List AV → List Blk → LT := fun vs Ms => match vs, Ms with
  | [.v (.c (.aslice 0 none)), .v (.c (.d (.int .i64 p4))), .v (.c (.aslice 1 none)), .v (.c (.d (.int .i64 p7)))], [.arr none .site m0, .arr (some 105) .vec m1] => o_Q4_Check_1 p4 m0 m1 (lp_Q4_Check_1 p4 m0 m1 p7)
  | _, _ => .no
def L_Q4_Check_1 := LamN 12 65 1 [1, 4, 6, 7] f_Q4_Check_1
theorem k_Q4_Check_1 : LOKbn Tryz.prog GT gbT 1 L_Q4_Check_1 (loopB Tryz.prog 85 1) := by
  refine LOKbn.lamN (by kernel_rfl) fun vs Ms x T' M' N' hr => ?_
  unfold f_Q4_Check_1 at hr
  split at hr
  · obtain ⟨q1, j, q2⟩ := r_Q4_Check_1 _ _ _ _ _ x T' M' N' hr
    exact ⟨q1, j, q2⟩
  · exact hr.elim
structure O_Q4_Check where
  ok : Bool
  r0 : Int
def m_Q4_Check (a0 : Globe) (a1 : List Site) : O_Q4_Check := bif ((checkG a0) != (0 : Int)) then ⟨true, (checkG a0)⟩ else (bif decide ((8 : Int) < (a1.length : Int)) then ⟨true, (4 : Int)⟩ else (bif Nat.beq (lp_Q4_Check_0 (0 : Int) a1 a0 (0 : Int)).k 0 then ⟨true, (8 : Int)⟩ else (bif Nat.beq (lp_Q4_Check_0 (0 : Int) a1 a0 (0 : Int)).k 1 then (bif (m_Q4_all a0 a1).ok then (bif Nat.beq (lp_Q4_Check_1 (0 : Int) a1 ((m_Q4_all a0 a1).r0) (0 : Int)).k 0 then ⟨true, (14 : Int)⟩ else (bif Nat.beq (lp_Q4_Check_1 (0 : Int) a1 ((m_Q4_all a0 a1).r0) (0 : Int)).k 1 then ⟨true, (0 : Int)⟩ else ⟨false, 0⟩)) else ⟨false, 0⟩) else ⟨false, 0⟩)))
def F_Q4_Check (_a0 : Globe) (a1 : List Site) (K : AV → List Blk → Ans) (r : O_Q4_Check) : Ans := bif r.ok then K (.v (.c (.d (.int .i64 r.r0)))) [.arr none .site a1] else none
theorem e_Q4_Check (a0 : Globe) (a1 : List Site) (K : AV → List Blk → Ans) : evFn Tryz.prog GT EQT T_Q4_all XT (orL L_Q4_Check_1 (orL L_Q4_Check_2 (orL L_Q4_Check_0 noL))) 80 85 [.v (.agg [.int .i64 a0.a, .int .i64 a0.b]), .v (.c (.aslice 0 none))] [.arr none .site a1] (fun v M => K (finR 1 v M).1 (finR 1 v M).2) = F_Q4_Check a0 a1 K (m_Q4_Check a0 a1) := by
  unfold m_Q4_Check
  refine Eq.trans ?_ (Eq.symm (pushT rfl (pushT rfl (pushT rfl (pushT (pushT (pushT rfl (pushT rfl rfl)) rfl) rfl)))))
  kernel_rfl
theorem lok_Q4_Check : ∀ fn c, Tryz.prog.funcs[85]? = some fn → fn.body = some c → LOKn Tryz.prog GT gbT 1 (orL L_Q4_Check_1 (orL L_Q4_Check_2 (orL L_Q4_Check_0 noL))) (loopsIn c) := by
  refine LOKn.ofF fun b hb => ?_
  have e : loopsF Tryz.prog 85 = [loopB Tryz.prog 85 0, loopB Tryz.prog 85 1, loopB Tryz.prog 85 2] := by kernel_rfl
  rw [e] at hb
  simp only [List.mem_cons, List.not_mem_nil, or_false] at hb
  rcases hb with rfl | rfl | rfl
  · exact (LOKbn.or (LOKbn.lamN_other (by kernel_rfl)) (LOKbn.or (LOKbn.lamN_other (by kernel_rfl)) (LOKbn.or k_Q4_Check_0 (fun _ _ _ _ _ _ _ h => h.elim))))
  · exact (LOKbn.or k_Q4_Check_1 (LOKbn.or (LOKbn.lamN_other (by kernel_rfl)) (LOKbn.or (LOKbn.lamN_other (by kernel_rfl)) (fun _ _ _ _ _ _ _ h => h.elim))))
  · exact (LOKbn.or (LOKbn.lamN_other (by kernel_rfl)) (LOKbn.or k_Q4_Check_2 (LOKbn.or (LOKbn.lamN_other (by kernel_rfl)) (fun _ _ _ _ _ _ _ h => h.elim))))
theorem c_Q4_Check (a0 : Globe) (a1 : List Site) (hd : (m_Q4_Check a0 a1).ok = true) : CallsA Tryz.prog GT gbT 85 [.v (.agg [.int .i64 a0.a, .int .i64 a0.b]), .v (.c (.aslice 0 none))] [.arr none .site a1] (.v (.c (.d (.int .i64 ((m_Q4_Check a0 a1).r0))))) [.arr none .site a1] := by
  refine CallsA.ofEvR g_Q4_all hEQT hmT (n0 := 1) rfl lok_Q4_Check ((e_Q4_Check a0 a1 (fun v M => some (Res.fin v M))).trans ?_)
  unfold F_Q4_Check
  rw [hd]
  rfl
def s_Q4_Check : List AV → List Blk → (AV → List Blk → Ans) → Ans := fun xs bs K => match xs, bs with
  | [.v (.agg [.int .i64 a0_0, .int .i64 a0_1]), .v (.c (.aslice 0 none))], [.arr none .site a1] => F_Q4_Check (⟨a0_0, a0_1⟩ : Globe) a1 K (m_Q4_Check (⟨a0_0, a0_1⟩ : Globe) a1)
  | _, _ => none
def T_Q4_Check : Nat → List AV → List Blk → (AV → List Blk → Ans) → Ans := upd T_Q4_all 85 s_Q4_Check
theorem g_Q4_Check : GOK Tryz.prog GT gbT T_Q4_Check XT := by
  refine GOK.upd g_Q4_all (fun args w => Tryz.call85 args w) fun xs bs K r h => ?_
  unfold s_Q4_Check at h
  split at h
  · unfold F_Q4_Check at h
    simp only [cond_eq_ite] at h
    split at h
    · rename_i hd
      exact ⟨_, _, c_Q4_Check _ _ hd, h⟩
    · cases h
  · cases h
structure O_Q4_Places where
  ok : Bool
  r0 : List Vec
  r1 : Int
def m_Q4_Places (a0 : Globe) (a1 : List Site) : O_Q4_Places := bif (m_Q4_Check a0 a1).ok then (bif ((m_Q4_Check a0 a1).r0 != (0 : Int)) then (bif (m_Q4_Check a0 a1).ok then ⟨true, ([] : List Vec), (m_Q4_Check a0 a1).r0⟩ else ⟨false, [], 0⟩) else (bif (m_Q4_all a0 a1).ok then ⟨true, (m_Q4_all a0 a1).r0, (0 : Int)⟩ else ⟨false, [], 0⟩)) else ⟨false, [], 0⟩
def F_Q4_Places (_a0 : Globe) (a1 : List Site) (K : AV → List Blk → Ans) (r : O_Q4_Places) : Ans := bif r.ok then K (.tup [.c (.aslice 1 none), .c (.d (.int .i64 r.r1))]) [.arr none .site a1, .arr (some 105) .vec r.r0] else none
theorem e_Q4_Places (a0 : Globe) (a1 : List Site) (K : AV → List Blk → Ans) : evFn Tryz.prog GT EQT T_Q4_Check XT noL 80 94 [.v (.agg [.int .i64 a0.a, .int .i64 a0.b]), .v (.c (.aslice 0 none))] [.arr none .site a1] (fun v M => K (finR 1 v M).1 (finR 1 v M).2) = F_Q4_Places a0 a1 K (m_Q4_Places a0 a1) := by
  unfold m_Q4_Places
  refine Eq.trans ?_ (Eq.symm (pushT (pushT (pushT rfl rfl) (pushT rfl rfl)) rfl))
  kernel_rfl
theorem c_Q4_Places (a0 : Globe) (a1 : List Site) (hd : (m_Q4_Places a0 a1).ok = true) : CallsA Tryz.prog GT gbT 94 [.v (.agg [.int .i64 a0.a, .int .i64 a0.b]), .v (.c (.aslice 0 none))] [.arr none .site a1] (.tup [.c (.aslice 1 none), .c (.d (.int .i64 ((m_Q4_Places a0 a1).r1)))]) [.arr none .site a1, .arr (some 105) .vec ((m_Q4_Places a0 a1).r0)] := by
  refine CallsA.ofEvR g_Q4_Check hEQT hmT (n0 := 1) rfl (fun _ _ _ _ => LOKn.nil) ((e_Q4_Places a0 a1 (fun v M => some (Res.fin v M))).trans ?_)
  unfold F_Q4_Places
  rw [hd]
  rfl
def s_Q4_Places : List AV → List Blk → (AV → List Blk → Ans) → Ans := fun xs bs K => match xs, bs with
  | [.v (.agg [.int .i64 a0_0, .int .i64 a0_1]), .v (.c (.aslice 0 none))], [.arr none .site a1] => F_Q4_Places (⟨a0_0, a0_1⟩ : Globe) a1 K (m_Q4_Places (⟨a0_0, a0_1⟩ : Globe) a1)
  | _, _ => none
def T_Q4_Places : Nat → List AV → List Blk → (AV → List Blk → Ans) → Ans := upd T_Q4_Check 94 s_Q4_Places
theorem g_Q4_Places : GOK Tryz.prog GT gbT T_Q4_Places XT := by
  refine GOK.upd g_Q4_Check (fun args w => Tryz.call94 args w) fun xs bs K r h => ?_
  unfold s_Q4_Places at h
  split at h
  · unfold F_Q4_Places at h
    simp only [cond_eq_ite] at h
    split at h
    · rename_i hd
      exact ⟨_, _, c_Q4_Places _ _ hd, h⟩
    · cases h
  · cases h
structure O_Q4_Line where
  ok : Bool
  r0 : Vec
  r1 : Int
def m_Q4_Line (a0 : Globe) (a1 : List Site) (a2 : Int) (a3 : Int) : O_Q4_Line := bif (m_Q4_Places a0 a1).ok then (bif ((m_Q4_Places a0 a1).r1 != (0 : Int)) then ⟨true, ⟨⟨(0 : Int), (0 : Int)⟩, ⟨(0 : Int), (0 : Int)⟩, ⟨(0 : Int), (0 : Int)⟩⟩, (m_Q4_Places a0 a1).r1⟩ else (bif decide (a2 < (0 : Int)) then ⟨true, ⟨⟨(0 : Int), (0 : Int)⟩, ⟨(0 : Int), (0 : Int)⟩, ⟨(0 : Int), (0 : Int)⟩⟩, (2 : Int)⟩ else (bif decide (a3 < (0 : Int)) then ⟨true, ⟨⟨(0 : Int), (0 : Int)⟩, ⟨(0 : Int), (0 : Int)⟩, ⟨(0 : Int), (0 : Int)⟩⟩, (2 : Int)⟩ else (bif decide ((a1.length : Int) ≤ a2) then ⟨true, ⟨⟨(0 : Int), (0 : Int)⟩, ⟨(0 : Int), (0 : Int)⟩, ⟨(0 : Int), (0 : Int)⟩⟩, (2 : Int)⟩ else (bif decide ((a1.length : Int) ≤ a3) then ⟨true, ⟨⟨(0 : Int), (0 : Int)⟩, ⟨(0 : Int), (0 : Int)⟩, ⟨(0 : Int), (0 : Int)⟩⟩, (2 : Int)⟩ else (bif (decide ((0 : Int) ≤ a3) && decide (a3 < (((m_Q4_Places a0 a1).r0).length : Int))) then (bif (decide ((0 : Int) ≤ a2) && decide (a2 < (((m_Q4_Places a0 a1).r0).length : Int))) then ⟨true, (subV ⟨⟨(((((m_Q4_Places a0 a1).r0).getD a3.toNat (ET.z .vec)).x).num), (((((m_Q4_Places a0 a1).r0).getD a3.toNat (ET.z .vec)).x).den)⟩, ⟨(((((m_Q4_Places a0 a1).r0).getD a3.toNat (ET.z .vec)).y).num), (((((m_Q4_Places a0 a1).r0).getD a3.toNat (ET.z .vec)).y).den)⟩, ⟨(((((m_Q4_Places a0 a1).r0).getD a3.toNat (ET.z .vec)).z).num), (((((m_Q4_Places a0 a1).r0).getD a3.toNat (ET.z .vec)).z).den)⟩⟩ ⟨⟨(((((m_Q4_Places a0 a1).r0).getD a2.toNat (ET.z .vec)).x).num), (((((m_Q4_Places a0 a1).r0).getD a2.toNat (ET.z .vec)).x).den)⟩, ⟨(((((m_Q4_Places a0 a1).r0).getD a2.toNat (ET.z .vec)).y).num), (((((m_Q4_Places a0 a1).r0).getD a2.toNat (ET.z .vec)).y).den)⟩, ⟨(((((m_Q4_Places a0 a1).r0).getD a2.toNat (ET.z .vec)).z).num), (((((m_Q4_Places a0 a1).r0).getD a2.toNat (ET.z .vec)).z).den)⟩⟩).1, (subV ⟨⟨(((((m_Q4_Places a0 a1).r0).getD a3.toNat (ET.z .vec)).x).num), (((((m_Q4_Places a0 a1).r0).getD a3.toNat (ET.z .vec)).x).den)⟩, ⟨(((((m_Q4_Places a0 a1).r0).getD a3.toNat (ET.z .vec)).y).num), (((((m_Q4_Places a0 a1).r0).getD a3.toNat (ET.z .vec)).y).den)⟩, ⟨(((((m_Q4_Places a0 a1).r0).getD a3.toNat (ET.z .vec)).z).num), (((((m_Q4_Places a0 a1).r0).getD a3.toNat (ET.z .vec)).z).den)⟩⟩ ⟨⟨(((((m_Q4_Places a0 a1).r0).getD a2.toNat (ET.z .vec)).x).num), (((((m_Q4_Places a0 a1).r0).getD a2.toNat (ET.z .vec)).x).den)⟩, ⟨(((((m_Q4_Places a0 a1).r0).getD a2.toNat (ET.z .vec)).y).num), (((((m_Q4_Places a0 a1).r0).getD a2.toNat (ET.z .vec)).y).den)⟩, ⟨(((((m_Q4_Places a0 a1).r0).getD a2.toNat (ET.z .vec)).z).num), (((((m_Q4_Places a0 a1).r0).getD a2.toNat (ET.z .vec)).z).den)⟩⟩).2⟩ else ⟨false, ⟨⟨0, 0⟩, ⟨0, 0⟩, ⟨0, 0⟩⟩, 0⟩) else ⟨false, ⟨⟨0, 0⟩, ⟨0, 0⟩, ⟨0, 0⟩⟩, 0⟩)))))) else ⟨false, ⟨⟨0, 0⟩, ⟨0, 0⟩, ⟨0, 0⟩⟩, 0⟩
def F_Q4_Line (_a0 : Globe) (a1 : List Site) (_a2 : Int) (_a3 : Int) (K : AV → List Blk → Ans) (r : O_Q4_Line) : Ans := bif r.ok then K (.tup [.agg [.int .i64 r.r0.x.num, .int .i64 r.r0.x.den, .int .i64 r.r0.y.num, .int .i64 r.r0.y.den, .int .i64 r.r0.z.num, .int .i64 r.r0.z.den], .c (.d (.int .i64 r.r1))]) [.arr none .site a1] else none
theorem e_Q4_Line (a0 : Globe) (a1 : List Site) (a2 : Int) (a3 : Int) (K : AV → List Blk → Ans) : evFn Tryz.prog GT EQT T_Q4_Places XT noL 80 74 [.v (.agg [.int .i64 a0.a, .int .i64 a0.b]), .v (.c (.aslice 0 none)), .v (.c (.d (.int .i64 a2))), .v (.c (.d (.int .i64 a3)))] [.arr none .site a1] (fun v M => K (finR 1 v M).1 (finR 1 v M).2) = F_Q4_Line a0 a1 a2 a3 K (m_Q4_Line a0 a1 a2 a3) := by
  unfold m_Q4_Line
  refine Eq.trans ?_ (Eq.symm (pushT (pushT rfl (pushT rfl (pushT rfl (pushT rfl (pushT rfl (pushT (pushT rfl rfl) rfl)))))) rfl))
  kernel_rfl
theorem c_Q4_Line (a0 : Globe) (a1 : List Site) (a2 : Int) (a3 : Int) (hd : (m_Q4_Line a0 a1 a2 a3).ok = true) : CallsA Tryz.prog GT gbT 74 [.v (.agg [.int .i64 a0.a, .int .i64 a0.b]), .v (.c (.aslice 0 none)), .v (.c (.d (.int .i64 a2))), .v (.c (.d (.int .i64 a3)))] [.arr none .site a1] (.tup [.agg [.int .i64 ((((m_Q4_Line a0 a1 a2 a3).r0).x).num), .int .i64 ((((m_Q4_Line a0 a1 a2 a3).r0).x).den), .int .i64 ((((m_Q4_Line a0 a1 a2 a3).r0).y).num), .int .i64 ((((m_Q4_Line a0 a1 a2 a3).r0).y).den), .int .i64 ((((m_Q4_Line a0 a1 a2 a3).r0).z).num), .int .i64 ((((m_Q4_Line a0 a1 a2 a3).r0).z).den)], .c (.d (.int .i64 ((m_Q4_Line a0 a1 a2 a3).r1)))]) [.arr none .site a1] := by
  refine CallsA.ofEvR g_Q4_Places hEQT hmT (n0 := 1) rfl (fun _ _ _ _ => LOKn.nil) ((e_Q4_Line a0 a1 a2 a3 (fun v M => some (Res.fin v M))).trans ?_)
  unfold F_Q4_Line
  rw [hd]
  rfl
def s_Q4_Line : List AV → List Blk → (AV → List Blk → Ans) → Ans := fun xs bs K => match xs, bs with
  | [.v (.agg [.int .i64 a0_0, .int .i64 a0_1]), .v (.c (.aslice 0 none)), .v (.c (.d (.int .i64 a2))), .v (.c (.d (.int .i64 a3)))], [.arr none .site a1] => F_Q4_Line (⟨a0_0, a0_1⟩ : Globe) a1 a2 a3 K (m_Q4_Line (⟨a0_0, a0_1⟩ : Globe) a1 a2 a3)
  | _, _ => none
def T_Q4_Line : Nat → List AV → List Blk → (AV → List Blk → Ans) → Ans := upd T_Q4_Places 74 s_Q4_Line
theorem g_Q4_Line : GOK Tryz.prog GT gbT T_Q4_Line XT := by
  refine GOK.upd g_Q4_Places (fun args w => Tryz.call74 args w) fun xs bs K r h => ?_
  unfold s_Q4_Line at h
  split at h
  · unfold F_Q4_Line at h
    simp only [cond_eq_ite] at h
    split at h
    · rename_i hd
      exact ⟨_, _, c_Q4_Line _ _ _ _ hd, h⟩
    · cases h
  · cases h
structure O_Q8_Line where
  ok : Bool
  r0 : Dir
  r1 : Int
def m_Q8_Line (a0 : Globe) (a1 : List Site) (a2 : Int) (a3 : Int) (a4 : Source) (a5 : Int) : O_Q8_Line := bif (m_Q4_Line a0 a1 a2 a3).ok then (bif ((m_Q4_Line a0 a1 a2 a3).r1 != (0 : Int)) then ⟨true, ⟨⟨(0 : Int), (0 : Int)⟩, ⟨(0 : Int), (0 : Int)⟩, ⟨(0 : Int), (0 : Int)⟩⟩, (m_Q4_Line a0 a1 a2 a3).r1⟩ else ⟨true, (projV ((m_Q4_Line a0 a1 a2 a3).r0) a4 a5).1, (projV ((m_Q4_Line a0 a1 a2 a3).r0) a4 a5).2⟩) else ⟨false, ⟨⟨0, 0⟩, ⟨0, 0⟩, ⟨0, 0⟩⟩, 0⟩
def F_Q8_Line (_a0 : Globe) (a1 : List Site) (_a2 : Int) (_a3 : Int) (_a4 : Source) (_a5 : Int) (K : AV → List Blk → Ans) (r : O_Q8_Line) : Ans := bif r.ok then K (.tup [.agg [.int .i64 r.r0.x.lo, .int .i64 r.r0.x.hi, .int .i64 r.r0.y.lo, .int .i64 r.r0.y.hi, .int .i64 r.r0.z.lo, .int .i64 r.r0.z.hi], .c (.d (.int .i64 r.r1))]) [.arr none .site a1] else none
theorem e_Q8_Line (a0 : Globe) (a1 : List Site) (a2 : Int) (a3 : Int) (a4 : Source) (a5 : Int) (K : AV → List Blk → Ans) : evFn Tryz.prog GT EQT T_Q4_Line XT noL 80 55 [.v (.agg [.int .i64 a0.a, .int .i64 a0.b]), .v (.c (.aslice 0 none)), .v (.c (.d (.int .i64 a2))), .v (.c (.d (.int .i64 a3))), .v (.agg [.str a4.name, .int .i64 a4.ra, .int .i64 a4.dec]), .v (.c (.d (.int .i64 a5)))] [.arr none .site a1] (fun v M => K (finR 1 v M).1 (finR 1 v M).2) = F_Q8_Line a0 a1 a2 a3 a4 a5 K (m_Q8_Line a0 a1 a2 a3 a4 a5) := by
  unfold m_Q8_Line
  refine Eq.trans ?_ (Eq.symm (pushT (pushT rfl rfl) rfl))
  kernel_rfl
theorem c_Q8_Line (a0 : Globe) (a1 : List Site) (a2 : Int) (a3 : Int) (a4 : Source) (a5 : Int) (hd : (m_Q8_Line a0 a1 a2 a3 a4 a5).ok = true) : CallsA Tryz.prog GT gbT 55 [.v (.agg [.int .i64 a0.a, .int .i64 a0.b]), .v (.c (.aslice 0 none)), .v (.c (.d (.int .i64 a2))), .v (.c (.d (.int .i64 a3))), .v (.agg [.str a4.name, .int .i64 a4.ra, .int .i64 a4.dec]), .v (.c (.d (.int .i64 a5)))] [.arr none .site a1] (.tup [.agg [.int .i64 ((((m_Q8_Line a0 a1 a2 a3 a4 a5).r0).x).lo), .int .i64 ((((m_Q8_Line a0 a1 a2 a3 a4 a5).r0).x).hi), .int .i64 ((((m_Q8_Line a0 a1 a2 a3 a4 a5).r0).y).lo), .int .i64 ((((m_Q8_Line a0 a1 a2 a3 a4 a5).r0).y).hi), .int .i64 ((((m_Q8_Line a0 a1 a2 a3 a4 a5).r0).z).lo), .int .i64 ((((m_Q8_Line a0 a1 a2 a3 a4 a5).r0).z).hi)], .c (.d (.int .i64 ((m_Q8_Line a0 a1 a2 a3 a4 a5).r1)))]) [.arr none .site a1] := by
  refine CallsA.ofEvR g_Q4_Line hEQT hmT (n0 := 1) rfl (fun _ _ _ _ => LOKn.nil) ((e_Q8_Line a0 a1 a2 a3 a4 a5 (fun v M => some (Res.fin v M))).trans ?_)
  unfold F_Q8_Line
  rw [hd]
  rfl
def s_Q8_Line : List AV → List Blk → (AV → List Blk → Ans) → Ans := fun xs bs K => match xs, bs with
  | [.v (.agg [.int .i64 a0_0, .int .i64 a0_1]), .v (.c (.aslice 0 none)), .v (.c (.d (.int .i64 a2))), .v (.c (.d (.int .i64 a3))), .v (.agg [.str a4_0, .int .i64 a4_1, .int .i64 a4_2]), .v (.c (.d (.int .i64 a5)))], [.arr none .site a1] => F_Q8_Line (⟨a0_0, a0_1⟩ : Globe) a1 a2 a3 (⟨a4_0, a4_1, a4_2⟩ : Source) a5 K (m_Q8_Line (⟨a0_0, a0_1⟩ : Globe) a1 a2 a3 (⟨a4_0, a4_1, a4_2⟩ : Source) a5)
  | _, _ => none
def T_Q8_Line : Nat → List AV → List Blk → (AV → List Blk → Ans) → Ans := upd T_Q4_Line 55 s_Q8_Line
theorem g_Q8_Line : GOK Tryz.prog GT gbT T_Q8_Line XT := by
  refine GOK.upd g_Q4_Line (fun args w => Tryz.call55 args w) fun xs bs K r h => ?_
  unfold s_Q8_Line at h
  split at h
  · unfold F_Q8_Line at h
    simp only [cond_eq_ite] at h
    split at h
    · rename_i hd
      exact ⟨_, _, c_Q8_Line _ _ _ _ _ _ hd, h⟩
    · cases h
  · cases h
end Go.Ev

namespace Go.Ev
end Go.Ev

namespace Go.Ev
open Go
theorem w64_up {n : Nat} (h : n < 9223372036854775807) : w64 ((n : Int) + 1) = ((n + 1 : Nat) : Int) := by simp only [w64, wr]; omega
theorem room_le {n : Nat} (h : n ≤ 1048576) : Nat.ble n roomD = true := by rw [Nat.ble_eq]; exact h
abbrev sAt (l : List Site) (n : Nat) : Site := l.getD n (ET.z .site)
theorem drop_at {α : Type} {l : List α} {n : Nat} (z : α) (h : n < l.length) : l.drop n = l.getD n z :: l.drop (n + 1) := by
  rw [List.drop_eq_getElem_cons h]
  congr 1
  rw [List.getD_eq_getElem?_getD, List.getElem?_eq_getElem h]
  rfl
theorem drop_all {α : Type} {l : List α} {n : Nat} (h : ¬ n < l.length) : l.drop n = [] := List.drop_eq_nil_of_le (by omega)
theorem run_great (l : List Site) (p : Bool) (hl : l.length ≤ maxLen) : ∀ (f n : Nat), n ≤ l.length → l.length - n < f → (run_Q4_Great_0 p l f (n : Int)).k = bif (l.drop n).any (fun x => decide (100 < x.name.size)) then 0 else 1 := by
  intro f
  induction f with
  | zero => intro n _ h; omega
  | succ f ih =>
    intro n hn h
    rw [run_Q4_Great_0]
    simp only [maxLen] at hl
    by_cases h1 : n < l.length
    · simp only [nn_t, lt_t h1, Bool.and_self, cond_true, w64_up (show n < 9223372036854775807 by omega), Int.toNat_natCast]
      rw [drop_at (ET.z .site) h1, List.any_cons]
      by_cases c : 100 < (sAt l n).name.size
      · rw [dec_t (show (100 : Int) < ((sAt l n).name.size : Int) by omega), dec_t c]; rfl
      · rw [dec_f (show ¬ (100 : Int) < ((sAt l n).name.size : Int) by omega), dec_f c]
        simp only [cond_false, Bool.false_or]
        exact ih (n + 1) (by omega) (by omega)
    · simp only [lt_f h1, cond_false]
      rw [drop_all h1]
      rfl
def greatB (l : List Site) : Bool := l.any (fun x => decide (100 < x.name.size)) || decide (20 < l.length)
theorem m_great (l : List Site) (hl : l.length ≤ maxLen) : m_Q4_Great l = ⟨true, greatB l⟩ := by
  unfold m_Q4_Great lp_Q4_Great_0 greatB
  have := run_great l false hl (2000 + l.length) 0 (by omega) (by omega)
  rw [show ((0 : Nat) : Int) = 0 from rfl, List.drop_zero] at this
  rw [this]
  cases l.any (fun x => decide (100 < x.name.size)) with
  | true => rfl
  | false =>
    by_cases c : 20 < l.length
    · rw [dec_t c, dec_t (show (20 : Int) < (l.length : Int) by omega)]; rfl
    · rw [dec_f c, dec_f (show ¬ (20 : Int) < (l.length : Int) by omega)]; rfl
def siteB (x : Site) : Bool := namedB x.name && placedB x.s x.t
theorem run_valid (x : Site) (p : Bool) (hs : x.name.size ≤ 40) : ∀ (f m : Nat) (i : Int), 0 ≤ i → i + m = x.name.size → m < f → (run_array_valid_0 p (x.name.size : Int) x f i).k = bif restOk x.name i m then 1 else 0 := by
  intro f
  induction f with
  | zero => intro m i _ _ h; omega
  | succ f ih =>
    intro m i h0 h1 h2
    rw [run_array_valid_0]
    change (bif decide (i < (x.name.size : Int)) then (bif (decide (0 ≤ i) && decide (i < (x.name.size : Int))) then nameStep (byteAt x.name i) ⟨0, i⟩ (run_array_valid_0 p (x.name.size : Int) x f (w64 (i + 1))) else ⟨2, i⟩) else ⟨1, i⟩ : R_array_valid_0).k = _
    cases m with
    | zero => rw [dec_f (show ¬ i < (x.name.size : Int) by omega)]; rfl
    | succ m =>
      rw [dec_t (show i < (x.name.size : Int) by omega), dec_t h0, nameStep_eq, restOk, show w64 (i + 1) = i + 1 by simp only [w64, wr]; omega]
      simp only [Bool.and_self, cond_true]
      cases byteOk (byteAt x.name i) with
      | false => rfl
      | true =>
        simp only [cond_true]
        exact ih m (i + 1) (by omega) (by omega) (by omega)
theorem at_one (s t : Frac) : ((atV ⟨1, 1⟩ s t).2 == (0 : Int)) = placedB s t := by
  unfold atV
  rw [show globeOkB ⟨1, 1⟩ = true by decide]
  cases placedB s t <;> rfl
theorem m_valid (x : Site) : m_array_valid x = ⟨true, siteB x⟩ := by
  unfold m_array_valid siteB namedB lp_array_valid_0
  by_cases h1 : (x.name.size : Int) < 1
  · rw [dec_t h1]; rfl
  by_cases h2 : 40 < (x.name.size : Int)
  · rw [dec_f h1, dec_t h2]; rfl
  rw [dec_f h1, dec_f h2, dec_t (show (0 : Int) < (x.name.size : Int) by omega)]
  simp only [Int.le_refl, decide_true, Bool.and_self, cond_true, cond_false, at_one]
  cases decide (byteAt x.name 0 < 97) with
  | true => rfl
  | false =>
    cases decide (122 < byteAt x.name 0) with
    | true => rfl
    | false =>
      simp only [cond_false]
      rw [run_valid x false (by omega) _ x.name.size 0 (by omega) (by omega) (by omega)]
      cases restOk x.name 0 x.name.size <;> rfl
theorem m_validR (x : Site) : m_Q4_Valid x = ⟨true, siteB x⟩ := by
  unfold m_Q4_Valid siteB
  cases namedB x.name <;> rfl
def stationsE (l : List Site) : Int := bif decide (8 < l.length) then 4 else bif l.all siteB then 0 else 8
theorem run_stations (l : List Site) (p : Int) (hl : l.length ≤ 8) : ∀ (f n : Nat), n ≤ l.length → l.length - n < f → (run_array_stations_0 p (l.length : Int) l f (n : Int)).k = bif (l.drop n).all siteB then 1 else 0 := by
  intro f
  induction f with
  | zero => intro n _ h; omega
  | succ f ih =>
    intro n hn h
    rw [run_array_stations_0]
    by_cases h1 : n < l.length
    · simp only [nn_t, lt_t h1, Bool.and_self, cond_true, w64_up (show n < 9223372036854775807 by omega), Int.toNat_natCast, m_valid]
      rw [drop_at (ET.z .site) h1, List.all_cons]
      cases siteB (sAt l n) with
      | false => rfl
      | true =>
        simp only [Bool.not_true, cond_false, Bool.true_and]
        exact ih (n + 1) (by omega) (by omega)
    · simp only [lt_f h1, cond_false]
      rw [drop_all h1]
      rfl
theorem m_stations (l : List Site) : m_array_stations l = ⟨true, stationsE l⟩ := by
  unfold m_array_stations stationsE lp_array_stations_0
  by_cases h : 8 < l.length
  · rw [dec_t h, dec_t (show (8 : Int) < (l.length : Int) by omega)]; rfl
  · rw [dec_f h, dec_f (show ¬ (8 : Int) < (l.length : Int) by omega)]
    have := run_stations l 0 (by omega) (2000 + l.length) 0 (by omega) (by omega)
    rw [show ((0 : Nat) : Int) = 0 from rfl, List.drop_zero] at this
    simp only [cond_false]
    rw [this]
    cases l.all siteB <;> rfl
theorem stations_ok {l : List Site} (h : stationsE l = 0) : l.length ≤ 8 ∧ ∀ x ∈ l, siteB x = true := by
  unfold stationsE at h
  by_cases h1 : 8 < l.length
  · rw [dec_t h1] at h; cases h
  · rw [dec_f h1] at h
    refine ⟨by omega, ?_⟩
    cases h2 : l.all siteB with
    | false => rw [h2] at h; cases h
    | true => exact List.all_eq_true.1 h2
theorem site_placed {x : Site} (h : siteB x = true) : placedB x.s x.t = true := by
  unfold siteB at h
  simp only [Bool.and_eq_true] at h
  exact h.2
def placedL (g : Globe) (l : List Site) : List Placed := l.map fun x => ⟨x, placeV g x.s x.t⟩
def placesL (g : Globe) (l : List Site) : List Vec := l.map fun x => placeV g x.s x.t
theorem placedL_len (g : Globe) (l : List Site) : (placedL g l).length = l.length := List.length_map _
theorem placesL_len (g : Globe) (l : List Site) : (placesL g l).length = l.length := List.length_map _
theorem placedL_at (g : Globe) {l : List Site} {n : Nat} (h : n < l.length) : (placedL g l).getD n (ET.z .placed) = ⟨sAt l n, placeV g (sAt l n).s (sAt l n).t⟩ := by
  unfold placedL
  rw [List.getD_eq_getElem?_getD, List.getElem?_map, List.getElem?_eq_getElem h, sAt, List.getD_eq_getElem?_getD, List.getElem?_eq_getElem h]
  rfl
theorem placesL_at (g : Globe) {l : List Site} {n : Nat} (h : n < l.length) : (placesL g l).getD n (ET.z .vec) = placeV g (sAt l n).s (sAt l n).t := by
  unfold placesL
  rw [List.getD_eq_getElem?_getD, List.getElem?_map, List.getElem?_eq_getElem h, sAt, List.getD_eq_getElem?_getD, List.getElem?_eq_getElem h]
  rfl
theorem sAt_mem {l : List Site} {n : Nat} (h : n < l.length) : sAt l n ∈ l := by
  rw [sAt, List.getD_eq_getElem?_getD, List.getElem?_eq_getElem h]
  exact List.getElem_mem h
theorem at_valid {g : Globe} {x : Site} (hg : checkG g = 0) (hx : siteB x = true) : atV g x.s x.t = (placeV g x.s x.t, 0) := by
  unfold atV
  rw [site_placed hx]
  unfold checkG at hg
  cases h : globeOkB g with
  | false => rw [h] at hg; cases hg
  | true => rfl
theorem take_set {α : Type} : ∀ {l : List α} {n : Nat} {y : α}, n < l.length → (l.set n y).take (n + 1) = l.take n ++ [y]
  | [], _, _, h => by simp at h
  | _ :: _, 0, _, _ => by simp
  | x :: l, n + 1, y, h => by
    simp only [List.set_cons_succ, List.take_succ_cons, List.cons_append]
    rw [take_set (by simpa using h)]
theorem run_place (g : Globe) (l : List Site) (q : Int) (hg : checkG g = 0) (hl : l.length ≤ 8) (hv : ∀ x ∈ l, siteB x = true) : ∀ (f n : Nat) (acc : List Placed), n ≤ l.length → l.length - n < f → acc.length = l.length →
    (run_array_place_0 (l.length : Int) l g q f (n : Int) acc).k = 1 ∧ (run_array_place_0 (l.length : Int) l g q f (n : Int) acc).m5 = acc.take n ++ (placedL g l).drop n := by
  intro f
  induction f with
  | zero => intro n acc _ h; omega
  | succ f ih =>
    intro n acc hn h ha
    rw [run_array_place_0]
    by_cases h1 : n < l.length
    · simp only [nn_t, lt_t h1, lt_t (show n < acc.length by omega), Bool.and_self, cond_true, w64_up (show n < 9223372036854775807 by omega), Int.toNat_natCast, at_valid hg (hv _ (sAt_mem h1))]
      have := ih (n + 1) (acc.set n ⟨sAt l n, placeV g (sAt l n).s (sAt l n).t⟩) (by omega) (by omega) (by simp [ha])
      rw [take_set (by omega)] at this
      rw [drop_at (ET.z .placed) (show n < (placedL g l).length by rw [placedL_len]; exact h1), placedL_at g h1]
      refine ⟨this.1, this.2.trans ?_⟩
      rw [List.append_assoc]
      rfl
    · simp only [lt_f h1, cond_false]
      rw [drop_all (show ¬ n < (placedL g l).length by rw [placedL_len]; exact h1), List.append_nil, List.take_of_length_le (by omega)]
      exact ⟨trivial, rfl⟩
def dupL (g : Globe) (l : List Site) : Bool := dupP (placedL g l)
def checkA (g : Globe) (l : List Site) : Int := bif checkG g != 0 then checkG g else bif stationsE l != 0 then stationsE l else bif dupL g l then 14 else 0
theorem nat_of {i : Int} (h : 0 ≤ i) : ∃ n : Nat, i = n := ⟨i.toNat, by omega⟩
theorem eq0_of {n : Int} (h : (n != 0) = false) : n = 0 := by simpa using h
theorem m_place (g : Globe) (l : List Site) : m_array_place g l = ⟨true, bif checkA g l == 0 then placedL g l else [], checkA g l⟩ := by
  unfold m_array_place checkA m0_array_place
  simp only [m_stations, cond_true]
  cases h1 : (checkG g != 0) with
  | true =>
    simp only [cond_true]
    rw [show (checkG g == 0) = false by simpa [bne] using h1]
    rfl
  | false =>
    cases h2 : (stationsE l != 0) with
    | true =>
      simp only [cond_true, cond_false]
      rw [show (stationsE l == 0) = false by simpa [bne] using h2]
      rfl
    | false =>
      obtain ⟨hl, hv⟩ := stations_ok (eq0_of h2)
      have e0 : (decide (0 ≤ (l.length : Int)) && (decide ((l.length : Int) ≤ 1048576) && ((11 == 11) && (Nat.blt 0 11 && Nat.ble 96 4096)))) = true := by
        rw [nn_t, dec_t (show (l.length : Int) ≤ 1048576 by omega)]; rfl
      unfold lp_array_place_0
      obtain ⟨k1, k2⟩ := run_place g l 0 (eq0_of h1) hl hv (2000 + (l.length + (List.replicate l.length (⟨⟨ByteArray.empty, ⟨(0 : Int), (0 : Int)⟩, ⟨(0 : Int), (0 : Int)⟩⟩, ⟨⟨(0 : Int), (0 : Int)⟩, ⟨(0 : Int), (0 : Int)⟩, ⟨(0 : Int), (0 : Int)⟩⟩⟩ : Placed)).length)) 0 (List.replicate l.length (⟨⟨ByteArray.empty, ⟨(0 : Int), (0 : Int)⟩, ⟨(0 : Int), (0 : Int)⟩⟩, ⟨⟨(0 : Int), (0 : Int)⟩, ⟨(0 : Int), (0 : Int)⟩, ⟨(0 : Int), (0 : Int)⟩⟩⟩ : Placed)) (by omega) (by omega) (by simp)
      rw [show ((0 : Nat) : Int) = 0 from rfl] at k1 k2
      rw [List.take_zero, List.nil_append, List.drop_zero] at k2
      simp only [cond_false, decide_true, Bool.true_and, e0, cond_true, k1, k2, show Nat.beq 1 0 = false from rfl, show Nat.beq 1 1 = true from rfl]
      unfold dupL
      cases dupP (placedL g l) <;> rfl
theorem placeR_valid {g : Globe} {x : Site} (hx : siteB x = true) : placeR g x.s x.t = placeV g x.s x.t := by
  have := site_placed hx
  unfold placedB at this
  simp only [Bool.and_eq_true] at this
  exact placeR_eq (paramB_iff.1 this.1) (paramB_iff.1 this.2.1)
theorem run_all (g : Globe) (l : List Site) (hl : l.length ≤ 8) (hv : ∀ x ∈ l, siteB x = true) : ∀ (f n : Nat) (o : List Vec), n ≤ l.length → l.length - n < f → o.length + (l.length - n) ≤ 1000 →
    (run_Q4_all_0 l g f (n : Int) o).k = 0 ∧ (run_Q4_all_0 l g f (n : Int) o).m2 = o ++ (placesL g l).drop n := by
  intro f
  induction f with
  | zero => intro n o _ h; omega
  | succ f ih =>
    intro n o hn h ho
    rw [run_Q4_all_0]
    by_cases h1 : n < l.length
    · simp only [nn_t, lt_t h1, Bool.and_self, cond_true, w64_up (show n < 9223372036854775807 by omega), Int.toNat_natCast, placeR_valid (hv _ (sAt_mem h1)), List.length_singleton, room_le (show o.length + 1 ≤ 1048576 by omega)]
      rw [drop_at (ET.z .vec) (show n < (placesL g l).length by rw [placesL_len]; exact h1), placesL_at g h1]
      obtain ⟨k1, k2⟩ := ih (n + 1) (o ++ [placeV g (sAt l n).s (sAt l n).t]) (by omega) (by omega) (by simp; omega)
      refine ⟨k1, k2.trans ?_⟩
      rw [List.append_assoc]
      rfl
    · simp only [lt_f h1, cond_false]
      rw [drop_all (show ¬ n < (placesL g l).length by rw [placesL_len]; exact h1), List.append_nil]
      exact ⟨trivial, rfl⟩
theorem m_all (g : Globe) (l : List Site) (h : stationsE l = 0) : m_Q4_all g l = ⟨true, placesL g l⟩ := by
  obtain ⟨hl, hv⟩ := stations_ok h
  unfold m_Q4_all lp_Q4_all_0
  obtain ⟨k1, k2⟩ := run_all g l hl hv (2000 + (l.length + ([] : List Vec).length)) 0 [] (by omega) (by omega) (by simp; omega)
  rw [show ((0 : Nat) : Int) = 0 from rfl] at k1 k2
  rw [k1, k2]
  rfl
theorem run_checkS (g : Globe) (l : List Site) (p : Int) (hl : l.length ≤ 8) : ∀ (f n : Nat), n ≤ l.length → l.length - n < f → (run_Q4_Check_0 p l g f (n : Int)).k = bif (l.drop n).all siteB then 1 else 0 := by
  intro f
  induction f with
  | zero => intro n _ h; omega
  | succ f ih =>
    intro n hn h
    rw [run_Q4_Check_0]
    by_cases h1 : n < l.length
    · simp only [nn_t, lt_t h1, Bool.and_self, cond_true, w64_up (show n < 9223372036854775807 by omega), Int.toNat_natCast, m_validR]
      rw [drop_at (ET.z .site) h1, List.all_cons]
      cases siteB (sAt l n) with
      | false => rfl
      | true =>
        simp only [Bool.not_true, cond_false, Bool.true_and]
        exact ih (n + 1) (by omega) (by omega)
    · simp only [lt_f h1, cond_false]
      rw [drop_all h1]
      rfl
theorem eq_vec (a b : Vec) : eqAll [.int .i64 a.x.num, .int .i64 a.x.den, .int .i64 a.y.num, .int .i64 a.y.den, .int .i64 a.z.num, .int .i64 a.z.den] [.int .i64 b.x.num, .int .i64 b.x.den, .int .i64 b.y.num, .int .i64 b.y.den, .int .i64 b.z.num, .int .i64 b.z.den] = decide (a = b) := by
  obtain ⟨⟨a1, a2⟩, ⟨a3, a4⟩, ⟨a5, a6⟩⟩ := a
  obtain ⟨⟨b1, b2⟩, ⟨b3, b4⟩, ⟨b5, b6⟩⟩ := b
  rw [Bool.eq_iff_iff]
  simp [eqAll, D.eq, and_assoc]
theorem dup_at (g : Globe) {l : List Site} {i j : Nat} (hi : i < l.length) (hj : j < l.length) : dupAt (placedL g l) i j = (decide ((sAt l i).name.data.toList = (sAt l j).name.data.toList) || decide (placeV g (sAt l i).s (sAt l i).t = placeV g (sAt l j).s (sAt l j).t)) := by
  unfold dupAt
  rw [eq_vec, placedL_at g hi, placedL_at g hj]
  simp only
  by_cases c : (sAt l i).name.data.toList = (sAt l j).name.data.toList
  · rw [show ((sAt l i).name.data.toList == (sAt l j).name.data.toList) = true by simpa using c, dec_t c]; rfl
  · rw [show ((sAt l i).name.data.toList == (sAt l j).name.data.toList) = false by simpa using c, dec_f c]; rfl
theorem run_pair2 (g : Globe) (l : List Site) (p : Int) (hl : l.length ≤ 8) (i : Nat) (hi : i < l.length) : ∀ (f n : Nat), n ≤ i → i - n < f → (run_Q4_Check_2 p (i : Int) l (placesL g l) f (n : Int)).k = bif (List.range' n (i - n)).any (fun k => dupAt (placedL g l) k i) then 0 else 1 := by
  intro f
  induction f with
  | zero => intro n _ h; omega
  | succ f ih =>
    intro n hn h
    rw [run_Q4_Check_2]
    by_cases h1 : n < i
    · simp only [nn_t, lt_t h1, lt_t hi, lt_t (show n < l.length by omega), lt_t (show i < (placesL g l).length by rw [placesL_len]; exact hi), lt_t (show n < (placesL g l).length by rw [placesL_len]; omega), Bool.and_self, cond_true, w64_up (show n < 9223372036854775807 by omega), Int.toNat_natCast]
      rw [eq_vec, placesL_at g hi, placesL_at g (show n < l.length by omega), show i - n = (i - (n + 1)) + 1 by omega, List.range'_succ, List.any_cons, dup_at g (show n < l.length by omega) hi]
      by_cases c : (sAt l n).name.data.toList = (sAt l i).name.data.toList
      · rw [show ((sAt l i).name.data.toList == (sAt l n).name.data.toList) = true by simpa using c.symm, dec_t c]; rfl
      · rw [show ((sAt l i).name.data.toList == (sAt l n).name.data.toList) = false from beq_eq_false_iff_ne.2 fun e => c e.symm, dec_f c]
        simp only [cond_false, Bool.false_or]
        by_cases d : placeV g (sAt l n).s (sAt l n).t = placeV g (sAt l i).s (sAt l i).t
        · rw [dec_t d, dec_t d.symm]; rfl
        · rw [dec_f d, dec_f (fun e => d e.symm)]
          simp only [cond_false, Bool.false_or]
          exact ih (n + 1) (by omega) (by omega)
    · simp only [lt_f h1, cond_false]
      rw [show i - n = 0 by omega]
      rfl
theorem run_pair1 (g : Globe) (l : List Site) (p : Int) (hl : l.length ≤ 8) : ∀ (f n : Nat), n ≤ l.length → l.length - n < f → (run_Q4_Check_1 p l (placesL g l) f (n : Int)).k = bif (List.range' n (l.length - n)).any (fun j => (List.range j).any fun k => dupAt (placedL g l) k j) then 0 else 1 := by
  intro f
  induction f with
  | zero => intro n _ h; omega
  | succ f ih =>
    intro n hn h
    rw [run_Q4_Check_1]
    by_cases h1 : n < l.length
    · have := run_pair2 g l p hl n h1 (2000 + (l.length + (placesL g l).length)) 0 (by omega) (by omega)
      rw [show ((0 : Nat) : Int) = 0 from rfl, Nat.sub_zero, ← List.range_eq_range'] at this
      unfold lp_Q4_Check_2
      simp only [lt_t h1, cond_true, this, w64_up (show n < 9223372036854775807 by omega)]
      rw [show l.length - n = (l.length - (n + 1)) + 1 by omega, List.range'_succ, List.any_cons]
      cases (List.range n).any (fun k => dupAt (placedL g l) k n) with
      | true => rfl
      | false =>
        simp only [cond_false, Bool.false_or, show Nat.beq 1 0 = false from rfl, show Nat.beq 1 1 = true from rfl, cond_true]
        exact ih (n + 1) (by omega) (by omega)
    · simp only [lt_f h1, cond_false]
      rw [show l.length - n = 0 by omega]
      rfl
theorem m_checkRA (g : Globe) (l : List Site) : m_Q4_Check g l = ⟨true, checkA g l⟩ := by
  unfold m_Q4_Check checkA
  cases h1 : (checkG g != 0) with
  | true => rfl
  | false =>
    simp only [cond_false]
    by_cases h2 : 8 < l.length
    · rw [dec_t (show (8 : Int) < (l.length : Int) by omega), show stationsE l = 4 by unfold stationsE; rw [dec_t h2]; rfl]
      rfl
    · rw [dec_f (show ¬ (8 : Int) < (l.length : Int) by omega)]
      unfold lp_Q4_Check_0 lp_Q4_Check_1
      have hs := run_checkS g l 0 (by omega) (2000 + l.length) 0 (by omega) (by omega)
      rw [show ((0 : Nat) : Int) = 0 from rfl, List.drop_zero] at hs
      simp only [cond_false, hs]
      cases h3 : l.all siteB with
      | false =>
        rw [show stationsE l = 8 by unfold stationsE; rw [dec_f h2, h3]; rfl]
        rfl
      | true =>
        have h4 : stationsE l = 0 := by unfold stationsE; rw [dec_f h2, h3]; rfl
        have hp := run_pair1 g l 0 (by omega) (2000 + (l.length + (placesL g l).length)) 0 (by omega) (by omega)
        rw [show ((0 : Nat) : Int) = 0 from rfl, Nat.sub_zero, ← List.range_eq_range'] at hp
        simp only [m_all g l h4, h4, cond_true, show Nat.beq 1 0 = false from rfl, show Nat.beq 1 1 = true from rfl, cond_false, bne_self_eq_false, hp]
        unfold dupL dupP
        rw [placedL_len]
        cases (List.range l.length).any (fun j => (List.range j).any fun i => dupAt (placedL g l) i j) <;> rfl
end Go.Ev

namespace Go.Ev
open Go
def lineA (g : Globe) (l : List Site) (i j : Int) : Vec × Int :=
  bif checkA g l != 0 then (vecZ, checkA g l) else
  bif decide (0 ≤ i) && (decide (i < (l.length : Int)) && (decide (0 ≤ j) && decide (j < (l.length : Int)))) then subV (placeV g (sAt l j.toNat).s (sAt l j.toNat).t) (placeV g (sAt l i.toNat).s (sAt l i.toNat).t) else (vecZ, 2)
theorem m_line (g : Globe) (l : List Site) (i j : Int) : m_array_Line g l i j = ⟨true, (lineA g l i j).1, (lineA g l i j).2⟩ := by
  unfold m_array_Line lineA
  simp only [m_place, cond_true]
  cases h1 : (checkA g l != 0) with
  | true => rfl
  | false =>
    rw [eq0_of h1]
    simp only [beq_self_eq_true, cond_true, cond_false, placedL_len]
    by_cases c1 : 0 ≤ i
    · by_cases c2 : i < (l.length : Int)
      · by_cases c3 : 0 ≤ j
        · by_cases c4 : j < (l.length : Int)
          · obtain ⟨n, rfl⟩ := nat_of c1
            obtain ⟨m, rfl⟩ := nat_of c3
            simp only [dec_t c1, dec_t c2, dec_t c3, dec_t c4, dec_f (show ¬ (n : Int) < 0 by omega), dec_f (show ¬ (m : Int) < 0 by omega), dec_f (show ¬ (l.length : Int) ≤ (n : Int) by omega), dec_f (show ¬ (l.length : Int) ≤ (m : Int) by omega), Bool.and_self, cond_true, cond_false, Int.toNat_natCast, placedL_at g (show n < l.length by omega), placedL_at g (show m < l.length by omega)]
          · simp only [dec_t c1, dec_t c2, dec_t c3, dec_f c4, dec_f (show ¬ i < 0 by omega), dec_f (show ¬ j < 0 by omega), dec_f (show ¬ (l.length : Int) ≤ i by omega), dec_t (show (l.length : Int) ≤ j by omega), Bool.and_false, cond_true, cond_false]
            rfl
        · simp only [dec_t c1, dec_t c2, dec_f c3, dec_f (show ¬ i < 0 by omega), dec_t (show j < 0 by omega), dec_f (show ¬ (l.length : Int) ≤ i by omega), Bool.and_false, Bool.false_and, cond_true, cond_false]
          rfl
      · simp only [dec_t c1, dec_f c2, dec_f (show ¬ i < 0 by omega), dec_t (show (l.length : Int) ≤ i by omega), Bool.and_false, Bool.false_and, cond_true, cond_false]
        rfl
    · simp only [dec_f c1, dec_t (show i < 0 by omega), Bool.false_and, cond_true, cond_false]
      rfl
def plineA (g : Globe) (l : List Site) (i j : Int) (s : Source) (t : Int) : Dir × Int :=
  bif (lineA g l i j).2 != 0 then (dirZ, (lineA g l i j).2) else projV (lineA g l i j).1 s t
theorem m_pline (g : Globe) (l : List Site) (i j : Int) (s : Source) (t : Int) : m_proj_Line g l i j s t = ⟨true, (plineA g l i j s t).1, (plineA g l i j s t).2⟩ := by
  unfold m_proj_Line plineA
  simp only [m_line, cond_true]
  cases (lineA g l i j).2 != 0 <;> rfl
end Go.Ev

namespace Go.Ev
open Go
def negP (r : Span × Int) : Span × Int := (negS r.1, r.2)
theorem ranged_neg (a : Span) : rangedS (negS a) = negP (rangedS a) := by
  unfold rangedS
  rw [spanValid_negS]
  cases spanValid a <;> rfl
theorem add_neg (a b : Span) : addS (negS a) (negS b) = negP (addS a b) := by
  unfold addS
  rw [spanValid_negS, spanValid_negS]
  cases spanValid a && spanValid b with
  | false => rfl
  | true =>
    simp only [cond_true]
    rw [← ranged_neg]
    simp only [negS, Int.neg_add]
theorem of_neg {f : Frac} (hf : FracOk f) : ofS (negR f) = negP (ofS f) := by
  unfold ofS
  rw [fracOkB_iff.2 hf, fracOkB_iff.2 (negR_ok hf)]
  simp only [cond_true]
  rw [← ranged_neg]
  unfold aroundS negR
  simp only [negN hf, negS, Int.neg_mul, Int.neg_neg]
theorem prods_neg : ∀ (l : List (Span × Span)) (s : Span), prodsS (negS s) (l.map fun p => (p.1, negS p.2)) = negP (prodsS s l)
  | [], _ => rfl
  | (a, b) :: r, s => by
    have ih := prods_neg r (addS s (mulS a b).1).1
    rw [List.map_cons, prodsS, prodsS]
    simp only [mulS_negS, add_neg, negP]
    cases (mulS a b).2 == 0 with
    | false => rfl
    | true =>
      cases (addS s (mulS a b).1).2 == 0 with
      | false => rfl
      | true => exact ih
def negVec (v : Vec) : Vec := ⟨negR v.x, negR v.y, negR v.z⟩
theorem negVec_ok {v : Vec} (h : VecOk v) : VecOk (negVec v) := ⟨negR_ok h.x, negR_ok h.y, negR_ok h.z⟩
theorem along_neg {d : Dir} {v : Vec} (hv : VecOk v) : alongS d (negVec v) = negP (alongS d v) := by
  unfold alongS
  cases [d.x, d.y, d.z].all spanValid with
  | false => rfl
  | true =>
    rw [vecOkB_iff.2 hv, vecOkB_iff.2 (negVec_ok hv)]
    simp only [cond_true, negVec, of_neg hv.x, of_neg hv.y, of_neg hv.z]
    cases h1 : (ofS v.x).2 != 0 with
    | true => simp only [negP, h1, cond_true]; rfl
    | false =>
      cases h2 : (ofS v.y).2 != 0 with
      | true => simp only [negP, h1, h2, cond_true, cond_false]; rfl
      | false =>
        cases h3 : (ofS v.z).2 != 0 with
        | true => simp only [negP, h1, h2, h3, cond_true, cond_false]; rfl
        | false =>
          simp only [negP, h1, h2, h3, cond_false]
          exact prods_neg [(d.x, (ofS v.x).1), (d.y, (ofS v.y).1), (d.z, (ofS v.z).1)] spanZ
def negDir (d : Dir) : Dir := ⟨negS d.x, negS d.y, negS d.z⟩
theorem each_neg (x y z : Span × Int) : eachD (negP x) (negP y) (negP z) = (negDir (eachD x y z).1, (eachD x y z).2) := by
  unfold eachD negP
  simp only
  cases x.2 != 0 <;> cases y.2 != 0 <;> cases z.2 != 0 <;> rfl
theorem proj_neg {v : Vec} (hv : VecOk v) (f : FrameD) : projF (negVec v) f = (negDir (projF v f).1, (projF v f).2) := by
  unfold projF
  rw [along_neg hv, along_neg hv, along_neg hv, each_neg]
abbrev pAt (g : Globe) (l : List Site) (n : Nat) : Vec := placeV g (sAt l n).s (sAt l n).t
theorem check_parts {g : Globe} {l : List Site} (h : checkA g l = 0) : checkG g = 0 ∧ stationsE l = 0 := by
  unfold checkA at h
  cases h3 : (checkG g != 0) with
  | true => rw [h3, cond_true] at h; rw [h] at h3; cases h3
  | false =>
    rw [h3, cond_false] at h
    cases h5 : (stationsE l != 0) with
    | true => rw [h5, cond_true] at h; rw [h] at h5; cases h5
    | false => exact ⟨eq0_of h3, eq0_of h5⟩
theorem pAt_q {g : Globe} {l : List Site} (h : checkA g l = 0) {n : Nat} (hn : n < l.length) : PlaceQ g (sAt l n).s (sAt l n).t (pAt g l n) := by
  obtain ⟨h1, h2⟩ := check_parts h
  exact (given_place h1 (site_placed ((stations_ok h2).2 _ (sAt_mem hn)))).2
theorem line_q {g : Globe} {l : List Site} (h : checkA g l = 0) {n m : Nat} (hn : n < l.length) (hm : m < l.length) : ∃ v, lineA g l (n : Int) (m : Int) = (v, 0) ∧ VecOk v ∧
    val v.x = val (pAt g l m).x - val (pAt g l n).x ∧ val v.y = val (pAt g l m).y - val (pAt g l n).y ∧ val v.z = val (pAt g l m).z - val (pAt g l n).z := by
  have qn := pAt_q h hn; have qm := pAt_q h hm
  obtain ⟨x, ex, _⟩ := qm.x.sub qn.x (by decide) (by decide)
  obtain ⟨y, ey, _⟩ := qm.y.sub qn.y (by decide) (by decide)
  obtain ⟨z, ez, _⟩ := qm.z.sub qn.z (by decide) (by decide)
  have vx := sub_val qm.x.ok qn.x.ok ex
  have vy := sub_val qm.y.ok qn.y.ok ey
  have vz := sub_val qm.z.ok qn.z.ok ez
  refine ⟨⟨x, y, z⟩, ?_, ⟨vx.1, vy.1, vz.1⟩, vx.2, vy.2, vz.2⟩
  unfold lineA
  rw [h, dec_t (show (0 : Int) ≤ (n : Int) by omega), dec_t (show (n : Int) < (l.length : Int) by omega), dec_t (show (0 : Int) ≤ (m : Int) by omega), dec_t (show (m : Int) < (l.length : Int) by omega)]
  simp only [bne_self_eq_false, cond_false, Bool.and_self, cond_true, Int.toNat_natCast]
  unfold subV eachV
  rw [vecOkB_iff.2 qn.ok, vecOkB_iff.2 qm.ok, ex, ey, ez]
  rfl
structure PQ (v : Vec) (s : Source) (t : Int) (r : Dir × Int) : Prop where
  c : (∃ d, r = (d, 0) ∧ DQ d (-sQ (s.ra - t) * val v.x + cQ (s.ra - t) * val v.y + 0 * val v.z)
    (-(sQ s.dec * cQ (s.ra - t)) * val v.x + -(sQ s.dec * sQ (s.ra - t)) * val v.y + cQ s.dec * val v.z) (cQ s.dec * cQ (s.ra - t) * val v.x + cQ s.dec * sQ (s.ra - t) * val v.y + sQ s.dec * val v.z)) ∨ r = (dirZ, 16)
theorem sum_common {a b c : Span} {x y z : Rat} (ha : SQ a x) (hb : SQ b y) (hc : SQ c z) (h : x + y = z) : ((addS a b).2 != 0) = true ∨ commonB (addS a b).1 c = true := by
  rcases addS_cases ha.ok hb.ok with ⟨p, e, _⟩ | e
  · right
    rw [e]
    refine (ha.enc.add hb.enc e).common hc.enc ?_ ?_
    · rw [h]; grind
    · rw [h]; grind
  · left; rw [e]; rfl
end Go.Ev

namespace Go.Ev
open Go Go.Proofs
structure O_Q9_Great where
  ok : Bool
  r0 : Bool
def m_Q9_Great (a0 : List Site) (a1 : Source) : O_Q9_Great := bif (m_Q4_Great a0).ok then (bif (m_Q4_Great a0).r0 then ⟨true, true⟩ else ⟨true, decide ((200 : Int) < (a1.name.size : Int))⟩) else ⟨false, false⟩
def F_Q9_Great (a0 : List Site) (_a1 : Source) (K : AV → List Blk → Ans) (r : O_Q9_Great) : Ans := bif r.ok then K (.v (.c (.d (.bool r.r0)))) [.arr none .site a0] else none
theorem e_Q9_Great (a0 : List Site) (a1 : Source) (K : AV → List Blk → Ans) : evFn Tryz.prog GT EQT T_Q8_Line XT noL 80 6 [.v (.c (.aslice 0 none)), .v (.agg [.str a1.name, .int .i64 a1.ra, .int .i64 a1.dec])] [.arr none .site a0] (fun v M => K (finR 1 v M).1 (finR 1 v M).2) = F_Q9_Great a0 a1 K (m_Q9_Great a0 a1) := by
  unfold m_Q9_Great
  refine Eq.trans ?_ (Eq.symm (pushT (pushT rfl rfl) rfl))
  kernel_rfl
theorem c_Q9_Great (a0 : List Site) (a1 : Source) (hd : (m_Q9_Great a0 a1).ok = true) : CallsA Tryz.prog GT gbT 6 [.v (.c (.aslice 0 none)), .v (.agg [.str a1.name, .int .i64 a1.ra, .int .i64 a1.dec])] [.arr none .site a0] (.v (.c (.d (.bool ((m_Q9_Great a0 a1).r0))))) [.arr none .site a0] := by
  refine CallsA.ofEvR g_Q8_Line hEQT hmT (n0 := 1) rfl (fun _ _ _ _ => LOKn.nil) ((e_Q9_Great a0 a1 (fun v M => some (Res.fin v M))).trans ?_)
  unfold F_Q9_Great
  rw [hd]
  rfl
def s_Q9_Great : List AV → List Blk → (AV → List Blk → Ans) → Ans := fun xs bs K => match xs, bs with
  | [.v (.c (.aslice 0 none)), .v (.agg [.str a1_0, .int .i64 a1_1, .int .i64 a1_2])], [.arr none .site a0] => F_Q9_Great a0 (⟨a1_0, a1_1, a1_2⟩ : Source) K (m_Q9_Great a0 (⟨a1_0, a1_1, a1_2⟩ : Source))
  | _, _ => none
def T_Q9_Great : Nat → List AV → List Blk → (AV → List Blk → Ans) → Ans := upd T_Q8_Line 6 s_Q9_Great
theorem g_Q9_Great : GOK Tryz.prog GT gbT T_Q9_Great XT := by
  refine GOK.upd g_Q8_Line (fun args w => Tryz.call6 args w) fun xs bs K r h => ?_
  unfold s_Q9_Great at h
  split at h
  · unfold F_Q9_Great at h
    simp only [cond_eq_ite] at h
    split at h
    · rename_i hd
      exact ⟨_, _, c_Q9_Great _ _ hd, h⟩
    · cases h
  · cases h
structure O_delay_between where
  ok : Bool
  r0 : Bool
def m_delay_between (a0 : Frac) (a1 : Int) (a2 : Int) : O_delay_between := bif ((cmpF a0 ⟨a1, (1 : Int)⟩).2 != (0 : Int)) then ⟨true, false⟩ else (bif decide ((cmpF a0 ⟨a1, (1 : Int)⟩).1 < (0 : Int)) then ⟨true, false⟩ else (bif ((cmpF a0 ⟨a2, (1 : Int)⟩).2 == (0 : Int)) then ⟨true, decide ((cmpF a0 ⟨a2, (1 : Int)⟩).1 ≤ (0 : Int))⟩ else ⟨true, false⟩))
def F_delay_between (_a0 : Frac) (_a1 : Int) (_a2 : Int) (K : AV → List Blk → Ans) (r : O_delay_between) : Ans := bif r.ok then K (.v (.c (.d (.bool r.r0)))) [] else none
theorem e_delay_between (a0 : Frac) (a1 : Int) (a2 : Int) (K : AV → List Blk → Ans) : evFn Tryz.prog GT EQT T_Q9_Great XT noL 80 41 [.v (.agg [.int .i64 a0.num, .int .i64 a0.den]), .v (.c (.d (.int .i64 a1))), .v (.c (.d (.int .i64 a2)))] [] (fun v M => K (finR 0 v M).1 (finR 0 v M).2) = F_delay_between a0 a1 a2 K (m_delay_between a0 a1 a2) := by
  unfold m_delay_between
  refine Eq.trans ?_ (Eq.symm (pushT rfl (pushT rfl (pushT rfl rfl))))
  kernel_rfl
theorem c_delay_between (a0 : Frac) (a1 : Int) (a2 : Int) (hd : (m_delay_between a0 a1 a2).ok = true) : CallsA Tryz.prog GT gbT 41 [.v (.agg [.int .i64 a0.num, .int .i64 a0.den]), .v (.c (.d (.int .i64 a1))), .v (.c (.d (.int .i64 a2)))] [] (.v (.c (.d (.bool ((m_delay_between a0 a1 a2).r0))))) [] := by
  refine CallsA.ofEvR g_Q9_Great hEQT hmT (n0 := 0) rfl (fun _ _ _ _ => LOKn.nil) ((e_delay_between a0 a1 a2 (fun v M => some (Res.fin v M))).trans ?_)
  unfold F_delay_between
  rw [hd]
  rfl
def s_delay_between : List AV → List Blk → (AV → List Blk → Ans) → Ans := fun xs bs K => match xs, bs with
  | [.v (.agg [.int .i64 a0_0, .int .i64 a0_1]), .v (.c (.d (.int .i64 a1))), .v (.c (.d (.int .i64 a2)))], [] => F_delay_between (⟨a0_0, a0_1⟩ : Frac) a1 a2 K (m_delay_between (⟨a0_0, a0_1⟩ : Frac) a1 a2)
  | _, _ => none
def T_delay_between : Nat → List AV → List Blk → (AV → List Blk → Ans) → Ans := upd T_Q9_Great 41 s_delay_between
theorem g_delay_between : GOK Tryz.prog GT gbT T_delay_between XT := by
  refine GOK.upd g_Q9_Great (fun args w => Tryz.call41 args w) fun xs bs K r h => ?_
  unfold s_delay_between at h
  split at h
  · unfold F_delay_between at h
    simp only [cond_eq_ite] at h
    split at h
    · rename_i hd
      exact ⟨_, _, c_delay_between _ _ _ hd, h⟩
    · cases h
  · cases h
structure O_delay_check where
  ok : Bool
  r0 : Int
def m_delay_check (a0 : Globe) (a1 : List Site) (a2 : Source) (a3 : Frac) : O_delay_check := bif (m_array_Check a0 a1).ok then (bif ((m_array_Check a0 a1).r0 != (0 : Int)) then ⟨true, (m_array_Check a0 a1).r0⟩ else (bif ((checkSrc ⟨a2.name, a2.ra, a2.dec⟩) != (0 : Int)) then ⟨true, (checkSrc ⟨a2.name, a2.ra, a2.dec⟩)⟩ else (bif decide (a3.num < (1 : Int)) then ⟨true, (8 : Int)⟩ else (bif (m_delay_between a3 (0 : Int) (1000 : Int)).ok then (bif (!(m_delay_between a3 (0 : Int) (1000 : Int)).r0) then ⟨true, (8 : Int)⟩ else ⟨true, (0 : Int)⟩) else ⟨false, 0⟩)))) else ⟨false, 0⟩
def F_delay_check (_a0 : Globe) (a1 : List Site) (_a2 : Source) (_a3 : Frac) (K : AV → List Blk → Ans) (r : O_delay_check) : Ans := bif r.ok then K (.v (.c (.d (.int .i64 r.r0)))) [.arr none .site a1] else none
theorem e_delay_check (a0 : Globe) (a1 : List Site) (a2 : Source) (a3 : Frac) (K : AV → List Blk → Ans) : evFn Tryz.prog GT EQT T_delay_between XT noL 80 24 [.v (.agg [.int .i64 a0.a, .int .i64 a0.b]), .v (.c (.aslice 0 none)), .v (.agg [.str a2.name, .int .i64 a2.ra, .int .i64 a2.dec]), .v (.agg [.int .i64 a3.num, .int .i64 a3.den])] [.arr none .site a1] (fun v M => K (finR 1 v M).1 (finR 1 v M).2) = F_delay_check a0 a1 a2 a3 K (m_delay_check a0 a1 a2 a3) := by
  unfold m_delay_check
  refine Eq.trans ?_ (Eq.symm (pushT (pushT rfl (pushT rfl (pushT rfl (pushT (pushT rfl rfl) rfl)))) rfl))
  kernel_rfl
theorem c_delay_check (a0 : Globe) (a1 : List Site) (a2 : Source) (a3 : Frac) (hd : (m_delay_check a0 a1 a2 a3).ok = true) : CallsA Tryz.prog GT gbT 24 [.v (.agg [.int .i64 a0.a, .int .i64 a0.b]), .v (.c (.aslice 0 none)), .v (.agg [.str a2.name, .int .i64 a2.ra, .int .i64 a2.dec]), .v (.agg [.int .i64 a3.num, .int .i64 a3.den])] [.arr none .site a1] (.v (.c (.d (.int .i64 ((m_delay_check a0 a1 a2 a3).r0))))) [.arr none .site a1] := by
  refine CallsA.ofEvR g_delay_between hEQT hmT (n0 := 1) rfl (fun _ _ _ _ => LOKn.nil) ((e_delay_check a0 a1 a2 a3 (fun v M => some (Res.fin v M))).trans ?_)
  unfold F_delay_check
  rw [hd]
  rfl
def s_delay_check : List AV → List Blk → (AV → List Blk → Ans) → Ans := fun xs bs K => match xs, bs with
  | [.v (.agg [.int .i64 a0_0, .int .i64 a0_1]), .v (.c (.aslice 0 none)), .v (.agg [.str a2_0, .int .i64 a2_1, .int .i64 a2_2]), .v (.agg [.int .i64 a3_0, .int .i64 a3_1])], [.arr none .site a1] => F_delay_check (⟨a0_0, a0_1⟩ : Globe) a1 (⟨a2_0, a2_1, a2_2⟩ : Source) (⟨a3_0, a3_1⟩ : Frac) K (m_delay_check (⟨a0_0, a0_1⟩ : Globe) a1 (⟨a2_0, a2_1, a2_2⟩ : Source) (⟨a3_0, a3_1⟩ : Frac))
  | _, _ => none
def T_delay_check : Nat → List AV → List Blk → (AV → List Blk → Ans) → Ans := upd T_delay_between 24 s_delay_check
theorem g_delay_check : GOK Tryz.prog GT gbT T_delay_check XT := by
  refine GOK.upd g_delay_between (fun args w => Tryz.call24 args w) fun xs bs K r h => ?_
  unfold s_delay_check at h
  split at h
  · unfold F_delay_check at h
    simp only [cond_eq_ite] at h
    split at h
    · rename_i hd
      exact ⟨_, _, c_delay_check _ _ _ _ hd, h⟩
    · cases h
  · cases h
structure O_delay_Of where
  ok : Bool
  r0 : Span
  r1 : Int
def m_delay_Of (a0 : Globe) (a1 : List Site) (a2 : Int) (a3 : Int) (a4 : Source) (a5 : Int) (a6 : Frac) : O_delay_Of := bif (m_delay_check a0 a1 a4 a6).ok then (bif ((m_delay_check a0 a1 a4 a6).r0 != (0 : Int)) then ⟨true, ⟨(0 : Int), (0 : Int)⟩, (m_delay_check a0 a1 a4 a6).r0⟩ else (bif (m_proj_Line a0 a1 a2 a3 a4 a5).ok then (bif ((m_proj_Line a0 a1 a2 a3 a4 a5).r1 != (0 : Int)) then ⟨true, ⟨(0 : Int), (0 : Int)⟩, (m_proj_Line a0 a1 a2 a3 a4 a5).r1⟩ else (bif ((ofS ⟨a6.num, a6.den⟩).2 != (0 : Int)) then ⟨true, ⟨(0 : Int), (0 : Int)⟩, (ofS ⟨a6.num, a6.den⟩).2⟩ else ⟨true, (mulS ⟨((((m_proj_Line a0 a1 a2 a3 a4 a5).r0).z).lo), ((((m_proj_Line a0 a1 a2 a3 a4 a5).r0).z).hi)⟩ ⟨(((ofS ⟨a6.num, a6.den⟩).1).lo), (((ofS ⟨a6.num, a6.den⟩).1).hi)⟩).1, (mulS ⟨((((m_proj_Line a0 a1 a2 a3 a4 a5).r0).z).lo), ((((m_proj_Line a0 a1 a2 a3 a4 a5).r0).z).hi)⟩ ⟨(((ofS ⟨a6.num, a6.den⟩).1).lo), (((ofS ⟨a6.num, a6.den⟩).1).hi)⟩).2⟩)) else ⟨false, ⟨0, 0⟩, 0⟩)) else ⟨false, ⟨0, 0⟩, 0⟩
def F_delay_Of (_a0 : Globe) (a1 : List Site) (_a2 : Int) (_a3 : Int) (_a4 : Source) (_a5 : Int) (_a6 : Frac) (K : AV → List Blk → Ans) (r : O_delay_Of) : Ans := bif r.ok then K (.tup [.agg [.int .i64 r.r0.lo, .int .i64 r.r0.hi], .c (.d (.int .i64 r.r1))]) [.arr none .site a1] else none
theorem e_delay_Of (a0 : Globe) (a1 : List Site) (a2 : Int) (a3 : Int) (a4 : Source) (a5 : Int) (a6 : Frac) (K : AV → List Blk → Ans) : evFn Tryz.prog GT EQT T_delay_check XT noL 80 7 [.v (.agg [.int .i64 a0.a, .int .i64 a0.b]), .v (.c (.aslice 0 none)), .v (.c (.d (.int .i64 a2))), .v (.c (.d (.int .i64 a3))), .v (.agg [.str a4.name, .int .i64 a4.ra, .int .i64 a4.dec]), .v (.c (.d (.int .i64 a5))), .v (.agg [.int .i64 a6.num, .int .i64 a6.den])] [.arr none .site a1] (fun v M => K (finR 1 v M).1 (finR 1 v M).2) = F_delay_Of a0 a1 a2 a3 a4 a5 a6 K (m_delay_Of a0 a1 a2 a3 a4 a5 a6) := by
  unfold m_delay_Of
  refine Eq.trans ?_ (Eq.symm (pushT (pushT rfl (pushT (pushT rfl (pushT rfl rfl)) rfl)) rfl))
  kernel_rfl
theorem c_delay_Of (a0 : Globe) (a1 : List Site) (a2 : Int) (a3 : Int) (a4 : Source) (a5 : Int) (a6 : Frac) (hd : (m_delay_Of a0 a1 a2 a3 a4 a5 a6).ok = true) : CallsA Tryz.prog GT gbT 7 [.v (.agg [.int .i64 a0.a, .int .i64 a0.b]), .v (.c (.aslice 0 none)), .v (.c (.d (.int .i64 a2))), .v (.c (.d (.int .i64 a3))), .v (.agg [.str a4.name, .int .i64 a4.ra, .int .i64 a4.dec]), .v (.c (.d (.int .i64 a5))), .v (.agg [.int .i64 a6.num, .int .i64 a6.den])] [.arr none .site a1] (.tup [.agg [.int .i64 (((m_delay_Of a0 a1 a2 a3 a4 a5 a6).r0).lo), .int .i64 (((m_delay_Of a0 a1 a2 a3 a4 a5 a6).r0).hi)], .c (.d (.int .i64 ((m_delay_Of a0 a1 a2 a3 a4 a5 a6).r1)))]) [.arr none .site a1] := by
  refine CallsA.ofEvR g_delay_check hEQT hmT (n0 := 1) rfl (fun _ _ _ _ => LOKn.nil) ((e_delay_Of a0 a1 a2 a3 a4 a5 a6 (fun v M => some (Res.fin v M))).trans ?_)
  unfold F_delay_Of
  rw [hd]
  rfl
def s_delay_Of : List AV → List Blk → (AV → List Blk → Ans) → Ans := fun xs bs K => match xs, bs with
  | [.v (.agg [.int .i64 a0_0, .int .i64 a0_1]), .v (.c (.aslice 0 none)), .v (.c (.d (.int .i64 a2))), .v (.c (.d (.int .i64 a3))), .v (.agg [.str a4_0, .int .i64 a4_1, .int .i64 a4_2]), .v (.c (.d (.int .i64 a5))), .v (.agg [.int .i64 a6_0, .int .i64 a6_1])], [.arr none .site a1] => F_delay_Of (⟨a0_0, a0_1⟩ : Globe) a1 a2 a3 (⟨a4_0, a4_1, a4_2⟩ : Source) a5 (⟨a6_0, a6_1⟩ : Frac) K (m_delay_Of (⟨a0_0, a0_1⟩ : Globe) a1 a2 a3 (⟨a4_0, a4_1, a4_2⟩ : Source) a5 (⟨a6_0, a6_1⟩ : Frac))
  | _, _ => none
def T_delay_Of : Nat → List AV → List Blk → (AV → List Blk → Ans) → Ans := upd T_delay_check 7 s_delay_Of
theorem g_delay_Of : GOK Tryz.prog GT gbT T_delay_Of XT := by
  refine GOK.upd g_delay_check (fun args w => Tryz.call7 args w) fun xs bs K r h => ?_
  unfold s_delay_Of at h
  split at h
  · unfold F_delay_Of at h
    simp only [cond_eq_ite] at h
    split at h
    · rename_i hd
      exact ⟨_, _, c_delay_Of _ _ _ _ _ _ _ hd, h⟩
    · cases h
  · cases h
structure O_Q7_Both where
  ok : Bool
  r0 : Int
def m_Q7_Both (a0 : Globe) (a1 : List Site) (a2 : Source) : O_Q7_Both := bif (m_Q4_Check a0 a1).ok then (bif ((m_Q4_Check a0 a1).r0 != (0 : Int)) then (bif (m_Q4_Check a0 a1).ok then ⟨true, (m_Q4_Check a0 a1).r0⟩ else ⟨false, 0⟩) else ⟨true, (checkSrc ⟨a2.name, a2.ra, a2.dec⟩)⟩) else ⟨false, 0⟩
def F_Q7_Both (_a0 : Globe) (a1 : List Site) (_a2 : Source) (K : AV → List Blk → Ans) (r : O_Q7_Both) : Ans := bif r.ok then K (.v (.c (.d (.int .i64 r.r0)))) [.arr none .site a1] else none
theorem e_Q7_Both (a0 : Globe) (a1 : List Site) (a2 : Source) (K : AV → List Blk → Ans) : evFn Tryz.prog GT EQT T_delay_Of XT noL 80 65 [.v (.agg [.int .i64 a0.a, .int .i64 a0.b]), .v (.c (.aslice 0 none)), .v (.agg [.str a2.name, .int .i64 a2.ra, .int .i64 a2.dec])] [.arr none .site a1] (fun v M => K (finR 1 v M).1 (finR 1 v M).2) = F_Q7_Both a0 a1 a2 K (m_Q7_Both a0 a1 a2) := by
  unfold m_Q7_Both
  refine Eq.trans ?_ (Eq.symm (pushT (pushT (pushT rfl rfl) rfl) rfl))
  kernel_rfl
theorem c_Q7_Both (a0 : Globe) (a1 : List Site) (a2 : Source) (hd : (m_Q7_Both a0 a1 a2).ok = true) : CallsA Tryz.prog GT gbT 65 [.v (.agg [.int .i64 a0.a, .int .i64 a0.b]), .v (.c (.aslice 0 none)), .v (.agg [.str a2.name, .int .i64 a2.ra, .int .i64 a2.dec])] [.arr none .site a1] (.v (.c (.d (.int .i64 ((m_Q7_Both a0 a1 a2).r0))))) [.arr none .site a1] := by
  refine CallsA.ofEvR g_delay_Of hEQT hmT (n0 := 1) rfl (fun _ _ _ _ => LOKn.nil) ((e_Q7_Both a0 a1 a2 (fun v M => some (Res.fin v M))).trans ?_)
  unfold F_Q7_Both
  rw [hd]
  rfl
def s_Q7_Both : List AV → List Blk → (AV → List Blk → Ans) → Ans := fun xs bs K => match xs, bs with
  | [.v (.agg [.int .i64 a0_0, .int .i64 a0_1]), .v (.c (.aslice 0 none)), .v (.agg [.str a2_0, .int .i64 a2_1, .int .i64 a2_2])], [.arr none .site a1] => F_Q7_Both (⟨a0_0, a0_1⟩ : Globe) a1 (⟨a2_0, a2_1, a2_2⟩ : Source) K (m_Q7_Both (⟨a0_0, a0_1⟩ : Globe) a1 (⟨a2_0, a2_1, a2_2⟩ : Source))
  | _, _ => none
def T_Q7_Both : Nat → List AV → List Blk → (AV → List Blk → Ans) → Ans := upd T_delay_Of 65 s_Q7_Both
theorem g_Q7_Both : GOK Tryz.prog GT gbT T_Q7_Both XT := by
  refine GOK.upd g_delay_Of (fun args w => Tryz.call65 args w) fun xs bs K r h => ?_
  unfold s_Q7_Both at h
  split at h
  · unfold F_Q7_Both at h
    simp only [cond_eq_ite] at h
    split at h
    · rename_i hd
      exact ⟨_, _, c_Q7_Both _ _ _ hd, h⟩
    · cases h
  · cases h
end Go.Ev

namespace Go.Ev
open Go Go.Proofs
structure O_Q9_Rate where
  ok : Bool
  r0 : Bool
def m_Q9_Rate (a0 : Frac) : O_Q9_Rate := bif ((checkF ⟨a0.num, a0.den⟩) == (0 : Int)) then (bif decide ((0 : Int) < a0.num) then ⟨true, (!(lessN ⟨(1000 : Int), 1⟩ ⟨a0.num, a0.den⟩))⟩ else ⟨true, false⟩) else ⟨true, false⟩
def F_Q9_Rate (_a0 : Frac) (K : AV → List Blk → Ans) (r : O_Q9_Rate) : Ans := bif r.ok then K (.v (.c (.d (.bool r.r0)))) [] else none
theorem e_Q9_Rate (a0 : Frac) (K : AV → List Blk → Ans) : evFn Tryz.prog GT EQT T_Q7_Both XT noL 80 66 [.v (.agg [.int .i64 a0.num, .int .i64 a0.den])] [] (fun v M => K (finR 0 v M).1 (finR 0 v M).2) = F_Q9_Rate a0 K (m_Q9_Rate a0) := by
  unfold m_Q9_Rate
  refine Eq.trans ?_ (Eq.symm (pushT (pushT rfl rfl) rfl))
  kernel_rfl
theorem c_Q9_Rate (a0 : Frac) (hd : (m_Q9_Rate a0).ok = true) : CallsA Tryz.prog GT gbT 66 [.v (.agg [.int .i64 a0.num, .int .i64 a0.den])] [] (.v (.c (.d (.bool ((m_Q9_Rate a0).r0))))) [] := by
  refine CallsA.ofEvR g_Q7_Both hEQT hmT (n0 := 0) rfl (fun _ _ _ _ => LOKn.nil) ((e_Q9_Rate a0 (fun v M => some (Res.fin v M))).trans ?_)
  unfold F_Q9_Rate
  rw [hd]
  rfl
def s_Q9_Rate : List AV → List Blk → (AV → List Blk → Ans) → Ans := fun xs bs K => match xs, bs with
  | [.v (.agg [.int .i64 a0_0, .int .i64 a0_1])], [] => F_Q9_Rate (⟨a0_0, a0_1⟩ : Frac) K (m_Q9_Rate (⟨a0_0, a0_1⟩ : Frac))
  | _, _ => none
def T_Q9_Rate : Nat → List AV → List Blk → (AV → List Blk → Ans) → Ans := upd T_Q7_Both 66 s_Q9_Rate
theorem g_Q9_Rate : GOK Tryz.prog GT gbT T_Q9_Rate XT := by
  refine GOK.upd g_Q7_Both (fun args w => Tryz.call66 args w) fun xs bs K r h => ?_
  unfold s_Q9_Rate at h
  split at h
  · unfold F_Q9_Rate at h
    simp only [cond_eq_ite] at h
    split at h
    · rename_i hd
      exact ⟨_, _, c_Q9_Rate _ hd, h⟩
    · cases h
  · cases h
structure O_Q9_Ready where
  ok : Bool
  r0 : Int
def m_Q9_Ready (a0 : Globe) (a1 : List Site) (a2 : Source) (a3 : Frac) : O_Q9_Ready := bif (m_Q7_Both a0 a1 a2).ok then (bif ((m_Q7_Both a0 a1 a2).r0 != (0 : Int)) then ⟨true, (m_Q7_Both a0 a1 a2).r0⟩ else (bif (m_Q9_Rate a3).ok then (bif (!(m_Q9_Rate a3).r0) then ⟨true, (8 : Int)⟩ else ⟨true, (0 : Int)⟩) else ⟨false, 0⟩)) else ⟨false, 0⟩
def F_Q9_Ready (_a0 : Globe) (a1 : List Site) (_a2 : Source) (_a3 : Frac) (K : AV → List Blk → Ans) (r : O_Q9_Ready) : Ans := bif r.ok then K (.v (.c (.d (.int .i64 r.r0)))) [.arr none .site a1] else none
theorem e_Q9_Ready (a0 : Globe) (a1 : List Site) (a2 : Source) (a3 : Frac) (K : AV → List Blk → Ans) : evFn Tryz.prog GT EQT T_Q9_Rate XT noL 80 28 [.v (.agg [.int .i64 a0.a, .int .i64 a0.b]), .v (.c (.aslice 0 none)), .v (.agg [.str a2.name, .int .i64 a2.ra, .int .i64 a2.dec]), .v (.agg [.int .i64 a3.num, .int .i64 a3.den])] [.arr none .site a1] (fun v M => K (finR 1 v M).1 (finR 1 v M).2) = F_Q9_Ready a0 a1 a2 a3 K (m_Q9_Ready a0 a1 a2 a3) := by
  unfold m_Q9_Ready
  refine Eq.trans ?_ (Eq.symm (pushT (pushT rfl (pushT (pushT rfl rfl) rfl)) rfl))
  kernel_rfl
theorem c_Q9_Ready (a0 : Globe) (a1 : List Site) (a2 : Source) (a3 : Frac) (hd : (m_Q9_Ready a0 a1 a2 a3).ok = true) : CallsA Tryz.prog GT gbT 28 [.v (.agg [.int .i64 a0.a, .int .i64 a0.b]), .v (.c (.aslice 0 none)), .v (.agg [.str a2.name, .int .i64 a2.ra, .int .i64 a2.dec]), .v (.agg [.int .i64 a3.num, .int .i64 a3.den])] [.arr none .site a1] (.v (.c (.d (.int .i64 ((m_Q9_Ready a0 a1 a2 a3).r0))))) [.arr none .site a1] := by
  refine CallsA.ofEvR g_Q9_Rate hEQT hmT (n0 := 1) rfl (fun _ _ _ _ => LOKn.nil) ((e_Q9_Ready a0 a1 a2 a3 (fun v M => some (Res.fin v M))).trans ?_)
  unfold F_Q9_Ready
  rw [hd]
  rfl
def s_Q9_Ready : List AV → List Blk → (AV → List Blk → Ans) → Ans := fun xs bs K => match xs, bs with
  | [.v (.agg [.int .i64 a0_0, .int .i64 a0_1]), .v (.c (.aslice 0 none)), .v (.agg [.str a2_0, .int .i64 a2_1, .int .i64 a2_2]), .v (.agg [.int .i64 a3_0, .int .i64 a3_1])], [.arr none .site a1] => F_Q9_Ready (⟨a0_0, a0_1⟩ : Globe) a1 (⟨a2_0, a2_1, a2_2⟩ : Source) (⟨a3_0, a3_1⟩ : Frac) K (m_Q9_Ready (⟨a0_0, a0_1⟩ : Globe) a1 (⟨a2_0, a2_1, a2_2⟩ : Source) (⟨a3_0, a3_1⟩ : Frac))
  | _, _ => none
def T_Q9_Ready : Nat → List AV → List Blk → (AV → List Blk → Ans) → Ans := upd T_Q9_Rate 28 s_Q9_Ready
theorem g_Q9_Ready : GOK Tryz.prog GT gbT T_Q9_Ready XT := by
  refine GOK.upd g_Q9_Rate (fun args w => Tryz.call28 args w) fun xs bs K r h => ?_
  unfold s_Q9_Ready at h
  split at h
  · unfold F_Q9_Ready at h
    simp only [cond_eq_ite] at h
    split at h
    · rename_i hd
      exact ⟨_, _, c_Q9_Ready _ _ _ _ hd, h⟩
    · cases h
  · cases h
end Go.Ev

