/-
  The evaluator's operations are sound, one by one: building, indexing, comparing, built-in functions.
-/
import Derived.Test.YtdmmnpgkidghnaaEvC
namespace Go.Ev
open Go

section
variable {P : Program} {G : Nat → Option (List D)} {gb : Nat} {EQ : List Nat} {w0 : World} {W : Nat → Prop} {σ : Sg} {a : Act} {w : World} {T : List AV} {M : List Blk} {N : Nat} {o : Oper}
  {next : Act → World → Prop} {Q : Exit → Act → World → Prop}

theorem field_ok {t : TypeId} {x : Operand} {f : Nat} {v : AV} {s : Sets} (ho : o.op = .field t x f) (hr : Reach P G gb (opR P G EQ (.field t x f) T M N) v s) (hT : TRel σ T a) (hM : MRel w0 W σ M w) (hN : σ N = none)
    (h : Goes w0 W σ M N a o.dst next v s) : o.wp P a w next Q := by
  simp only [opR] at hr
  split at hr
  · rename_i fs l h1 hx
    split at hr
    · rename_i fd hf
      obtain ⟨u, hu, rfl, rfl⟩ := leafO_reach hr
      have he : a.eval x = .agg (l.map D.val).toArray := opdV_rel hT hx
      obtain ⟨v', hrun, hv⟩ := part_run (σ := σ) (w := w) hu
      refine h.value hM hN (v' := v') ?_ hv
      unfold execOp
      rw [ho]
      simp only [Instr.field, Sem.run_bind, underlying_run h1, Result.andThen_ok, hf, he, asAgg, Sem.run_pure, hrun]
    · exact hr.elim
  · exact hr.elim

theorem indexAddr_ok {t : TypeId} {x i : Operand} {v : AV} {s : Sets} (ho : o.op = .indexAddr t x i) (hr : Reach P G gb (opR P G EQ (.indexAddr t x i) T M N) v s) (hT : TRel σ T a) (hM : MRel w0 W σ M w) (hN : σ N = none)
    (h : Goes w0 W σ M N a o.dst next v s) : o.wp P a w next Q := by
  simp only [opR] at hr
  split at hr
  · rename_i e b k n es ki j h1 hx hi
    split at hr
    · rename_i sz hs
      rcases hr with ⟨hb, rfl, rfl⟩ | ⟨_, hf⟩
      · simp only [Bool.and_eq_true, decide_eq_true_eq] at hb
        obtain ⟨L, cap, hL, he, _⟩ := opdV_rel hT hx
        have hj : a.eval i = .int ki j := opdV_rel hT hi
        refine h.value hM hN (v' := .pointer (some ⟨L.blk, L.off + (k + j.toNat * sz), none⟩)) ?_ ⟨L, hL, rfl⟩
        unfold execOp
        rw [ho]
        simp [Instr.indexAt, asIntOf, hj, he, underlying_run h1, hb, sizeOf_run hs, add_mk, Nat.add_assoc]
      · exact hf.elim
    · exact hr.elim
  · rename_i n e b k ki j h1 hx hi
    split at hr
    · rename_i sz hs
      rcases hr with ⟨hb, rfl, rfl⟩ | ⟨_, hf⟩
      · simp only [Bool.and_eq_true, decide_eq_true_eq] at hb
        obtain ⟨L, hL, he⟩ := opdV_rel hT hx
        have hj : a.eval i = .int ki j := opdV_rel hT hi
        refine h.value hM hN (v' := .pointer (some ⟨L.blk, L.off + (k + j.toNat * sz), none⟩)) ?_ ⟨L, hL, rfl⟩
        unfold execOp
        rw [ho]
        simp [Instr.indexAt, asIntOf, hj, he, underlying_run h1, Instr.sureAddr, hb, sizeOf_run hs, add_mk, Nat.add_assoc]
      · exact hf.elim
    · exact hr.elim
  · exact hr.elim

theorem index_ok {t : TypeId} {x i : Operand} {v : AV} {s : Sets} (ho : o.op = .index t x i) (hr : Reach P G gb (opR P G EQ (.index t x i) T M N) v s) (hT : TRel σ T a) (hM : MRel w0 W σ M w) (hN : σ N = none)
    (h : Goes w0 W σ M N a o.dst next v s) : o.wp P a w next Q := by
  simp only [opR] at hr
  split at hr
  · rename_i n e l ki j h1 hx hi
    split at hr
    · rename_i sz hs
      rcases hr with ⟨hb, hr⟩ | ⟨_, hf⟩
      · simp only [Bool.and_eq_true, decide_eq_true_eq] at hb
        obtain ⟨u, hu, rfl, rfl⟩ := leafO_reach hr
        have he : a.eval x = .agg (l.map D.val).toArray := opdV_rel hT hx
        have hj : a.eval i = .int ki j := opdV_rel hT hi
        obtain ⟨v', hrun, hv⟩ := part_run (σ := σ) (w := w) hu
        refine h.value hM hN (v' := v') ?_ hv
        unfold execOp
        rw [ho]
        simp [Instr.index, asIntOf, hj, he, underlying_run h1, hb, sizeOf_run hs, hrun]
      · exact hf.elim
    · exact hr.elim
  · rename_i st ki j h1 hx hi
    rcases hr with ⟨hb, hr⟩ | ⟨_, hf⟩
    · simp only [decide_eq_true_eq] at hb
      split at hr
      · rename_i by' hby
        obtain ⟨rfl, rfl⟩ := hr
        have he : a.eval x = .string st := opdV_rel hT hx
        have hj : a.eval i = .int ki j := opdV_rel hT hi
        refine h.value hM hN (v' := .int .u8 by'.toNat) ?_ rfl
        have hb2 : st[j.toNat]? = some by' := by
          rw [← hby]
          by_cases hlt : j.toNat < st.size
          · have h2 : j.toNat < st.data.toList.length := by simpa using hlt
            rw [getElem?_pos st j.toNat hlt, List.getElem?_eq_getElem h2]
            rfl
          · have h2 : ¬ j.toNat < st.data.toList.length := by simpa using hlt
            rw [getElem?_neg st j.toNat hlt, List.getElem?_eq_none (by omega)]
        unfold execOp
        rw [ho]
        simp [Instr.index, asIntOf, hj, he, underlying_run h1, hb, hb2]
      · exact hr.elim
    · exact hf.elim
  · exact hr.elim

end
end Go.Ev
