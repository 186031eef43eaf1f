/-
  The evaluator's operations are sound, one by one: building, indexing, comparing, built-in functions.
-/
import Derived.Test.YtdmmnpgkidghnaaEvC
namespace Go.Ev
open Go

section
variable {P : Program} {G : Nat → Option (List D)} {gb : Nat} {EQ : Tab} {w0 : World} {W : Nat → Prop} {σ : Sg} {a : Act} {w : World} {T : TS} {M : List Blk} {N : Nat} {o : Oper}
  {next : Act → World → Prop} {Q : Exit → Act → World → Prop}

theorem field_ok {t : TypeId} {x : Operand} {f : Nat} {v : AV} {s : Sets} (ho : o.op = .field t x f) (hr : Reach P G gb (opR P G EQ (.field t x f) T M N) v s) (hT : TRel σ T a) (hM : MRel w0 W σ M w) (hN : σ N = none)
    (h : Goes w0 W σ M N a o.dst next v s) : o.wp P a w next Q := by
  simp only [opR] at hr
  split at hr
  · rename_i fs l h1 hx
    split at hr
    · rename_i fd hf
      obtain ⟨u, hu, rfl, rfl⟩ := leafO_reach hr
      obtain ⟨he, hok⟩ := opdV_rel hT hx
      obtain ⟨v', hrun, hv⟩ := part_run (σ := σ) (w := w) hu hok
      refine h.value hM hN (v' := v') ?_ hv
      unfold execOp
      rw [ho]
      simp only [Instr.field, Sem.run_bind, underlying_run h1, Result.andThen_ok, hf, he, asAgg, Sem.run_pure, hrun]
    · exact hr.elim
  · exact hr.elim

theorem indexAddr_ok {t : TypeId} {x i : Operand} {v : AV} {s : Sets} (ho : o.op = .indexAddr t x i) (hr : Reach P G gb (opR P G EQ (.indexAddr t x i) T M N) v s) (hT : TRel σ T a) (hM : MRel w0 W σ M w) (hN : σ N = none)
    (h : Goes w0 W σ M N a o.dst next v s) : o.wp P a w next Q := by
  simp only [opR] at hr
  split at hr
  · rename_i e b k n es ki j h1 hx hi
    split at hr
    · rename_i sz hs
      rcases hr with ⟨hb, rfl, rfl⟩ | ⟨_, hf⟩
      · simp only [Bool.and_eq_true, decide_eq_true_eq] at hb
        obtain ⟨L, cap, hL, he, _⟩ := opdV_rel hT hx
        have hj : a.eval i = .int ki j := (opdV_rel hT hi).1
        refine h.value hM hN (v' := .pointer (some ⟨L.blk, L.off + (k + j.toNat * sz), none⟩)) ?_ ⟨L, hL, rfl⟩
        unfold execOp
        rw [ho]
        simp [Instr.indexAt, asIntOf, hj, he, underlying_run h1, hb, sizeOf_run hs, add_mk, Nat.add_assoc]
      · exact hf.elim
    · exact hr.elim
  · rename_i e b k ki j h1 hx hi
    split at hr
    · rename_i sz own τ xs hs hm
      simp only [cond_eq_ite, beq_iff_eq] at hr
      split at hr
      · rename_i hsz
        rcases hr with ⟨hb, rfl, rfl⟩ | ⟨_, hf⟩
        · simp only [Bool.and_eq_true, decide_eq_true_eq] at hb
          have hj : a.eval i = .int ki j := (opdV_rel hT hi).1
          obtain ⟨L, hL, hv⟩ := opdV_rel hT hx
          have hB := hM.blk b
          rw [hm] at hB
          obtain ⟨L', g1, g2, g3, _⟩ := hB.elems
          rw [hL] at g1
          cases g1
          obtain ⟨n, cap, he, hlt, hjn⟩ : ∃ n cap, a.eval x = .slice (some ⟨L.blk, L.off, none⟩) n cap ∧ j.toNat < L.n ∧ j < (n : Int) := by
            cases k with
            | none =>
              rcases hv with ⟨h0, _⟩ | ⟨cap, he, _⟩
              · simp only [lenK] at hb; omega
              · exact ⟨L.n, cap, he, by simp only [lenK] at hb; omega, by simp only [lenK] at hb; omega⟩
            | some m =>
              obtain ⟨_, h2, cap, he, _⟩ := hv
              exact ⟨m, cap, he, by simp only [lenK] at hb; omega, by simp only [lenK] at hb; omega⟩
          refine h.value hM hN (v' := .pointer (some ⟨L.blk, L.off + (j.toNat * L.es + 0), none⟩)) ?_ ⟨L, hL, rfl, hlt⟩
          unfold execOp
          rw [ho]
          simp [Instr.indexAt, asIntOf, hj, he, underlying_run h1, hb.1, hjn, sizeOf_run hs, add_mk, hsz, g3]
        · exact hf.elim
      · exact hr.elim
    · exact hr.elim
  · rename_i n e b k ki j h1 hx hi
    split at hr
    · rename_i sz hs
      rcases hr with ⟨hb, rfl, rfl⟩ | ⟨_, hf⟩
      · simp only [Bool.and_eq_true, decide_eq_true_eq] at hb
        obtain ⟨L, hL, he⟩ := opdV_rel hT hx
        have hj : a.eval i = .int ki j := (opdV_rel hT hi).1
        refine h.value hM hN (v' := .pointer (some ⟨L.blk, L.off + (k + j.toNat * sz), none⟩)) ?_ ⟨L, hL, rfl⟩
        unfold execOp
        rw [ho]
        simp [Instr.indexAt, asIntOf, hj, he, underlying_run h1, Instr.sureAddr, hb, sizeOf_run hs, add_mk, Nat.add_assoc]
      · exact hf.elim
    · exact hr.elim
  · exact hr.elim

theorem byteAt_ok (s : ByteArray) (j : Int) : inR .u8 (byteAt s j) = true := by
  unfold byteAt
  have h := (s.data.toList.getD j.toNat 0).toNat_lt
  generalize (s.data.toList.getD j.toNat 0).toNat = m at h
  simp only [inR, Bool.and_eq_true, decide_eq_true_eq]
  omega

theorem index_ok {t : TypeId} {x i : Operand} {v : AV} {s : Sets} (ho : o.op = .index t x i) (hr : Reach P G gb (opR P G EQ (.index t x i) T M N) v s) (hT : TRel σ T a) (hM : MRel w0 W σ M w) (hN : σ N = none)
    (h : Goes w0 W σ M N a o.dst next v s) : o.wp P a w next Q := by
  simp only [opR] at hr
  split at hr
  · rename_i n e l ki j h1 hx hi
    split at hr
    · rename_i sz hs
      rcases hr with ⟨hb, hr⟩ | ⟨_, hf⟩
      · simp only [Bool.and_eq_true, decide_eq_true_eq] at hb
        obtain ⟨u, hu, rfl, rfl⟩ := leafO_reach hr
        obtain ⟨he, hok⟩ := opdV_rel hT hx
        have hj : a.eval i = .int ki j := (opdV_rel hT hi).1
        obtain ⟨v', hrun, hv⟩ := part_run (σ := σ) (w := w) hu hok
        refine h.value hM hN (v' := v') ?_ hv
        unfold execOp
        rw [ho]
        simp [Instr.index, asIntOf, hj, he, underlying_run h1, hb, sizeOf_run hs, hrun]
      · exact hf.elim
    · exact hr.elim
  · rename_i st ki j h1 hx hi
    rcases hr with ⟨hb, hr⟩ | ⟨_, hf⟩
    · simp only [Bool.and_eq_true, decide_eq_true_eq] at hb
      obtain ⟨rfl, rfl⟩ := hr
      have he : a.eval x = .string st := (opdV_rel hT hx).1
      have hj : a.eval i = .int ki j := (opdV_rel hT hi).1
      refine h.value hM hN (v' := .int .u8 (byteAt st j)) ?_ ⟨rfl, byteAt_ok st j⟩
      unfold execOp
      rw [ho]
      simp [Instr.index, asIntOf, hj, he, underlying_run h1, hb, byteAt]
      rfl
    · exact hf.elim
  · exact hr.elim

end
end Go.Ev
