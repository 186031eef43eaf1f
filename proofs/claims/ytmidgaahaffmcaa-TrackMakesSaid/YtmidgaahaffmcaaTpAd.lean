/-
  TrackMakes, value by value of the length of a path. No condition beyond those of the statements.
-/
import Derived.Test.YtmidgaahaffmcaaTxCA
namespace Go.Ev
open Go Go.Proofs

set_option maxRecDepth 100000 in
theorem wp_88 (nm : ByteArray) (ra dec t p : Int) (K : AV → List Blk → Ans) : evFnP Try.prog GT EQT (inl Try.prog GT EQT XT [12] T_fringeref06_Same 400 1) XT noL (fun _ => [1, 2, 3, 4, 11, 47, 48]) 400 7 [.v (.agg [.str nm, .int .i64 ra, .int .i64 dec]), .v (.c (.d (.int .i64 t))), .v (.c (.d (.int .i64 p))), .v (.c (.d (.int .i64 88)))] [] (fun v M => K v (cutAt 2 M)) = progPath ⟨nm, ra, dec⟩ t p 88 (progK K 28 88) := by
  kernel_rfl
theorem cp_88 (nm : ByteArray) (ra dec t p : Int) : (pathE ⟨nm, ra, dec⟩ t p ((88 : Nat) : Int) = 0 → CallsA Try.prog GT gbT 7 [.v (.agg [.str nm, .int .i64 ra, .int .i64 dec]), .v (.c (.d (.int .i64 t))), .v (.c (.d (.int .i64 p))), .v (.c (.d (.int .i64 ((88 : Nat) : Int))))] [] (vSlice 2 88 0) (mSlice 28 2 (pathD ⟨nm, ra, dec⟩ t p 88))) ∧ (pathE ⟨nm, ra, dec⟩ t p ((88 : Nat) : Int) ≠ 0 → CallsA Try.prog GT gbT 7 [.v (.agg [.str nm, .int .i64 ra, .int .i64 dec]), .v (.c (.d (.int .i64 t))), .v (.c (.d (.int .i64 p))), .v (.c (.d (.int .i64 ((88 : Nat) : Int))))] [] (vNil (pathE ⟨nm, ra, dec⟩ t p ((88 : Nat) : Int))) []) := by
  have hw := wp_88 nm ra dec t p (fun v M => some (Res.fin v M))
  rw [prog_path (by omega)] at hw
  refine ⟨fun h => ?_, fun h => ?_⟩
  · rw [h] at hw; exact CallsA.ofEvCutP (fun _ => [1, 2, 3, 4, 11, 47, 48]) (g_fringeref06_Same.inl hEQT hmT (fun f hf => by simp only [List.mem_cons, List.not_mem_nil, or_false] at hf; subst hf; exact (fun args w => Try.call12 args w)) 400 1) hEQT hmT 2 (fun _ _ _ _ => noL_ok _) hw
  · rw [show (pathE ⟨nm, ra, dec⟩ t p ((88 : Nat) : Int) == 0) = false by simpa using h] at hw; exact (CallsA.ofEvCutP (fun _ => [1, 2, 3, 4, 11, 47, 48]) (g_fringeref06_Same.inl hEQT hmT (fun f hf => by simp only [List.mem_cons, List.not_mem_nil, or_false] at hf; subst hf; exact (fun args w => Try.call12 args w)) 400 1) hEQT hmT 2 (fun _ _ _ _ => noL_ok _) hw).drop (M' := []) fun b => .inr rfl

set_option maxRecDepth 100000 in
theorem wp_89 (nm : ByteArray) (ra dec t p : Int) (K : AV → List Blk → Ans) : evFnP Try.prog GT EQT (inl Try.prog GT EQT XT [12] T_fringeref06_Same 400 1) XT noL (fun _ => [1, 2, 3, 4, 11, 47, 48]) 400 7 [.v (.agg [.str nm, .int .i64 ra, .int .i64 dec]), .v (.c (.d (.int .i64 t))), .v (.c (.d (.int .i64 p))), .v (.c (.d (.int .i64 89)))] [] (fun v M => K v (cutAt 2 M)) = progPath ⟨nm, ra, dec⟩ t p 89 (progK K 28 89) := by
  kernel_rfl
theorem cp_89 (nm : ByteArray) (ra dec t p : Int) : (pathE ⟨nm, ra, dec⟩ t p ((89 : Nat) : Int) = 0 → CallsA Try.prog GT gbT 7 [.v (.agg [.str nm, .int .i64 ra, .int .i64 dec]), .v (.c (.d (.int .i64 t))), .v (.c (.d (.int .i64 p))), .v (.c (.d (.int .i64 ((89 : Nat) : Int))))] [] (vSlice 2 89 0) (mSlice 28 2 (pathD ⟨nm, ra, dec⟩ t p 89))) ∧ (pathE ⟨nm, ra, dec⟩ t p ((89 : Nat) : Int) ≠ 0 → CallsA Try.prog GT gbT 7 [.v (.agg [.str nm, .int .i64 ra, .int .i64 dec]), .v (.c (.d (.int .i64 t))), .v (.c (.d (.int .i64 p))), .v (.c (.d (.int .i64 ((89 : Nat) : Int))))] [] (vNil (pathE ⟨nm, ra, dec⟩ t p ((89 : Nat) : Int))) []) := by
  have hw := wp_89 nm ra dec t p (fun v M => some (Res.fin v M))
  rw [prog_path (by omega)] at hw
  refine ⟨fun h => ?_, fun h => ?_⟩
  · rw [h] at hw; exact CallsA.ofEvCutP (fun _ => [1, 2, 3, 4, 11, 47, 48]) (g_fringeref06_Same.inl hEQT hmT (fun f hf => by simp only [List.mem_cons, List.not_mem_nil, or_false] at hf; subst hf; exact (fun args w => Try.call12 args w)) 400 1) hEQT hmT 2 (fun _ _ _ _ => noL_ok _) hw
  · rw [show (pathE ⟨nm, ra, dec⟩ t p ((89 : Nat) : Int) == 0) = false by simpa using h] at hw; exact (CallsA.ofEvCutP (fun _ => [1, 2, 3, 4, 11, 47, 48]) (g_fringeref06_Same.inl hEQT hmT (fun f hf => by simp only [List.mem_cons, List.not_mem_nil, or_false] at hf; subst hf; exact (fun args w => Try.call12 args w)) 400 1) hEQT hmT 2 (fun _ _ _ _ => noL_ok _) hw).drop (M' := []) fun b => .inr rfl

set_option maxRecDepth 100000 in
theorem wp_90 (nm : ByteArray) (ra dec t p : Int) (K : AV → List Blk → Ans) : evFnP Try.prog GT EQT (inl Try.prog GT EQT XT [12] T_fringeref06_Same 400 1) XT noL (fun _ => [1, 2, 3, 4, 11, 47, 48]) 400 7 [.v (.agg [.str nm, .int .i64 ra, .int .i64 dec]), .v (.c (.d (.int .i64 t))), .v (.c (.d (.int .i64 p))), .v (.c (.d (.int .i64 90)))] [] (fun v M => K v (cutAt 2 M)) = progPath ⟨nm, ra, dec⟩ t p 90 (progK K 28 90) := by
  kernel_rfl
theorem cp_90 (nm : ByteArray) (ra dec t p : Int) : (pathE ⟨nm, ra, dec⟩ t p ((90 : Nat) : Int) = 0 → CallsA Try.prog GT gbT 7 [.v (.agg [.str nm, .int .i64 ra, .int .i64 dec]), .v (.c (.d (.int .i64 t))), .v (.c (.d (.int .i64 p))), .v (.c (.d (.int .i64 ((90 : Nat) : Int))))] [] (vSlice 2 90 0) (mSlice 28 2 (pathD ⟨nm, ra, dec⟩ t p 90))) ∧ (pathE ⟨nm, ra, dec⟩ t p ((90 : Nat) : Int) ≠ 0 → CallsA Try.prog GT gbT 7 [.v (.agg [.str nm, .int .i64 ra, .int .i64 dec]), .v (.c (.d (.int .i64 t))), .v (.c (.d (.int .i64 p))), .v (.c (.d (.int .i64 ((90 : Nat) : Int))))] [] (vNil (pathE ⟨nm, ra, dec⟩ t p ((90 : Nat) : Int))) []) := by
  have hw := wp_90 nm ra dec t p (fun v M => some (Res.fin v M))
  rw [prog_path (by omega)] at hw
  refine ⟨fun h => ?_, fun h => ?_⟩
  · rw [h] at hw; exact CallsA.ofEvCutP (fun _ => [1, 2, 3, 4, 11, 47, 48]) (g_fringeref06_Same.inl hEQT hmT (fun f hf => by simp only [List.mem_cons, List.not_mem_nil, or_false] at hf; subst hf; exact (fun args w => Try.call12 args w)) 400 1) hEQT hmT 2 (fun _ _ _ _ => noL_ok _) hw
  · rw [show (pathE ⟨nm, ra, dec⟩ t p ((90 : Nat) : Int) == 0) = false by simpa using h] at hw; exact (CallsA.ofEvCutP (fun _ => [1, 2, 3, 4, 11, 47, 48]) (g_fringeref06_Same.inl hEQT hmT (fun f hf => by simp only [List.mem_cons, List.not_mem_nil, or_false] at hf; subst hf; exact (fun args w => Try.call12 args w)) 400 1) hEQT hmT 2 (fun _ _ _ _ => noL_ok _) hw).drop (M' := []) fun b => .inr rfl

set_option maxRecDepth 100000 in
theorem wp_91 (nm : ByteArray) (ra dec t p : Int) (K : AV → List Blk → Ans) : evFnP Try.prog GT EQT (inl Try.prog GT EQT XT [12] T_fringeref06_Same 400 1) XT noL (fun _ => [1, 2, 3, 4, 11, 47, 48]) 400 7 [.v (.agg [.str nm, .int .i64 ra, .int .i64 dec]), .v (.c (.d (.int .i64 t))), .v (.c (.d (.int .i64 p))), .v (.c (.d (.int .i64 91)))] [] (fun v M => K v (cutAt 2 M)) = progPath ⟨nm, ra, dec⟩ t p 91 (progK K 28 91) := by
  kernel_rfl
theorem cp_91 (nm : ByteArray) (ra dec t p : Int) : (pathE ⟨nm, ra, dec⟩ t p ((91 : Nat) : Int) = 0 → CallsA Try.prog GT gbT 7 [.v (.agg [.str nm, .int .i64 ra, .int .i64 dec]), .v (.c (.d (.int .i64 t))), .v (.c (.d (.int .i64 p))), .v (.c (.d (.int .i64 ((91 : Nat) : Int))))] [] (vSlice 2 91 0) (mSlice 28 2 (pathD ⟨nm, ra, dec⟩ t p 91))) ∧ (pathE ⟨nm, ra, dec⟩ t p ((91 : Nat) : Int) ≠ 0 → CallsA Try.prog GT gbT 7 [.v (.agg [.str nm, .int .i64 ra, .int .i64 dec]), .v (.c (.d (.int .i64 t))), .v (.c (.d (.int .i64 p))), .v (.c (.d (.int .i64 ((91 : Nat) : Int))))] [] (vNil (pathE ⟨nm, ra, dec⟩ t p ((91 : Nat) : Int))) []) := by
  have hw := wp_91 nm ra dec t p (fun v M => some (Res.fin v M))
  rw [prog_path (by omega)] at hw
  refine ⟨fun h => ?_, fun h => ?_⟩
  · rw [h] at hw; exact CallsA.ofEvCutP (fun _ => [1, 2, 3, 4, 11, 47, 48]) (g_fringeref06_Same.inl hEQT hmT (fun f hf => by simp only [List.mem_cons, List.not_mem_nil, or_false] at hf; subst hf; exact (fun args w => Try.call12 args w)) 400 1) hEQT hmT 2 (fun _ _ _ _ => noL_ok _) hw
  · rw [show (pathE ⟨nm, ra, dec⟩ t p ((91 : Nat) : Int) == 0) = false by simpa using h] at hw; exact (CallsA.ofEvCutP (fun _ => [1, 2, 3, 4, 11, 47, 48]) (g_fringeref06_Same.inl hEQT hmT (fun f hf => by simp only [List.mem_cons, List.not_mem_nil, or_false] at hf; subst hf; exact (fun args w => Try.call12 args w)) 400 1) hEQT hmT 2 (fun _ _ _ _ => noL_ok _) hw).drop (M' := []) fun b => .inr rfl

set_option maxRecDepth 100000 in
theorem wp_92 (nm : ByteArray) (ra dec t p : Int) (K : AV → List Blk → Ans) : evFnP Try.prog GT EQT (inl Try.prog GT EQT XT [12] T_fringeref06_Same 400 1) XT noL (fun _ => [1, 2, 3, 4, 11, 47, 48]) 400 7 [.v (.agg [.str nm, .int .i64 ra, .int .i64 dec]), .v (.c (.d (.int .i64 t))), .v (.c (.d (.int .i64 p))), .v (.c (.d (.int .i64 92)))] [] (fun v M => K v (cutAt 2 M)) = progPath ⟨nm, ra, dec⟩ t p 92 (progK K 28 92) := by
  kernel_rfl
theorem cp_92 (nm : ByteArray) (ra dec t p : Int) : (pathE ⟨nm, ra, dec⟩ t p ((92 : Nat) : Int) = 0 → CallsA Try.prog GT gbT 7 [.v (.agg [.str nm, .int .i64 ra, .int .i64 dec]), .v (.c (.d (.int .i64 t))), .v (.c (.d (.int .i64 p))), .v (.c (.d (.int .i64 ((92 : Nat) : Int))))] [] (vSlice 2 92 0) (mSlice 28 2 (pathD ⟨nm, ra, dec⟩ t p 92))) ∧ (pathE ⟨nm, ra, dec⟩ t p ((92 : Nat) : Int) ≠ 0 → CallsA Try.prog GT gbT 7 [.v (.agg [.str nm, .int .i64 ra, .int .i64 dec]), .v (.c (.d (.int .i64 t))), .v (.c (.d (.int .i64 p))), .v (.c (.d (.int .i64 ((92 : Nat) : Int))))] [] (vNil (pathE ⟨nm, ra, dec⟩ t p ((92 : Nat) : Int))) []) := by
  have hw := wp_92 nm ra dec t p (fun v M => some (Res.fin v M))
  rw [prog_path (by omega)] at hw
  refine ⟨fun h => ?_, fun h => ?_⟩
  · rw [h] at hw; exact CallsA.ofEvCutP (fun _ => [1, 2, 3, 4, 11, 47, 48]) (g_fringeref06_Same.inl hEQT hmT (fun f hf => by simp only [List.mem_cons, List.not_mem_nil, or_false] at hf; subst hf; exact (fun args w => Try.call12 args w)) 400 1) hEQT hmT 2 (fun _ _ _ _ => noL_ok _) hw
  · rw [show (pathE ⟨nm, ra, dec⟩ t p ((92 : Nat) : Int) == 0) = false by simpa using h] at hw; exact (CallsA.ofEvCutP (fun _ => [1, 2, 3, 4, 11, 47, 48]) (g_fringeref06_Same.inl hEQT hmT (fun f hf => by simp only [List.mem_cons, List.not_mem_nil, or_false] at hf; subst hf; exact (fun args w => Try.call12 args w)) 400 1) hEQT hmT 2 (fun _ _ _ _ => noL_ok _) hw).drop (M' := []) fun b => .inr rfl

set_option maxRecDepth 100000 in
theorem wp_93 (nm : ByteArray) (ra dec t p : Int) (K : AV → List Blk → Ans) : evFnP Try.prog GT EQT (inl Try.prog GT EQT XT [12] T_fringeref06_Same 400 1) XT noL (fun _ => [1, 2, 3, 4, 11, 47, 48]) 400 7 [.v (.agg [.str nm, .int .i64 ra, .int .i64 dec]), .v (.c (.d (.int .i64 t))), .v (.c (.d (.int .i64 p))), .v (.c (.d (.int .i64 93)))] [] (fun v M => K v (cutAt 2 M)) = progPath ⟨nm, ra, dec⟩ t p 93 (progK K 28 93) := by
  kernel_rfl
theorem cp_93 (nm : ByteArray) (ra dec t p : Int) : (pathE ⟨nm, ra, dec⟩ t p ((93 : Nat) : Int) = 0 → CallsA Try.prog GT gbT 7 [.v (.agg [.str nm, .int .i64 ra, .int .i64 dec]), .v (.c (.d (.int .i64 t))), .v (.c (.d (.int .i64 p))), .v (.c (.d (.int .i64 ((93 : Nat) : Int))))] [] (vSlice 2 93 0) (mSlice 28 2 (pathD ⟨nm, ra, dec⟩ t p 93))) ∧ (pathE ⟨nm, ra, dec⟩ t p ((93 : Nat) : Int) ≠ 0 → CallsA Try.prog GT gbT 7 [.v (.agg [.str nm, .int .i64 ra, .int .i64 dec]), .v (.c (.d (.int .i64 t))), .v (.c (.d (.int .i64 p))), .v (.c (.d (.int .i64 ((93 : Nat) : Int))))] [] (vNil (pathE ⟨nm, ra, dec⟩ t p ((93 : Nat) : Int))) []) := by
  have hw := wp_93 nm ra dec t p (fun v M => some (Res.fin v M))
  rw [prog_path (by omega)] at hw
  refine ⟨fun h => ?_, fun h => ?_⟩
  · rw [h] at hw; exact CallsA.ofEvCutP (fun _ => [1, 2, 3, 4, 11, 47, 48]) (g_fringeref06_Same.inl hEQT hmT (fun f hf => by simp only [List.mem_cons, List.not_mem_nil, or_false] at hf; subst hf; exact (fun args w => Try.call12 args w)) 400 1) hEQT hmT 2 (fun _ _ _ _ => noL_ok _) hw
  · rw [show (pathE ⟨nm, ra, dec⟩ t p ((93 : Nat) : Int) == 0) = false by simpa using h] at hw; exact (CallsA.ofEvCutP (fun _ => [1, 2, 3, 4, 11, 47, 48]) (g_fringeref06_Same.inl hEQT hmT (fun f hf => by simp only [List.mem_cons, List.not_mem_nil, or_false] at hf; subst hf; exact (fun args w => Try.call12 args w)) 400 1) hEQT hmT 2 (fun _ _ _ _ => noL_ok _) hw).drop (M' := []) fun b => .inr rfl

set_option maxRecDepth 100000 in
theorem wp_94 (nm : ByteArray) (ra dec t p : Int) (K : AV → List Blk → Ans) : evFnP Try.prog GT EQT (inl Try.prog GT EQT XT [12] T_fringeref06_Same 400 1) XT noL (fun _ => [1, 2, 3, 4, 11, 47, 48]) 400 7 [.v (.agg [.str nm, .int .i64 ra, .int .i64 dec]), .v (.c (.d (.int .i64 t))), .v (.c (.d (.int .i64 p))), .v (.c (.d (.int .i64 94)))] [] (fun v M => K v (cutAt 2 M)) = progPath ⟨nm, ra, dec⟩ t p 94 (progK K 28 94) := by
  kernel_rfl
theorem cp_94 (nm : ByteArray) (ra dec t p : Int) : (pathE ⟨nm, ra, dec⟩ t p ((94 : Nat) : Int) = 0 → CallsA Try.prog GT gbT 7 [.v (.agg [.str nm, .int .i64 ra, .int .i64 dec]), .v (.c (.d (.int .i64 t))), .v (.c (.d (.int .i64 p))), .v (.c (.d (.int .i64 ((94 : Nat) : Int))))] [] (vSlice 2 94 0) (mSlice 28 2 (pathD ⟨nm, ra, dec⟩ t p 94))) ∧ (pathE ⟨nm, ra, dec⟩ t p ((94 : Nat) : Int) ≠ 0 → CallsA Try.prog GT gbT 7 [.v (.agg [.str nm, .int .i64 ra, .int .i64 dec]), .v (.c (.d (.int .i64 t))), .v (.c (.d (.int .i64 p))), .v (.c (.d (.int .i64 ((94 : Nat) : Int))))] [] (vNil (pathE ⟨nm, ra, dec⟩ t p ((94 : Nat) : Int))) []) := by
  have hw := wp_94 nm ra dec t p (fun v M => some (Res.fin v M))
  rw [prog_path (by omega)] at hw
  refine ⟨fun h => ?_, fun h => ?_⟩
  · rw [h] at hw; exact CallsA.ofEvCutP (fun _ => [1, 2, 3, 4, 11, 47, 48]) (g_fringeref06_Same.inl hEQT hmT (fun f hf => by simp only [List.mem_cons, List.not_mem_nil, or_false] at hf; subst hf; exact (fun args w => Try.call12 args w)) 400 1) hEQT hmT 2 (fun _ _ _ _ => noL_ok _) hw
  · rw [show (pathE ⟨nm, ra, dec⟩ t p ((94 : Nat) : Int) == 0) = false by simpa using h] at hw; exact (CallsA.ofEvCutP (fun _ => [1, 2, 3, 4, 11, 47, 48]) (g_fringeref06_Same.inl hEQT hmT (fun f hf => by simp only [List.mem_cons, List.not_mem_nil, or_false] at hf; subst hf; exact (fun args w => Try.call12 args w)) 400 1) hEQT hmT 2 (fun _ _ _ _ => noL_ok _) hw).drop (M' := []) fun b => .inr rfl

set_option maxRecDepth 100000 in
theorem wp_95 (nm : ByteArray) (ra dec t p : Int) (K : AV → List Blk → Ans) : evFnP Try.prog GT EQT (inl Try.prog GT EQT XT [12] T_fringeref06_Same 400 1) XT noL (fun _ => [1, 2, 3, 4, 11, 47, 48]) 400 7 [.v (.agg [.str nm, .int .i64 ra, .int .i64 dec]), .v (.c (.d (.int .i64 t))), .v (.c (.d (.int .i64 p))), .v (.c (.d (.int .i64 95)))] [] (fun v M => K v (cutAt 2 M)) = progPath ⟨nm, ra, dec⟩ t p 95 (progK K 28 95) := by
  kernel_rfl
theorem cp_95 (nm : ByteArray) (ra dec t p : Int) : (pathE ⟨nm, ra, dec⟩ t p ((95 : Nat) : Int) = 0 → CallsA Try.prog GT gbT 7 [.v (.agg [.str nm, .int .i64 ra, .int .i64 dec]), .v (.c (.d (.int .i64 t))), .v (.c (.d (.int .i64 p))), .v (.c (.d (.int .i64 ((95 : Nat) : Int))))] [] (vSlice 2 95 0) (mSlice 28 2 (pathD ⟨nm, ra, dec⟩ t p 95))) ∧ (pathE ⟨nm, ra, dec⟩ t p ((95 : Nat) : Int) ≠ 0 → CallsA Try.prog GT gbT 7 [.v (.agg [.str nm, .int .i64 ra, .int .i64 dec]), .v (.c (.d (.int .i64 t))), .v (.c (.d (.int .i64 p))), .v (.c (.d (.int .i64 ((95 : Nat) : Int))))] [] (vNil (pathE ⟨nm, ra, dec⟩ t p ((95 : Nat) : Int))) []) := by
  have hw := wp_95 nm ra dec t p (fun v M => some (Res.fin v M))
  rw [prog_path (by omega)] at hw
  refine ⟨fun h => ?_, fun h => ?_⟩
  · rw [h] at hw; exact CallsA.ofEvCutP (fun _ => [1, 2, 3, 4, 11, 47, 48]) (g_fringeref06_Same.inl hEQT hmT (fun f hf => by simp only [List.mem_cons, List.not_mem_nil, or_false] at hf; subst hf; exact (fun args w => Try.call12 args w)) 400 1) hEQT hmT 2 (fun _ _ _ _ => noL_ok _) hw
  · rw [show (pathE ⟨nm, ra, dec⟩ t p ((95 : Nat) : Int) == 0) = false by simpa using h] at hw; exact (CallsA.ofEvCutP (fun _ => [1, 2, 3, 4, 11, 47, 48]) (g_fringeref06_Same.inl hEQT hmT (fun f hf => by simp only [List.mem_cons, List.not_mem_nil, or_false] at hf; subst hf; exact (fun args w => Try.call12 args w)) 400 1) hEQT hmT 2 (fun _ _ _ _ => noL_ok _) hw).drop (M' := []) fun b => .inr rfl

set_option maxRecDepth 100000 in
theorem wp_96 (nm : ByteArray) (ra dec t p : Int) (K : AV → List Blk → Ans) : evFnP Try.prog GT EQT (inl Try.prog GT EQT XT [12] T_fringeref06_Same 400 1) XT noL (fun _ => [1, 2, 3, 4, 11, 47, 48]) 400 7 [.v (.agg [.str nm, .int .i64 ra, .int .i64 dec]), .v (.c (.d (.int .i64 t))), .v (.c (.d (.int .i64 p))), .v (.c (.d (.int .i64 96)))] [] (fun v M => K v (cutAt 2 M)) = progPath ⟨nm, ra, dec⟩ t p 96 (progK K 28 96) := by
  kernel_rfl
theorem cp_96 (nm : ByteArray) (ra dec t p : Int) : (pathE ⟨nm, ra, dec⟩ t p ((96 : Nat) : Int) = 0 → CallsA Try.prog GT gbT 7 [.v (.agg [.str nm, .int .i64 ra, .int .i64 dec]), .v (.c (.d (.int .i64 t))), .v (.c (.d (.int .i64 p))), .v (.c (.d (.int .i64 ((96 : Nat) : Int))))] [] (vSlice 2 96 0) (mSlice 28 2 (pathD ⟨nm, ra, dec⟩ t p 96))) ∧ (pathE ⟨nm, ra, dec⟩ t p ((96 : Nat) : Int) ≠ 0 → CallsA Try.prog GT gbT 7 [.v (.agg [.str nm, .int .i64 ra, .int .i64 dec]), .v (.c (.d (.int .i64 t))), .v (.c (.d (.int .i64 p))), .v (.c (.d (.int .i64 ((96 : Nat) : Int))))] [] (vNil (pathE ⟨nm, ra, dec⟩ t p ((96 : Nat) : Int))) []) := by
  have hw := wp_96 nm ra dec t p (fun v M => some (Res.fin v M))
  rw [prog_path (by omega)] at hw
  refine ⟨fun h => ?_, fun h => ?_⟩
  · rw [h] at hw; exact CallsA.ofEvCutP (fun _ => [1, 2, 3, 4, 11, 47, 48]) (g_fringeref06_Same.inl hEQT hmT (fun f hf => by simp only [List.mem_cons, List.not_mem_nil, or_false] at hf; subst hf; exact (fun args w => Try.call12 args w)) 400 1) hEQT hmT 2 (fun _ _ _ _ => noL_ok _) hw
  · rw [show (pathE ⟨nm, ra, dec⟩ t p ((96 : Nat) : Int) == 0) = false by simpa using h] at hw; exact (CallsA.ofEvCutP (fun _ => [1, 2, 3, 4, 11, 47, 48]) (g_fringeref06_Same.inl hEQT hmT (fun f hf => by simp only [List.mem_cons, List.not_mem_nil, or_false] at hf; subst hf; exact (fun args w => Try.call12 args w)) 400 1) hEQT hmT 2 (fun _ _ _ _ => noL_ok _) hw).drop (M' := []) fun b => .inr rfl

set_option maxRecDepth 100000 in
theorem wp_97 (nm : ByteArray) (ra dec t p : Int) (K : AV → List Blk → Ans) : evFnP Try.prog GT EQT (inl Try.prog GT EQT XT [12] T_fringeref06_Same 400 1) XT noL (fun _ => [1, 2, 3, 4, 11, 47, 48]) 400 7 [.v (.agg [.str nm, .int .i64 ra, .int .i64 dec]), .v (.c (.d (.int .i64 t))), .v (.c (.d (.int .i64 p))), .v (.c (.d (.int .i64 97)))] [] (fun v M => K v (cutAt 2 M)) = progPath ⟨nm, ra, dec⟩ t p 97 (progK K 28 97) := by
  kernel_rfl
theorem cp_97 (nm : ByteArray) (ra dec t p : Int) : (pathE ⟨nm, ra, dec⟩ t p ((97 : Nat) : Int) = 0 → CallsA Try.prog GT gbT 7 [.v (.agg [.str nm, .int .i64 ra, .int .i64 dec]), .v (.c (.d (.int .i64 t))), .v (.c (.d (.int .i64 p))), .v (.c (.d (.int .i64 ((97 : Nat) : Int))))] [] (vSlice 2 97 0) (mSlice 28 2 (pathD ⟨nm, ra, dec⟩ t p 97))) ∧ (pathE ⟨nm, ra, dec⟩ t p ((97 : Nat) : Int) ≠ 0 → CallsA Try.prog GT gbT 7 [.v (.agg [.str nm, .int .i64 ra, .int .i64 dec]), .v (.c (.d (.int .i64 t))), .v (.c (.d (.int .i64 p))), .v (.c (.d (.int .i64 ((97 : Nat) : Int))))] [] (vNil (pathE ⟨nm, ra, dec⟩ t p ((97 : Nat) : Int))) []) := by
  have hw := wp_97 nm ra dec t p (fun v M => some (Res.fin v M))
  rw [prog_path (by omega)] at hw
  refine ⟨fun h => ?_, fun h => ?_⟩
  · rw [h] at hw; exact CallsA.ofEvCutP (fun _ => [1, 2, 3, 4, 11, 47, 48]) (g_fringeref06_Same.inl hEQT hmT (fun f hf => by simp only [List.mem_cons, List.not_mem_nil, or_false] at hf; subst hf; exact (fun args w => Try.call12 args w)) 400 1) hEQT hmT 2 (fun _ _ _ _ => noL_ok _) hw
  · rw [show (pathE ⟨nm, ra, dec⟩ t p ((97 : Nat) : Int) == 0) = false by simpa using h] at hw; exact (CallsA.ofEvCutP (fun _ => [1, 2, 3, 4, 11, 47, 48]) (g_fringeref06_Same.inl hEQT hmT (fun f hf => by simp only [List.mem_cons, List.not_mem_nil, or_false] at hf; subst hf; exact (fun args w => Try.call12 args w)) 400 1) hEQT hmT 2 (fun _ _ _ _ => noL_ok _) hw).drop (M' := []) fun b => .inr rfl

set_option maxRecDepth 100000 in
theorem wp_98 (nm : ByteArray) (ra dec t p : Int) (K : AV → List Blk → Ans) : evFnP Try.prog GT EQT (inl Try.prog GT EQT XT [12] T_fringeref06_Same 400 1) XT noL (fun _ => [1, 2, 3, 4, 11, 47, 48]) 400 7 [.v (.agg [.str nm, .int .i64 ra, .int .i64 dec]), .v (.c (.d (.int .i64 t))), .v (.c (.d (.int .i64 p))), .v (.c (.d (.int .i64 98)))] [] (fun v M => K v (cutAt 2 M)) = progPath ⟨nm, ra, dec⟩ t p 98 (progK K 28 98) := by
  kernel_rfl
theorem cp_98 (nm : ByteArray) (ra dec t p : Int) : (pathE ⟨nm, ra, dec⟩ t p ((98 : Nat) : Int) = 0 → CallsA Try.prog GT gbT 7 [.v (.agg [.str nm, .int .i64 ra, .int .i64 dec]), .v (.c (.d (.int .i64 t))), .v (.c (.d (.int .i64 p))), .v (.c (.d (.int .i64 ((98 : Nat) : Int))))] [] (vSlice 2 98 0) (mSlice 28 2 (pathD ⟨nm, ra, dec⟩ t p 98))) ∧ (pathE ⟨nm, ra, dec⟩ t p ((98 : Nat) : Int) ≠ 0 → CallsA Try.prog GT gbT 7 [.v (.agg [.str nm, .int .i64 ra, .int .i64 dec]), .v (.c (.d (.int .i64 t))), .v (.c (.d (.int .i64 p))), .v (.c (.d (.int .i64 ((98 : Nat) : Int))))] [] (vNil (pathE ⟨nm, ra, dec⟩ t p ((98 : Nat) : Int))) []) := by
  have hw := wp_98 nm ra dec t p (fun v M => some (Res.fin v M))
  rw [prog_path (by omega)] at hw
  refine ⟨fun h => ?_, fun h => ?_⟩
  · rw [h] at hw; exact CallsA.ofEvCutP (fun _ => [1, 2, 3, 4, 11, 47, 48]) (g_fringeref06_Same.inl hEQT hmT (fun f hf => by simp only [List.mem_cons, List.not_mem_nil, or_false] at hf; subst hf; exact (fun args w => Try.call12 args w)) 400 1) hEQT hmT 2 (fun _ _ _ _ => noL_ok _) hw
  · rw [show (pathE ⟨nm, ra, dec⟩ t p ((98 : Nat) : Int) == 0) = false by simpa using h] at hw; exact (CallsA.ofEvCutP (fun _ => [1, 2, 3, 4, 11, 47, 48]) (g_fringeref06_Same.inl hEQT hmT (fun f hf => by simp only [List.mem_cons, List.not_mem_nil, or_false] at hf; subst hf; exact (fun args w => Try.call12 args w)) 400 1) hEQT hmT 2 (fun _ _ _ _ => noL_ok _) hw).drop (M' := []) fun b => .inr rfl

set_option maxRecDepth 100000 in
theorem wp_99 (nm : ByteArray) (ra dec t p : Int) (K : AV → List Blk → Ans) : evFnP Try.prog GT EQT (inl Try.prog GT EQT XT [12] T_fringeref06_Same 400 1) XT noL (fun _ => [1, 2, 3, 4, 11, 47, 48]) 400 7 [.v (.agg [.str nm, .int .i64 ra, .int .i64 dec]), .v (.c (.d (.int .i64 t))), .v (.c (.d (.int .i64 p))), .v (.c (.d (.int .i64 99)))] [] (fun v M => K v (cutAt 2 M)) = progPath ⟨nm, ra, dec⟩ t p 99 (progK K 28 99) := by
  kernel_rfl
theorem cp_99 (nm : ByteArray) (ra dec t p : Int) : (pathE ⟨nm, ra, dec⟩ t p ((99 : Nat) : Int) = 0 → CallsA Try.prog GT gbT 7 [.v (.agg [.str nm, .int .i64 ra, .int .i64 dec]), .v (.c (.d (.int .i64 t))), .v (.c (.d (.int .i64 p))), .v (.c (.d (.int .i64 ((99 : Nat) : Int))))] [] (vSlice 2 99 0) (mSlice 28 2 (pathD ⟨nm, ra, dec⟩ t p 99))) ∧ (pathE ⟨nm, ra, dec⟩ t p ((99 : Nat) : Int) ≠ 0 → CallsA Try.prog GT gbT 7 [.v (.agg [.str nm, .int .i64 ra, .int .i64 dec]), .v (.c (.d (.int .i64 t))), .v (.c (.d (.int .i64 p))), .v (.c (.d (.int .i64 ((99 : Nat) : Int))))] [] (vNil (pathE ⟨nm, ra, dec⟩ t p ((99 : Nat) : Int))) []) := by
  have hw := wp_99 nm ra dec t p (fun v M => some (Res.fin v M))
  rw [prog_path (by omega)] at hw
  refine ⟨fun h => ?_, fun h => ?_⟩
  · rw [h] at hw; exact CallsA.ofEvCutP (fun _ => [1, 2, 3, 4, 11, 47, 48]) (g_fringeref06_Same.inl hEQT hmT (fun f hf => by simp only [List.mem_cons, List.not_mem_nil, or_false] at hf; subst hf; exact (fun args w => Try.call12 args w)) 400 1) hEQT hmT 2 (fun _ _ _ _ => noL_ok _) hw
  · rw [show (pathE ⟨nm, ra, dec⟩ t p ((99 : Nat) : Int) == 0) = false by simpa using h] at hw; exact (CallsA.ofEvCutP (fun _ => [1, 2, 3, 4, 11, 47, 48]) (g_fringeref06_Same.inl hEQT hmT (fun f hf => by simp only [List.mem_cons, List.not_mem_nil, or_false] at hf; subst hf; exact (fun args w => Try.call12 args w)) 400 1) hEQT hmT 2 (fun _ _ _ _ => noL_ok _) hw).drop (M' := []) fun b => .inr rfl

set_option maxRecDepth 100000 in
theorem wp_100 (nm : ByteArray) (ra dec t p : Int) (K : AV → List Blk → Ans) : evFnP Try.prog GT EQT (inl Try.prog GT EQT XT [12] T_fringeref06_Same 400 1) XT noL (fun _ => [1, 2, 3, 4, 11, 47, 48]) 400 7 [.v (.agg [.str nm, .int .i64 ra, .int .i64 dec]), .v (.c (.d (.int .i64 t))), .v (.c (.d (.int .i64 p))), .v (.c (.d (.int .i64 100)))] [] (fun v M => K v (cutAt 2 M)) = progPath ⟨nm, ra, dec⟩ t p 100 (progK K 28 100) := by
  kernel_rfl
theorem cp_100 (nm : ByteArray) (ra dec t p : Int) : (pathE ⟨nm, ra, dec⟩ t p ((100 : Nat) : Int) = 0 → CallsA Try.prog GT gbT 7 [.v (.agg [.str nm, .int .i64 ra, .int .i64 dec]), .v (.c (.d (.int .i64 t))), .v (.c (.d (.int .i64 p))), .v (.c (.d (.int .i64 ((100 : Nat) : Int))))] [] (vSlice 2 100 0) (mSlice 28 2 (pathD ⟨nm, ra, dec⟩ t p 100))) ∧ (pathE ⟨nm, ra, dec⟩ t p ((100 : Nat) : Int) ≠ 0 → CallsA Try.prog GT gbT 7 [.v (.agg [.str nm, .int .i64 ra, .int .i64 dec]), .v (.c (.d (.int .i64 t))), .v (.c (.d (.int .i64 p))), .v (.c (.d (.int .i64 ((100 : Nat) : Int))))] [] (vNil (pathE ⟨nm, ra, dec⟩ t p ((100 : Nat) : Int))) []) := by
  have hw := wp_100 nm ra dec t p (fun v M => some (Res.fin v M))
  rw [prog_path (by omega)] at hw
  refine ⟨fun h => ?_, fun h => ?_⟩
  · rw [h] at hw; exact CallsA.ofEvCutP (fun _ => [1, 2, 3, 4, 11, 47, 48]) (g_fringeref06_Same.inl hEQT hmT (fun f hf => by simp only [List.mem_cons, List.not_mem_nil, or_false] at hf; subst hf; exact (fun args w => Try.call12 args w)) 400 1) hEQT hmT 2 (fun _ _ _ _ => noL_ok _) hw
  · rw [show (pathE ⟨nm, ra, dec⟩ t p ((100 : Nat) : Int) == 0) = false by simpa using h] at hw; exact (CallsA.ofEvCutP (fun _ => [1, 2, 3, 4, 11, 47, 48]) (g_fringeref06_Same.inl hEQT hmT (fun f hf => by simp only [List.mem_cons, List.not_mem_nil, or_false] at hf; subst hf; exact (fun args w => Try.call12 args w)) 400 1) hEQT hmT 2 (fun _ _ _ _ => noL_ok _) hw).drop (M' := []) fun b => .inr rfl

end Go.Ev
