/-
  TrackMakes, value by value of the length of a path. No condition beyond those of the statements.
-/
import Derived.Test.YtmidgaahaffmcaaTxCA
namespace Go.Ev
open Go Go.Proofs

set_option maxRecDepth 100000 in
theorem wp_0 (nm : ByteArray) (ra dec t p : Int) (K : AV → List Blk → Ans) : evFnP Try.prog GT EQT (inl Try.prog GT EQT XT [12] T_fringeref06_Same 400 1) XT noL (fun _ => [1, 2, 3, 4, 11, 47, 48]) 400 7 [.v (.agg [.str nm, .int .i64 ra, .int .i64 dec]), .v (.c (.d (.int .i64 t))), .v (.c (.d (.int .i64 p))), .v (.c (.d (.int .i64 0)))] [] (fun v M => K v (cutAt 2 M)) = progPath ⟨nm, ra, dec⟩ t p 0 (progK K 28 0) := by
  kernel_rfl
theorem cp_0 (nm : ByteArray) (ra dec t p : Int) : (pathE ⟨nm, ra, dec⟩ t p ((0 : Nat) : Int) = 0 → CallsA Try.prog GT gbT 7 [.v (.agg [.str nm, .int .i64 ra, .int .i64 dec]), .v (.c (.d (.int .i64 t))), .v (.c (.d (.int .i64 p))), .v (.c (.d (.int .i64 ((0 : Nat) : Int))))] [] (vSlice 2 0 0) (mSlice 28 2 (pathD ⟨nm, ra, dec⟩ t p 0))) ∧ (pathE ⟨nm, ra, dec⟩ t p ((0 : Nat) : Int) ≠ 0 → CallsA Try.prog GT gbT 7 [.v (.agg [.str nm, .int .i64 ra, .int .i64 dec]), .v (.c (.d (.int .i64 t))), .v (.c (.d (.int .i64 p))), .v (.c (.d (.int .i64 ((0 : Nat) : Int))))] [] (vNil (pathE ⟨nm, ra, dec⟩ t p ((0 : Nat) : Int))) []) := by
  have hw := wp_0 nm ra dec t p (fun v M => some (Res.fin v M))
  rw [prog_path (by omega)] at hw
  refine ⟨fun h => ?_, fun h => ?_⟩
  · rw [h] at hw; exact CallsA.ofEvCutP (fun _ => [1, 2, 3, 4, 11, 47, 48]) (g_fringeref06_Same.inl hEQT hmT (fun f hf => by simp only [List.mem_cons, List.not_mem_nil, or_false] at hf; subst hf; exact (fun args w => Try.call12 args w)) 400 1) hEQT hmT 2 (fun _ _ _ _ => noL_ok _) hw
  · rw [show (pathE ⟨nm, ra, dec⟩ t p ((0 : Nat) : Int) == 0) = false by simpa using h] at hw; exact (CallsA.ofEvCutP (fun _ => [1, 2, 3, 4, 11, 47, 48]) (g_fringeref06_Same.inl hEQT hmT (fun f hf => by simp only [List.mem_cons, List.not_mem_nil, or_false] at hf; subst hf; exact (fun args w => Try.call12 args w)) 400 1) hEQT hmT 2 (fun _ _ _ _ => noL_ok _) hw).drop (M' := []) fun b => .inr rfl

set_option maxRecDepth 100000 in
theorem wp_1 (nm : ByteArray) (ra dec t p : Int) (K : AV → List Blk → Ans) : evFnP Try.prog GT EQT (inl Try.prog GT EQT XT [12] T_fringeref06_Same 400 1) XT noL (fun _ => [1, 2, 3, 4, 11, 47, 48]) 400 7 [.v (.agg [.str nm, .int .i64 ra, .int .i64 dec]), .v (.c (.d (.int .i64 t))), .v (.c (.d (.int .i64 p))), .v (.c (.d (.int .i64 1)))] [] (fun v M => K v (cutAt 2 M)) = progPath ⟨nm, ra, dec⟩ t p 1 (progK K 28 1) := by
  kernel_rfl
theorem cp_1 (nm : ByteArray) (ra dec t p : Int) : (pathE ⟨nm, ra, dec⟩ t p ((1 : Nat) : Int) = 0 → CallsA Try.prog GT gbT 7 [.v (.agg [.str nm, .int .i64 ra, .int .i64 dec]), .v (.c (.d (.int .i64 t))), .v (.c (.d (.int .i64 p))), .v (.c (.d (.int .i64 ((1 : Nat) : Int))))] [] (vSlice 2 1 0) (mSlice 28 2 (pathD ⟨nm, ra, dec⟩ t p 1))) ∧ (pathE ⟨nm, ra, dec⟩ t p ((1 : Nat) : Int) ≠ 0 → CallsA Try.prog GT gbT 7 [.v (.agg [.str nm, .int .i64 ra, .int .i64 dec]), .v (.c (.d (.int .i64 t))), .v (.c (.d (.int .i64 p))), .v (.c (.d (.int .i64 ((1 : Nat) : Int))))] [] (vNil (pathE ⟨nm, ra, dec⟩ t p ((1 : Nat) : Int))) []) := by
  have hw := wp_1 nm ra dec t p (fun v M => some (Res.fin v M))
  rw [prog_path (by omega)] at hw
  refine ⟨fun h => ?_, fun h => ?_⟩
  · rw [h] at hw; exact CallsA.ofEvCutP (fun _ => [1, 2, 3, 4, 11, 47, 48]) (g_fringeref06_Same.inl hEQT hmT (fun f hf => by simp only [List.mem_cons, List.not_mem_nil, or_false] at hf; subst hf; exact (fun args w => Try.call12 args w)) 400 1) hEQT hmT 2 (fun _ _ _ _ => noL_ok _) hw
  · rw [show (pathE ⟨nm, ra, dec⟩ t p ((1 : Nat) : Int) == 0) = false by simpa using h] at hw; exact (CallsA.ofEvCutP (fun _ => [1, 2, 3, 4, 11, 47, 48]) (g_fringeref06_Same.inl hEQT hmT (fun f hf => by simp only [List.mem_cons, List.not_mem_nil, or_false] at hf; subst hf; exact (fun args w => Try.call12 args w)) 400 1) hEQT hmT 2 (fun _ _ _ _ => noL_ok _) hw).drop (M' := []) fun b => .inr rfl

set_option maxRecDepth 100000 in
theorem wp_2 (nm : ByteArray) (ra dec t p : Int) (K : AV → List Blk → Ans) : evFnP Try.prog GT EQT (inl Try.prog GT EQT XT [12] T_fringeref06_Same 400 1) XT noL (fun _ => [1, 2, 3, 4, 11, 47, 48]) 400 7 [.v (.agg [.str nm, .int .i64 ra, .int .i64 dec]), .v (.c (.d (.int .i64 t))), .v (.c (.d (.int .i64 p))), .v (.c (.d (.int .i64 2)))] [] (fun v M => K v (cutAt 2 M)) = progPath ⟨nm, ra, dec⟩ t p 2 (progK K 28 2) := by
  kernel_rfl
theorem cp_2 (nm : ByteArray) (ra dec t p : Int) : (pathE ⟨nm, ra, dec⟩ t p ((2 : Nat) : Int) = 0 → CallsA Try.prog GT gbT 7 [.v (.agg [.str nm, .int .i64 ra, .int .i64 dec]), .v (.c (.d (.int .i64 t))), .v (.c (.d (.int .i64 p))), .v (.c (.d (.int .i64 ((2 : Nat) : Int))))] [] (vSlice 2 2 0) (mSlice 28 2 (pathD ⟨nm, ra, dec⟩ t p 2))) ∧ (pathE ⟨nm, ra, dec⟩ t p ((2 : Nat) : Int) ≠ 0 → CallsA Try.prog GT gbT 7 [.v (.agg [.str nm, .int .i64 ra, .int .i64 dec]), .v (.c (.d (.int .i64 t))), .v (.c (.d (.int .i64 p))), .v (.c (.d (.int .i64 ((2 : Nat) : Int))))] [] (vNil (pathE ⟨nm, ra, dec⟩ t p ((2 : Nat) : Int))) []) := by
  have hw := wp_2 nm ra dec t p (fun v M => some (Res.fin v M))
  rw [prog_path (by omega)] at hw
  refine ⟨fun h => ?_, fun h => ?_⟩
  · rw [h] at hw; exact CallsA.ofEvCutP (fun _ => [1, 2, 3, 4, 11, 47, 48]) (g_fringeref06_Same.inl hEQT hmT (fun f hf => by simp only [List.mem_cons, List.not_mem_nil, or_false] at hf; subst hf; exact (fun args w => Try.call12 args w)) 400 1) hEQT hmT 2 (fun _ _ _ _ => noL_ok _) hw
  · rw [show (pathE ⟨nm, ra, dec⟩ t p ((2 : Nat) : Int) == 0) = false by simpa using h] at hw; exact (CallsA.ofEvCutP (fun _ => [1, 2, 3, 4, 11, 47, 48]) (g_fringeref06_Same.inl hEQT hmT (fun f hf => by simp only [List.mem_cons, List.not_mem_nil, or_false] at hf; subst hf; exact (fun args w => Try.call12 args w)) 400 1) hEQT hmT 2 (fun _ _ _ _ => noL_ok _) hw).drop (M' := []) fun b => .inr rfl

set_option maxRecDepth 100000 in
theorem wp_3 (nm : ByteArray) (ra dec t p : Int) (K : AV → List Blk → Ans) : evFnP Try.prog GT EQT (inl Try.prog GT EQT XT [12] T_fringeref06_Same 400 1) XT noL (fun _ => [1, 2, 3, 4, 11, 47, 48]) 400 7 [.v (.agg [.str nm, .int .i64 ra, .int .i64 dec]), .v (.c (.d (.int .i64 t))), .v (.c (.d (.int .i64 p))), .v (.c (.d (.int .i64 3)))] [] (fun v M => K v (cutAt 2 M)) = progPath ⟨nm, ra, dec⟩ t p 3 (progK K 28 3) := by
  kernel_rfl
theorem cp_3 (nm : ByteArray) (ra dec t p : Int) : (pathE ⟨nm, ra, dec⟩ t p ((3 : Nat) : Int) = 0 → CallsA Try.prog GT gbT 7 [.v (.agg [.str nm, .int .i64 ra, .int .i64 dec]), .v (.c (.d (.int .i64 t))), .v (.c (.d (.int .i64 p))), .v (.c (.d (.int .i64 ((3 : Nat) : Int))))] [] (vSlice 2 3 0) (mSlice 28 2 (pathD ⟨nm, ra, dec⟩ t p 3))) ∧ (pathE ⟨nm, ra, dec⟩ t p ((3 : Nat) : Int) ≠ 0 → CallsA Try.prog GT gbT 7 [.v (.agg [.str nm, .int .i64 ra, .int .i64 dec]), .v (.c (.d (.int .i64 t))), .v (.c (.d (.int .i64 p))), .v (.c (.d (.int .i64 ((3 : Nat) : Int))))] [] (vNil (pathE ⟨nm, ra, dec⟩ t p ((3 : Nat) : Int))) []) := by
  have hw := wp_3 nm ra dec t p (fun v M => some (Res.fin v M))
  rw [prog_path (by omega)] at hw
  refine ⟨fun h => ?_, fun h => ?_⟩
  · rw [h] at hw; exact CallsA.ofEvCutP (fun _ => [1, 2, 3, 4, 11, 47, 48]) (g_fringeref06_Same.inl hEQT hmT (fun f hf => by simp only [List.mem_cons, List.not_mem_nil, or_false] at hf; subst hf; exact (fun args w => Try.call12 args w)) 400 1) hEQT hmT 2 (fun _ _ _ _ => noL_ok _) hw
  · rw [show (pathE ⟨nm, ra, dec⟩ t p ((3 : Nat) : Int) == 0) = false by simpa using h] at hw; exact (CallsA.ofEvCutP (fun _ => [1, 2, 3, 4, 11, 47, 48]) (g_fringeref06_Same.inl hEQT hmT (fun f hf => by simp only [List.mem_cons, List.not_mem_nil, or_false] at hf; subst hf; exact (fun args w => Try.call12 args w)) 400 1) hEQT hmT 2 (fun _ _ _ _ => noL_ok _) hw).drop (M' := []) fun b => .inr rfl

set_option maxRecDepth 100000 in
theorem wp_4 (nm : ByteArray) (ra dec t p : Int) (K : AV → List Blk → Ans) : evFnP Try.prog GT EQT (inl Try.prog GT EQT XT [12] T_fringeref06_Same 400 1) XT noL (fun _ => [1, 2, 3, 4, 11, 47, 48]) 400 7 [.v (.agg [.str nm, .int .i64 ra, .int .i64 dec]), .v (.c (.d (.int .i64 t))), .v (.c (.d (.int .i64 p))), .v (.c (.d (.int .i64 4)))] [] (fun v M => K v (cutAt 2 M)) = progPath ⟨nm, ra, dec⟩ t p 4 (progK K 28 4) := by
  kernel_rfl
theorem cp_4 (nm : ByteArray) (ra dec t p : Int) : (pathE ⟨nm, ra, dec⟩ t p ((4 : Nat) : Int) = 0 → CallsA Try.prog GT gbT 7 [.v (.agg [.str nm, .int .i64 ra, .int .i64 dec]), .v (.c (.d (.int .i64 t))), .v (.c (.d (.int .i64 p))), .v (.c (.d (.int .i64 ((4 : Nat) : Int))))] [] (vSlice 2 4 0) (mSlice 28 2 (pathD ⟨nm, ra, dec⟩ t p 4))) ∧ (pathE ⟨nm, ra, dec⟩ t p ((4 : Nat) : Int) ≠ 0 → CallsA Try.prog GT gbT 7 [.v (.agg [.str nm, .int .i64 ra, .int .i64 dec]), .v (.c (.d (.int .i64 t))), .v (.c (.d (.int .i64 p))), .v (.c (.d (.int .i64 ((4 : Nat) : Int))))] [] (vNil (pathE ⟨nm, ra, dec⟩ t p ((4 : Nat) : Int))) []) := by
  have hw := wp_4 nm ra dec t p (fun v M => some (Res.fin v M))
  rw [prog_path (by omega)] at hw
  refine ⟨fun h => ?_, fun h => ?_⟩
  · rw [h] at hw; exact CallsA.ofEvCutP (fun _ => [1, 2, 3, 4, 11, 47, 48]) (g_fringeref06_Same.inl hEQT hmT (fun f hf => by simp only [List.mem_cons, List.not_mem_nil, or_false] at hf; subst hf; exact (fun args w => Try.call12 args w)) 400 1) hEQT hmT 2 (fun _ _ _ _ => noL_ok _) hw
  · rw [show (pathE ⟨nm, ra, dec⟩ t p ((4 : Nat) : Int) == 0) = false by simpa using h] at hw; exact (CallsA.ofEvCutP (fun _ => [1, 2, 3, 4, 11, 47, 48]) (g_fringeref06_Same.inl hEQT hmT (fun f hf => by simp only [List.mem_cons, List.not_mem_nil, or_false] at hf; subst hf; exact (fun args w => Try.call12 args w)) 400 1) hEQT hmT 2 (fun _ _ _ _ => noL_ok _) hw).drop (M' := []) fun b => .inr rfl

set_option maxRecDepth 100000 in
theorem wp_5 (nm : ByteArray) (ra dec t p : Int) (K : AV → List Blk → Ans) : evFnP Try.prog GT EQT (inl Try.prog GT EQT XT [12] T_fringeref06_Same 400 1) XT noL (fun _ => [1, 2, 3, 4, 11, 47, 48]) 400 7 [.v (.agg [.str nm, .int .i64 ra, .int .i64 dec]), .v (.c (.d (.int .i64 t))), .v (.c (.d (.int .i64 p))), .v (.c (.d (.int .i64 5)))] [] (fun v M => K v (cutAt 2 M)) = progPath ⟨nm, ra, dec⟩ t p 5 (progK K 28 5) := by
  kernel_rfl
theorem cp_5 (nm : ByteArray) (ra dec t p : Int) : (pathE ⟨nm, ra, dec⟩ t p ((5 : Nat) : Int) = 0 → CallsA Try.prog GT gbT 7 [.v (.agg [.str nm, .int .i64 ra, .int .i64 dec]), .v (.c (.d (.int .i64 t))), .v (.c (.d (.int .i64 p))), .v (.c (.d (.int .i64 ((5 : Nat) : Int))))] [] (vSlice 2 5 0) (mSlice 28 2 (pathD ⟨nm, ra, dec⟩ t p 5))) ∧ (pathE ⟨nm, ra, dec⟩ t p ((5 : Nat) : Int) ≠ 0 → CallsA Try.prog GT gbT 7 [.v (.agg [.str nm, .int .i64 ra, .int .i64 dec]), .v (.c (.d (.int .i64 t))), .v (.c (.d (.int .i64 p))), .v (.c (.d (.int .i64 ((5 : Nat) : Int))))] [] (vNil (pathE ⟨nm, ra, dec⟩ t p ((5 : Nat) : Int))) []) := by
  have hw := wp_5 nm ra dec t p (fun v M => some (Res.fin v M))
  rw [prog_path (by omega)] at hw
  refine ⟨fun h => ?_, fun h => ?_⟩
  · rw [h] at hw; exact CallsA.ofEvCutP (fun _ => [1, 2, 3, 4, 11, 47, 48]) (g_fringeref06_Same.inl hEQT hmT (fun f hf => by simp only [List.mem_cons, List.not_mem_nil, or_false] at hf; subst hf; exact (fun args w => Try.call12 args w)) 400 1) hEQT hmT 2 (fun _ _ _ _ => noL_ok _) hw
  · rw [show (pathE ⟨nm, ra, dec⟩ t p ((5 : Nat) : Int) == 0) = false by simpa using h] at hw; exact (CallsA.ofEvCutP (fun _ => [1, 2, 3, 4, 11, 47, 48]) (g_fringeref06_Same.inl hEQT hmT (fun f hf => by simp only [List.mem_cons, List.not_mem_nil, or_false] at hf; subst hf; exact (fun args w => Try.call12 args w)) 400 1) hEQT hmT 2 (fun _ _ _ _ => noL_ok _) hw).drop (M' := []) fun b => .inr rfl

set_option maxRecDepth 100000 in
theorem wp_6 (nm : ByteArray) (ra dec t p : Int) (K : AV → List Blk → Ans) : evFnP Try.prog GT EQT (inl Try.prog GT EQT XT [12] T_fringeref06_Same 400 1) XT noL (fun _ => [1, 2, 3, 4, 11, 47, 48]) 400 7 [.v (.agg [.str nm, .int .i64 ra, .int .i64 dec]), .v (.c (.d (.int .i64 t))), .v (.c (.d (.int .i64 p))), .v (.c (.d (.int .i64 6)))] [] (fun v M => K v (cutAt 2 M)) = progPath ⟨nm, ra, dec⟩ t p 6 (progK K 28 6) := by
  kernel_rfl
theorem cp_6 (nm : ByteArray) (ra dec t p : Int) : (pathE ⟨nm, ra, dec⟩ t p ((6 : Nat) : Int) = 0 → CallsA Try.prog GT gbT 7 [.v (.agg [.str nm, .int .i64 ra, .int .i64 dec]), .v (.c (.d (.int .i64 t))), .v (.c (.d (.int .i64 p))), .v (.c (.d (.int .i64 ((6 : Nat) : Int))))] [] (vSlice 2 6 0) (mSlice 28 2 (pathD ⟨nm, ra, dec⟩ t p 6))) ∧ (pathE ⟨nm, ra, dec⟩ t p ((6 : Nat) : Int) ≠ 0 → CallsA Try.prog GT gbT 7 [.v (.agg [.str nm, .int .i64 ra, .int .i64 dec]), .v (.c (.d (.int .i64 t))), .v (.c (.d (.int .i64 p))), .v (.c (.d (.int .i64 ((6 : Nat) : Int))))] [] (vNil (pathE ⟨nm, ra, dec⟩ t p ((6 : Nat) : Int))) []) := by
  have hw := wp_6 nm ra dec t p (fun v M => some (Res.fin v M))
  rw [prog_path (by omega)] at hw
  refine ⟨fun h => ?_, fun h => ?_⟩
  · rw [h] at hw; exact CallsA.ofEvCutP (fun _ => [1, 2, 3, 4, 11, 47, 48]) (g_fringeref06_Same.inl hEQT hmT (fun f hf => by simp only [List.mem_cons, List.not_mem_nil, or_false] at hf; subst hf; exact (fun args w => Try.call12 args w)) 400 1) hEQT hmT 2 (fun _ _ _ _ => noL_ok _) hw
  · rw [show (pathE ⟨nm, ra, dec⟩ t p ((6 : Nat) : Int) == 0) = false by simpa using h] at hw; exact (CallsA.ofEvCutP (fun _ => [1, 2, 3, 4, 11, 47, 48]) (g_fringeref06_Same.inl hEQT hmT (fun f hf => by simp only [List.mem_cons, List.not_mem_nil, or_false] at hf; subst hf; exact (fun args w => Try.call12 args w)) 400 1) hEQT hmT 2 (fun _ _ _ _ => noL_ok _) hw).drop (M' := []) fun b => .inr rfl

set_option maxRecDepth 100000 in
theorem wp_7 (nm : ByteArray) (ra dec t p : Int) (K : AV → List Blk → Ans) : evFnP Try.prog GT EQT (inl Try.prog GT EQT XT [12] T_fringeref06_Same 400 1) XT noL (fun _ => [1, 2, 3, 4, 11, 47, 48]) 400 7 [.v (.agg [.str nm, .int .i64 ra, .int .i64 dec]), .v (.c (.d (.int .i64 t))), .v (.c (.d (.int .i64 p))), .v (.c (.d (.int .i64 7)))] [] (fun v M => K v (cutAt 2 M)) = progPath ⟨nm, ra, dec⟩ t p 7 (progK K 28 7) := by
  kernel_rfl
theorem cp_7 (nm : ByteArray) (ra dec t p : Int) : (pathE ⟨nm, ra, dec⟩ t p ((7 : Nat) : Int) = 0 → CallsA Try.prog GT gbT 7 [.v (.agg [.str nm, .int .i64 ra, .int .i64 dec]), .v (.c (.d (.int .i64 t))), .v (.c (.d (.int .i64 p))), .v (.c (.d (.int .i64 ((7 : Nat) : Int))))] [] (vSlice 2 7 0) (mSlice 28 2 (pathD ⟨nm, ra, dec⟩ t p 7))) ∧ (pathE ⟨nm, ra, dec⟩ t p ((7 : Nat) : Int) ≠ 0 → CallsA Try.prog GT gbT 7 [.v (.agg [.str nm, .int .i64 ra, .int .i64 dec]), .v (.c (.d (.int .i64 t))), .v (.c (.d (.int .i64 p))), .v (.c (.d (.int .i64 ((7 : Nat) : Int))))] [] (vNil (pathE ⟨nm, ra, dec⟩ t p ((7 : Nat) : Int))) []) := by
  have hw := wp_7 nm ra dec t p (fun v M => some (Res.fin v M))
  rw [prog_path (by omega)] at hw
  refine ⟨fun h => ?_, fun h => ?_⟩
  · rw [h] at hw; exact CallsA.ofEvCutP (fun _ => [1, 2, 3, 4, 11, 47, 48]) (g_fringeref06_Same.inl hEQT hmT (fun f hf => by simp only [List.mem_cons, List.not_mem_nil, or_false] at hf; subst hf; exact (fun args w => Try.call12 args w)) 400 1) hEQT hmT 2 (fun _ _ _ _ => noL_ok _) hw
  · rw [show (pathE ⟨nm, ra, dec⟩ t p ((7 : Nat) : Int) == 0) = false by simpa using h] at hw; exact (CallsA.ofEvCutP (fun _ => [1, 2, 3, 4, 11, 47, 48]) (g_fringeref06_Same.inl hEQT hmT (fun f hf => by simp only [List.mem_cons, List.not_mem_nil, or_false] at hf; subst hf; exact (fun args w => Try.call12 args w)) 400 1) hEQT hmT 2 (fun _ _ _ _ => noL_ok _) hw).drop (M' := []) fun b => .inr rfl

set_option maxRecDepth 100000 in
theorem wp_8 (nm : ByteArray) (ra dec t p : Int) (K : AV → List Blk → Ans) : evFnP Try.prog GT EQT (inl Try.prog GT EQT XT [12] T_fringeref06_Same 400 1) XT noL (fun _ => [1, 2, 3, 4, 11, 47, 48]) 400 7 [.v (.agg [.str nm, .int .i64 ra, .int .i64 dec]), .v (.c (.d (.int .i64 t))), .v (.c (.d (.int .i64 p))), .v (.c (.d (.int .i64 8)))] [] (fun v M => K v (cutAt 2 M)) = progPath ⟨nm, ra, dec⟩ t p 8 (progK K 28 8) := by
  kernel_rfl
theorem cp_8 (nm : ByteArray) (ra dec t p : Int) : (pathE ⟨nm, ra, dec⟩ t p ((8 : Nat) : Int) = 0 → CallsA Try.prog GT gbT 7 [.v (.agg [.str nm, .int .i64 ra, .int .i64 dec]), .v (.c (.d (.int .i64 t))), .v (.c (.d (.int .i64 p))), .v (.c (.d (.int .i64 ((8 : Nat) : Int))))] [] (vSlice 2 8 0) (mSlice 28 2 (pathD ⟨nm, ra, dec⟩ t p 8))) ∧ (pathE ⟨nm, ra, dec⟩ t p ((8 : Nat) : Int) ≠ 0 → CallsA Try.prog GT gbT 7 [.v (.agg [.str nm, .int .i64 ra, .int .i64 dec]), .v (.c (.d (.int .i64 t))), .v (.c (.d (.int .i64 p))), .v (.c (.d (.int .i64 ((8 : Nat) : Int))))] [] (vNil (pathE ⟨nm, ra, dec⟩ t p ((8 : Nat) : Int))) []) := by
  have hw := wp_8 nm ra dec t p (fun v M => some (Res.fin v M))
  rw [prog_path (by omega)] at hw
  refine ⟨fun h => ?_, fun h => ?_⟩
  · rw [h] at hw; exact CallsA.ofEvCutP (fun _ => [1, 2, 3, 4, 11, 47, 48]) (g_fringeref06_Same.inl hEQT hmT (fun f hf => by simp only [List.mem_cons, List.not_mem_nil, or_false] at hf; subst hf; exact (fun args w => Try.call12 args w)) 400 1) hEQT hmT 2 (fun _ _ _ _ => noL_ok _) hw
  · rw [show (pathE ⟨nm, ra, dec⟩ t p ((8 : Nat) : Int) == 0) = false by simpa using h] at hw; exact (CallsA.ofEvCutP (fun _ => [1, 2, 3, 4, 11, 47, 48]) (g_fringeref06_Same.inl hEQT hmT (fun f hf => by simp only [List.mem_cons, List.not_mem_nil, or_false] at hf; subst hf; exact (fun args w => Try.call12 args w)) 400 1) hEQT hmT 2 (fun _ _ _ _ => noL_ok _) hw).drop (M' := []) fun b => .inr rfl

set_option maxRecDepth 100000 in
theorem wp_9 (nm : ByteArray) (ra dec t p : Int) (K : AV → List Blk → Ans) : evFnP Try.prog GT EQT (inl Try.prog GT EQT XT [12] T_fringeref06_Same 400 1) XT noL (fun _ => [1, 2, 3, 4, 11, 47, 48]) 400 7 [.v (.agg [.str nm, .int .i64 ra, .int .i64 dec]), .v (.c (.d (.int .i64 t))), .v (.c (.d (.int .i64 p))), .v (.c (.d (.int .i64 9)))] [] (fun v M => K v (cutAt 2 M)) = progPath ⟨nm, ra, dec⟩ t p 9 (progK K 28 9) := by
  kernel_rfl
theorem cp_9 (nm : ByteArray) (ra dec t p : Int) : (pathE ⟨nm, ra, dec⟩ t p ((9 : Nat) : Int) = 0 → CallsA Try.prog GT gbT 7 [.v (.agg [.str nm, .int .i64 ra, .int .i64 dec]), .v (.c (.d (.int .i64 t))), .v (.c (.d (.int .i64 p))), .v (.c (.d (.int .i64 ((9 : Nat) : Int))))] [] (vSlice 2 9 0) (mSlice 28 2 (pathD ⟨nm, ra, dec⟩ t p 9))) ∧ (pathE ⟨nm, ra, dec⟩ t p ((9 : Nat) : Int) ≠ 0 → CallsA Try.prog GT gbT 7 [.v (.agg [.str nm, .int .i64 ra, .int .i64 dec]), .v (.c (.d (.int .i64 t))), .v (.c (.d (.int .i64 p))), .v (.c (.d (.int .i64 ((9 : Nat) : Int))))] [] (vNil (pathE ⟨nm, ra, dec⟩ t p ((9 : Nat) : Int))) []) := by
  have hw := wp_9 nm ra dec t p (fun v M => some (Res.fin v M))
  rw [prog_path (by omega)] at hw
  refine ⟨fun h => ?_, fun h => ?_⟩
  · rw [h] at hw; exact CallsA.ofEvCutP (fun _ => [1, 2, 3, 4, 11, 47, 48]) (g_fringeref06_Same.inl hEQT hmT (fun f hf => by simp only [List.mem_cons, List.not_mem_nil, or_false] at hf; subst hf; exact (fun args w => Try.call12 args w)) 400 1) hEQT hmT 2 (fun _ _ _ _ => noL_ok _) hw
  · rw [show (pathE ⟨nm, ra, dec⟩ t p ((9 : Nat) : Int) == 0) = false by simpa using h] at hw; exact (CallsA.ofEvCutP (fun _ => [1, 2, 3, 4, 11, 47, 48]) (g_fringeref06_Same.inl hEQT hmT (fun f hf => by simp only [List.mem_cons, List.not_mem_nil, or_false] at hf; subst hf; exact (fun args w => Try.call12 args w)) 400 1) hEQT hmT 2 (fun _ _ _ _ => noL_ok _) hw).drop (M' := []) fun b => .inr rfl

set_option maxRecDepth 100000 in
theorem wp_10 (nm : ByteArray) (ra dec t p : Int) (K : AV → List Blk → Ans) : evFnP Try.prog GT EQT (inl Try.prog GT EQT XT [12] T_fringeref06_Same 400 1) XT noL (fun _ => [1, 2, 3, 4, 11, 47, 48]) 400 7 [.v (.agg [.str nm, .int .i64 ra, .int .i64 dec]), .v (.c (.d (.int .i64 t))), .v (.c (.d (.int .i64 p))), .v (.c (.d (.int .i64 10)))] [] (fun v M => K v (cutAt 2 M)) = progPath ⟨nm, ra, dec⟩ t p 10 (progK K 28 10) := by
  kernel_rfl
theorem cp_10 (nm : ByteArray) (ra dec t p : Int) : (pathE ⟨nm, ra, dec⟩ t p ((10 : Nat) : Int) = 0 → CallsA Try.prog GT gbT 7 [.v (.agg [.str nm, .int .i64 ra, .int .i64 dec]), .v (.c (.d (.int .i64 t))), .v (.c (.d (.int .i64 p))), .v (.c (.d (.int .i64 ((10 : Nat) : Int))))] [] (vSlice 2 10 0) (mSlice 28 2 (pathD ⟨nm, ra, dec⟩ t p 10))) ∧ (pathE ⟨nm, ra, dec⟩ t p ((10 : Nat) : Int) ≠ 0 → CallsA Try.prog GT gbT 7 [.v (.agg [.str nm, .int .i64 ra, .int .i64 dec]), .v (.c (.d (.int .i64 t))), .v (.c (.d (.int .i64 p))), .v (.c (.d (.int .i64 ((10 : Nat) : Int))))] [] (vNil (pathE ⟨nm, ra, dec⟩ t p ((10 : Nat) : Int))) []) := by
  have hw := wp_10 nm ra dec t p (fun v M => some (Res.fin v M))
  rw [prog_path (by omega)] at hw
  refine ⟨fun h => ?_, fun h => ?_⟩
  · rw [h] at hw; exact CallsA.ofEvCutP (fun _ => [1, 2, 3, 4, 11, 47, 48]) (g_fringeref06_Same.inl hEQT hmT (fun f hf => by simp only [List.mem_cons, List.not_mem_nil, or_false] at hf; subst hf; exact (fun args w => Try.call12 args w)) 400 1) hEQT hmT 2 (fun _ _ _ _ => noL_ok _) hw
  · rw [show (pathE ⟨nm, ra, dec⟩ t p ((10 : Nat) : Int) == 0) = false by simpa using h] at hw; exact (CallsA.ofEvCutP (fun _ => [1, 2, 3, 4, 11, 47, 48]) (g_fringeref06_Same.inl hEQT hmT (fun f hf => by simp only [List.mem_cons, List.not_mem_nil, or_false] at hf; subst hf; exact (fun args w => Try.call12 args w)) 400 1) hEQT hmT 2 (fun _ _ _ _ => noL_ok _) hw).drop (M' := []) fun b => .inr rfl

set_option maxRecDepth 100000 in
theorem wp_11 (nm : ByteArray) (ra dec t p : Int) (K : AV → List Blk → Ans) : evFnP Try.prog GT EQT (inl Try.prog GT EQT XT [12] T_fringeref06_Same 400 1) XT noL (fun _ => [1, 2, 3, 4, 11, 47, 48]) 400 7 [.v (.agg [.str nm, .int .i64 ra, .int .i64 dec]), .v (.c (.d (.int .i64 t))), .v (.c (.d (.int .i64 p))), .v (.c (.d (.int .i64 11)))] [] (fun v M => K v (cutAt 2 M)) = progPath ⟨nm, ra, dec⟩ t p 11 (progK K 28 11) := by
  kernel_rfl
theorem cp_11 (nm : ByteArray) (ra dec t p : Int) : (pathE ⟨nm, ra, dec⟩ t p ((11 : Nat) : Int) = 0 → CallsA Try.prog GT gbT 7 [.v (.agg [.str nm, .int .i64 ra, .int .i64 dec]), .v (.c (.d (.int .i64 t))), .v (.c (.d (.int .i64 p))), .v (.c (.d (.int .i64 ((11 : Nat) : Int))))] [] (vSlice 2 11 0) (mSlice 28 2 (pathD ⟨nm, ra, dec⟩ t p 11))) ∧ (pathE ⟨nm, ra, dec⟩ t p ((11 : Nat) : Int) ≠ 0 → CallsA Try.prog GT gbT 7 [.v (.agg [.str nm, .int .i64 ra, .int .i64 dec]), .v (.c (.d (.int .i64 t))), .v (.c (.d (.int .i64 p))), .v (.c (.d (.int .i64 ((11 : Nat) : Int))))] [] (vNil (pathE ⟨nm, ra, dec⟩ t p ((11 : Nat) : Int))) []) := by
  have hw := wp_11 nm ra dec t p (fun v M => some (Res.fin v M))
  rw [prog_path (by omega)] at hw
  refine ⟨fun h => ?_, fun h => ?_⟩
  · rw [h] at hw; exact CallsA.ofEvCutP (fun _ => [1, 2, 3, 4, 11, 47, 48]) (g_fringeref06_Same.inl hEQT hmT (fun f hf => by simp only [List.mem_cons, List.not_mem_nil, or_false] at hf; subst hf; exact (fun args w => Try.call12 args w)) 400 1) hEQT hmT 2 (fun _ _ _ _ => noL_ok _) hw
  · rw [show (pathE ⟨nm, ra, dec⟩ t p ((11 : Nat) : Int) == 0) = false by simpa using h] at hw; exact (CallsA.ofEvCutP (fun _ => [1, 2, 3, 4, 11, 47, 48]) (g_fringeref06_Same.inl hEQT hmT (fun f hf => by simp only [List.mem_cons, List.not_mem_nil, or_false] at hf; subst hf; exact (fun args w => Try.call12 args w)) 400 1) hEQT hmT 2 (fun _ _ _ _ => noL_ok _) hw).drop (M' := []) fun b => .inr rfl

set_option maxRecDepth 100000 in
theorem wp_12 (nm : ByteArray) (ra dec t p : Int) (K : AV → List Blk → Ans) : evFnP Try.prog GT EQT (inl Try.prog GT EQT XT [12] T_fringeref06_Same 400 1) XT noL (fun _ => [1, 2, 3, 4, 11, 47, 48]) 400 7 [.v (.agg [.str nm, .int .i64 ra, .int .i64 dec]), .v (.c (.d (.int .i64 t))), .v (.c (.d (.int .i64 p))), .v (.c (.d (.int .i64 12)))] [] (fun v M => K v (cutAt 2 M)) = progPath ⟨nm, ra, dec⟩ t p 12 (progK K 28 12) := by
  kernel_rfl
theorem cp_12 (nm : ByteArray) (ra dec t p : Int) : (pathE ⟨nm, ra, dec⟩ t p ((12 : Nat) : Int) = 0 → CallsA Try.prog GT gbT 7 [.v (.agg [.str nm, .int .i64 ra, .int .i64 dec]), .v (.c (.d (.int .i64 t))), .v (.c (.d (.int .i64 p))), .v (.c (.d (.int .i64 ((12 : Nat) : Int))))] [] (vSlice 2 12 0) (mSlice 28 2 (pathD ⟨nm, ra, dec⟩ t p 12))) ∧ (pathE ⟨nm, ra, dec⟩ t p ((12 : Nat) : Int) ≠ 0 → CallsA Try.prog GT gbT 7 [.v (.agg [.str nm, .int .i64 ra, .int .i64 dec]), .v (.c (.d (.int .i64 t))), .v (.c (.d (.int .i64 p))), .v (.c (.d (.int .i64 ((12 : Nat) : Int))))] [] (vNil (pathE ⟨nm, ra, dec⟩ t p ((12 : Nat) : Int))) []) := by
  have hw := wp_12 nm ra dec t p (fun v M => some (Res.fin v M))
  rw [prog_path (by omega)] at hw
  refine ⟨fun h => ?_, fun h => ?_⟩
  · rw [h] at hw; exact CallsA.ofEvCutP (fun _ => [1, 2, 3, 4, 11, 47, 48]) (g_fringeref06_Same.inl hEQT hmT (fun f hf => by simp only [List.mem_cons, List.not_mem_nil, or_false] at hf; subst hf; exact (fun args w => Try.call12 args w)) 400 1) hEQT hmT 2 (fun _ _ _ _ => noL_ok _) hw
  · rw [show (pathE ⟨nm, ra, dec⟩ t p ((12 : Nat) : Int) == 0) = false by simpa using h] at hw; exact (CallsA.ofEvCutP (fun _ => [1, 2, 3, 4, 11, 47, 48]) (g_fringeref06_Same.inl hEQT hmT (fun f hf => by simp only [List.mem_cons, List.not_mem_nil, or_false] at hf; subst hf; exact (fun args w => Try.call12 args w)) 400 1) hEQT hmT 2 (fun _ _ _ _ => noL_ok _) hw).drop (M' := []) fun b => .inr rfl

set_option maxRecDepth 100000 in
theorem wp_13 (nm : ByteArray) (ra dec t p : Int) (K : AV → List Blk → Ans) : evFnP Try.prog GT EQT (inl Try.prog GT EQT XT [12] T_fringeref06_Same 400 1) XT noL (fun _ => [1, 2, 3, 4, 11, 47, 48]) 400 7 [.v (.agg [.str nm, .int .i64 ra, .int .i64 dec]), .v (.c (.d (.int .i64 t))), .v (.c (.d (.int .i64 p))), .v (.c (.d (.int .i64 13)))] [] (fun v M => K v (cutAt 2 M)) = progPath ⟨nm, ra, dec⟩ t p 13 (progK K 28 13) := by
  kernel_rfl
theorem cp_13 (nm : ByteArray) (ra dec t p : Int) : (pathE ⟨nm, ra, dec⟩ t p ((13 : Nat) : Int) = 0 → CallsA Try.prog GT gbT 7 [.v (.agg [.str nm, .int .i64 ra, .int .i64 dec]), .v (.c (.d (.int .i64 t))), .v (.c (.d (.int .i64 p))), .v (.c (.d (.int .i64 ((13 : Nat) : Int))))] [] (vSlice 2 13 0) (mSlice 28 2 (pathD ⟨nm, ra, dec⟩ t p 13))) ∧ (pathE ⟨nm, ra, dec⟩ t p ((13 : Nat) : Int) ≠ 0 → CallsA Try.prog GT gbT 7 [.v (.agg [.str nm, .int .i64 ra, .int .i64 dec]), .v (.c (.d (.int .i64 t))), .v (.c (.d (.int .i64 p))), .v (.c (.d (.int .i64 ((13 : Nat) : Int))))] [] (vNil (pathE ⟨nm, ra, dec⟩ t p ((13 : Nat) : Int))) []) := by
  have hw := wp_13 nm ra dec t p (fun v M => some (Res.fin v M))
  rw [prog_path (by omega)] at hw
  refine ⟨fun h => ?_, fun h => ?_⟩
  · rw [h] at hw; exact CallsA.ofEvCutP (fun _ => [1, 2, 3, 4, 11, 47, 48]) (g_fringeref06_Same.inl hEQT hmT (fun f hf => by simp only [List.mem_cons, List.not_mem_nil, or_false] at hf; subst hf; exact (fun args w => Try.call12 args w)) 400 1) hEQT hmT 2 (fun _ _ _ _ => noL_ok _) hw
  · rw [show (pathE ⟨nm, ra, dec⟩ t p ((13 : Nat) : Int) == 0) = false by simpa using h] at hw; exact (CallsA.ofEvCutP (fun _ => [1, 2, 3, 4, 11, 47, 48]) (g_fringeref06_Same.inl hEQT hmT (fun f hf => by simp only [List.mem_cons, List.not_mem_nil, or_false] at hf; subst hf; exact (fun args w => Try.call12 args w)) 400 1) hEQT hmT 2 (fun _ _ _ _ => noL_ok _) hw).drop (M' := []) fun b => .inr rfl

set_option maxRecDepth 100000 in
theorem wp_14 (nm : ByteArray) (ra dec t p : Int) (K : AV → List Blk → Ans) : evFnP Try.prog GT EQT (inl Try.prog GT EQT XT [12] T_fringeref06_Same 400 1) XT noL (fun _ => [1, 2, 3, 4, 11, 47, 48]) 400 7 [.v (.agg [.str nm, .int .i64 ra, .int .i64 dec]), .v (.c (.d (.int .i64 t))), .v (.c (.d (.int .i64 p))), .v (.c (.d (.int .i64 14)))] [] (fun v M => K v (cutAt 2 M)) = progPath ⟨nm, ra, dec⟩ t p 14 (progK K 28 14) := by
  kernel_rfl
theorem cp_14 (nm : ByteArray) (ra dec t p : Int) : (pathE ⟨nm, ra, dec⟩ t p ((14 : Nat) : Int) = 0 → CallsA Try.prog GT gbT 7 [.v (.agg [.str nm, .int .i64 ra, .int .i64 dec]), .v (.c (.d (.int .i64 t))), .v (.c (.d (.int .i64 p))), .v (.c (.d (.int .i64 ((14 : Nat) : Int))))] [] (vSlice 2 14 0) (mSlice 28 2 (pathD ⟨nm, ra, dec⟩ t p 14))) ∧ (pathE ⟨nm, ra, dec⟩ t p ((14 : Nat) : Int) ≠ 0 → CallsA Try.prog GT gbT 7 [.v (.agg [.str nm, .int .i64 ra, .int .i64 dec]), .v (.c (.d (.int .i64 t))), .v (.c (.d (.int .i64 p))), .v (.c (.d (.int .i64 ((14 : Nat) : Int))))] [] (vNil (pathE ⟨nm, ra, dec⟩ t p ((14 : Nat) : Int))) []) := by
  have hw := wp_14 nm ra dec t p (fun v M => some (Res.fin v M))
  rw [prog_path (by omega)] at hw
  refine ⟨fun h => ?_, fun h => ?_⟩
  · rw [h] at hw; exact CallsA.ofEvCutP (fun _ => [1, 2, 3, 4, 11, 47, 48]) (g_fringeref06_Same.inl hEQT hmT (fun f hf => by simp only [List.mem_cons, List.not_mem_nil, or_false] at hf; subst hf; exact (fun args w => Try.call12 args w)) 400 1) hEQT hmT 2 (fun _ _ _ _ => noL_ok _) hw
  · rw [show (pathE ⟨nm, ra, dec⟩ t p ((14 : Nat) : Int) == 0) = false by simpa using h] at hw; exact (CallsA.ofEvCutP (fun _ => [1, 2, 3, 4, 11, 47, 48]) (g_fringeref06_Same.inl hEQT hmT (fun f hf => by simp only [List.mem_cons, List.not_mem_nil, or_false] at hf; subst hf; exact (fun args w => Try.call12 args w)) 400 1) hEQT hmT 2 (fun _ _ _ _ => noL_ok _) hw).drop (M' := []) fun b => .inr rfl

set_option maxRecDepth 100000 in
theorem wp_15 (nm : ByteArray) (ra dec t p : Int) (K : AV → List Blk → Ans) : evFnP Try.prog GT EQT (inl Try.prog GT EQT XT [12] T_fringeref06_Same 400 1) XT noL (fun _ => [1, 2, 3, 4, 11, 47, 48]) 400 7 [.v (.agg [.str nm, .int .i64 ra, .int .i64 dec]), .v (.c (.d (.int .i64 t))), .v (.c (.d (.int .i64 p))), .v (.c (.d (.int .i64 15)))] [] (fun v M => K v (cutAt 2 M)) = progPath ⟨nm, ra, dec⟩ t p 15 (progK K 28 15) := by
  kernel_rfl
theorem cp_15 (nm : ByteArray) (ra dec t p : Int) : (pathE ⟨nm, ra, dec⟩ t p ((15 : Nat) : Int) = 0 → CallsA Try.prog GT gbT 7 [.v (.agg [.str nm, .int .i64 ra, .int .i64 dec]), .v (.c (.d (.int .i64 t))), .v (.c (.d (.int .i64 p))), .v (.c (.d (.int .i64 ((15 : Nat) : Int))))] [] (vSlice 2 15 0) (mSlice 28 2 (pathD ⟨nm, ra, dec⟩ t p 15))) ∧ (pathE ⟨nm, ra, dec⟩ t p ((15 : Nat) : Int) ≠ 0 → CallsA Try.prog GT gbT 7 [.v (.agg [.str nm, .int .i64 ra, .int .i64 dec]), .v (.c (.d (.int .i64 t))), .v (.c (.d (.int .i64 p))), .v (.c (.d (.int .i64 ((15 : Nat) : Int))))] [] (vNil (pathE ⟨nm, ra, dec⟩ t p ((15 : Nat) : Int))) []) := by
  have hw := wp_15 nm ra dec t p (fun v M => some (Res.fin v M))
  rw [prog_path (by omega)] at hw
  refine ⟨fun h => ?_, fun h => ?_⟩
  · rw [h] at hw; exact CallsA.ofEvCutP (fun _ => [1, 2, 3, 4, 11, 47, 48]) (g_fringeref06_Same.inl hEQT hmT (fun f hf => by simp only [List.mem_cons, List.not_mem_nil, or_false] at hf; subst hf; exact (fun args w => Try.call12 args w)) 400 1) hEQT hmT 2 (fun _ _ _ _ => noL_ok _) hw
  · rw [show (pathE ⟨nm, ra, dec⟩ t p ((15 : Nat) : Int) == 0) = false by simpa using h] at hw; exact (CallsA.ofEvCutP (fun _ => [1, 2, 3, 4, 11, 47, 48]) (g_fringeref06_Same.inl hEQT hmT (fun f hf => by simp only [List.mem_cons, List.not_mem_nil, or_false] at hf; subst hf; exact (fun args w => Try.call12 args w)) 400 1) hEQT hmT 2 (fun _ _ _ _ => noL_ok _) hw).drop (M' := []) fun b => .inr rfl

set_option maxRecDepth 100000 in
theorem wp_16 (nm : ByteArray) (ra dec t p : Int) (K : AV → List Blk → Ans) : evFnP Try.prog GT EQT (inl Try.prog GT EQT XT [12] T_fringeref06_Same 400 1) XT noL (fun _ => [1, 2, 3, 4, 11, 47, 48]) 400 7 [.v (.agg [.str nm, .int .i64 ra, .int .i64 dec]), .v (.c (.d (.int .i64 t))), .v (.c (.d (.int .i64 p))), .v (.c (.d (.int .i64 16)))] [] (fun v M => K v (cutAt 2 M)) = progPath ⟨nm, ra, dec⟩ t p 16 (progK K 28 16) := by
  kernel_rfl
theorem cp_16 (nm : ByteArray) (ra dec t p : Int) : (pathE ⟨nm, ra, dec⟩ t p ((16 : Nat) : Int) = 0 → CallsA Try.prog GT gbT 7 [.v (.agg [.str nm, .int .i64 ra, .int .i64 dec]), .v (.c (.d (.int .i64 t))), .v (.c (.d (.int .i64 p))), .v (.c (.d (.int .i64 ((16 : Nat) : Int))))] [] (vSlice 2 16 0) (mSlice 28 2 (pathD ⟨nm, ra, dec⟩ t p 16))) ∧ (pathE ⟨nm, ra, dec⟩ t p ((16 : Nat) : Int) ≠ 0 → CallsA Try.prog GT gbT 7 [.v (.agg [.str nm, .int .i64 ra, .int .i64 dec]), .v (.c (.d (.int .i64 t))), .v (.c (.d (.int .i64 p))), .v (.c (.d (.int .i64 ((16 : Nat) : Int))))] [] (vNil (pathE ⟨nm, ra, dec⟩ t p ((16 : Nat) : Int))) []) := by
  have hw := wp_16 nm ra dec t p (fun v M => some (Res.fin v M))
  rw [prog_path (by omega)] at hw
  refine ⟨fun h => ?_, fun h => ?_⟩
  · rw [h] at hw; exact CallsA.ofEvCutP (fun _ => [1, 2, 3, 4, 11, 47, 48]) (g_fringeref06_Same.inl hEQT hmT (fun f hf => by simp only [List.mem_cons, List.not_mem_nil, or_false] at hf; subst hf; exact (fun args w => Try.call12 args w)) 400 1) hEQT hmT 2 (fun _ _ _ _ => noL_ok _) hw
  · rw [show (pathE ⟨nm, ra, dec⟩ t p ((16 : Nat) : Int) == 0) = false by simpa using h] at hw; exact (CallsA.ofEvCutP (fun _ => [1, 2, 3, 4, 11, 47, 48]) (g_fringeref06_Same.inl hEQT hmT (fun f hf => by simp only [List.mem_cons, List.not_mem_nil, or_false] at hf; subst hf; exact (fun args w => Try.call12 args w)) 400 1) hEQT hmT 2 (fun _ _ _ _ => noL_ok _) hw).drop (M' := []) fun b => .inr rfl

set_option maxRecDepth 100000 in
theorem wp_17 (nm : ByteArray) (ra dec t p : Int) (K : AV → List Blk → Ans) : evFnP Try.prog GT EQT (inl Try.prog GT EQT XT [12] T_fringeref06_Same 400 1) XT noL (fun _ => [1, 2, 3, 4, 11, 47, 48]) 400 7 [.v (.agg [.str nm, .int .i64 ra, .int .i64 dec]), .v (.c (.d (.int .i64 t))), .v (.c (.d (.int .i64 p))), .v (.c (.d (.int .i64 17)))] [] (fun v M => K v (cutAt 2 M)) = progPath ⟨nm, ra, dec⟩ t p 17 (progK K 28 17) := by
  kernel_rfl
theorem cp_17 (nm : ByteArray) (ra dec t p : Int) : (pathE ⟨nm, ra, dec⟩ t p ((17 : Nat) : Int) = 0 → CallsA Try.prog GT gbT 7 [.v (.agg [.str nm, .int .i64 ra, .int .i64 dec]), .v (.c (.d (.int .i64 t))), .v (.c (.d (.int .i64 p))), .v (.c (.d (.int .i64 ((17 : Nat) : Int))))] [] (vSlice 2 17 0) (mSlice 28 2 (pathD ⟨nm, ra, dec⟩ t p 17))) ∧ (pathE ⟨nm, ra, dec⟩ t p ((17 : Nat) : Int) ≠ 0 → CallsA Try.prog GT gbT 7 [.v (.agg [.str nm, .int .i64 ra, .int .i64 dec]), .v (.c (.d (.int .i64 t))), .v (.c (.d (.int .i64 p))), .v (.c (.d (.int .i64 ((17 : Nat) : Int))))] [] (vNil (pathE ⟨nm, ra, dec⟩ t p ((17 : Nat) : Int))) []) := by
  have hw := wp_17 nm ra dec t p (fun v M => some (Res.fin v M))
  rw [prog_path (by omega)] at hw
  refine ⟨fun h => ?_, fun h => ?_⟩
  · rw [h] at hw; exact CallsA.ofEvCutP (fun _ => [1, 2, 3, 4, 11, 47, 48]) (g_fringeref06_Same.inl hEQT hmT (fun f hf => by simp only [List.mem_cons, List.not_mem_nil, or_false] at hf; subst hf; exact (fun args w => Try.call12 args w)) 400 1) hEQT hmT 2 (fun _ _ _ _ => noL_ok _) hw
  · rw [show (pathE ⟨nm, ra, dec⟩ t p ((17 : Nat) : Int) == 0) = false by simpa using h] at hw; exact (CallsA.ofEvCutP (fun _ => [1, 2, 3, 4, 11, 47, 48]) (g_fringeref06_Same.inl hEQT hmT (fun f hf => by simp only [List.mem_cons, List.not_mem_nil, or_false] at hf; subst hf; exact (fun args w => Try.call12 args w)) 400 1) hEQT hmT 2 (fun _ _ _ _ => noL_ok _) hw).drop (M' := []) fun b => .inr rfl

set_option maxRecDepth 100000 in
theorem wp_18 (nm : ByteArray) (ra dec t p : Int) (K : AV → List Blk → Ans) : evFnP Try.prog GT EQT (inl Try.prog GT EQT XT [12] T_fringeref06_Same 400 1) XT noL (fun _ => [1, 2, 3, 4, 11, 47, 48]) 400 7 [.v (.agg [.str nm, .int .i64 ra, .int .i64 dec]), .v (.c (.d (.int .i64 t))), .v (.c (.d (.int .i64 p))), .v (.c (.d (.int .i64 18)))] [] (fun v M => K v (cutAt 2 M)) = progPath ⟨nm, ra, dec⟩ t p 18 (progK K 28 18) := by
  kernel_rfl
theorem cp_18 (nm : ByteArray) (ra dec t p : Int) : (pathE ⟨nm, ra, dec⟩ t p ((18 : Nat) : Int) = 0 → CallsA Try.prog GT gbT 7 [.v (.agg [.str nm, .int .i64 ra, .int .i64 dec]), .v (.c (.d (.int .i64 t))), .v (.c (.d (.int .i64 p))), .v (.c (.d (.int .i64 ((18 : Nat) : Int))))] [] (vSlice 2 18 0) (mSlice 28 2 (pathD ⟨nm, ra, dec⟩ t p 18))) ∧ (pathE ⟨nm, ra, dec⟩ t p ((18 : Nat) : Int) ≠ 0 → CallsA Try.prog GT gbT 7 [.v (.agg [.str nm, .int .i64 ra, .int .i64 dec]), .v (.c (.d (.int .i64 t))), .v (.c (.d (.int .i64 p))), .v (.c (.d (.int .i64 ((18 : Nat) : Int))))] [] (vNil (pathE ⟨nm, ra, dec⟩ t p ((18 : Nat) : Int))) []) := by
  have hw := wp_18 nm ra dec t p (fun v M => some (Res.fin v M))
  rw [prog_path (by omega)] at hw
  refine ⟨fun h => ?_, fun h => ?_⟩
  · rw [h] at hw; exact CallsA.ofEvCutP (fun _ => [1, 2, 3, 4, 11, 47, 48]) (g_fringeref06_Same.inl hEQT hmT (fun f hf => by simp only [List.mem_cons, List.not_mem_nil, or_false] at hf; subst hf; exact (fun args w => Try.call12 args w)) 400 1) hEQT hmT 2 (fun _ _ _ _ => noL_ok _) hw
  · rw [show (pathE ⟨nm, ra, dec⟩ t p ((18 : Nat) : Int) == 0) = false by simpa using h] at hw; exact (CallsA.ofEvCutP (fun _ => [1, 2, 3, 4, 11, 47, 48]) (g_fringeref06_Same.inl hEQT hmT (fun f hf => by simp only [List.mem_cons, List.not_mem_nil, or_false] at hf; subst hf; exact (fun args w => Try.call12 args w)) 400 1) hEQT hmT 2 (fun _ _ _ _ => noL_ok _) hw).drop (M' := []) fun b => .inr rfl

set_option maxRecDepth 100000 in
theorem wp_19 (nm : ByteArray) (ra dec t p : Int) (K : AV → List Blk → Ans) : evFnP Try.prog GT EQT (inl Try.prog GT EQT XT [12] T_fringeref06_Same 400 1) XT noL (fun _ => [1, 2, 3, 4, 11, 47, 48]) 400 7 [.v (.agg [.str nm, .int .i64 ra, .int .i64 dec]), .v (.c (.d (.int .i64 t))), .v (.c (.d (.int .i64 p))), .v (.c (.d (.int .i64 19)))] [] (fun v M => K v (cutAt 2 M)) = progPath ⟨nm, ra, dec⟩ t p 19 (progK K 28 19) := by
  kernel_rfl
theorem cp_19 (nm : ByteArray) (ra dec t p : Int) : (pathE ⟨nm, ra, dec⟩ t p ((19 : Nat) : Int) = 0 → CallsA Try.prog GT gbT 7 [.v (.agg [.str nm, .int .i64 ra, .int .i64 dec]), .v (.c (.d (.int .i64 t))), .v (.c (.d (.int .i64 p))), .v (.c (.d (.int .i64 ((19 : Nat) : Int))))] [] (vSlice 2 19 0) (mSlice 28 2 (pathD ⟨nm, ra, dec⟩ t p 19))) ∧ (pathE ⟨nm, ra, dec⟩ t p ((19 : Nat) : Int) ≠ 0 → CallsA Try.prog GT gbT 7 [.v (.agg [.str nm, .int .i64 ra, .int .i64 dec]), .v (.c (.d (.int .i64 t))), .v (.c (.d (.int .i64 p))), .v (.c (.d (.int .i64 ((19 : Nat) : Int))))] [] (vNil (pathE ⟨nm, ra, dec⟩ t p ((19 : Nat) : Int))) []) := by
  have hw := wp_19 nm ra dec t p (fun v M => some (Res.fin v M))
  rw [prog_path (by omega)] at hw
  refine ⟨fun h => ?_, fun h => ?_⟩
  · rw [h] at hw; exact CallsA.ofEvCutP (fun _ => [1, 2, 3, 4, 11, 47, 48]) (g_fringeref06_Same.inl hEQT hmT (fun f hf => by simp only [List.mem_cons, List.not_mem_nil, or_false] at hf; subst hf; exact (fun args w => Try.call12 args w)) 400 1) hEQT hmT 2 (fun _ _ _ _ => noL_ok _) hw
  · rw [show (pathE ⟨nm, ra, dec⟩ t p ((19 : Nat) : Int) == 0) = false by simpa using h] at hw; exact (CallsA.ofEvCutP (fun _ => [1, 2, 3, 4, 11, 47, 48]) (g_fringeref06_Same.inl hEQT hmT (fun f hf => by simp only [List.mem_cons, List.not_mem_nil, or_false] at hf; subst hf; exact (fun args w => Try.call12 args w)) 400 1) hEQT hmT 2 (fun _ _ _ _ => noL_ok _) hw).drop (M' := []) fun b => .inr rfl

set_option maxRecDepth 100000 in
theorem wp_20 (nm : ByteArray) (ra dec t p : Int) (K : AV → List Blk → Ans) : evFnP Try.prog GT EQT (inl Try.prog GT EQT XT [12] T_fringeref06_Same 400 1) XT noL (fun _ => [1, 2, 3, 4, 11, 47, 48]) 400 7 [.v (.agg [.str nm, .int .i64 ra, .int .i64 dec]), .v (.c (.d (.int .i64 t))), .v (.c (.d (.int .i64 p))), .v (.c (.d (.int .i64 20)))] [] (fun v M => K v (cutAt 2 M)) = progPath ⟨nm, ra, dec⟩ t p 20 (progK K 28 20) := by
  kernel_rfl
theorem cp_20 (nm : ByteArray) (ra dec t p : Int) : (pathE ⟨nm, ra, dec⟩ t p ((20 : Nat) : Int) = 0 → CallsA Try.prog GT gbT 7 [.v (.agg [.str nm, .int .i64 ra, .int .i64 dec]), .v (.c (.d (.int .i64 t))), .v (.c (.d (.int .i64 p))), .v (.c (.d (.int .i64 ((20 : Nat) : Int))))] [] (vSlice 2 20 0) (mSlice 28 2 (pathD ⟨nm, ra, dec⟩ t p 20))) ∧ (pathE ⟨nm, ra, dec⟩ t p ((20 : Nat) : Int) ≠ 0 → CallsA Try.prog GT gbT 7 [.v (.agg [.str nm, .int .i64 ra, .int .i64 dec]), .v (.c (.d (.int .i64 t))), .v (.c (.d (.int .i64 p))), .v (.c (.d (.int .i64 ((20 : Nat) : Int))))] [] (vNil (pathE ⟨nm, ra, dec⟩ t p ((20 : Nat) : Int))) []) := by
  have hw := wp_20 nm ra dec t p (fun v M => some (Res.fin v M))
  rw [prog_path (by omega)] at hw
  refine ⟨fun h => ?_, fun h => ?_⟩
  · rw [h] at hw; exact CallsA.ofEvCutP (fun _ => [1, 2, 3, 4, 11, 47, 48]) (g_fringeref06_Same.inl hEQT hmT (fun f hf => by simp only [List.mem_cons, List.not_mem_nil, or_false] at hf; subst hf; exact (fun args w => Try.call12 args w)) 400 1) hEQT hmT 2 (fun _ _ _ _ => noL_ok _) hw
  · rw [show (pathE ⟨nm, ra, dec⟩ t p ((20 : Nat) : Int) == 0) = false by simpa using h] at hw; exact (CallsA.ofEvCutP (fun _ => [1, 2, 3, 4, 11, 47, 48]) (g_fringeref06_Same.inl hEQT hmT (fun f hf => by simp only [List.mem_cons, List.not_mem_nil, or_false] at hf; subst hf; exact (fun args w => Try.call12 args w)) 400 1) hEQT hmT 2 (fun _ _ _ _ => noL_ok _) hw).drop (M' := []) fun b => .inr rfl

set_option maxRecDepth 100000 in
theorem wp_21 (nm : ByteArray) (ra dec t p : Int) (K : AV → List Blk → Ans) : evFnP Try.prog GT EQT (inl Try.prog GT EQT XT [12] T_fringeref06_Same 400 1) XT noL (fun _ => [1, 2, 3, 4, 11, 47, 48]) 400 7 [.v (.agg [.str nm, .int .i64 ra, .int .i64 dec]), .v (.c (.d (.int .i64 t))), .v (.c (.d (.int .i64 p))), .v (.c (.d (.int .i64 21)))] [] (fun v M => K v (cutAt 2 M)) = progPath ⟨nm, ra, dec⟩ t p 21 (progK K 28 21) := by
  kernel_rfl
theorem cp_21 (nm : ByteArray) (ra dec t p : Int) : (pathE ⟨nm, ra, dec⟩ t p ((21 : Nat) : Int) = 0 → CallsA Try.prog GT gbT 7 [.v (.agg [.str nm, .int .i64 ra, .int .i64 dec]), .v (.c (.d (.int .i64 t))), .v (.c (.d (.int .i64 p))), .v (.c (.d (.int .i64 ((21 : Nat) : Int))))] [] (vSlice 2 21 0) (mSlice 28 2 (pathD ⟨nm, ra, dec⟩ t p 21))) ∧ (pathE ⟨nm, ra, dec⟩ t p ((21 : Nat) : Int) ≠ 0 → CallsA Try.prog GT gbT 7 [.v (.agg [.str nm, .int .i64 ra, .int .i64 dec]), .v (.c (.d (.int .i64 t))), .v (.c (.d (.int .i64 p))), .v (.c (.d (.int .i64 ((21 : Nat) : Int))))] [] (vNil (pathE ⟨nm, ra, dec⟩ t p ((21 : Nat) : Int))) []) := by
  have hw := wp_21 nm ra dec t p (fun v M => some (Res.fin v M))
  rw [prog_path (by omega)] at hw
  refine ⟨fun h => ?_, fun h => ?_⟩
  · rw [h] at hw; exact CallsA.ofEvCutP (fun _ => [1, 2, 3, 4, 11, 47, 48]) (g_fringeref06_Same.inl hEQT hmT (fun f hf => by simp only [List.mem_cons, List.not_mem_nil, or_false] at hf; subst hf; exact (fun args w => Try.call12 args w)) 400 1) hEQT hmT 2 (fun _ _ _ _ => noL_ok _) hw
  · rw [show (pathE ⟨nm, ra, dec⟩ t p ((21 : Nat) : Int) == 0) = false by simpa using h] at hw; exact (CallsA.ofEvCutP (fun _ => [1, 2, 3, 4, 11, 47, 48]) (g_fringeref06_Same.inl hEQT hmT (fun f hf => by simp only [List.mem_cons, List.not_mem_nil, or_false] at hf; subst hf; exact (fun args w => Try.call12 args w)) 400 1) hEQT hmT 2 (fun _ _ _ _ => noL_ok _) hw).drop (M' := []) fun b => .inr rfl

set_option maxRecDepth 100000 in
theorem wp_22 (nm : ByteArray) (ra dec t p : Int) (K : AV → List Blk → Ans) : evFnP Try.prog GT EQT (inl Try.prog GT EQT XT [12] T_fringeref06_Same 400 1) XT noL (fun _ => [1, 2, 3, 4, 11, 47, 48]) 400 7 [.v (.agg [.str nm, .int .i64 ra, .int .i64 dec]), .v (.c (.d (.int .i64 t))), .v (.c (.d (.int .i64 p))), .v (.c (.d (.int .i64 22)))] [] (fun v M => K v (cutAt 2 M)) = progPath ⟨nm, ra, dec⟩ t p 22 (progK K 28 22) := by
  kernel_rfl
theorem cp_22 (nm : ByteArray) (ra dec t p : Int) : (pathE ⟨nm, ra, dec⟩ t p ((22 : Nat) : Int) = 0 → CallsA Try.prog GT gbT 7 [.v (.agg [.str nm, .int .i64 ra, .int .i64 dec]), .v (.c (.d (.int .i64 t))), .v (.c (.d (.int .i64 p))), .v (.c (.d (.int .i64 ((22 : Nat) : Int))))] [] (vSlice 2 22 0) (mSlice 28 2 (pathD ⟨nm, ra, dec⟩ t p 22))) ∧ (pathE ⟨nm, ra, dec⟩ t p ((22 : Nat) : Int) ≠ 0 → CallsA Try.prog GT gbT 7 [.v (.agg [.str nm, .int .i64 ra, .int .i64 dec]), .v (.c (.d (.int .i64 t))), .v (.c (.d (.int .i64 p))), .v (.c (.d (.int .i64 ((22 : Nat) : Int))))] [] (vNil (pathE ⟨nm, ra, dec⟩ t p ((22 : Nat) : Int))) []) := by
  have hw := wp_22 nm ra dec t p (fun v M => some (Res.fin v M))
  rw [prog_path (by omega)] at hw
  refine ⟨fun h => ?_, fun h => ?_⟩
  · rw [h] at hw; exact CallsA.ofEvCutP (fun _ => [1, 2, 3, 4, 11, 47, 48]) (g_fringeref06_Same.inl hEQT hmT (fun f hf => by simp only [List.mem_cons, List.not_mem_nil, or_false] at hf; subst hf; exact (fun args w => Try.call12 args w)) 400 1) hEQT hmT 2 (fun _ _ _ _ => noL_ok _) hw
  · rw [show (pathE ⟨nm, ra, dec⟩ t p ((22 : Nat) : Int) == 0) = false by simpa using h] at hw; exact (CallsA.ofEvCutP (fun _ => [1, 2, 3, 4, 11, 47, 48]) (g_fringeref06_Same.inl hEQT hmT (fun f hf => by simp only [List.mem_cons, List.not_mem_nil, or_false] at hf; subst hf; exact (fun args w => Try.call12 args w)) 400 1) hEQT hmT 2 (fun _ _ _ _ => noL_ok _) hw).drop (M' := []) fun b => .inr rfl

set_option maxRecDepth 100000 in
theorem wp_23 (nm : ByteArray) (ra dec t p : Int) (K : AV → List Blk → Ans) : evFnP Try.prog GT EQT (inl Try.prog GT EQT XT [12] T_fringeref06_Same 400 1) XT noL (fun _ => [1, 2, 3, 4, 11, 47, 48]) 400 7 [.v (.agg [.str nm, .int .i64 ra, .int .i64 dec]), .v (.c (.d (.int .i64 t))), .v (.c (.d (.int .i64 p))), .v (.c (.d (.int .i64 23)))] [] (fun v M => K v (cutAt 2 M)) = progPath ⟨nm, ra, dec⟩ t p 23 (progK K 28 23) := by
  kernel_rfl
theorem cp_23 (nm : ByteArray) (ra dec t p : Int) : (pathE ⟨nm, ra, dec⟩ t p ((23 : Nat) : Int) = 0 → CallsA Try.prog GT gbT 7 [.v (.agg [.str nm, .int .i64 ra, .int .i64 dec]), .v (.c (.d (.int .i64 t))), .v (.c (.d (.int .i64 p))), .v (.c (.d (.int .i64 ((23 : Nat) : Int))))] [] (vSlice 2 23 0) (mSlice 28 2 (pathD ⟨nm, ra, dec⟩ t p 23))) ∧ (pathE ⟨nm, ra, dec⟩ t p ((23 : Nat) : Int) ≠ 0 → CallsA Try.prog GT gbT 7 [.v (.agg [.str nm, .int .i64 ra, .int .i64 dec]), .v (.c (.d (.int .i64 t))), .v (.c (.d (.int .i64 p))), .v (.c (.d (.int .i64 ((23 : Nat) : Int))))] [] (vNil (pathE ⟨nm, ra, dec⟩ t p ((23 : Nat) : Int))) []) := by
  have hw := wp_23 nm ra dec t p (fun v M => some (Res.fin v M))
  rw [prog_path (by omega)] at hw
  refine ⟨fun h => ?_, fun h => ?_⟩
  · rw [h] at hw; exact CallsA.ofEvCutP (fun _ => [1, 2, 3, 4, 11, 47, 48]) (g_fringeref06_Same.inl hEQT hmT (fun f hf => by simp only [List.mem_cons, List.not_mem_nil, or_false] at hf; subst hf; exact (fun args w => Try.call12 args w)) 400 1) hEQT hmT 2 (fun _ _ _ _ => noL_ok _) hw
  · rw [show (pathE ⟨nm, ra, dec⟩ t p ((23 : Nat) : Int) == 0) = false by simpa using h] at hw; exact (CallsA.ofEvCutP (fun _ => [1, 2, 3, 4, 11, 47, 48]) (g_fringeref06_Same.inl hEQT hmT (fun f hf => by simp only [List.mem_cons, List.not_mem_nil, or_false] at hf; subst hf; exact (fun args w => Try.call12 args w)) 400 1) hEQT hmT 2 (fun _ _ _ _ => noL_ok _) hw).drop (M' := []) fun b => .inr rfl

set_option maxRecDepth 100000 in
theorem wp_24 (nm : ByteArray) (ra dec t p : Int) (K : AV → List Blk → Ans) : evFnP Try.prog GT EQT (inl Try.prog GT EQT XT [12] T_fringeref06_Same 400 1) XT noL (fun _ => [1, 2, 3, 4, 11, 47, 48]) 400 7 [.v (.agg [.str nm, .int .i64 ra, .int .i64 dec]), .v (.c (.d (.int .i64 t))), .v (.c (.d (.int .i64 p))), .v (.c (.d (.int .i64 24)))] [] (fun v M => K v (cutAt 2 M)) = progPath ⟨nm, ra, dec⟩ t p 24 (progK K 28 24) := by
  kernel_rfl
theorem cp_24 (nm : ByteArray) (ra dec t p : Int) : (pathE ⟨nm, ra, dec⟩ t p ((24 : Nat) : Int) = 0 → CallsA Try.prog GT gbT 7 [.v (.agg [.str nm, .int .i64 ra, .int .i64 dec]), .v (.c (.d (.int .i64 t))), .v (.c (.d (.int .i64 p))), .v (.c (.d (.int .i64 ((24 : Nat) : Int))))] [] (vSlice 2 24 0) (mSlice 28 2 (pathD ⟨nm, ra, dec⟩ t p 24))) ∧ (pathE ⟨nm, ra, dec⟩ t p ((24 : Nat) : Int) ≠ 0 → CallsA Try.prog GT gbT 7 [.v (.agg [.str nm, .int .i64 ra, .int .i64 dec]), .v (.c (.d (.int .i64 t))), .v (.c (.d (.int .i64 p))), .v (.c (.d (.int .i64 ((24 : Nat) : Int))))] [] (vNil (pathE ⟨nm, ra, dec⟩ t p ((24 : Nat) : Int))) []) := by
  have hw := wp_24 nm ra dec t p (fun v M => some (Res.fin v M))
  rw [prog_path (by omega)] at hw
  refine ⟨fun h => ?_, fun h => ?_⟩
  · rw [h] at hw; exact CallsA.ofEvCutP (fun _ => [1, 2, 3, 4, 11, 47, 48]) (g_fringeref06_Same.inl hEQT hmT (fun f hf => by simp only [List.mem_cons, List.not_mem_nil, or_false] at hf; subst hf; exact (fun args w => Try.call12 args w)) 400 1) hEQT hmT 2 (fun _ _ _ _ => noL_ok _) hw
  · rw [show (pathE ⟨nm, ra, dec⟩ t p ((24 : Nat) : Int) == 0) = false by simpa using h] at hw; exact (CallsA.ofEvCutP (fun _ => [1, 2, 3, 4, 11, 47, 48]) (g_fringeref06_Same.inl hEQT hmT (fun f hf => by simp only [List.mem_cons, List.not_mem_nil, or_false] at hf; subst hf; exact (fun args w => Try.call12 args w)) 400 1) hEQT hmT 2 (fun _ _ _ _ => noL_ok _) hw).drop (M' := []) fun b => .inr rfl

set_option maxRecDepth 100000 in
theorem wp_25 (nm : ByteArray) (ra dec t p : Int) (K : AV → List Blk → Ans) : evFnP Try.prog GT EQT (inl Try.prog GT EQT XT [12] T_fringeref06_Same 400 1) XT noL (fun _ => [1, 2, 3, 4, 11, 47, 48]) 400 7 [.v (.agg [.str nm, .int .i64 ra, .int .i64 dec]), .v (.c (.d (.int .i64 t))), .v (.c (.d (.int .i64 p))), .v (.c (.d (.int .i64 25)))] [] (fun v M => K v (cutAt 2 M)) = progPath ⟨nm, ra, dec⟩ t p 25 (progK K 28 25) := by
  kernel_rfl
theorem cp_25 (nm : ByteArray) (ra dec t p : Int) : (pathE ⟨nm, ra, dec⟩ t p ((25 : Nat) : Int) = 0 → CallsA Try.prog GT gbT 7 [.v (.agg [.str nm, .int .i64 ra, .int .i64 dec]), .v (.c (.d (.int .i64 t))), .v (.c (.d (.int .i64 p))), .v (.c (.d (.int .i64 ((25 : Nat) : Int))))] [] (vSlice 2 25 0) (mSlice 28 2 (pathD ⟨nm, ra, dec⟩ t p 25))) ∧ (pathE ⟨nm, ra, dec⟩ t p ((25 : Nat) : Int) ≠ 0 → CallsA Try.prog GT gbT 7 [.v (.agg [.str nm, .int .i64 ra, .int .i64 dec]), .v (.c (.d (.int .i64 t))), .v (.c (.d (.int .i64 p))), .v (.c (.d (.int .i64 ((25 : Nat) : Int))))] [] (vNil (pathE ⟨nm, ra, dec⟩ t p ((25 : Nat) : Int))) []) := by
  have hw := wp_25 nm ra dec t p (fun v M => some (Res.fin v M))
  rw [prog_path (by omega)] at hw
  refine ⟨fun h => ?_, fun h => ?_⟩
  · rw [h] at hw; exact CallsA.ofEvCutP (fun _ => [1, 2, 3, 4, 11, 47, 48]) (g_fringeref06_Same.inl hEQT hmT (fun f hf => by simp only [List.mem_cons, List.not_mem_nil, or_false] at hf; subst hf; exact (fun args w => Try.call12 args w)) 400 1) hEQT hmT 2 (fun _ _ _ _ => noL_ok _) hw
  · rw [show (pathE ⟨nm, ra, dec⟩ t p ((25 : Nat) : Int) == 0) = false by simpa using h] at hw; exact (CallsA.ofEvCutP (fun _ => [1, 2, 3, 4, 11, 47, 48]) (g_fringeref06_Same.inl hEQT hmT (fun f hf => by simp only [List.mem_cons, List.not_mem_nil, or_false] at hf; subst hf; exact (fun args w => Try.call12 args w)) 400 1) hEQT hmT 2 (fun _ _ _ _ => noL_ok _) hw).drop (M' := []) fun b => .inr rfl

set_option maxRecDepth 100000 in
theorem wp_26 (nm : ByteArray) (ra dec t p : Int) (K : AV → List Blk → Ans) : evFnP Try.prog GT EQT (inl Try.prog GT EQT XT [12] T_fringeref06_Same 400 1) XT noL (fun _ => [1, 2, 3, 4, 11, 47, 48]) 400 7 [.v (.agg [.str nm, .int .i64 ra, .int .i64 dec]), .v (.c (.d (.int .i64 t))), .v (.c (.d (.int .i64 p))), .v (.c (.d (.int .i64 26)))] [] (fun v M => K v (cutAt 2 M)) = progPath ⟨nm, ra, dec⟩ t p 26 (progK K 28 26) := by
  kernel_rfl
theorem cp_26 (nm : ByteArray) (ra dec t p : Int) : (pathE ⟨nm, ra, dec⟩ t p ((26 : Nat) : Int) = 0 → CallsA Try.prog GT gbT 7 [.v (.agg [.str nm, .int .i64 ra, .int .i64 dec]), .v (.c (.d (.int .i64 t))), .v (.c (.d (.int .i64 p))), .v (.c (.d (.int .i64 ((26 : Nat) : Int))))] [] (vSlice 2 26 0) (mSlice 28 2 (pathD ⟨nm, ra, dec⟩ t p 26))) ∧ (pathE ⟨nm, ra, dec⟩ t p ((26 : Nat) : Int) ≠ 0 → CallsA Try.prog GT gbT 7 [.v (.agg [.str nm, .int .i64 ra, .int .i64 dec]), .v (.c (.d (.int .i64 t))), .v (.c (.d (.int .i64 p))), .v (.c (.d (.int .i64 ((26 : Nat) : Int))))] [] (vNil (pathE ⟨nm, ra, dec⟩ t p ((26 : Nat) : Int))) []) := by
  have hw := wp_26 nm ra dec t p (fun v M => some (Res.fin v M))
  rw [prog_path (by omega)] at hw
  refine ⟨fun h => ?_, fun h => ?_⟩
  · rw [h] at hw; exact CallsA.ofEvCutP (fun _ => [1, 2, 3, 4, 11, 47, 48]) (g_fringeref06_Same.inl hEQT hmT (fun f hf => by simp only [List.mem_cons, List.not_mem_nil, or_false] at hf; subst hf; exact (fun args w => Try.call12 args w)) 400 1) hEQT hmT 2 (fun _ _ _ _ => noL_ok _) hw
  · rw [show (pathE ⟨nm, ra, dec⟩ t p ((26 : Nat) : Int) == 0) = false by simpa using h] at hw; exact (CallsA.ofEvCutP (fun _ => [1, 2, 3, 4, 11, 47, 48]) (g_fringeref06_Same.inl hEQT hmT (fun f hf => by simp only [List.mem_cons, List.not_mem_nil, or_false] at hf; subst hf; exact (fun args w => Try.call12 args w)) 400 1) hEQT hmT 2 (fun _ _ _ _ => noL_ok _) hw).drop (M' := []) fun b => .inr rfl

set_option maxRecDepth 100000 in
theorem wp_27 (nm : ByteArray) (ra dec t p : Int) (K : AV → List Blk → Ans) : evFnP Try.prog GT EQT (inl Try.prog GT EQT XT [12] T_fringeref06_Same 400 1) XT noL (fun _ => [1, 2, 3, 4, 11, 47, 48]) 400 7 [.v (.agg [.str nm, .int .i64 ra, .int .i64 dec]), .v (.c (.d (.int .i64 t))), .v (.c (.d (.int .i64 p))), .v (.c (.d (.int .i64 27)))] [] (fun v M => K v (cutAt 2 M)) = progPath ⟨nm, ra, dec⟩ t p 27 (progK K 28 27) := by
  kernel_rfl
theorem cp_27 (nm : ByteArray) (ra dec t p : Int) : (pathE ⟨nm, ra, dec⟩ t p ((27 : Nat) : Int) = 0 → CallsA Try.prog GT gbT 7 [.v (.agg [.str nm, .int .i64 ra, .int .i64 dec]), .v (.c (.d (.int .i64 t))), .v (.c (.d (.int .i64 p))), .v (.c (.d (.int .i64 ((27 : Nat) : Int))))] [] (vSlice 2 27 0) (mSlice 28 2 (pathD ⟨nm, ra, dec⟩ t p 27))) ∧ (pathE ⟨nm, ra, dec⟩ t p ((27 : Nat) : Int) ≠ 0 → CallsA Try.prog GT gbT 7 [.v (.agg [.str nm, .int .i64 ra, .int .i64 dec]), .v (.c (.d (.int .i64 t))), .v (.c (.d (.int .i64 p))), .v (.c (.d (.int .i64 ((27 : Nat) : Int))))] [] (vNil (pathE ⟨nm, ra, dec⟩ t p ((27 : Nat) : Int))) []) := by
  have hw := wp_27 nm ra dec t p (fun v M => some (Res.fin v M))
  rw [prog_path (by omega)] at hw
  refine ⟨fun h => ?_, fun h => ?_⟩
  · rw [h] at hw; exact CallsA.ofEvCutP (fun _ => [1, 2, 3, 4, 11, 47, 48]) (g_fringeref06_Same.inl hEQT hmT (fun f hf => by simp only [List.mem_cons, List.not_mem_nil, or_false] at hf; subst hf; exact (fun args w => Try.call12 args w)) 400 1) hEQT hmT 2 (fun _ _ _ _ => noL_ok _) hw
  · rw [show (pathE ⟨nm, ra, dec⟩ t p ((27 : Nat) : Int) == 0) = false by simpa using h] at hw; exact (CallsA.ofEvCutP (fun _ => [1, 2, 3, 4, 11, 47, 48]) (g_fringeref06_Same.inl hEQT hmT (fun f hf => by simp only [List.mem_cons, List.not_mem_nil, or_false] at hf; subst hf; exact (fun args w => Try.call12 args w)) 400 1) hEQT hmT 2 (fun _ _ _ _ => noL_ok _) hw).drop (M' := []) fun b => .inr rfl

set_option maxRecDepth 100000 in
theorem wp_28 (nm : ByteArray) (ra dec t p : Int) (K : AV → List Blk → Ans) : evFnP Try.prog GT EQT (inl Try.prog GT EQT XT [12] T_fringeref06_Same 400 1) XT noL (fun _ => [1, 2, 3, 4, 11, 47, 48]) 400 7 [.v (.agg [.str nm, .int .i64 ra, .int .i64 dec]), .v (.c (.d (.int .i64 t))), .v (.c (.d (.int .i64 p))), .v (.c (.d (.int .i64 28)))] [] (fun v M => K v (cutAt 2 M)) = progPath ⟨nm, ra, dec⟩ t p 28 (progK K 28 28) := by
  kernel_rfl
theorem cp_28 (nm : ByteArray) (ra dec t p : Int) : (pathE ⟨nm, ra, dec⟩ t p ((28 : Nat) : Int) = 0 → CallsA Try.prog GT gbT 7 [.v (.agg [.str nm, .int .i64 ra, .int .i64 dec]), .v (.c (.d (.int .i64 t))), .v (.c (.d (.int .i64 p))), .v (.c (.d (.int .i64 ((28 : Nat) : Int))))] [] (vSlice 2 28 0) (mSlice 28 2 (pathD ⟨nm, ra, dec⟩ t p 28))) ∧ (pathE ⟨nm, ra, dec⟩ t p ((28 : Nat) : Int) ≠ 0 → CallsA Try.prog GT gbT 7 [.v (.agg [.str nm, .int .i64 ra, .int .i64 dec]), .v (.c (.d (.int .i64 t))), .v (.c (.d (.int .i64 p))), .v (.c (.d (.int .i64 ((28 : Nat) : Int))))] [] (vNil (pathE ⟨nm, ra, dec⟩ t p ((28 : Nat) : Int))) []) := by
  have hw := wp_28 nm ra dec t p (fun v M => some (Res.fin v M))
  rw [prog_path (by omega)] at hw
  refine ⟨fun h => ?_, fun h => ?_⟩
  · rw [h] at hw; exact CallsA.ofEvCutP (fun _ => [1, 2, 3, 4, 11, 47, 48]) (g_fringeref06_Same.inl hEQT hmT (fun f hf => by simp only [List.mem_cons, List.not_mem_nil, or_false] at hf; subst hf; exact (fun args w => Try.call12 args w)) 400 1) hEQT hmT 2 (fun _ _ _ _ => noL_ok _) hw
  · rw [show (pathE ⟨nm, ra, dec⟩ t p ((28 : Nat) : Int) == 0) = false by simpa using h] at hw; exact (CallsA.ofEvCutP (fun _ => [1, 2, 3, 4, 11, 47, 48]) (g_fringeref06_Same.inl hEQT hmT (fun f hf => by simp only [List.mem_cons, List.not_mem_nil, or_false] at hf; subst hf; exact (fun args w => Try.call12 args w)) 400 1) hEQT hmT 2 (fun _ _ _ _ => noL_ok _) hw).drop (M' := []) fun b => .inr rfl

set_option maxRecDepth 100000 in
theorem wp_29 (nm : ByteArray) (ra dec t p : Int) (K : AV → List Blk → Ans) : evFnP Try.prog GT EQT (inl Try.prog GT EQT XT [12] T_fringeref06_Same 400 1) XT noL (fun _ => [1, 2, 3, 4, 11, 47, 48]) 400 7 [.v (.agg [.str nm, .int .i64 ra, .int .i64 dec]), .v (.c (.d (.int .i64 t))), .v (.c (.d (.int .i64 p))), .v (.c (.d (.int .i64 29)))] [] (fun v M => K v (cutAt 2 M)) = progPath ⟨nm, ra, dec⟩ t p 29 (progK K 28 29) := by
  kernel_rfl
theorem cp_29 (nm : ByteArray) (ra dec t p : Int) : (pathE ⟨nm, ra, dec⟩ t p ((29 : Nat) : Int) = 0 → CallsA Try.prog GT gbT 7 [.v (.agg [.str nm, .int .i64 ra, .int .i64 dec]), .v (.c (.d (.int .i64 t))), .v (.c (.d (.int .i64 p))), .v (.c (.d (.int .i64 ((29 : Nat) : Int))))] [] (vSlice 2 29 0) (mSlice 28 2 (pathD ⟨nm, ra, dec⟩ t p 29))) ∧ (pathE ⟨nm, ra, dec⟩ t p ((29 : Nat) : Int) ≠ 0 → CallsA Try.prog GT gbT 7 [.v (.agg [.str nm, .int .i64 ra, .int .i64 dec]), .v (.c (.d (.int .i64 t))), .v (.c (.d (.int .i64 p))), .v (.c (.d (.int .i64 ((29 : Nat) : Int))))] [] (vNil (pathE ⟨nm, ra, dec⟩ t p ((29 : Nat) : Int))) []) := by
  have hw := wp_29 nm ra dec t p (fun v M => some (Res.fin v M))
  rw [prog_path (by omega)] at hw
  refine ⟨fun h => ?_, fun h => ?_⟩
  · rw [h] at hw; exact CallsA.ofEvCutP (fun _ => [1, 2, 3, 4, 11, 47, 48]) (g_fringeref06_Same.inl hEQT hmT (fun f hf => by simp only [List.mem_cons, List.not_mem_nil, or_false] at hf; subst hf; exact (fun args w => Try.call12 args w)) 400 1) hEQT hmT 2 (fun _ _ _ _ => noL_ok _) hw
  · rw [show (pathE ⟨nm, ra, dec⟩ t p ((29 : Nat) : Int) == 0) = false by simpa using h] at hw; exact (CallsA.ofEvCutP (fun _ => [1, 2, 3, 4, 11, 47, 48]) (g_fringeref06_Same.inl hEQT hmT (fun f hf => by simp only [List.mem_cons, List.not_mem_nil, or_false] at hf; subst hf; exact (fun args w => Try.call12 args w)) 400 1) hEQT hmT 2 (fun _ _ _ _ => noL_ok _) hw).drop (M' := []) fun b => .inr rfl

set_option maxRecDepth 100000 in
theorem wp_30 (nm : ByteArray) (ra dec t p : Int) (K : AV → List Blk → Ans) : evFnP Try.prog GT EQT (inl Try.prog GT EQT XT [12] T_fringeref06_Same 400 1) XT noL (fun _ => [1, 2, 3, 4, 11, 47, 48]) 400 7 [.v (.agg [.str nm, .int .i64 ra, .int .i64 dec]), .v (.c (.d (.int .i64 t))), .v (.c (.d (.int .i64 p))), .v (.c (.d (.int .i64 30)))] [] (fun v M => K v (cutAt 2 M)) = progPath ⟨nm, ra, dec⟩ t p 30 (progK K 28 30) := by
  kernel_rfl
theorem cp_30 (nm : ByteArray) (ra dec t p : Int) : (pathE ⟨nm, ra, dec⟩ t p ((30 : Nat) : Int) = 0 → CallsA Try.prog GT gbT 7 [.v (.agg [.str nm, .int .i64 ra, .int .i64 dec]), .v (.c (.d (.int .i64 t))), .v (.c (.d (.int .i64 p))), .v (.c (.d (.int .i64 ((30 : Nat) : Int))))] [] (vSlice 2 30 0) (mSlice 28 2 (pathD ⟨nm, ra, dec⟩ t p 30))) ∧ (pathE ⟨nm, ra, dec⟩ t p ((30 : Nat) : Int) ≠ 0 → CallsA Try.prog GT gbT 7 [.v (.agg [.str nm, .int .i64 ra, .int .i64 dec]), .v (.c (.d (.int .i64 t))), .v (.c (.d (.int .i64 p))), .v (.c (.d (.int .i64 ((30 : Nat) : Int))))] [] (vNil (pathE ⟨nm, ra, dec⟩ t p ((30 : Nat) : Int))) []) := by
  have hw := wp_30 nm ra dec t p (fun v M => some (Res.fin v M))
  rw [prog_path (by omega)] at hw
  refine ⟨fun h => ?_, fun h => ?_⟩
  · rw [h] at hw; exact CallsA.ofEvCutP (fun _ => [1, 2, 3, 4, 11, 47, 48]) (g_fringeref06_Same.inl hEQT hmT (fun f hf => by simp only [List.mem_cons, List.not_mem_nil, or_false] at hf; subst hf; exact (fun args w => Try.call12 args w)) 400 1) hEQT hmT 2 (fun _ _ _ _ => noL_ok _) hw
  · rw [show (pathE ⟨nm, ra, dec⟩ t p ((30 : Nat) : Int) == 0) = false by simpa using h] at hw; exact (CallsA.ofEvCutP (fun _ => [1, 2, 3, 4, 11, 47, 48]) (g_fringeref06_Same.inl hEQT hmT (fun f hf => by simp only [List.mem_cons, List.not_mem_nil, or_false] at hf; subst hf; exact (fun args w => Try.call12 args w)) 400 1) hEQT hmT 2 (fun _ _ _ _ => noL_ok _) hw).drop (M' := []) fun b => .inr rfl

set_option maxRecDepth 100000 in
theorem wp_31 (nm : ByteArray) (ra dec t p : Int) (K : AV → List Blk → Ans) : evFnP Try.prog GT EQT (inl Try.prog GT EQT XT [12] T_fringeref06_Same 400 1) XT noL (fun _ => [1, 2, 3, 4, 11, 47, 48]) 400 7 [.v (.agg [.str nm, .int .i64 ra, .int .i64 dec]), .v (.c (.d (.int .i64 t))), .v (.c (.d (.int .i64 p))), .v (.c (.d (.int .i64 31)))] [] (fun v M => K v (cutAt 2 M)) = progPath ⟨nm, ra, dec⟩ t p 31 (progK K 28 31) := by
  kernel_rfl
theorem cp_31 (nm : ByteArray) (ra dec t p : Int) : (pathE ⟨nm, ra, dec⟩ t p ((31 : Nat) : Int) = 0 → CallsA Try.prog GT gbT 7 [.v (.agg [.str nm, .int .i64 ra, .int .i64 dec]), .v (.c (.d (.int .i64 t))), .v (.c (.d (.int .i64 p))), .v (.c (.d (.int .i64 ((31 : Nat) : Int))))] [] (vSlice 2 31 0) (mSlice 28 2 (pathD ⟨nm, ra, dec⟩ t p 31))) ∧ (pathE ⟨nm, ra, dec⟩ t p ((31 : Nat) : Int) ≠ 0 → CallsA Try.prog GT gbT 7 [.v (.agg [.str nm, .int .i64 ra, .int .i64 dec]), .v (.c (.d (.int .i64 t))), .v (.c (.d (.int .i64 p))), .v (.c (.d (.int .i64 ((31 : Nat) : Int))))] [] (vNil (pathE ⟨nm, ra, dec⟩ t p ((31 : Nat) : Int))) []) := by
  have hw := wp_31 nm ra dec t p (fun v M => some (Res.fin v M))
  rw [prog_path (by omega)] at hw
  refine ⟨fun h => ?_, fun h => ?_⟩
  · rw [h] at hw; exact CallsA.ofEvCutP (fun _ => [1, 2, 3, 4, 11, 47, 48]) (g_fringeref06_Same.inl hEQT hmT (fun f hf => by simp only [List.mem_cons, List.not_mem_nil, or_false] at hf; subst hf; exact (fun args w => Try.call12 args w)) 400 1) hEQT hmT 2 (fun _ _ _ _ => noL_ok _) hw
  · rw [show (pathE ⟨nm, ra, dec⟩ t p ((31 : Nat) : Int) == 0) = false by simpa using h] at hw; exact (CallsA.ofEvCutP (fun _ => [1, 2, 3, 4, 11, 47, 48]) (g_fringeref06_Same.inl hEQT hmT (fun f hf => by simp only [List.mem_cons, List.not_mem_nil, or_false] at hf; subst hf; exact (fun args w => Try.call12 args w)) 400 1) hEQT hmT 2 (fun _ _ _ _ => noL_ok _) hw).drop (M' := []) fun b => .inr rfl

set_option maxRecDepth 100000 in
theorem wp_32 (nm : ByteArray) (ra dec t p : Int) (K : AV → List Blk → Ans) : evFnP Try.prog GT EQT (inl Try.prog GT EQT XT [12] T_fringeref06_Same 400 1) XT noL (fun _ => [1, 2, 3, 4, 11, 47, 48]) 400 7 [.v (.agg [.str nm, .int .i64 ra, .int .i64 dec]), .v (.c (.d (.int .i64 t))), .v (.c (.d (.int .i64 p))), .v (.c (.d (.int .i64 32)))] [] (fun v M => K v (cutAt 2 M)) = progPath ⟨nm, ra, dec⟩ t p 32 (progK K 28 32) := by
  kernel_rfl
theorem cp_32 (nm : ByteArray) (ra dec t p : Int) : (pathE ⟨nm, ra, dec⟩ t p ((32 : Nat) : Int) = 0 → CallsA Try.prog GT gbT 7 [.v (.agg [.str nm, .int .i64 ra, .int .i64 dec]), .v (.c (.d (.int .i64 t))), .v (.c (.d (.int .i64 p))), .v (.c (.d (.int .i64 ((32 : Nat) : Int))))] [] (vSlice 2 32 0) (mSlice 28 2 (pathD ⟨nm, ra, dec⟩ t p 32))) ∧ (pathE ⟨nm, ra, dec⟩ t p ((32 : Nat) : Int) ≠ 0 → CallsA Try.prog GT gbT 7 [.v (.agg [.str nm, .int .i64 ra, .int .i64 dec]), .v (.c (.d (.int .i64 t))), .v (.c (.d (.int .i64 p))), .v (.c (.d (.int .i64 ((32 : Nat) : Int))))] [] (vNil (pathE ⟨nm, ra, dec⟩ t p ((32 : Nat) : Int))) []) := by
  have hw := wp_32 nm ra dec t p (fun v M => some (Res.fin v M))
  rw [prog_path (by omega)] at hw
  refine ⟨fun h => ?_, fun h => ?_⟩
  · rw [h] at hw; exact CallsA.ofEvCutP (fun _ => [1, 2, 3, 4, 11, 47, 48]) (g_fringeref06_Same.inl hEQT hmT (fun f hf => by simp only [List.mem_cons, List.not_mem_nil, or_false] at hf; subst hf; exact (fun args w => Try.call12 args w)) 400 1) hEQT hmT 2 (fun _ _ _ _ => noL_ok _) hw
  · rw [show (pathE ⟨nm, ra, dec⟩ t p ((32 : Nat) : Int) == 0) = false by simpa using h] at hw; exact (CallsA.ofEvCutP (fun _ => [1, 2, 3, 4, 11, 47, 48]) (g_fringeref06_Same.inl hEQT hmT (fun f hf => by simp only [List.mem_cons, List.not_mem_nil, or_false] at hf; subst hf; exact (fun args w => Try.call12 args w)) 400 1) hEQT hmT 2 (fun _ _ _ _ => noL_ok _) hw).drop (M' := []) fun b => .inr rfl

set_option maxRecDepth 100000 in
theorem wp_33 (nm : ByteArray) (ra dec t p : Int) (K : AV → List Blk → Ans) : evFnP Try.prog GT EQT (inl Try.prog GT EQT XT [12] T_fringeref06_Same 400 1) XT noL (fun _ => [1, 2, 3, 4, 11, 47, 48]) 400 7 [.v (.agg [.str nm, .int .i64 ra, .int .i64 dec]), .v (.c (.d (.int .i64 t))), .v (.c (.d (.int .i64 p))), .v (.c (.d (.int .i64 33)))] [] (fun v M => K v (cutAt 2 M)) = progPath ⟨nm, ra, dec⟩ t p 33 (progK K 28 33) := by
  kernel_rfl
theorem cp_33 (nm : ByteArray) (ra dec t p : Int) : (pathE ⟨nm, ra, dec⟩ t p ((33 : Nat) : Int) = 0 → CallsA Try.prog GT gbT 7 [.v (.agg [.str nm, .int .i64 ra, .int .i64 dec]), .v (.c (.d (.int .i64 t))), .v (.c (.d (.int .i64 p))), .v (.c (.d (.int .i64 ((33 : Nat) : Int))))] [] (vSlice 2 33 0) (mSlice 28 2 (pathD ⟨nm, ra, dec⟩ t p 33))) ∧ (pathE ⟨nm, ra, dec⟩ t p ((33 : Nat) : Int) ≠ 0 → CallsA Try.prog GT gbT 7 [.v (.agg [.str nm, .int .i64 ra, .int .i64 dec]), .v (.c (.d (.int .i64 t))), .v (.c (.d (.int .i64 p))), .v (.c (.d (.int .i64 ((33 : Nat) : Int))))] [] (vNil (pathE ⟨nm, ra, dec⟩ t p ((33 : Nat) : Int))) []) := by
  have hw := wp_33 nm ra dec t p (fun v M => some (Res.fin v M))
  rw [prog_path (by omega)] at hw
  refine ⟨fun h => ?_, fun h => ?_⟩
  · rw [h] at hw; exact CallsA.ofEvCutP (fun _ => [1, 2, 3, 4, 11, 47, 48]) (g_fringeref06_Same.inl hEQT hmT (fun f hf => by simp only [List.mem_cons, List.not_mem_nil, or_false] at hf; subst hf; exact (fun args w => Try.call12 args w)) 400 1) hEQT hmT 2 (fun _ _ _ _ => noL_ok _) hw
  · rw [show (pathE ⟨nm, ra, dec⟩ t p ((33 : Nat) : Int) == 0) = false by simpa using h] at hw; exact (CallsA.ofEvCutP (fun _ => [1, 2, 3, 4, 11, 47, 48]) (g_fringeref06_Same.inl hEQT hmT (fun f hf => by simp only [List.mem_cons, List.not_mem_nil, or_false] at hf; subst hf; exact (fun args w => Try.call12 args w)) 400 1) hEQT hmT 2 (fun _ _ _ _ => noL_ok _) hw).drop (M' := []) fun b => .inr rfl

set_option maxRecDepth 100000 in
theorem wp_34 (nm : ByteArray) (ra dec t p : Int) (K : AV → List Blk → Ans) : evFnP Try.prog GT EQT (inl Try.prog GT EQT XT [12] T_fringeref06_Same 400 1) XT noL (fun _ => [1, 2, 3, 4, 11, 47, 48]) 400 7 [.v (.agg [.str nm, .int .i64 ra, .int .i64 dec]), .v (.c (.d (.int .i64 t))), .v (.c (.d (.int .i64 p))), .v (.c (.d (.int .i64 34)))] [] (fun v M => K v (cutAt 2 M)) = progPath ⟨nm, ra, dec⟩ t p 34 (progK K 28 34) := by
  kernel_rfl
theorem cp_34 (nm : ByteArray) (ra dec t p : Int) : (pathE ⟨nm, ra, dec⟩ t p ((34 : Nat) : Int) = 0 → CallsA Try.prog GT gbT 7 [.v (.agg [.str nm, .int .i64 ra, .int .i64 dec]), .v (.c (.d (.int .i64 t))), .v (.c (.d (.int .i64 p))), .v (.c (.d (.int .i64 ((34 : Nat) : Int))))] [] (vSlice 2 34 0) (mSlice 28 2 (pathD ⟨nm, ra, dec⟩ t p 34))) ∧ (pathE ⟨nm, ra, dec⟩ t p ((34 : Nat) : Int) ≠ 0 → CallsA Try.prog GT gbT 7 [.v (.agg [.str nm, .int .i64 ra, .int .i64 dec]), .v (.c (.d (.int .i64 t))), .v (.c (.d (.int .i64 p))), .v (.c (.d (.int .i64 ((34 : Nat) : Int))))] [] (vNil (pathE ⟨nm, ra, dec⟩ t p ((34 : Nat) : Int))) []) := by
  have hw := wp_34 nm ra dec t p (fun v M => some (Res.fin v M))
  rw [prog_path (by omega)] at hw
  refine ⟨fun h => ?_, fun h => ?_⟩
  · rw [h] at hw; exact CallsA.ofEvCutP (fun _ => [1, 2, 3, 4, 11, 47, 48]) (g_fringeref06_Same.inl hEQT hmT (fun f hf => by simp only [List.mem_cons, List.not_mem_nil, or_false] at hf; subst hf; exact (fun args w => Try.call12 args w)) 400 1) hEQT hmT 2 (fun _ _ _ _ => noL_ok _) hw
  · rw [show (pathE ⟨nm, ra, dec⟩ t p ((34 : Nat) : Int) == 0) = false by simpa using h] at hw; exact (CallsA.ofEvCutP (fun _ => [1, 2, 3, 4, 11, 47, 48]) (g_fringeref06_Same.inl hEQT hmT (fun f hf => by simp only [List.mem_cons, List.not_mem_nil, or_false] at hf; subst hf; exact (fun args w => Try.call12 args w)) 400 1) hEQT hmT 2 (fun _ _ _ _ => noL_ok _) hw).drop (M' := []) fun b => .inr rfl

set_option maxRecDepth 100000 in
theorem wp_35 (nm : ByteArray) (ra dec t p : Int) (K : AV → List Blk → Ans) : evFnP Try.prog GT EQT (inl Try.prog GT EQT XT [12] T_fringeref06_Same 400 1) XT noL (fun _ => [1, 2, 3, 4, 11, 47, 48]) 400 7 [.v (.agg [.str nm, .int .i64 ra, .int .i64 dec]), .v (.c (.d (.int .i64 t))), .v (.c (.d (.int .i64 p))), .v (.c (.d (.int .i64 35)))] [] (fun v M => K v (cutAt 2 M)) = progPath ⟨nm, ra, dec⟩ t p 35 (progK K 28 35) := by
  kernel_rfl
theorem cp_35 (nm : ByteArray) (ra dec t p : Int) : (pathE ⟨nm, ra, dec⟩ t p ((35 : Nat) : Int) = 0 → CallsA Try.prog GT gbT 7 [.v (.agg [.str nm, .int .i64 ra, .int .i64 dec]), .v (.c (.d (.int .i64 t))), .v (.c (.d (.int .i64 p))), .v (.c (.d (.int .i64 ((35 : Nat) : Int))))] [] (vSlice 2 35 0) (mSlice 28 2 (pathD ⟨nm, ra, dec⟩ t p 35))) ∧ (pathE ⟨nm, ra, dec⟩ t p ((35 : Nat) : Int) ≠ 0 → CallsA Try.prog GT gbT 7 [.v (.agg [.str nm, .int .i64 ra, .int .i64 dec]), .v (.c (.d (.int .i64 t))), .v (.c (.d (.int .i64 p))), .v (.c (.d (.int .i64 ((35 : Nat) : Int))))] [] (vNil (pathE ⟨nm, ra, dec⟩ t p ((35 : Nat) : Int))) []) := by
  have hw := wp_35 nm ra dec t p (fun v M => some (Res.fin v M))
  rw [prog_path (by omega)] at hw
  refine ⟨fun h => ?_, fun h => ?_⟩
  · rw [h] at hw; exact CallsA.ofEvCutP (fun _ => [1, 2, 3, 4, 11, 47, 48]) (g_fringeref06_Same.inl hEQT hmT (fun f hf => by simp only [List.mem_cons, List.not_mem_nil, or_false] at hf; subst hf; exact (fun args w => Try.call12 args w)) 400 1) hEQT hmT 2 (fun _ _ _ _ => noL_ok _) hw
  · rw [show (pathE ⟨nm, ra, dec⟩ t p ((35 : Nat) : Int) == 0) = false by simpa using h] at hw; exact (CallsA.ofEvCutP (fun _ => [1, 2, 3, 4, 11, 47, 48]) (g_fringeref06_Same.inl hEQT hmT (fun f hf => by simp only [List.mem_cons, List.not_mem_nil, or_false] at hf; subst hf; exact (fun args w => Try.call12 args w)) 400 1) hEQT hmT 2 (fun _ _ _ _ => noL_ok _) hw).drop (M' := []) fun b => .inr rfl

set_option maxRecDepth 100000 in
theorem wp_36 (nm : ByteArray) (ra dec t p : Int) (K : AV → List Blk → Ans) : evFnP Try.prog GT EQT (inl Try.prog GT EQT XT [12] T_fringeref06_Same 400 1) XT noL (fun _ => [1, 2, 3, 4, 11, 47, 48]) 400 7 [.v (.agg [.str nm, .int .i64 ra, .int .i64 dec]), .v (.c (.d (.int .i64 t))), .v (.c (.d (.int .i64 p))), .v (.c (.d (.int .i64 36)))] [] (fun v M => K v (cutAt 2 M)) = progPath ⟨nm, ra, dec⟩ t p 36 (progK K 28 36) := by
  kernel_rfl
theorem cp_36 (nm : ByteArray) (ra dec t p : Int) : (pathE ⟨nm, ra, dec⟩ t p ((36 : Nat) : Int) = 0 → CallsA Try.prog GT gbT 7 [.v (.agg [.str nm, .int .i64 ra, .int .i64 dec]), .v (.c (.d (.int .i64 t))), .v (.c (.d (.int .i64 p))), .v (.c (.d (.int .i64 ((36 : Nat) : Int))))] [] (vSlice 2 36 0) (mSlice 28 2 (pathD ⟨nm, ra, dec⟩ t p 36))) ∧ (pathE ⟨nm, ra, dec⟩ t p ((36 : Nat) : Int) ≠ 0 → CallsA Try.prog GT gbT 7 [.v (.agg [.str nm, .int .i64 ra, .int .i64 dec]), .v (.c (.d (.int .i64 t))), .v (.c (.d (.int .i64 p))), .v (.c (.d (.int .i64 ((36 : Nat) : Int))))] [] (vNil (pathE ⟨nm, ra, dec⟩ t p ((36 : Nat) : Int))) []) := by
  have hw := wp_36 nm ra dec t p (fun v M => some (Res.fin v M))
  rw [prog_path (by omega)] at hw
  refine ⟨fun h => ?_, fun h => ?_⟩
  · rw [h] at hw; exact CallsA.ofEvCutP (fun _ => [1, 2, 3, 4, 11, 47, 48]) (g_fringeref06_Same.inl hEQT hmT (fun f hf => by simp only [List.mem_cons, List.not_mem_nil, or_false] at hf; subst hf; exact (fun args w => Try.call12 args w)) 400 1) hEQT hmT 2 (fun _ _ _ _ => noL_ok _) hw
  · rw [show (pathE ⟨nm, ra, dec⟩ t p ((36 : Nat) : Int) == 0) = false by simpa using h] at hw; exact (CallsA.ofEvCutP (fun _ => [1, 2, 3, 4, 11, 47, 48]) (g_fringeref06_Same.inl hEQT hmT (fun f hf => by simp only [List.mem_cons, List.not_mem_nil, or_false] at hf; subst hf; exact (fun args w => Try.call12 args w)) 400 1) hEQT hmT 2 (fun _ _ _ _ => noL_ok _) hw).drop (M' := []) fun b => .inr rfl

set_option maxRecDepth 100000 in
theorem wp_37 (nm : ByteArray) (ra dec t p : Int) (K : AV → List Blk → Ans) : evFnP Try.prog GT EQT (inl Try.prog GT EQT XT [12] T_fringeref06_Same 400 1) XT noL (fun _ => [1, 2, 3, 4, 11, 47, 48]) 400 7 [.v (.agg [.str nm, .int .i64 ra, .int .i64 dec]), .v (.c (.d (.int .i64 t))), .v (.c (.d (.int .i64 p))), .v (.c (.d (.int .i64 37)))] [] (fun v M => K v (cutAt 2 M)) = progPath ⟨nm, ra, dec⟩ t p 37 (progK K 28 37) := by
  kernel_rfl
theorem cp_37 (nm : ByteArray) (ra dec t p : Int) : (pathE ⟨nm, ra, dec⟩ t p ((37 : Nat) : Int) = 0 → CallsA Try.prog GT gbT 7 [.v (.agg [.str nm, .int .i64 ra, .int .i64 dec]), .v (.c (.d (.int .i64 t))), .v (.c (.d (.int .i64 p))), .v (.c (.d (.int .i64 ((37 : Nat) : Int))))] [] (vSlice 2 37 0) (mSlice 28 2 (pathD ⟨nm, ra, dec⟩ t p 37))) ∧ (pathE ⟨nm, ra, dec⟩ t p ((37 : Nat) : Int) ≠ 0 → CallsA Try.prog GT gbT 7 [.v (.agg [.str nm, .int .i64 ra, .int .i64 dec]), .v (.c (.d (.int .i64 t))), .v (.c (.d (.int .i64 p))), .v (.c (.d (.int .i64 ((37 : Nat) : Int))))] [] (vNil (pathE ⟨nm, ra, dec⟩ t p ((37 : Nat) : Int))) []) := by
  have hw := wp_37 nm ra dec t p (fun v M => some (Res.fin v M))
  rw [prog_path (by omega)] at hw
  refine ⟨fun h => ?_, fun h => ?_⟩
  · rw [h] at hw; exact CallsA.ofEvCutP (fun _ => [1, 2, 3, 4, 11, 47, 48]) (g_fringeref06_Same.inl hEQT hmT (fun f hf => by simp only [List.mem_cons, List.not_mem_nil, or_false] at hf; subst hf; exact (fun args w => Try.call12 args w)) 400 1) hEQT hmT 2 (fun _ _ _ _ => noL_ok _) hw
  · rw [show (pathE ⟨nm, ra, dec⟩ t p ((37 : Nat) : Int) == 0) = false by simpa using h] at hw; exact (CallsA.ofEvCutP (fun _ => [1, 2, 3, 4, 11, 47, 48]) (g_fringeref06_Same.inl hEQT hmT (fun f hf => by simp only [List.mem_cons, List.not_mem_nil, or_false] at hf; subst hf; exact (fun args w => Try.call12 args w)) 400 1) hEQT hmT 2 (fun _ _ _ _ => noL_ok _) hw).drop (M' := []) fun b => .inr rfl

set_option maxRecDepth 100000 in
theorem wp_38 (nm : ByteArray) (ra dec t p : Int) (K : AV → List Blk → Ans) : evFnP Try.prog GT EQT (inl Try.prog GT EQT XT [12] T_fringeref06_Same 400 1) XT noL (fun _ => [1, 2, 3, 4, 11, 47, 48]) 400 7 [.v (.agg [.str nm, .int .i64 ra, .int .i64 dec]), .v (.c (.d (.int .i64 t))), .v (.c (.d (.int .i64 p))), .v (.c (.d (.int .i64 38)))] [] (fun v M => K v (cutAt 2 M)) = progPath ⟨nm, ra, dec⟩ t p 38 (progK K 28 38) := by
  kernel_rfl
theorem cp_38 (nm : ByteArray) (ra dec t p : Int) : (pathE ⟨nm, ra, dec⟩ t p ((38 : Nat) : Int) = 0 → CallsA Try.prog GT gbT 7 [.v (.agg [.str nm, .int .i64 ra, .int .i64 dec]), .v (.c (.d (.int .i64 t))), .v (.c (.d (.int .i64 p))), .v (.c (.d (.int .i64 ((38 : Nat) : Int))))] [] (vSlice 2 38 0) (mSlice 28 2 (pathD ⟨nm, ra, dec⟩ t p 38))) ∧ (pathE ⟨nm, ra, dec⟩ t p ((38 : Nat) : Int) ≠ 0 → CallsA Try.prog GT gbT 7 [.v (.agg [.str nm, .int .i64 ra, .int .i64 dec]), .v (.c (.d (.int .i64 t))), .v (.c (.d (.int .i64 p))), .v (.c (.d (.int .i64 ((38 : Nat) : Int))))] [] (vNil (pathE ⟨nm, ra, dec⟩ t p ((38 : Nat) : Int))) []) := by
  have hw := wp_38 nm ra dec t p (fun v M => some (Res.fin v M))
  rw [prog_path (by omega)] at hw
  refine ⟨fun h => ?_, fun h => ?_⟩
  · rw [h] at hw; exact CallsA.ofEvCutP (fun _ => [1, 2, 3, 4, 11, 47, 48]) (g_fringeref06_Same.inl hEQT hmT (fun f hf => by simp only [List.mem_cons, List.not_mem_nil, or_false] at hf; subst hf; exact (fun args w => Try.call12 args w)) 400 1) hEQT hmT 2 (fun _ _ _ _ => noL_ok _) hw
  · rw [show (pathE ⟨nm, ra, dec⟩ t p ((38 : Nat) : Int) == 0) = false by simpa using h] at hw; exact (CallsA.ofEvCutP (fun _ => [1, 2, 3, 4, 11, 47, 48]) (g_fringeref06_Same.inl hEQT hmT (fun f hf => by simp only [List.mem_cons, List.not_mem_nil, or_false] at hf; subst hf; exact (fun args w => Try.call12 args w)) 400 1) hEQT hmT 2 (fun _ _ _ _ => noL_ok _) hw).drop (M' := []) fun b => .inr rfl

set_option maxRecDepth 100000 in
theorem wp_39 (nm : ByteArray) (ra dec t p : Int) (K : AV → List Blk → Ans) : evFnP Try.prog GT EQT (inl Try.prog GT EQT XT [12] T_fringeref06_Same 400 1) XT noL (fun _ => [1, 2, 3, 4, 11, 47, 48]) 400 7 [.v (.agg [.str nm, .int .i64 ra, .int .i64 dec]), .v (.c (.d (.int .i64 t))), .v (.c (.d (.int .i64 p))), .v (.c (.d (.int .i64 39)))] [] (fun v M => K v (cutAt 2 M)) = progPath ⟨nm, ra, dec⟩ t p 39 (progK K 28 39) := by
  kernel_rfl
theorem cp_39 (nm : ByteArray) (ra dec t p : Int) : (pathE ⟨nm, ra, dec⟩ t p ((39 : Nat) : Int) = 0 → CallsA Try.prog GT gbT 7 [.v (.agg [.str nm, .int .i64 ra, .int .i64 dec]), .v (.c (.d (.int .i64 t))), .v (.c (.d (.int .i64 p))), .v (.c (.d (.int .i64 ((39 : Nat) : Int))))] [] (vSlice 2 39 0) (mSlice 28 2 (pathD ⟨nm, ra, dec⟩ t p 39))) ∧ (pathE ⟨nm, ra, dec⟩ t p ((39 : Nat) : Int) ≠ 0 → CallsA Try.prog GT gbT 7 [.v (.agg [.str nm, .int .i64 ra, .int .i64 dec]), .v (.c (.d (.int .i64 t))), .v (.c (.d (.int .i64 p))), .v (.c (.d (.int .i64 ((39 : Nat) : Int))))] [] (vNil (pathE ⟨nm, ra, dec⟩ t p ((39 : Nat) : Int))) []) := by
  have hw := wp_39 nm ra dec t p (fun v M => some (Res.fin v M))
  rw [prog_path (by omega)] at hw
  refine ⟨fun h => ?_, fun h => ?_⟩
  · rw [h] at hw; exact CallsA.ofEvCutP (fun _ => [1, 2, 3, 4, 11, 47, 48]) (g_fringeref06_Same.inl hEQT hmT (fun f hf => by simp only [List.mem_cons, List.not_mem_nil, or_false] at hf; subst hf; exact (fun args w => Try.call12 args w)) 400 1) hEQT hmT 2 (fun _ _ _ _ => noL_ok _) hw
  · rw [show (pathE ⟨nm, ra, dec⟩ t p ((39 : Nat) : Int) == 0) = false by simpa using h] at hw; exact (CallsA.ofEvCutP (fun _ => [1, 2, 3, 4, 11, 47, 48]) (g_fringeref06_Same.inl hEQT hmT (fun f hf => by simp only [List.mem_cons, List.not_mem_nil, or_false] at hf; subst hf; exact (fun args w => Try.call12 args w)) 400 1) hEQT hmT 2 (fun _ _ _ _ => noL_ok _) hw).drop (M' := []) fun b => .inr rfl

set_option maxRecDepth 100000 in
theorem wp_40 (nm : ByteArray) (ra dec t p : Int) (K : AV → List Blk → Ans) : evFnP Try.prog GT EQT (inl Try.prog GT EQT XT [12] T_fringeref06_Same 400 1) XT noL (fun _ => [1, 2, 3, 4, 11, 47, 48]) 400 7 [.v (.agg [.str nm, .int .i64 ra, .int .i64 dec]), .v (.c (.d (.int .i64 t))), .v (.c (.d (.int .i64 p))), .v (.c (.d (.int .i64 40)))] [] (fun v M => K v (cutAt 2 M)) = progPath ⟨nm, ra, dec⟩ t p 40 (progK K 28 40) := by
  kernel_rfl
theorem cp_40 (nm : ByteArray) (ra dec t p : Int) : (pathE ⟨nm, ra, dec⟩ t p ((40 : Nat) : Int) = 0 → CallsA Try.prog GT gbT 7 [.v (.agg [.str nm, .int .i64 ra, .int .i64 dec]), .v (.c (.d (.int .i64 t))), .v (.c (.d (.int .i64 p))), .v (.c (.d (.int .i64 ((40 : Nat) : Int))))] [] (vSlice 2 40 0) (mSlice 28 2 (pathD ⟨nm, ra, dec⟩ t p 40))) ∧ (pathE ⟨nm, ra, dec⟩ t p ((40 : Nat) : Int) ≠ 0 → CallsA Try.prog GT gbT 7 [.v (.agg [.str nm, .int .i64 ra, .int .i64 dec]), .v (.c (.d (.int .i64 t))), .v (.c (.d (.int .i64 p))), .v (.c (.d (.int .i64 ((40 : Nat) : Int))))] [] (vNil (pathE ⟨nm, ra, dec⟩ t p ((40 : Nat) : Int))) []) := by
  have hw := wp_40 nm ra dec t p (fun v M => some (Res.fin v M))
  rw [prog_path (by omega)] at hw
  refine ⟨fun h => ?_, fun h => ?_⟩
  · rw [h] at hw; exact CallsA.ofEvCutP (fun _ => [1, 2, 3, 4, 11, 47, 48]) (g_fringeref06_Same.inl hEQT hmT (fun f hf => by simp only [List.mem_cons, List.not_mem_nil, or_false] at hf; subst hf; exact (fun args w => Try.call12 args w)) 400 1) hEQT hmT 2 (fun _ _ _ _ => noL_ok _) hw
  · rw [show (pathE ⟨nm, ra, dec⟩ t p ((40 : Nat) : Int) == 0) = false by simpa using h] at hw; exact (CallsA.ofEvCutP (fun _ => [1, 2, 3, 4, 11, 47, 48]) (g_fringeref06_Same.inl hEQT hmT (fun f hf => by simp only [List.mem_cons, List.not_mem_nil, or_false] at hf; subst hf; exact (fun args w => Try.call12 args w)) 400 1) hEQT hmT 2 (fun _ _ _ _ => noL_ok _) hw).drop (M' := []) fun b => .inr rfl

set_option maxRecDepth 100000 in
theorem wp_41 (nm : ByteArray) (ra dec t p : Int) (K : AV → List Blk → Ans) : evFnP Try.prog GT EQT (inl Try.prog GT EQT XT [12] T_fringeref06_Same 400 1) XT noL (fun _ => [1, 2, 3, 4, 11, 47, 48]) 400 7 [.v (.agg [.str nm, .int .i64 ra, .int .i64 dec]), .v (.c (.d (.int .i64 t))), .v (.c (.d (.int .i64 p))), .v (.c (.d (.int .i64 41)))] [] (fun v M => K v (cutAt 2 M)) = progPath ⟨nm, ra, dec⟩ t p 41 (progK K 28 41) := by
  kernel_rfl
theorem cp_41 (nm : ByteArray) (ra dec t p : Int) : (pathE ⟨nm, ra, dec⟩ t p ((41 : Nat) : Int) = 0 → CallsA Try.prog GT gbT 7 [.v (.agg [.str nm, .int .i64 ra, .int .i64 dec]), .v (.c (.d (.int .i64 t))), .v (.c (.d (.int .i64 p))), .v (.c (.d (.int .i64 ((41 : Nat) : Int))))] [] (vSlice 2 41 0) (mSlice 28 2 (pathD ⟨nm, ra, dec⟩ t p 41))) ∧ (pathE ⟨nm, ra, dec⟩ t p ((41 : Nat) : Int) ≠ 0 → CallsA Try.prog GT gbT 7 [.v (.agg [.str nm, .int .i64 ra, .int .i64 dec]), .v (.c (.d (.int .i64 t))), .v (.c (.d (.int .i64 p))), .v (.c (.d (.int .i64 ((41 : Nat) : Int))))] [] (vNil (pathE ⟨nm, ra, dec⟩ t p ((41 : Nat) : Int))) []) := by
  have hw := wp_41 nm ra dec t p (fun v M => some (Res.fin v M))
  rw [prog_path (by omega)] at hw
  refine ⟨fun h => ?_, fun h => ?_⟩
  · rw [h] at hw; exact CallsA.ofEvCutP (fun _ => [1, 2, 3, 4, 11, 47, 48]) (g_fringeref06_Same.inl hEQT hmT (fun f hf => by simp only [List.mem_cons, List.not_mem_nil, or_false] at hf; subst hf; exact (fun args w => Try.call12 args w)) 400 1) hEQT hmT 2 (fun _ _ _ _ => noL_ok _) hw
  · rw [show (pathE ⟨nm, ra, dec⟩ t p ((41 : Nat) : Int) == 0) = false by simpa using h] at hw; exact (CallsA.ofEvCutP (fun _ => [1, 2, 3, 4, 11, 47, 48]) (g_fringeref06_Same.inl hEQT hmT (fun f hf => by simp only [List.mem_cons, List.not_mem_nil, or_false] at hf; subst hf; exact (fun args w => Try.call12 args w)) 400 1) hEQT hmT 2 (fun _ _ _ _ => noL_ok _) hw).drop (M' := []) fun b => .inr rfl

set_option maxRecDepth 100000 in
theorem wp_42 (nm : ByteArray) (ra dec t p : Int) (K : AV → List Blk → Ans) : evFnP Try.prog GT EQT (inl Try.prog GT EQT XT [12] T_fringeref06_Same 400 1) XT noL (fun _ => [1, 2, 3, 4, 11, 47, 48]) 400 7 [.v (.agg [.str nm, .int .i64 ra, .int .i64 dec]), .v (.c (.d (.int .i64 t))), .v (.c (.d (.int .i64 p))), .v (.c (.d (.int .i64 42)))] [] (fun v M => K v (cutAt 2 M)) = progPath ⟨nm, ra, dec⟩ t p 42 (progK K 28 42) := by
  kernel_rfl
theorem cp_42 (nm : ByteArray) (ra dec t p : Int) : (pathE ⟨nm, ra, dec⟩ t p ((42 : Nat) : Int) = 0 → CallsA Try.prog GT gbT 7 [.v (.agg [.str nm, .int .i64 ra, .int .i64 dec]), .v (.c (.d (.int .i64 t))), .v (.c (.d (.int .i64 p))), .v (.c (.d (.int .i64 ((42 : Nat) : Int))))] [] (vSlice 2 42 0) (mSlice 28 2 (pathD ⟨nm, ra, dec⟩ t p 42))) ∧ (pathE ⟨nm, ra, dec⟩ t p ((42 : Nat) : Int) ≠ 0 → CallsA Try.prog GT gbT 7 [.v (.agg [.str nm, .int .i64 ra, .int .i64 dec]), .v (.c (.d (.int .i64 t))), .v (.c (.d (.int .i64 p))), .v (.c (.d (.int .i64 ((42 : Nat) : Int))))] [] (vNil (pathE ⟨nm, ra, dec⟩ t p ((42 : Nat) : Int))) []) := by
  have hw := wp_42 nm ra dec t p (fun v M => some (Res.fin v M))
  rw [prog_path (by omega)] at hw
  refine ⟨fun h => ?_, fun h => ?_⟩
  · rw [h] at hw; exact CallsA.ofEvCutP (fun _ => [1, 2, 3, 4, 11, 47, 48]) (g_fringeref06_Same.inl hEQT hmT (fun f hf => by simp only [List.mem_cons, List.not_mem_nil, or_false] at hf; subst hf; exact (fun args w => Try.call12 args w)) 400 1) hEQT hmT 2 (fun _ _ _ _ => noL_ok _) hw
  · rw [show (pathE ⟨nm, ra, dec⟩ t p ((42 : Nat) : Int) == 0) = false by simpa using h] at hw; exact (CallsA.ofEvCutP (fun _ => [1, 2, 3, 4, 11, 47, 48]) (g_fringeref06_Same.inl hEQT hmT (fun f hf => by simp only [List.mem_cons, List.not_mem_nil, or_false] at hf; subst hf; exact (fun args w => Try.call12 args w)) 400 1) hEQT hmT 2 (fun _ _ _ _ => noL_ok _) hw).drop (M' := []) fun b => .inr rfl

set_option maxRecDepth 100000 in
theorem wp_43 (nm : ByteArray) (ra dec t p : Int) (K : AV → List Blk → Ans) : evFnP Try.prog GT EQT (inl Try.prog GT EQT XT [12] T_fringeref06_Same 400 1) XT noL (fun _ => [1, 2, 3, 4, 11, 47, 48]) 400 7 [.v (.agg [.str nm, .int .i64 ra, .int .i64 dec]), .v (.c (.d (.int .i64 t))), .v (.c (.d (.int .i64 p))), .v (.c (.d (.int .i64 43)))] [] (fun v M => K v (cutAt 2 M)) = progPath ⟨nm, ra, dec⟩ t p 43 (progK K 28 43) := by
  kernel_rfl
theorem cp_43 (nm : ByteArray) (ra dec t p : Int) : (pathE ⟨nm, ra, dec⟩ t p ((43 : Nat) : Int) = 0 → CallsA Try.prog GT gbT 7 [.v (.agg [.str nm, .int .i64 ra, .int .i64 dec]), .v (.c (.d (.int .i64 t))), .v (.c (.d (.int .i64 p))), .v (.c (.d (.int .i64 ((43 : Nat) : Int))))] [] (vSlice 2 43 0) (mSlice 28 2 (pathD ⟨nm, ra, dec⟩ t p 43))) ∧ (pathE ⟨nm, ra, dec⟩ t p ((43 : Nat) : Int) ≠ 0 → CallsA Try.prog GT gbT 7 [.v (.agg [.str nm, .int .i64 ra, .int .i64 dec]), .v (.c (.d (.int .i64 t))), .v (.c (.d (.int .i64 p))), .v (.c (.d (.int .i64 ((43 : Nat) : Int))))] [] (vNil (pathE ⟨nm, ra, dec⟩ t p ((43 : Nat) : Int))) []) := by
  have hw := wp_43 nm ra dec t p (fun v M => some (Res.fin v M))
  rw [prog_path (by omega)] at hw
  refine ⟨fun h => ?_, fun h => ?_⟩
  · rw [h] at hw; exact CallsA.ofEvCutP (fun _ => [1, 2, 3, 4, 11, 47, 48]) (g_fringeref06_Same.inl hEQT hmT (fun f hf => by simp only [List.mem_cons, List.not_mem_nil, or_false] at hf; subst hf; exact (fun args w => Try.call12 args w)) 400 1) hEQT hmT 2 (fun _ _ _ _ => noL_ok _) hw
  · rw [show (pathE ⟨nm, ra, dec⟩ t p ((43 : Nat) : Int) == 0) = false by simpa using h] at hw; exact (CallsA.ofEvCutP (fun _ => [1, 2, 3, 4, 11, 47, 48]) (g_fringeref06_Same.inl hEQT hmT (fun f hf => by simp only [List.mem_cons, List.not_mem_nil, or_false] at hf; subst hf; exact (fun args w => Try.call12 args w)) 400 1) hEQT hmT 2 (fun _ _ _ _ => noL_ok _) hw).drop (M' := []) fun b => .inr rfl

set_option maxRecDepth 100000 in
theorem wp_44 (nm : ByteArray) (ra dec t p : Int) (K : AV → List Blk → Ans) : evFnP Try.prog GT EQT (inl Try.prog GT EQT XT [12] T_fringeref06_Same 400 1) XT noL (fun _ => [1, 2, 3, 4, 11, 47, 48]) 400 7 [.v (.agg [.str nm, .int .i64 ra, .int .i64 dec]), .v (.c (.d (.int .i64 t))), .v (.c (.d (.int .i64 p))), .v (.c (.d (.int .i64 44)))] [] (fun v M => K v (cutAt 2 M)) = progPath ⟨nm, ra, dec⟩ t p 44 (progK K 28 44) := by
  kernel_rfl
theorem cp_44 (nm : ByteArray) (ra dec t p : Int) : (pathE ⟨nm, ra, dec⟩ t p ((44 : Nat) : Int) = 0 → CallsA Try.prog GT gbT 7 [.v (.agg [.str nm, .int .i64 ra, .int .i64 dec]), .v (.c (.d (.int .i64 t))), .v (.c (.d (.int .i64 p))), .v (.c (.d (.int .i64 ((44 : Nat) : Int))))] [] (vSlice 2 44 0) (mSlice 28 2 (pathD ⟨nm, ra, dec⟩ t p 44))) ∧ (pathE ⟨nm, ra, dec⟩ t p ((44 : Nat) : Int) ≠ 0 → CallsA Try.prog GT gbT 7 [.v (.agg [.str nm, .int .i64 ra, .int .i64 dec]), .v (.c (.d (.int .i64 t))), .v (.c (.d (.int .i64 p))), .v (.c (.d (.int .i64 ((44 : Nat) : Int))))] [] (vNil (pathE ⟨nm, ra, dec⟩ t p ((44 : Nat) : Int))) []) := by
  have hw := wp_44 nm ra dec t p (fun v M => some (Res.fin v M))
  rw [prog_path (by omega)] at hw
  refine ⟨fun h => ?_, fun h => ?_⟩
  · rw [h] at hw; exact CallsA.ofEvCutP (fun _ => [1, 2, 3, 4, 11, 47, 48]) (g_fringeref06_Same.inl hEQT hmT (fun f hf => by simp only [List.mem_cons, List.not_mem_nil, or_false] at hf; subst hf; exact (fun args w => Try.call12 args w)) 400 1) hEQT hmT 2 (fun _ _ _ _ => noL_ok _) hw
  · rw [show (pathE ⟨nm, ra, dec⟩ t p ((44 : Nat) : Int) == 0) = false by simpa using h] at hw; exact (CallsA.ofEvCutP (fun _ => [1, 2, 3, 4, 11, 47, 48]) (g_fringeref06_Same.inl hEQT hmT (fun f hf => by simp only [List.mem_cons, List.not_mem_nil, or_false] at hf; subst hf; exact (fun args w => Try.call12 args w)) 400 1) hEQT hmT 2 (fun _ _ _ _ => noL_ok _) hw).drop (M' := []) fun b => .inr rfl

set_option maxRecDepth 100000 in
theorem wp_45 (nm : ByteArray) (ra dec t p : Int) (K : AV → List Blk → Ans) : evFnP Try.prog GT EQT (inl Try.prog GT EQT XT [12] T_fringeref06_Same 400 1) XT noL (fun _ => [1, 2, 3, 4, 11, 47, 48]) 400 7 [.v (.agg [.str nm, .int .i64 ra, .int .i64 dec]), .v (.c (.d (.int .i64 t))), .v (.c (.d (.int .i64 p))), .v (.c (.d (.int .i64 45)))] [] (fun v M => K v (cutAt 2 M)) = progPath ⟨nm, ra, dec⟩ t p 45 (progK K 28 45) := by
  kernel_rfl
theorem cp_45 (nm : ByteArray) (ra dec t p : Int) : (pathE ⟨nm, ra, dec⟩ t p ((45 : Nat) : Int) = 0 → CallsA Try.prog GT gbT 7 [.v (.agg [.str nm, .int .i64 ra, .int .i64 dec]), .v (.c (.d (.int .i64 t))), .v (.c (.d (.int .i64 p))), .v (.c (.d (.int .i64 ((45 : Nat) : Int))))] [] (vSlice 2 45 0) (mSlice 28 2 (pathD ⟨nm, ra, dec⟩ t p 45))) ∧ (pathE ⟨nm, ra, dec⟩ t p ((45 : Nat) : Int) ≠ 0 → CallsA Try.prog GT gbT 7 [.v (.agg [.str nm, .int .i64 ra, .int .i64 dec]), .v (.c (.d (.int .i64 t))), .v (.c (.d (.int .i64 p))), .v (.c (.d (.int .i64 ((45 : Nat) : Int))))] [] (vNil (pathE ⟨nm, ra, dec⟩ t p ((45 : Nat) : Int))) []) := by
  have hw := wp_45 nm ra dec t p (fun v M => some (Res.fin v M))
  rw [prog_path (by omega)] at hw
  refine ⟨fun h => ?_, fun h => ?_⟩
  · rw [h] at hw; exact CallsA.ofEvCutP (fun _ => [1, 2, 3, 4, 11, 47, 48]) (g_fringeref06_Same.inl hEQT hmT (fun f hf => by simp only [List.mem_cons, List.not_mem_nil, or_false] at hf; subst hf; exact (fun args w => Try.call12 args w)) 400 1) hEQT hmT 2 (fun _ _ _ _ => noL_ok _) hw
  · rw [show (pathE ⟨nm, ra, dec⟩ t p ((45 : Nat) : Int) == 0) = false by simpa using h] at hw; exact (CallsA.ofEvCutP (fun _ => [1, 2, 3, 4, 11, 47, 48]) (g_fringeref06_Same.inl hEQT hmT (fun f hf => by simp only [List.mem_cons, List.not_mem_nil, or_false] at hf; subst hf; exact (fun args w => Try.call12 args w)) 400 1) hEQT hmT 2 (fun _ _ _ _ => noL_ok _) hw).drop (M' := []) fun b => .inr rfl

set_option maxRecDepth 100000 in
theorem wp_46 (nm : ByteArray) (ra dec t p : Int) (K : AV → List Blk → Ans) : evFnP Try.prog GT EQT (inl Try.prog GT EQT XT [12] T_fringeref06_Same 400 1) XT noL (fun _ => [1, 2, 3, 4, 11, 47, 48]) 400 7 [.v (.agg [.str nm, .int .i64 ra, .int .i64 dec]), .v (.c (.d (.int .i64 t))), .v (.c (.d (.int .i64 p))), .v (.c (.d (.int .i64 46)))] [] (fun v M => K v (cutAt 2 M)) = progPath ⟨nm, ra, dec⟩ t p 46 (progK K 28 46) := by
  kernel_rfl
theorem cp_46 (nm : ByteArray) (ra dec t p : Int) : (pathE ⟨nm, ra, dec⟩ t p ((46 : Nat) : Int) = 0 → CallsA Try.prog GT gbT 7 [.v (.agg [.str nm, .int .i64 ra, .int .i64 dec]), .v (.c (.d (.int .i64 t))), .v (.c (.d (.int .i64 p))), .v (.c (.d (.int .i64 ((46 : Nat) : Int))))] [] (vSlice 2 46 0) (mSlice 28 2 (pathD ⟨nm, ra, dec⟩ t p 46))) ∧ (pathE ⟨nm, ra, dec⟩ t p ((46 : Nat) : Int) ≠ 0 → CallsA Try.prog GT gbT 7 [.v (.agg [.str nm, .int .i64 ra, .int .i64 dec]), .v (.c (.d (.int .i64 t))), .v (.c (.d (.int .i64 p))), .v (.c (.d (.int .i64 ((46 : Nat) : Int))))] [] (vNil (pathE ⟨nm, ra, dec⟩ t p ((46 : Nat) : Int))) []) := by
  have hw := wp_46 nm ra dec t p (fun v M => some (Res.fin v M))
  rw [prog_path (by omega)] at hw
  refine ⟨fun h => ?_, fun h => ?_⟩
  · rw [h] at hw; exact CallsA.ofEvCutP (fun _ => [1, 2, 3, 4, 11, 47, 48]) (g_fringeref06_Same.inl hEQT hmT (fun f hf => by simp only [List.mem_cons, List.not_mem_nil, or_false] at hf; subst hf; exact (fun args w => Try.call12 args w)) 400 1) hEQT hmT 2 (fun _ _ _ _ => noL_ok _) hw
  · rw [show (pathE ⟨nm, ra, dec⟩ t p ((46 : Nat) : Int) == 0) = false by simpa using h] at hw; exact (CallsA.ofEvCutP (fun _ => [1, 2, 3, 4, 11, 47, 48]) (g_fringeref06_Same.inl hEQT hmT (fun f hf => by simp only [List.mem_cons, List.not_mem_nil, or_false] at hf; subst hf; exact (fun args w => Try.call12 args w)) 400 1) hEQT hmT 2 (fun _ _ _ _ => noL_ok _) hw).drop (M' := []) fun b => .inr rfl

set_option maxRecDepth 100000 in
theorem wp_47 (nm : ByteArray) (ra dec t p : Int) (K : AV → List Blk → Ans) : evFnP Try.prog GT EQT (inl Try.prog GT EQT XT [12] T_fringeref06_Same 400 1) XT noL (fun _ => [1, 2, 3, 4, 11, 47, 48]) 400 7 [.v (.agg [.str nm, .int .i64 ra, .int .i64 dec]), .v (.c (.d (.int .i64 t))), .v (.c (.d (.int .i64 p))), .v (.c (.d (.int .i64 47)))] [] (fun v M => K v (cutAt 2 M)) = progPath ⟨nm, ra, dec⟩ t p 47 (progK K 28 47) := by
  kernel_rfl
theorem cp_47 (nm : ByteArray) (ra dec t p : Int) : (pathE ⟨nm, ra, dec⟩ t p ((47 : Nat) : Int) = 0 → CallsA Try.prog GT gbT 7 [.v (.agg [.str nm, .int .i64 ra, .int .i64 dec]), .v (.c (.d (.int .i64 t))), .v (.c (.d (.int .i64 p))), .v (.c (.d (.int .i64 ((47 : Nat) : Int))))] [] (vSlice 2 47 0) (mSlice 28 2 (pathD ⟨nm, ra, dec⟩ t p 47))) ∧ (pathE ⟨nm, ra, dec⟩ t p ((47 : Nat) : Int) ≠ 0 → CallsA Try.prog GT gbT 7 [.v (.agg [.str nm, .int .i64 ra, .int .i64 dec]), .v (.c (.d (.int .i64 t))), .v (.c (.d (.int .i64 p))), .v (.c (.d (.int .i64 ((47 : Nat) : Int))))] [] (vNil (pathE ⟨nm, ra, dec⟩ t p ((47 : Nat) : Int))) []) := by
  have hw := wp_47 nm ra dec t p (fun v M => some (Res.fin v M))
  rw [prog_path (by omega)] at hw
  refine ⟨fun h => ?_, fun h => ?_⟩
  · rw [h] at hw; exact CallsA.ofEvCutP (fun _ => [1, 2, 3, 4, 11, 47, 48]) (g_fringeref06_Same.inl hEQT hmT (fun f hf => by simp only [List.mem_cons, List.not_mem_nil, or_false] at hf; subst hf; exact (fun args w => Try.call12 args w)) 400 1) hEQT hmT 2 (fun _ _ _ _ => noL_ok _) hw
  · rw [show (pathE ⟨nm, ra, dec⟩ t p ((47 : Nat) : Int) == 0) = false by simpa using h] at hw; exact (CallsA.ofEvCutP (fun _ => [1, 2, 3, 4, 11, 47, 48]) (g_fringeref06_Same.inl hEQT hmT (fun f hf => by simp only [List.mem_cons, List.not_mem_nil, or_false] at hf; subst hf; exact (fun args w => Try.call12 args w)) 400 1) hEQT hmT 2 (fun _ _ _ _ => noL_ok _) hw).drop (M' := []) fun b => .inr rfl

set_option maxRecDepth 100000 in
theorem wp_48 (nm : ByteArray) (ra dec t p : Int) (K : AV → List Blk → Ans) : evFnP Try.prog GT EQT (inl Try.prog GT EQT XT [12] T_fringeref06_Same 400 1) XT noL (fun _ => [1, 2, 3, 4, 11, 47, 48]) 400 7 [.v (.agg [.str nm, .int .i64 ra, .int .i64 dec]), .v (.c (.d (.int .i64 t))), .v (.c (.d (.int .i64 p))), .v (.c (.d (.int .i64 48)))] [] (fun v M => K v (cutAt 2 M)) = progPath ⟨nm, ra, dec⟩ t p 48 (progK K 28 48) := by
  kernel_rfl
theorem cp_48 (nm : ByteArray) (ra dec t p : Int) : (pathE ⟨nm, ra, dec⟩ t p ((48 : Nat) : Int) = 0 → CallsA Try.prog GT gbT 7 [.v (.agg [.str nm, .int .i64 ra, .int .i64 dec]), .v (.c (.d (.int .i64 t))), .v (.c (.d (.int .i64 p))), .v (.c (.d (.int .i64 ((48 : Nat) : Int))))] [] (vSlice 2 48 0) (mSlice 28 2 (pathD ⟨nm, ra, dec⟩ t p 48))) ∧ (pathE ⟨nm, ra, dec⟩ t p ((48 : Nat) : Int) ≠ 0 → CallsA Try.prog GT gbT 7 [.v (.agg [.str nm, .int .i64 ra, .int .i64 dec]), .v (.c (.d (.int .i64 t))), .v (.c (.d (.int .i64 p))), .v (.c (.d (.int .i64 ((48 : Nat) : Int))))] [] (vNil (pathE ⟨nm, ra, dec⟩ t p ((48 : Nat) : Int))) []) := by
  have hw := wp_48 nm ra dec t p (fun v M => some (Res.fin v M))
  rw [prog_path (by omega)] at hw
  refine ⟨fun h => ?_, fun h => ?_⟩
  · rw [h] at hw; exact CallsA.ofEvCutP (fun _ => [1, 2, 3, 4, 11, 47, 48]) (g_fringeref06_Same.inl hEQT hmT (fun f hf => by simp only [List.mem_cons, List.not_mem_nil, or_false] at hf; subst hf; exact (fun args w => Try.call12 args w)) 400 1) hEQT hmT 2 (fun _ _ _ _ => noL_ok _) hw
  · rw [show (pathE ⟨nm, ra, dec⟩ t p ((48 : Nat) : Int) == 0) = false by simpa using h] at hw; exact (CallsA.ofEvCutP (fun _ => [1, 2, 3, 4, 11, 47, 48]) (g_fringeref06_Same.inl hEQT hmT (fun f hf => by simp only [List.mem_cons, List.not_mem_nil, or_false] at hf; subst hf; exact (fun args w => Try.call12 args w)) 400 1) hEQT hmT 2 (fun _ _ _ _ => noL_ok _) hw).drop (M' := []) fun b => .inr rfl

set_option maxRecDepth 100000 in
theorem wp_49 (nm : ByteArray) (ra dec t p : Int) (K : AV → List Blk → Ans) : evFnP Try.prog GT EQT (inl Try.prog GT EQT XT [12] T_fringeref06_Same 400 1) XT noL (fun _ => [1, 2, 3, 4, 11, 47, 48]) 400 7 [.v (.agg [.str nm, .int .i64 ra, .int .i64 dec]), .v (.c (.d (.int .i64 t))), .v (.c (.d (.int .i64 p))), .v (.c (.d (.int .i64 49)))] [] (fun v M => K v (cutAt 2 M)) = progPath ⟨nm, ra, dec⟩ t p 49 (progK K 28 49) := by
  kernel_rfl
theorem cp_49 (nm : ByteArray) (ra dec t p : Int) : (pathE ⟨nm, ra, dec⟩ t p ((49 : Nat) : Int) = 0 → CallsA Try.prog GT gbT 7 [.v (.agg [.str nm, .int .i64 ra, .int .i64 dec]), .v (.c (.d (.int .i64 t))), .v (.c (.d (.int .i64 p))), .v (.c (.d (.int .i64 ((49 : Nat) : Int))))] [] (vSlice 2 49 0) (mSlice 28 2 (pathD ⟨nm, ra, dec⟩ t p 49))) ∧ (pathE ⟨nm, ra, dec⟩ t p ((49 : Nat) : Int) ≠ 0 → CallsA Try.prog GT gbT 7 [.v (.agg [.str nm, .int .i64 ra, .int .i64 dec]), .v (.c (.d (.int .i64 t))), .v (.c (.d (.int .i64 p))), .v (.c (.d (.int .i64 ((49 : Nat) : Int))))] [] (vNil (pathE ⟨nm, ra, dec⟩ t p ((49 : Nat) : Int))) []) := by
  have hw := wp_49 nm ra dec t p (fun v M => some (Res.fin v M))
  rw [prog_path (by omega)] at hw
  refine ⟨fun h => ?_, fun h => ?_⟩
  · rw [h] at hw; exact CallsA.ofEvCutP (fun _ => [1, 2, 3, 4, 11, 47, 48]) (g_fringeref06_Same.inl hEQT hmT (fun f hf => by simp only [List.mem_cons, List.not_mem_nil, or_false] at hf; subst hf; exact (fun args w => Try.call12 args w)) 400 1) hEQT hmT 2 (fun _ _ _ _ => noL_ok _) hw
  · rw [show (pathE ⟨nm, ra, dec⟩ t p ((49 : Nat) : Int) == 0) = false by simpa using h] at hw; exact (CallsA.ofEvCutP (fun _ => [1, 2, 3, 4, 11, 47, 48]) (g_fringeref06_Same.inl hEQT hmT (fun f hf => by simp only [List.mem_cons, List.not_mem_nil, or_false] at hf; subst hf; exact (fun args w => Try.call12 args w)) 400 1) hEQT hmT 2 (fun _ _ _ _ => noL_ok _) hw).drop (M' := []) fun b => .inr rfl

set_option maxRecDepth 100000 in
theorem wp_50 (nm : ByteArray) (ra dec t p : Int) (K : AV → List Blk → Ans) : evFnP Try.prog GT EQT (inl Try.prog GT EQT XT [12] T_fringeref06_Same 400 1) XT noL (fun _ => [1, 2, 3, 4, 11, 47, 48]) 400 7 [.v (.agg [.str nm, .int .i64 ra, .int .i64 dec]), .v (.c (.d (.int .i64 t))), .v (.c (.d (.int .i64 p))), .v (.c (.d (.int .i64 50)))] [] (fun v M => K v (cutAt 2 M)) = progPath ⟨nm, ra, dec⟩ t p 50 (progK K 28 50) := by
  kernel_rfl
theorem cp_50 (nm : ByteArray) (ra dec t p : Int) : (pathE ⟨nm, ra, dec⟩ t p ((50 : Nat) : Int) = 0 → CallsA Try.prog GT gbT 7 [.v (.agg [.str nm, .int .i64 ra, .int .i64 dec]), .v (.c (.d (.int .i64 t))), .v (.c (.d (.int .i64 p))), .v (.c (.d (.int .i64 ((50 : Nat) : Int))))] [] (vSlice 2 50 0) (mSlice 28 2 (pathD ⟨nm, ra, dec⟩ t p 50))) ∧ (pathE ⟨nm, ra, dec⟩ t p ((50 : Nat) : Int) ≠ 0 → CallsA Try.prog GT gbT 7 [.v (.agg [.str nm, .int .i64 ra, .int .i64 dec]), .v (.c (.d (.int .i64 t))), .v (.c (.d (.int .i64 p))), .v (.c (.d (.int .i64 ((50 : Nat) : Int))))] [] (vNil (pathE ⟨nm, ra, dec⟩ t p ((50 : Nat) : Int))) []) := by
  have hw := wp_50 nm ra dec t p (fun v M => some (Res.fin v M))
  rw [prog_path (by omega)] at hw
  refine ⟨fun h => ?_, fun h => ?_⟩
  · rw [h] at hw; exact CallsA.ofEvCutP (fun _ => [1, 2, 3, 4, 11, 47, 48]) (g_fringeref06_Same.inl hEQT hmT (fun f hf => by simp only [List.mem_cons, List.not_mem_nil, or_false] at hf; subst hf; exact (fun args w => Try.call12 args w)) 400 1) hEQT hmT 2 (fun _ _ _ _ => noL_ok _) hw
  · rw [show (pathE ⟨nm, ra, dec⟩ t p ((50 : Nat) : Int) == 0) = false by simpa using h] at hw; exact (CallsA.ofEvCutP (fun _ => [1, 2, 3, 4, 11, 47, 48]) (g_fringeref06_Same.inl hEQT hmT (fun f hf => by simp only [List.mem_cons, List.not_mem_nil, or_false] at hf; subst hf; exact (fun args w => Try.call12 args w)) 400 1) hEQT hmT 2 (fun _ _ _ _ => noL_ok _) hw).drop (M' := []) fun b => .inr rfl

set_option maxRecDepth 100000 in
theorem wp_51 (nm : ByteArray) (ra dec t p : Int) (K : AV → List Blk → Ans) : evFnP Try.prog GT EQT (inl Try.prog GT EQT XT [12] T_fringeref06_Same 400 1) XT noL (fun _ => [1, 2, 3, 4, 11, 47, 48]) 400 7 [.v (.agg [.str nm, .int .i64 ra, .int .i64 dec]), .v (.c (.d (.int .i64 t))), .v (.c (.d (.int .i64 p))), .v (.c (.d (.int .i64 51)))] [] (fun v M => K v (cutAt 2 M)) = progPath ⟨nm, ra, dec⟩ t p 51 (progK K 28 51) := by
  kernel_rfl
theorem cp_51 (nm : ByteArray) (ra dec t p : Int) : (pathE ⟨nm, ra, dec⟩ t p ((51 : Nat) : Int) = 0 → CallsA Try.prog GT gbT 7 [.v (.agg [.str nm, .int .i64 ra, .int .i64 dec]), .v (.c (.d (.int .i64 t))), .v (.c (.d (.int .i64 p))), .v (.c (.d (.int .i64 ((51 : Nat) : Int))))] [] (vSlice 2 51 0) (mSlice 28 2 (pathD ⟨nm, ra, dec⟩ t p 51))) ∧ (pathE ⟨nm, ra, dec⟩ t p ((51 : Nat) : Int) ≠ 0 → CallsA Try.prog GT gbT 7 [.v (.agg [.str nm, .int .i64 ra, .int .i64 dec]), .v (.c (.d (.int .i64 t))), .v (.c (.d (.int .i64 p))), .v (.c (.d (.int .i64 ((51 : Nat) : Int))))] [] (vNil (pathE ⟨nm, ra, dec⟩ t p ((51 : Nat) : Int))) []) := by
  have hw := wp_51 nm ra dec t p (fun v M => some (Res.fin v M))
  rw [prog_path (by omega)] at hw
  refine ⟨fun h => ?_, fun h => ?_⟩
  · rw [h] at hw; exact CallsA.ofEvCutP (fun _ => [1, 2, 3, 4, 11, 47, 48]) (g_fringeref06_Same.inl hEQT hmT (fun f hf => by simp only [List.mem_cons, List.not_mem_nil, or_false] at hf; subst hf; exact (fun args w => Try.call12 args w)) 400 1) hEQT hmT 2 (fun _ _ _ _ => noL_ok _) hw
  · rw [show (pathE ⟨nm, ra, dec⟩ t p ((51 : Nat) : Int) == 0) = false by simpa using h] at hw; exact (CallsA.ofEvCutP (fun _ => [1, 2, 3, 4, 11, 47, 48]) (g_fringeref06_Same.inl hEQT hmT (fun f hf => by simp only [List.mem_cons, List.not_mem_nil, or_false] at hf; subst hf; exact (fun args w => Try.call12 args w)) 400 1) hEQT hmT 2 (fun _ _ _ _ => noL_ok _) hw).drop (M' := []) fun b => .inr rfl

set_option maxRecDepth 100000 in
theorem wp_52 (nm : ByteArray) (ra dec t p : Int) (K : AV → List Blk → Ans) : evFnP Try.prog GT EQT (inl Try.prog GT EQT XT [12] T_fringeref06_Same 400 1) XT noL (fun _ => [1, 2, 3, 4, 11, 47, 48]) 400 7 [.v (.agg [.str nm, .int .i64 ra, .int .i64 dec]), .v (.c (.d (.int .i64 t))), .v (.c (.d (.int .i64 p))), .v (.c (.d (.int .i64 52)))] [] (fun v M => K v (cutAt 2 M)) = progPath ⟨nm, ra, dec⟩ t p 52 (progK K 28 52) := by
  kernel_rfl
theorem cp_52 (nm : ByteArray) (ra dec t p : Int) : (pathE ⟨nm, ra, dec⟩ t p ((52 : Nat) : Int) = 0 → CallsA Try.prog GT gbT 7 [.v (.agg [.str nm, .int .i64 ra, .int .i64 dec]), .v (.c (.d (.int .i64 t))), .v (.c (.d (.int .i64 p))), .v (.c (.d (.int .i64 ((52 : Nat) : Int))))] [] (vSlice 2 52 0) (mSlice 28 2 (pathD ⟨nm, ra, dec⟩ t p 52))) ∧ (pathE ⟨nm, ra, dec⟩ t p ((52 : Nat) : Int) ≠ 0 → CallsA Try.prog GT gbT 7 [.v (.agg [.str nm, .int .i64 ra, .int .i64 dec]), .v (.c (.d (.int .i64 t))), .v (.c (.d (.int .i64 p))), .v (.c (.d (.int .i64 ((52 : Nat) : Int))))] [] (vNil (pathE ⟨nm, ra, dec⟩ t p ((52 : Nat) : Int))) []) := by
  have hw := wp_52 nm ra dec t p (fun v M => some (Res.fin v M))
  rw [prog_path (by omega)] at hw
  refine ⟨fun h => ?_, fun h => ?_⟩
  · rw [h] at hw; exact CallsA.ofEvCutP (fun _ => [1, 2, 3, 4, 11, 47, 48]) (g_fringeref06_Same.inl hEQT hmT (fun f hf => by simp only [List.mem_cons, List.not_mem_nil, or_false] at hf; subst hf; exact (fun args w => Try.call12 args w)) 400 1) hEQT hmT 2 (fun _ _ _ _ => noL_ok _) hw
  · rw [show (pathE ⟨nm, ra, dec⟩ t p ((52 : Nat) : Int) == 0) = false by simpa using h] at hw; exact (CallsA.ofEvCutP (fun _ => [1, 2, 3, 4, 11, 47, 48]) (g_fringeref06_Same.inl hEQT hmT (fun f hf => by simp only [List.mem_cons, List.not_mem_nil, or_false] at hf; subst hf; exact (fun args w => Try.call12 args w)) 400 1) hEQT hmT 2 (fun _ _ _ _ => noL_ok _) hw).drop (M' := []) fun b => .inr rfl

set_option maxRecDepth 100000 in
theorem wp_53 (nm : ByteArray) (ra dec t p : Int) (K : AV → List Blk → Ans) : evFnP Try.prog GT EQT (inl Try.prog GT EQT XT [12] T_fringeref06_Same 400 1) XT noL (fun _ => [1, 2, 3, 4, 11, 47, 48]) 400 7 [.v (.agg [.str nm, .int .i64 ra, .int .i64 dec]), .v (.c (.d (.int .i64 t))), .v (.c (.d (.int .i64 p))), .v (.c (.d (.int .i64 53)))] [] (fun v M => K v (cutAt 2 M)) = progPath ⟨nm, ra, dec⟩ t p 53 (progK K 28 53) := by
  kernel_rfl
theorem cp_53 (nm : ByteArray) (ra dec t p : Int) : (pathE ⟨nm, ra, dec⟩ t p ((53 : Nat) : Int) = 0 → CallsA Try.prog GT gbT 7 [.v (.agg [.str nm, .int .i64 ra, .int .i64 dec]), .v (.c (.d (.int .i64 t))), .v (.c (.d (.int .i64 p))), .v (.c (.d (.int .i64 ((53 : Nat) : Int))))] [] (vSlice 2 53 0) (mSlice 28 2 (pathD ⟨nm, ra, dec⟩ t p 53))) ∧ (pathE ⟨nm, ra, dec⟩ t p ((53 : Nat) : Int) ≠ 0 → CallsA Try.prog GT gbT 7 [.v (.agg [.str nm, .int .i64 ra, .int .i64 dec]), .v (.c (.d (.int .i64 t))), .v (.c (.d (.int .i64 p))), .v (.c (.d (.int .i64 ((53 : Nat) : Int))))] [] (vNil (pathE ⟨nm, ra, dec⟩ t p ((53 : Nat) : Int))) []) := by
  have hw := wp_53 nm ra dec t p (fun v M => some (Res.fin v M))
  rw [prog_path (by omega)] at hw
  refine ⟨fun h => ?_, fun h => ?_⟩
  · rw [h] at hw; exact CallsA.ofEvCutP (fun _ => [1, 2, 3, 4, 11, 47, 48]) (g_fringeref06_Same.inl hEQT hmT (fun f hf => by simp only [List.mem_cons, List.not_mem_nil, or_false] at hf; subst hf; exact (fun args w => Try.call12 args w)) 400 1) hEQT hmT 2 (fun _ _ _ _ => noL_ok _) hw
  · rw [show (pathE ⟨nm, ra, dec⟩ t p ((53 : Nat) : Int) == 0) = false by simpa using h] at hw; exact (CallsA.ofEvCutP (fun _ => [1, 2, 3, 4, 11, 47, 48]) (g_fringeref06_Same.inl hEQT hmT (fun f hf => by simp only [List.mem_cons, List.not_mem_nil, or_false] at hf; subst hf; exact (fun args w => Try.call12 args w)) 400 1) hEQT hmT 2 (fun _ _ _ _ => noL_ok _) hw).drop (M' := []) fun b => .inr rfl

set_option maxRecDepth 100000 in
theorem wp_54 (nm : ByteArray) (ra dec t p : Int) (K : AV → List Blk → Ans) : evFnP Try.prog GT EQT (inl Try.prog GT EQT XT [12] T_fringeref06_Same 400 1) XT noL (fun _ => [1, 2, 3, 4, 11, 47, 48]) 400 7 [.v (.agg [.str nm, .int .i64 ra, .int .i64 dec]), .v (.c (.d (.int .i64 t))), .v (.c (.d (.int .i64 p))), .v (.c (.d (.int .i64 54)))] [] (fun v M => K v (cutAt 2 M)) = progPath ⟨nm, ra, dec⟩ t p 54 (progK K 28 54) := by
  kernel_rfl
theorem cp_54 (nm : ByteArray) (ra dec t p : Int) : (pathE ⟨nm, ra, dec⟩ t p ((54 : Nat) : Int) = 0 → CallsA Try.prog GT gbT 7 [.v (.agg [.str nm, .int .i64 ra, .int .i64 dec]), .v (.c (.d (.int .i64 t))), .v (.c (.d (.int .i64 p))), .v (.c (.d (.int .i64 ((54 : Nat) : Int))))] [] (vSlice 2 54 0) (mSlice 28 2 (pathD ⟨nm, ra, dec⟩ t p 54))) ∧ (pathE ⟨nm, ra, dec⟩ t p ((54 : Nat) : Int) ≠ 0 → CallsA Try.prog GT gbT 7 [.v (.agg [.str nm, .int .i64 ra, .int .i64 dec]), .v (.c (.d (.int .i64 t))), .v (.c (.d (.int .i64 p))), .v (.c (.d (.int .i64 ((54 : Nat) : Int))))] [] (vNil (pathE ⟨nm, ra, dec⟩ t p ((54 : Nat) : Int))) []) := by
  have hw := wp_54 nm ra dec t p (fun v M => some (Res.fin v M))
  rw [prog_path (by omega)] at hw
  refine ⟨fun h => ?_, fun h => ?_⟩
  · rw [h] at hw; exact CallsA.ofEvCutP (fun _ => [1, 2, 3, 4, 11, 47, 48]) (g_fringeref06_Same.inl hEQT hmT (fun f hf => by simp only [List.mem_cons, List.not_mem_nil, or_false] at hf; subst hf; exact (fun args w => Try.call12 args w)) 400 1) hEQT hmT 2 (fun _ _ _ _ => noL_ok _) hw
  · rw [show (pathE ⟨nm, ra, dec⟩ t p ((54 : Nat) : Int) == 0) = false by simpa using h] at hw; exact (CallsA.ofEvCutP (fun _ => [1, 2, 3, 4, 11, 47, 48]) (g_fringeref06_Same.inl hEQT hmT (fun f hf => by simp only [List.mem_cons, List.not_mem_nil, or_false] at hf; subst hf; exact (fun args w => Try.call12 args w)) 400 1) hEQT hmT 2 (fun _ _ _ _ => noL_ok _) hw).drop (M' := []) fun b => .inr rfl

end Go.Ev
