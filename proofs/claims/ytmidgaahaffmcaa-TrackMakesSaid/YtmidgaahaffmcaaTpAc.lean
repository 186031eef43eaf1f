/-
  TrackMakes, value by value of the length of a path. No condition beyond those of the statements.
-/
import Derived.Test.YtmidgaahaffmcaaTxCA
namespace Go.Ev
open Go Go.Proofs

set_option maxRecDepth 100000 in
theorem wp_74 (nm : ByteArray) (ra dec t p : Int) (K : AV → List Blk → Ans) : evFnP Try.prog GT EQT (inl Try.prog GT EQT XT [12] T_fringeref06_Same 400 1) XT noL (fun _ => [1, 2, 3, 4, 11, 47, 48]) 400 7 [.v (.agg [.str nm, .int .i64 ra, .int .i64 dec]), .v (.c (.d (.int .i64 t))), .v (.c (.d (.int .i64 p))), .v (.c (.d (.int .i64 74)))] [] (fun v M => K v (cutAt 2 M)) = progPath ⟨nm, ra, dec⟩ t p 74 (progK K 28 74) := by
  kernel_rfl
theorem cp_74 (nm : ByteArray) (ra dec t p : Int) : (pathE ⟨nm, ra, dec⟩ t p ((74 : Nat) : Int) = 0 → CallsA Try.prog GT gbT 7 [.v (.agg [.str nm, .int .i64 ra, .int .i64 dec]), .v (.c (.d (.int .i64 t))), .v (.c (.d (.int .i64 p))), .v (.c (.d (.int .i64 ((74 : Nat) : Int))))] [] (vSlice 2 74 0) (mSlice 28 2 (pathD ⟨nm, ra, dec⟩ t p 74))) ∧ (pathE ⟨nm, ra, dec⟩ t p ((74 : Nat) : Int) ≠ 0 → CallsA Try.prog GT gbT 7 [.v (.agg [.str nm, .int .i64 ra, .int .i64 dec]), .v (.c (.d (.int .i64 t))), .v (.c (.d (.int .i64 p))), .v (.c (.d (.int .i64 ((74 : Nat) : Int))))] [] (vNil (pathE ⟨nm, ra, dec⟩ t p ((74 : Nat) : Int))) []) := by
  have hw := wp_74 nm ra dec t p (fun v M => some (Res.fin v M))
  rw [prog_path (by omega)] at hw
  refine ⟨fun h => ?_, fun h => ?_⟩
  · rw [h] at hw; exact CallsA.ofEvCutP (fun _ => [1, 2, 3, 4, 11, 47, 48]) (g_fringeref06_Same.inl hEQT hmT (fun f hf => by simp only [List.mem_cons, List.not_mem_nil, or_false] at hf; subst hf; exact (fun args w => Try.call12 args w)) 400 1) hEQT hmT 2 (fun _ _ _ _ => noL_ok _) hw
  · rw [show (pathE ⟨nm, ra, dec⟩ t p ((74 : Nat) : Int) == 0) = false by simpa using h] at hw; exact (CallsA.ofEvCutP (fun _ => [1, 2, 3, 4, 11, 47, 48]) (g_fringeref06_Same.inl hEQT hmT (fun f hf => by simp only [List.mem_cons, List.not_mem_nil, or_false] at hf; subst hf; exact (fun args w => Try.call12 args w)) 400 1) hEQT hmT 2 (fun _ _ _ _ => noL_ok _) hw).drop (M' := []) fun b => .inr rfl

set_option maxRecDepth 100000 in
theorem wp_75 (nm : ByteArray) (ra dec t p : Int) (K : AV → List Blk → Ans) : evFnP Try.prog GT EQT (inl Try.prog GT EQT XT [12] T_fringeref06_Same 400 1) XT noL (fun _ => [1, 2, 3, 4, 11, 47, 48]) 400 7 [.v (.agg [.str nm, .int .i64 ra, .int .i64 dec]), .v (.c (.d (.int .i64 t))), .v (.c (.d (.int .i64 p))), .v (.c (.d (.int .i64 75)))] [] (fun v M => K v (cutAt 2 M)) = progPath ⟨nm, ra, dec⟩ t p 75 (progK K 28 75) := by
  kernel_rfl
theorem cp_75 (nm : ByteArray) (ra dec t p : Int) : (pathE ⟨nm, ra, dec⟩ t p ((75 : Nat) : Int) = 0 → CallsA Try.prog GT gbT 7 [.v (.agg [.str nm, .int .i64 ra, .int .i64 dec]), .v (.c (.d (.int .i64 t))), .v (.c (.d (.int .i64 p))), .v (.c (.d (.int .i64 ((75 : Nat) : Int))))] [] (vSlice 2 75 0) (mSlice 28 2 (pathD ⟨nm, ra, dec⟩ t p 75))) ∧ (pathE ⟨nm, ra, dec⟩ t p ((75 : Nat) : Int) ≠ 0 → CallsA Try.prog GT gbT 7 [.v (.agg [.str nm, .int .i64 ra, .int .i64 dec]), .v (.c (.d (.int .i64 t))), .v (.c (.d (.int .i64 p))), .v (.c (.d (.int .i64 ((75 : Nat) : Int))))] [] (vNil (pathE ⟨nm, ra, dec⟩ t p ((75 : Nat) : Int))) []) := by
  have hw := wp_75 nm ra dec t p (fun v M => some (Res.fin v M))
  rw [prog_path (by omega)] at hw
  refine ⟨fun h => ?_, fun h => ?_⟩
  · rw [h] at hw; exact CallsA.ofEvCutP (fun _ => [1, 2, 3, 4, 11, 47, 48]) (g_fringeref06_Same.inl hEQT hmT (fun f hf => by simp only [List.mem_cons, List.not_mem_nil, or_false] at hf; subst hf; exact (fun args w => Try.call12 args w)) 400 1) hEQT hmT 2 (fun _ _ _ _ => noL_ok _) hw
  · rw [show (pathE ⟨nm, ra, dec⟩ t p ((75 : Nat) : Int) == 0) = false by simpa using h] at hw; exact (CallsA.ofEvCutP (fun _ => [1, 2, 3, 4, 11, 47, 48]) (g_fringeref06_Same.inl hEQT hmT (fun f hf => by simp only [List.mem_cons, List.not_mem_nil, or_false] at hf; subst hf; exact (fun args w => Try.call12 args w)) 400 1) hEQT hmT 2 (fun _ _ _ _ => noL_ok _) hw).drop (M' := []) fun b => .inr rfl

set_option maxRecDepth 100000 in
theorem wp_76 (nm : ByteArray) (ra dec t p : Int) (K : AV → List Blk → Ans) : evFnP Try.prog GT EQT (inl Try.prog GT EQT XT [12] T_fringeref06_Same 400 1) XT noL (fun _ => [1, 2, 3, 4, 11, 47, 48]) 400 7 [.v (.agg [.str nm, .int .i64 ra, .int .i64 dec]), .v (.c (.d (.int .i64 t))), .v (.c (.d (.int .i64 p))), .v (.c (.d (.int .i64 76)))] [] (fun v M => K v (cutAt 2 M)) = progPath ⟨nm, ra, dec⟩ t p 76 (progK K 28 76) := by
  kernel_rfl
theorem cp_76 (nm : ByteArray) (ra dec t p : Int) : (pathE ⟨nm, ra, dec⟩ t p ((76 : Nat) : Int) = 0 → CallsA Try.prog GT gbT 7 [.v (.agg [.str nm, .int .i64 ra, .int .i64 dec]), .v (.c (.d (.int .i64 t))), .v (.c (.d (.int .i64 p))), .v (.c (.d (.int .i64 ((76 : Nat) : Int))))] [] (vSlice 2 76 0) (mSlice 28 2 (pathD ⟨nm, ra, dec⟩ t p 76))) ∧ (pathE ⟨nm, ra, dec⟩ t p ((76 : Nat) : Int) ≠ 0 → CallsA Try.prog GT gbT 7 [.v (.agg [.str nm, .int .i64 ra, .int .i64 dec]), .v (.c (.d (.int .i64 t))), .v (.c (.d (.int .i64 p))), .v (.c (.d (.int .i64 ((76 : Nat) : Int))))] [] (vNil (pathE ⟨nm, ra, dec⟩ t p ((76 : Nat) : Int))) []) := by
  have hw := wp_76 nm ra dec t p (fun v M => some (Res.fin v M))
  rw [prog_path (by omega)] at hw
  refine ⟨fun h => ?_, fun h => ?_⟩
  · rw [h] at hw; exact CallsA.ofEvCutP (fun _ => [1, 2, 3, 4, 11, 47, 48]) (g_fringeref06_Same.inl hEQT hmT (fun f hf => by simp only [List.mem_cons, List.not_mem_nil, or_false] at hf; subst hf; exact (fun args w => Try.call12 args w)) 400 1) hEQT hmT 2 (fun _ _ _ _ => noL_ok _) hw
  · rw [show (pathE ⟨nm, ra, dec⟩ t p ((76 : Nat) : Int) == 0) = false by simpa using h] at hw; exact (CallsA.ofEvCutP (fun _ => [1, 2, 3, 4, 11, 47, 48]) (g_fringeref06_Same.inl hEQT hmT (fun f hf => by simp only [List.mem_cons, List.not_mem_nil, or_false] at hf; subst hf; exact (fun args w => Try.call12 args w)) 400 1) hEQT hmT 2 (fun _ _ _ _ => noL_ok _) hw).drop (M' := []) fun b => .inr rfl

set_option maxRecDepth 100000 in
theorem wp_77 (nm : ByteArray) (ra dec t p : Int) (K : AV → List Blk → Ans) : evFnP Try.prog GT EQT (inl Try.prog GT EQT XT [12] T_fringeref06_Same 400 1) XT noL (fun _ => [1, 2, 3, 4, 11, 47, 48]) 400 7 [.v (.agg [.str nm, .int .i64 ra, .int .i64 dec]), .v (.c (.d (.int .i64 t))), .v (.c (.d (.int .i64 p))), .v (.c (.d (.int .i64 77)))] [] (fun v M => K v (cutAt 2 M)) = progPath ⟨nm, ra, dec⟩ t p 77 (progK K 28 77) := by
  kernel_rfl
theorem cp_77 (nm : ByteArray) (ra dec t p : Int) : (pathE ⟨nm, ra, dec⟩ t p ((77 : Nat) : Int) = 0 → CallsA Try.prog GT gbT 7 [.v (.agg [.str nm, .int .i64 ra, .int .i64 dec]), .v (.c (.d (.int .i64 t))), .v (.c (.d (.int .i64 p))), .v (.c (.d (.int .i64 ((77 : Nat) : Int))))] [] (vSlice 2 77 0) (mSlice 28 2 (pathD ⟨nm, ra, dec⟩ t p 77))) ∧ (pathE ⟨nm, ra, dec⟩ t p ((77 : Nat) : Int) ≠ 0 → CallsA Try.prog GT gbT 7 [.v (.agg [.str nm, .int .i64 ra, .int .i64 dec]), .v (.c (.d (.int .i64 t))), .v (.c (.d (.int .i64 p))), .v (.c (.d (.int .i64 ((77 : Nat) : Int))))] [] (vNil (pathE ⟨nm, ra, dec⟩ t p ((77 : Nat) : Int))) []) := by
  have hw := wp_77 nm ra dec t p (fun v M => some (Res.fin v M))
  rw [prog_path (by omega)] at hw
  refine ⟨fun h => ?_, fun h => ?_⟩
  · rw [h] at hw; exact CallsA.ofEvCutP (fun _ => [1, 2, 3, 4, 11, 47, 48]) (g_fringeref06_Same.inl hEQT hmT (fun f hf => by simp only [List.mem_cons, List.not_mem_nil, or_false] at hf; subst hf; exact (fun args w => Try.call12 args w)) 400 1) hEQT hmT 2 (fun _ _ _ _ => noL_ok _) hw
  · rw [show (pathE ⟨nm, ra, dec⟩ t p ((77 : Nat) : Int) == 0) = false by simpa using h] at hw; exact (CallsA.ofEvCutP (fun _ => [1, 2, 3, 4, 11, 47, 48]) (g_fringeref06_Same.inl hEQT hmT (fun f hf => by simp only [List.mem_cons, List.not_mem_nil, or_false] at hf; subst hf; exact (fun args w => Try.call12 args w)) 400 1) hEQT hmT 2 (fun _ _ _ _ => noL_ok _) hw).drop (M' := []) fun b => .inr rfl

set_option maxRecDepth 100000 in
theorem wp_78 (nm : ByteArray) (ra dec t p : Int) (K : AV → List Blk → Ans) : evFnP Try.prog GT EQT (inl Try.prog GT EQT XT [12] T_fringeref06_Same 400 1) XT noL (fun _ => [1, 2, 3, 4, 11, 47, 48]) 400 7 [.v (.agg [.str nm, .int .i64 ra, .int .i64 dec]), .v (.c (.d (.int .i64 t))), .v (.c (.d (.int .i64 p))), .v (.c (.d (.int .i64 78)))] [] (fun v M => K v (cutAt 2 M)) = progPath ⟨nm, ra, dec⟩ t p 78 (progK K 28 78) := by
  kernel_rfl
theorem cp_78 (nm : ByteArray) (ra dec t p : Int) : (pathE ⟨nm, ra, dec⟩ t p ((78 : Nat) : Int) = 0 → CallsA Try.prog GT gbT 7 [.v (.agg [.str nm, .int .i64 ra, .int .i64 dec]), .v (.c (.d (.int .i64 t))), .v (.c (.d (.int .i64 p))), .v (.c (.d (.int .i64 ((78 : Nat) : Int))))] [] (vSlice 2 78 0) (mSlice 28 2 (pathD ⟨nm, ra, dec⟩ t p 78))) ∧ (pathE ⟨nm, ra, dec⟩ t p ((78 : Nat) : Int) ≠ 0 → CallsA Try.prog GT gbT 7 [.v (.agg [.str nm, .int .i64 ra, .int .i64 dec]), .v (.c (.d (.int .i64 t))), .v (.c (.d (.int .i64 p))), .v (.c (.d (.int .i64 ((78 : Nat) : Int))))] [] (vNil (pathE ⟨nm, ra, dec⟩ t p ((78 : Nat) : Int))) []) := by
  have hw := wp_78 nm ra dec t p (fun v M => some (Res.fin v M))
  rw [prog_path (by omega)] at hw
  refine ⟨fun h => ?_, fun h => ?_⟩
  · rw [h] at hw; exact CallsA.ofEvCutP (fun _ => [1, 2, 3, 4, 11, 47, 48]) (g_fringeref06_Same.inl hEQT hmT (fun f hf => by simp only [List.mem_cons, List.not_mem_nil, or_false] at hf; subst hf; exact (fun args w => Try.call12 args w)) 400 1) hEQT hmT 2 (fun _ _ _ _ => noL_ok _) hw
  · rw [show (pathE ⟨nm, ra, dec⟩ t p ((78 : Nat) : Int) == 0) = false by simpa using h] at hw; exact (CallsA.ofEvCutP (fun _ => [1, 2, 3, 4, 11, 47, 48]) (g_fringeref06_Same.inl hEQT hmT (fun f hf => by simp only [List.mem_cons, List.not_mem_nil, or_false] at hf; subst hf; exact (fun args w => Try.call12 args w)) 400 1) hEQT hmT 2 (fun _ _ _ _ => noL_ok _) hw).drop (M' := []) fun b => .inr rfl

set_option maxRecDepth 100000 in
theorem wp_79 (nm : ByteArray) (ra dec t p : Int) (K : AV → List Blk → Ans) : evFnP Try.prog GT EQT (inl Try.prog GT EQT XT [12] T_fringeref06_Same 400 1) XT noL (fun _ => [1, 2, 3, 4, 11, 47, 48]) 400 7 [.v (.agg [.str nm, .int .i64 ra, .int .i64 dec]), .v (.c (.d (.int .i64 t))), .v (.c (.d (.int .i64 p))), .v (.c (.d (.int .i64 79)))] [] (fun v M => K v (cutAt 2 M)) = progPath ⟨nm, ra, dec⟩ t p 79 (progK K 28 79) := by
  kernel_rfl
theorem cp_79 (nm : ByteArray) (ra dec t p : Int) : (pathE ⟨nm, ra, dec⟩ t p ((79 : Nat) : Int) = 0 → CallsA Try.prog GT gbT 7 [.v (.agg [.str nm, .int .i64 ra, .int .i64 dec]), .v (.c (.d (.int .i64 t))), .v (.c (.d (.int .i64 p))), .v (.c (.d (.int .i64 ((79 : Nat) : Int))))] [] (vSlice 2 79 0) (mSlice 28 2 (pathD ⟨nm, ra, dec⟩ t p 79))) ∧ (pathE ⟨nm, ra, dec⟩ t p ((79 : Nat) : Int) ≠ 0 → CallsA Try.prog GT gbT 7 [.v (.agg [.str nm, .int .i64 ra, .int .i64 dec]), .v (.c (.d (.int .i64 t))), .v (.c (.d (.int .i64 p))), .v (.c (.d (.int .i64 ((79 : Nat) : Int))))] [] (vNil (pathE ⟨nm, ra, dec⟩ t p ((79 : Nat) : Int))) []) := by
  have hw := wp_79 nm ra dec t p (fun v M => some (Res.fin v M))
  rw [prog_path (by omega)] at hw
  refine ⟨fun h => ?_, fun h => ?_⟩
  · rw [h] at hw; exact CallsA.ofEvCutP (fun _ => [1, 2, 3, 4, 11, 47, 48]) (g_fringeref06_Same.inl hEQT hmT (fun f hf => by simp only [List.mem_cons, List.not_mem_nil, or_false] at hf; subst hf; exact (fun args w => Try.call12 args w)) 400 1) hEQT hmT 2 (fun _ _ _ _ => noL_ok _) hw
  · rw [show (pathE ⟨nm, ra, dec⟩ t p ((79 : Nat) : Int) == 0) = false by simpa using h] at hw; exact (CallsA.ofEvCutP (fun _ => [1, 2, 3, 4, 11, 47, 48]) (g_fringeref06_Same.inl hEQT hmT (fun f hf => by simp only [List.mem_cons, List.not_mem_nil, or_false] at hf; subst hf; exact (fun args w => Try.call12 args w)) 400 1) hEQT hmT 2 (fun _ _ _ _ => noL_ok _) hw).drop (M' := []) fun b => .inr rfl

set_option maxRecDepth 100000 in
theorem wp_80 (nm : ByteArray) (ra dec t p : Int) (K : AV → List Blk → Ans) : evFnP Try.prog GT EQT (inl Try.prog GT EQT XT [12] T_fringeref06_Same 400 1) XT noL (fun _ => [1, 2, 3, 4, 11, 47, 48]) 400 7 [.v (.agg [.str nm, .int .i64 ra, .int .i64 dec]), .v (.c (.d (.int .i64 t))), .v (.c (.d (.int .i64 p))), .v (.c (.d (.int .i64 80)))] [] (fun v M => K v (cutAt 2 M)) = progPath ⟨nm, ra, dec⟩ t p 80 (progK K 28 80) := by
  kernel_rfl
theorem cp_80 (nm : ByteArray) (ra dec t p : Int) : (pathE ⟨nm, ra, dec⟩ t p ((80 : Nat) : Int) = 0 → CallsA Try.prog GT gbT 7 [.v (.agg [.str nm, .int .i64 ra, .int .i64 dec]), .v (.c (.d (.int .i64 t))), .v (.c (.d (.int .i64 p))), .v (.c (.d (.int .i64 ((80 : Nat) : Int))))] [] (vSlice 2 80 0) (mSlice 28 2 (pathD ⟨nm, ra, dec⟩ t p 80))) ∧ (pathE ⟨nm, ra, dec⟩ t p ((80 : Nat) : Int) ≠ 0 → CallsA Try.prog GT gbT 7 [.v (.agg [.str nm, .int .i64 ra, .int .i64 dec]), .v (.c (.d (.int .i64 t))), .v (.c (.d (.int .i64 p))), .v (.c (.d (.int .i64 ((80 : Nat) : Int))))] [] (vNil (pathE ⟨nm, ra, dec⟩ t p ((80 : Nat) : Int))) []) := by
  have hw := wp_80 nm ra dec t p (fun v M => some (Res.fin v M))
  rw [prog_path (by omega)] at hw
  refine ⟨fun h => ?_, fun h => ?_⟩
  · rw [h] at hw; exact CallsA.ofEvCutP (fun _ => [1, 2, 3, 4, 11, 47, 48]) (g_fringeref06_Same.inl hEQT hmT (fun f hf => by simp only [List.mem_cons, List.not_mem_nil, or_false] at hf; subst hf; exact (fun args w => Try.call12 args w)) 400 1) hEQT hmT 2 (fun _ _ _ _ => noL_ok _) hw
  · rw [show (pathE ⟨nm, ra, dec⟩ t p ((80 : Nat) : Int) == 0) = false by simpa using h] at hw; exact (CallsA.ofEvCutP (fun _ => [1, 2, 3, 4, 11, 47, 48]) (g_fringeref06_Same.inl hEQT hmT (fun f hf => by simp only [List.mem_cons, List.not_mem_nil, or_false] at hf; subst hf; exact (fun args w => Try.call12 args w)) 400 1) hEQT hmT 2 (fun _ _ _ _ => noL_ok _) hw).drop (M' := []) fun b => .inr rfl

set_option maxRecDepth 100000 in
theorem wp_81 (nm : ByteArray) (ra dec t p : Int) (K : AV → List Blk → Ans) : evFnP Try.prog GT EQT (inl Try.prog GT EQT XT [12] T_fringeref06_Same 400 1) XT noL (fun _ => [1, 2, 3, 4, 11, 47, 48]) 400 7 [.v (.agg [.str nm, .int .i64 ra, .int .i64 dec]), .v (.c (.d (.int .i64 t))), .v (.c (.d (.int .i64 p))), .v (.c (.d (.int .i64 81)))] [] (fun v M => K v (cutAt 2 M)) = progPath ⟨nm, ra, dec⟩ t p 81 (progK K 28 81) := by
  kernel_rfl
theorem cp_81 (nm : ByteArray) (ra dec t p : Int) : (pathE ⟨nm, ra, dec⟩ t p ((81 : Nat) : Int) = 0 → CallsA Try.prog GT gbT 7 [.v (.agg [.str nm, .int .i64 ra, .int .i64 dec]), .v (.c (.d (.int .i64 t))), .v (.c (.d (.int .i64 p))), .v (.c (.d (.int .i64 ((81 : Nat) : Int))))] [] (vSlice 2 81 0) (mSlice 28 2 (pathD ⟨nm, ra, dec⟩ t p 81))) ∧ (pathE ⟨nm, ra, dec⟩ t p ((81 : Nat) : Int) ≠ 0 → CallsA Try.prog GT gbT 7 [.v (.agg [.str nm, .int .i64 ra, .int .i64 dec]), .v (.c (.d (.int .i64 t))), .v (.c (.d (.int .i64 p))), .v (.c (.d (.int .i64 ((81 : Nat) : Int))))] [] (vNil (pathE ⟨nm, ra, dec⟩ t p ((81 : Nat) : Int))) []) := by
  have hw := wp_81 nm ra dec t p (fun v M => some (Res.fin v M))
  rw [prog_path (by omega)] at hw
  refine ⟨fun h => ?_, fun h => ?_⟩
  · rw [h] at hw; exact CallsA.ofEvCutP (fun _ => [1, 2, 3, 4, 11, 47, 48]) (g_fringeref06_Same.inl hEQT hmT (fun f hf => by simp only [List.mem_cons, List.not_mem_nil, or_false] at hf; subst hf; exact (fun args w => Try.call12 args w)) 400 1) hEQT hmT 2 (fun _ _ _ _ => noL_ok _) hw
  · rw [show (pathE ⟨nm, ra, dec⟩ t p ((81 : Nat) : Int) == 0) = false by simpa using h] at hw; exact (CallsA.ofEvCutP (fun _ => [1, 2, 3, 4, 11, 47, 48]) (g_fringeref06_Same.inl hEQT hmT (fun f hf => by simp only [List.mem_cons, List.not_mem_nil, or_false] at hf; subst hf; exact (fun args w => Try.call12 args w)) 400 1) hEQT hmT 2 (fun _ _ _ _ => noL_ok _) hw).drop (M' := []) fun b => .inr rfl

set_option maxRecDepth 100000 in
theorem wp_82 (nm : ByteArray) (ra dec t p : Int) (K : AV → List Blk → Ans) : evFnP Try.prog GT EQT (inl Try.prog GT EQT XT [12] T_fringeref06_Same 400 1) XT noL (fun _ => [1, 2, 3, 4, 11, 47, 48]) 400 7 [.v (.agg [.str nm, .int .i64 ra, .int .i64 dec]), .v (.c (.d (.int .i64 t))), .v (.c (.d (.int .i64 p))), .v (.c (.d (.int .i64 82)))] [] (fun v M => K v (cutAt 2 M)) = progPath ⟨nm, ra, dec⟩ t p 82 (progK K 28 82) := by
  kernel_rfl
theorem cp_82 (nm : ByteArray) (ra dec t p : Int) : (pathE ⟨nm, ra, dec⟩ t p ((82 : Nat) : Int) = 0 → CallsA Try.prog GT gbT 7 [.v (.agg [.str nm, .int .i64 ra, .int .i64 dec]), .v (.c (.d (.int .i64 t))), .v (.c (.d (.int .i64 p))), .v (.c (.d (.int .i64 ((82 : Nat) : Int))))] [] (vSlice 2 82 0) (mSlice 28 2 (pathD ⟨nm, ra, dec⟩ t p 82))) ∧ (pathE ⟨nm, ra, dec⟩ t p ((82 : Nat) : Int) ≠ 0 → CallsA Try.prog GT gbT 7 [.v (.agg [.str nm, .int .i64 ra, .int .i64 dec]), .v (.c (.d (.int .i64 t))), .v (.c (.d (.int .i64 p))), .v (.c (.d (.int .i64 ((82 : Nat) : Int))))] [] (vNil (pathE ⟨nm, ra, dec⟩ t p ((82 : Nat) : Int))) []) := by
  have hw := wp_82 nm ra dec t p (fun v M => some (Res.fin v M))
  rw [prog_path (by omega)] at hw
  refine ⟨fun h => ?_, fun h => ?_⟩
  · rw [h] at hw; exact CallsA.ofEvCutP (fun _ => [1, 2, 3, 4, 11, 47, 48]) (g_fringeref06_Same.inl hEQT hmT (fun f hf => by simp only [List.mem_cons, List.not_mem_nil, or_false] at hf; subst hf; exact (fun args w => Try.call12 args w)) 400 1) hEQT hmT 2 (fun _ _ _ _ => noL_ok _) hw
  · rw [show (pathE ⟨nm, ra, dec⟩ t p ((82 : Nat) : Int) == 0) = false by simpa using h] at hw; exact (CallsA.ofEvCutP (fun _ => [1, 2, 3, 4, 11, 47, 48]) (g_fringeref06_Same.inl hEQT hmT (fun f hf => by simp only [List.mem_cons, List.not_mem_nil, or_false] at hf; subst hf; exact (fun args w => Try.call12 args w)) 400 1) hEQT hmT 2 (fun _ _ _ _ => noL_ok _) hw).drop (M' := []) fun b => .inr rfl

set_option maxRecDepth 100000 in
theorem wp_83 (nm : ByteArray) (ra dec t p : Int) (K : AV → List Blk → Ans) : evFnP Try.prog GT EQT (inl Try.prog GT EQT XT [12] T_fringeref06_Same 400 1) XT noL (fun _ => [1, 2, 3, 4, 11, 47, 48]) 400 7 [.v (.agg [.str nm, .int .i64 ra, .int .i64 dec]), .v (.c (.d (.int .i64 t))), .v (.c (.d (.int .i64 p))), .v (.c (.d (.int .i64 83)))] [] (fun v M => K v (cutAt 2 M)) = progPath ⟨nm, ra, dec⟩ t p 83 (progK K 28 83) := by
  kernel_rfl
theorem cp_83 (nm : ByteArray) (ra dec t p : Int) : (pathE ⟨nm, ra, dec⟩ t p ((83 : Nat) : Int) = 0 → CallsA Try.prog GT gbT 7 [.v (.agg [.str nm, .int .i64 ra, .int .i64 dec]), .v (.c (.d (.int .i64 t))), .v (.c (.d (.int .i64 p))), .v (.c (.d (.int .i64 ((83 : Nat) : Int))))] [] (vSlice 2 83 0) (mSlice 28 2 (pathD ⟨nm, ra, dec⟩ t p 83))) ∧ (pathE ⟨nm, ra, dec⟩ t p ((83 : Nat) : Int) ≠ 0 → CallsA Try.prog GT gbT 7 [.v (.agg [.str nm, .int .i64 ra, .int .i64 dec]), .v (.c (.d (.int .i64 t))), .v (.c (.d (.int .i64 p))), .v (.c (.d (.int .i64 ((83 : Nat) : Int))))] [] (vNil (pathE ⟨nm, ra, dec⟩ t p ((83 : Nat) : Int))) []) := by
  have hw := wp_83 nm ra dec t p (fun v M => some (Res.fin v M))
  rw [prog_path (by omega)] at hw
  refine ⟨fun h => ?_, fun h => ?_⟩
  · rw [h] at hw; exact CallsA.ofEvCutP (fun _ => [1, 2, 3, 4, 11, 47, 48]) (g_fringeref06_Same.inl hEQT hmT (fun f hf => by simp only [List.mem_cons, List.not_mem_nil, or_false] at hf; subst hf; exact (fun args w => Try.call12 args w)) 400 1) hEQT hmT 2 (fun _ _ _ _ => noL_ok _) hw
  · rw [show (pathE ⟨nm, ra, dec⟩ t p ((83 : Nat) : Int) == 0) = false by simpa using h] at hw; exact (CallsA.ofEvCutP (fun _ => [1, 2, 3, 4, 11, 47, 48]) (g_fringeref06_Same.inl hEQT hmT (fun f hf => by simp only [List.mem_cons, List.not_mem_nil, or_false] at hf; subst hf; exact (fun args w => Try.call12 args w)) 400 1) hEQT hmT 2 (fun _ _ _ _ => noL_ok _) hw).drop (M' := []) fun b => .inr rfl

set_option maxRecDepth 100000 in
theorem wp_84 (nm : ByteArray) (ra dec t p : Int) (K : AV → List Blk → Ans) : evFnP Try.prog GT EQT (inl Try.prog GT EQT XT [12] T_fringeref06_Same 400 1) XT noL (fun _ => [1, 2, 3, 4, 11, 47, 48]) 400 7 [.v (.agg [.str nm, .int .i64 ra, .int .i64 dec]), .v (.c (.d (.int .i64 t))), .v (.c (.d (.int .i64 p))), .v (.c (.d (.int .i64 84)))] [] (fun v M => K v (cutAt 2 M)) = progPath ⟨nm, ra, dec⟩ t p 84 (progK K 28 84) := by
  kernel_rfl
theorem cp_84 (nm : ByteArray) (ra dec t p : Int) : (pathE ⟨nm, ra, dec⟩ t p ((84 : Nat) : Int) = 0 → CallsA Try.prog GT gbT 7 [.v (.agg [.str nm, .int .i64 ra, .int .i64 dec]), .v (.c (.d (.int .i64 t))), .v (.c (.d (.int .i64 p))), .v (.c (.d (.int .i64 ((84 : Nat) : Int))))] [] (vSlice 2 84 0) (mSlice 28 2 (pathD ⟨nm, ra, dec⟩ t p 84))) ∧ (pathE ⟨nm, ra, dec⟩ t p ((84 : Nat) : Int) ≠ 0 → CallsA Try.prog GT gbT 7 [.v (.agg [.str nm, .int .i64 ra, .int .i64 dec]), .v (.c (.d (.int .i64 t))), .v (.c (.d (.int .i64 p))), .v (.c (.d (.int .i64 ((84 : Nat) : Int))))] [] (vNil (pathE ⟨nm, ra, dec⟩ t p ((84 : Nat) : Int))) []) := by
  have hw := wp_84 nm ra dec t p (fun v M => some (Res.fin v M))
  rw [prog_path (by omega)] at hw
  refine ⟨fun h => ?_, fun h => ?_⟩
  · rw [h] at hw; exact CallsA.ofEvCutP (fun _ => [1, 2, 3, 4, 11, 47, 48]) (g_fringeref06_Same.inl hEQT hmT (fun f hf => by simp only [List.mem_cons, List.not_mem_nil, or_false] at hf; subst hf; exact (fun args w => Try.call12 args w)) 400 1) hEQT hmT 2 (fun _ _ _ _ => noL_ok _) hw
  · rw [show (pathE ⟨nm, ra, dec⟩ t p ((84 : Nat) : Int) == 0) = false by simpa using h] at hw; exact (CallsA.ofEvCutP (fun _ => [1, 2, 3, 4, 11, 47, 48]) (g_fringeref06_Same.inl hEQT hmT (fun f hf => by simp only [List.mem_cons, List.not_mem_nil, or_false] at hf; subst hf; exact (fun args w => Try.call12 args w)) 400 1) hEQT hmT 2 (fun _ _ _ _ => noL_ok _) hw).drop (M' := []) fun b => .inr rfl

set_option maxRecDepth 100000 in
theorem wp_85 (nm : ByteArray) (ra dec t p : Int) (K : AV → List Blk → Ans) : evFnP Try.prog GT EQT (inl Try.prog GT EQT XT [12] T_fringeref06_Same 400 1) XT noL (fun _ => [1, 2, 3, 4, 11, 47, 48]) 400 7 [.v (.agg [.str nm, .int .i64 ra, .int .i64 dec]), .v (.c (.d (.int .i64 t))), .v (.c (.d (.int .i64 p))), .v (.c (.d (.int .i64 85)))] [] (fun v M => K v (cutAt 2 M)) = progPath ⟨nm, ra, dec⟩ t p 85 (progK K 28 85) := by
  kernel_rfl
theorem cp_85 (nm : ByteArray) (ra dec t p : Int) : (pathE ⟨nm, ra, dec⟩ t p ((85 : Nat) : Int) = 0 → CallsA Try.prog GT gbT 7 [.v (.agg [.str nm, .int .i64 ra, .int .i64 dec]), .v (.c (.d (.int .i64 t))), .v (.c (.d (.int .i64 p))), .v (.c (.d (.int .i64 ((85 : Nat) : Int))))] [] (vSlice 2 85 0) (mSlice 28 2 (pathD ⟨nm, ra, dec⟩ t p 85))) ∧ (pathE ⟨nm, ra, dec⟩ t p ((85 : Nat) : Int) ≠ 0 → CallsA Try.prog GT gbT 7 [.v (.agg [.str nm, .int .i64 ra, .int .i64 dec]), .v (.c (.d (.int .i64 t))), .v (.c (.d (.int .i64 p))), .v (.c (.d (.int .i64 ((85 : Nat) : Int))))] [] (vNil (pathE ⟨nm, ra, dec⟩ t p ((85 : Nat) : Int))) []) := by
  have hw := wp_85 nm ra dec t p (fun v M => some (Res.fin v M))
  rw [prog_path (by omega)] at hw
  refine ⟨fun h => ?_, fun h => ?_⟩
  · rw [h] at hw; exact CallsA.ofEvCutP (fun _ => [1, 2, 3, 4, 11, 47, 48]) (g_fringeref06_Same.inl hEQT hmT (fun f hf => by simp only [List.mem_cons, List.not_mem_nil, or_false] at hf; subst hf; exact (fun args w => Try.call12 args w)) 400 1) hEQT hmT 2 (fun _ _ _ _ => noL_ok _) hw
  · rw [show (pathE ⟨nm, ra, dec⟩ t p ((85 : Nat) : Int) == 0) = false by simpa using h] at hw; exact (CallsA.ofEvCutP (fun _ => [1, 2, 3, 4, 11, 47, 48]) (g_fringeref06_Same.inl hEQT hmT (fun f hf => by simp only [List.mem_cons, List.not_mem_nil, or_false] at hf; subst hf; exact (fun args w => Try.call12 args w)) 400 1) hEQT hmT 2 (fun _ _ _ _ => noL_ok _) hw).drop (M' := []) fun b => .inr rfl

set_option maxRecDepth 100000 in
theorem wp_86 (nm : ByteArray) (ra dec t p : Int) (K : AV → List Blk → Ans) : evFnP Try.prog GT EQT (inl Try.prog GT EQT XT [12] T_fringeref06_Same 400 1) XT noL (fun _ => [1, 2, 3, 4, 11, 47, 48]) 400 7 [.v (.agg [.str nm, .int .i64 ra, .int .i64 dec]), .v (.c (.d (.int .i64 t))), .v (.c (.d (.int .i64 p))), .v (.c (.d (.int .i64 86)))] [] (fun v M => K v (cutAt 2 M)) = progPath ⟨nm, ra, dec⟩ t p 86 (progK K 28 86) := by
  kernel_rfl
theorem cp_86 (nm : ByteArray) (ra dec t p : Int) : (pathE ⟨nm, ra, dec⟩ t p ((86 : Nat) : Int) = 0 → CallsA Try.prog GT gbT 7 [.v (.agg [.str nm, .int .i64 ra, .int .i64 dec]), .v (.c (.d (.int .i64 t))), .v (.c (.d (.int .i64 p))), .v (.c (.d (.int .i64 ((86 : Nat) : Int))))] [] (vSlice 2 86 0) (mSlice 28 2 (pathD ⟨nm, ra, dec⟩ t p 86))) ∧ (pathE ⟨nm, ra, dec⟩ t p ((86 : Nat) : Int) ≠ 0 → CallsA Try.prog GT gbT 7 [.v (.agg [.str nm, .int .i64 ra, .int .i64 dec]), .v (.c (.d (.int .i64 t))), .v (.c (.d (.int .i64 p))), .v (.c (.d (.int .i64 ((86 : Nat) : Int))))] [] (vNil (pathE ⟨nm, ra, dec⟩ t p ((86 : Nat) : Int))) []) := by
  have hw := wp_86 nm ra dec t p (fun v M => some (Res.fin v M))
  rw [prog_path (by omega)] at hw
  refine ⟨fun h => ?_, fun h => ?_⟩
  · rw [h] at hw; exact CallsA.ofEvCutP (fun _ => [1, 2, 3, 4, 11, 47, 48]) (g_fringeref06_Same.inl hEQT hmT (fun f hf => by simp only [List.mem_cons, List.not_mem_nil, or_false] at hf; subst hf; exact (fun args w => Try.call12 args w)) 400 1) hEQT hmT 2 (fun _ _ _ _ => noL_ok _) hw
  · rw [show (pathE ⟨nm, ra, dec⟩ t p ((86 : Nat) : Int) == 0) = false by simpa using h] at hw; exact (CallsA.ofEvCutP (fun _ => [1, 2, 3, 4, 11, 47, 48]) (g_fringeref06_Same.inl hEQT hmT (fun f hf => by simp only [List.mem_cons, List.not_mem_nil, or_false] at hf; subst hf; exact (fun args w => Try.call12 args w)) 400 1) hEQT hmT 2 (fun _ _ _ _ => noL_ok _) hw).drop (M' := []) fun b => .inr rfl

set_option maxRecDepth 100000 in
theorem wp_87 (nm : ByteArray) (ra dec t p : Int) (K : AV → List Blk → Ans) : evFnP Try.prog GT EQT (inl Try.prog GT EQT XT [12] T_fringeref06_Same 400 1) XT noL (fun _ => [1, 2, 3, 4, 11, 47, 48]) 400 7 [.v (.agg [.str nm, .int .i64 ra, .int .i64 dec]), .v (.c (.d (.int .i64 t))), .v (.c (.d (.int .i64 p))), .v (.c (.d (.int .i64 87)))] [] (fun v M => K v (cutAt 2 M)) = progPath ⟨nm, ra, dec⟩ t p 87 (progK K 28 87) := by
  kernel_rfl
theorem cp_87 (nm : ByteArray) (ra dec t p : Int) : (pathE ⟨nm, ra, dec⟩ t p ((87 : Nat) : Int) = 0 → CallsA Try.prog GT gbT 7 [.v (.agg [.str nm, .int .i64 ra, .int .i64 dec]), .v (.c (.d (.int .i64 t))), .v (.c (.d (.int .i64 p))), .v (.c (.d (.int .i64 ((87 : Nat) : Int))))] [] (vSlice 2 87 0) (mSlice 28 2 (pathD ⟨nm, ra, dec⟩ t p 87))) ∧ (pathE ⟨nm, ra, dec⟩ t p ((87 : Nat) : Int) ≠ 0 → CallsA Try.prog GT gbT 7 [.v (.agg [.str nm, .int .i64 ra, .int .i64 dec]), .v (.c (.d (.int .i64 t))), .v (.c (.d (.int .i64 p))), .v (.c (.d (.int .i64 ((87 : Nat) : Int))))] [] (vNil (pathE ⟨nm, ra, dec⟩ t p ((87 : Nat) : Int))) []) := by
  have hw := wp_87 nm ra dec t p (fun v M => some (Res.fin v M))
  rw [prog_path (by omega)] at hw
  refine ⟨fun h => ?_, fun h => ?_⟩
  · rw [h] at hw; exact CallsA.ofEvCutP (fun _ => [1, 2, 3, 4, 11, 47, 48]) (g_fringeref06_Same.inl hEQT hmT (fun f hf => by simp only [List.mem_cons, List.not_mem_nil, or_false] at hf; subst hf; exact (fun args w => Try.call12 args w)) 400 1) hEQT hmT 2 (fun _ _ _ _ => noL_ok _) hw
  · rw [show (pathE ⟨nm, ra, dec⟩ t p ((87 : Nat) : Int) == 0) = false by simpa using h] at hw; exact (CallsA.ofEvCutP (fun _ => [1, 2, 3, 4, 11, 47, 48]) (g_fringeref06_Same.inl hEQT hmT (fun f hf => by simp only [List.mem_cons, List.not_mem_nil, or_false] at hf; subst hf; exact (fun args w => Try.call12 args w)) 400 1) hEQT hmT 2 (fun _ _ _ _ => noL_ok _) hw).drop (M' := []) fun b => .inr rfl

end Go.Ev
