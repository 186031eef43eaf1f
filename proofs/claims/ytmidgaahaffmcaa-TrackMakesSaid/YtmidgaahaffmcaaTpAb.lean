/-
  TrackMakes, value by value of the length of a path. No condition beyond those of the statements.
-/
import Derived.Test.YtmidgaahaffmcaaTxCA
namespace Go.Ev
open Go Go.Proofs

set_option maxRecDepth 100000 in
theorem wp_55 (nm : ByteArray) (ra dec t p : Int) (K : AV → List Blk → Ans) : evFnP Try.prog GT EQT (inl Try.prog GT EQT XT [12] T_fringeref06_Same 400 1) XT noL (fun _ => [1, 2, 3, 4, 11, 47, 48]) 400 7 [.v (.agg [.str nm, .int .i64 ra, .int .i64 dec]), .v (.c (.d (.int .i64 t))), .v (.c (.d (.int .i64 p))), .v (.c (.d (.int .i64 55)))] [] (fun v M => K v (cutAt 2 M)) = progPath ⟨nm, ra, dec⟩ t p 55 (progK K 28 55) := by
  kernel_rfl
theorem cp_55 (nm : ByteArray) (ra dec t p : Int) : (pathE ⟨nm, ra, dec⟩ t p ((55 : Nat) : Int) = 0 → CallsA Try.prog GT gbT 7 [.v (.agg [.str nm, .int .i64 ra, .int .i64 dec]), .v (.c (.d (.int .i64 t))), .v (.c (.d (.int .i64 p))), .v (.c (.d (.int .i64 ((55 : Nat) : Int))))] [] (vSlice 2 55 0) (mSlice 28 2 (pathD ⟨nm, ra, dec⟩ t p 55))) ∧ (pathE ⟨nm, ra, dec⟩ t p ((55 : Nat) : Int) ≠ 0 → CallsA Try.prog GT gbT 7 [.v (.agg [.str nm, .int .i64 ra, .int .i64 dec]), .v (.c (.d (.int .i64 t))), .v (.c (.d (.int .i64 p))), .v (.c (.d (.int .i64 ((55 : Nat) : Int))))] [] (vNil (pathE ⟨nm, ra, dec⟩ t p ((55 : Nat) : Int))) []) := by
  have hw := wp_55 nm ra dec t p (fun v M => some (Res.fin v M))
  rw [prog_path (by omega)] at hw
  refine ⟨fun h => ?_, fun h => ?_⟩
  · rw [h] at hw; exact CallsA.ofEvCutP (fun _ => [1, 2, 3, 4, 11, 47, 48]) (g_fringeref06_Same.inl hEQT hmT (fun f hf => by simp only [List.mem_cons, List.not_mem_nil, or_false] at hf; subst hf; exact (fun args w => Try.call12 args w)) 400 1) hEQT hmT 2 (fun _ _ _ _ => noL_ok _) hw
  · rw [show (pathE ⟨nm, ra, dec⟩ t p ((55 : Nat) : Int) == 0) = false by simpa using h] at hw; exact (CallsA.ofEvCutP (fun _ => [1, 2, 3, 4, 11, 47, 48]) (g_fringeref06_Same.inl hEQT hmT (fun f hf => by simp only [List.mem_cons, List.not_mem_nil, or_false] at hf; subst hf; exact (fun args w => Try.call12 args w)) 400 1) hEQT hmT 2 (fun _ _ _ _ => noL_ok _) hw).drop (M' := []) fun b => .inr rfl

set_option maxRecDepth 100000 in
theorem wp_56 (nm : ByteArray) (ra dec t p : Int) (K : AV → List Blk → Ans) : evFnP Try.prog GT EQT (inl Try.prog GT EQT XT [12] T_fringeref06_Same 400 1) XT noL (fun _ => [1, 2, 3, 4, 11, 47, 48]) 400 7 [.v (.agg [.str nm, .int .i64 ra, .int .i64 dec]), .v (.c (.d (.int .i64 t))), .v (.c (.d (.int .i64 p))), .v (.c (.d (.int .i64 56)))] [] (fun v M => K v (cutAt 2 M)) = progPath ⟨nm, ra, dec⟩ t p 56 (progK K 28 56) := by
  kernel_rfl
theorem cp_56 (nm : ByteArray) (ra dec t p : Int) : (pathE ⟨nm, ra, dec⟩ t p ((56 : Nat) : Int) = 0 → CallsA Try.prog GT gbT 7 [.v (.agg [.str nm, .int .i64 ra, .int .i64 dec]), .v (.c (.d (.int .i64 t))), .v (.c (.d (.int .i64 p))), .v (.c (.d (.int .i64 ((56 : Nat) : Int))))] [] (vSlice 2 56 0) (mSlice 28 2 (pathD ⟨nm, ra, dec⟩ t p 56))) ∧ (pathE ⟨nm, ra, dec⟩ t p ((56 : Nat) : Int) ≠ 0 → CallsA Try.prog GT gbT 7 [.v (.agg [.str nm, .int .i64 ra, .int .i64 dec]), .v (.c (.d (.int .i64 t))), .v (.c (.d (.int .i64 p))), .v (.c (.d (.int .i64 ((56 : Nat) : Int))))] [] (vNil (pathE ⟨nm, ra, dec⟩ t p ((56 : Nat) : Int))) []) := by
  have hw := wp_56 nm ra dec t p (fun v M => some (Res.fin v M))
  rw [prog_path (by omega)] at hw
  refine ⟨fun h => ?_, fun h => ?_⟩
  · rw [h] at hw; exact CallsA.ofEvCutP (fun _ => [1, 2, 3, 4, 11, 47, 48]) (g_fringeref06_Same.inl hEQT hmT (fun f hf => by simp only [List.mem_cons, List.not_mem_nil, or_false] at hf; subst hf; exact (fun args w => Try.call12 args w)) 400 1) hEQT hmT 2 (fun _ _ _ _ => noL_ok _) hw
  · rw [show (pathE ⟨nm, ra, dec⟩ t p ((56 : Nat) : Int) == 0) = false by simpa using h] at hw; exact (CallsA.ofEvCutP (fun _ => [1, 2, 3, 4, 11, 47, 48]) (g_fringeref06_Same.inl hEQT hmT (fun f hf => by simp only [List.mem_cons, List.not_mem_nil, or_false] at hf; subst hf; exact (fun args w => Try.call12 args w)) 400 1) hEQT hmT 2 (fun _ _ _ _ => noL_ok _) hw).drop (M' := []) fun b => .inr rfl

set_option maxRecDepth 100000 in
theorem wp_57 (nm : ByteArray) (ra dec t p : Int) (K : AV → List Blk → Ans) : evFnP Try.prog GT EQT (inl Try.prog GT EQT XT [12] T_fringeref06_Same 400 1) XT noL (fun _ => [1, 2, 3, 4, 11, 47, 48]) 400 7 [.v (.agg [.str nm, .int .i64 ra, .int .i64 dec]), .v (.c (.d (.int .i64 t))), .v (.c (.d (.int .i64 p))), .v (.c (.d (.int .i64 57)))] [] (fun v M => K v (cutAt 2 M)) = progPath ⟨nm, ra, dec⟩ t p 57 (progK K 28 57) := by
  kernel_rfl
theorem cp_57 (nm : ByteArray) (ra dec t p : Int) : (pathE ⟨nm, ra, dec⟩ t p ((57 : Nat) : Int) = 0 → CallsA Try.prog GT gbT 7 [.v (.agg [.str nm, .int .i64 ra, .int .i64 dec]), .v (.c (.d (.int .i64 t))), .v (.c (.d (.int .i64 p))), .v (.c (.d (.int .i64 ((57 : Nat) : Int))))] [] (vSlice 2 57 0) (mSlice 28 2 (pathD ⟨nm, ra, dec⟩ t p 57))) ∧ (pathE ⟨nm, ra, dec⟩ t p ((57 : Nat) : Int) ≠ 0 → CallsA Try.prog GT gbT 7 [.v (.agg [.str nm, .int .i64 ra, .int .i64 dec]), .v (.c (.d (.int .i64 t))), .v (.c (.d (.int .i64 p))), .v (.c (.d (.int .i64 ((57 : Nat) : Int))))] [] (vNil (pathE ⟨nm, ra, dec⟩ t p ((57 : Nat) : Int))) []) := by
  have hw := wp_57 nm ra dec t p (fun v M => some (Res.fin v M))
  rw [prog_path (by omega)] at hw
  refine ⟨fun h => ?_, fun h => ?_⟩
  · rw [h] at hw; exact CallsA.ofEvCutP (fun _ => [1, 2, 3, 4, 11, 47, 48]) (g_fringeref06_Same.inl hEQT hmT (fun f hf => by simp only [List.mem_cons, List.not_mem_nil, or_false] at hf; subst hf; exact (fun args w => Try.call12 args w)) 400 1) hEQT hmT 2 (fun _ _ _ _ => noL_ok _) hw
  · rw [show (pathE ⟨nm, ra, dec⟩ t p ((57 : Nat) : Int) == 0) = false by simpa using h] at hw; exact (CallsA.ofEvCutP (fun _ => [1, 2, 3, 4, 11, 47, 48]) (g_fringeref06_Same.inl hEQT hmT (fun f hf => by simp only [List.mem_cons, List.not_mem_nil, or_false] at hf; subst hf; exact (fun args w => Try.call12 args w)) 400 1) hEQT hmT 2 (fun _ _ _ _ => noL_ok _) hw).drop (M' := []) fun b => .inr rfl

set_option maxRecDepth 100000 in
theorem wp_58 (nm : ByteArray) (ra dec t p : Int) (K : AV → List Blk → Ans) : evFnP Try.prog GT EQT (inl Try.prog GT EQT XT [12] T_fringeref06_Same 400 1) XT noL (fun _ => [1, 2, 3, 4, 11, 47, 48]) 400 7 [.v (.agg [.str nm, .int .i64 ra, .int .i64 dec]), .v (.c (.d (.int .i64 t))), .v (.c (.d (.int .i64 p))), .v (.c (.d (.int .i64 58)))] [] (fun v M => K v (cutAt 2 M)) = progPath ⟨nm, ra, dec⟩ t p 58 (progK K 28 58) := by
  kernel_rfl
theorem cp_58 (nm : ByteArray) (ra dec t p : Int) : (pathE ⟨nm, ra, dec⟩ t p ((58 : Nat) : Int) = 0 → CallsA Try.prog GT gbT 7 [.v (.agg [.str nm, .int .i64 ra, .int .i64 dec]), .v (.c (.d (.int .i64 t))), .v (.c (.d (.int .i64 p))), .v (.c (.d (.int .i64 ((58 : Nat) : Int))))] [] (vSlice 2 58 0) (mSlice 28 2 (pathD ⟨nm, ra, dec⟩ t p 58))) ∧ (pathE ⟨nm, ra, dec⟩ t p ((58 : Nat) : Int) ≠ 0 → CallsA Try.prog GT gbT 7 [.v (.agg [.str nm, .int .i64 ra, .int .i64 dec]), .v (.c (.d (.int .i64 t))), .v (.c (.d (.int .i64 p))), .v (.c (.d (.int .i64 ((58 : Nat) : Int))))] [] (vNil (pathE ⟨nm, ra, dec⟩ t p ((58 : Nat) : Int))) []) := by
  have hw := wp_58 nm ra dec t p (fun v M => some (Res.fin v M))
  rw [prog_path (by omega)] at hw
  refine ⟨fun h => ?_, fun h => ?_⟩
  · rw [h] at hw; exact CallsA.ofEvCutP (fun _ => [1, 2, 3, 4, 11, 47, 48]) (g_fringeref06_Same.inl hEQT hmT (fun f hf => by simp only [List.mem_cons, List.not_mem_nil, or_false] at hf; subst hf; exact (fun args w => Try.call12 args w)) 400 1) hEQT hmT 2 (fun _ _ _ _ => noL_ok _) hw
  · rw [show (pathE ⟨nm, ra, dec⟩ t p ((58 : Nat) : Int) == 0) = false by simpa using h] at hw; exact (CallsA.ofEvCutP (fun _ => [1, 2, 3, 4, 11, 47, 48]) (g_fringeref06_Same.inl hEQT hmT (fun f hf => by simp only [List.mem_cons, List.not_mem_nil, or_false] at hf; subst hf; exact (fun args w => Try.call12 args w)) 400 1) hEQT hmT 2 (fun _ _ _ _ => noL_ok _) hw).drop (M' := []) fun b => .inr rfl

set_option maxRecDepth 100000 in
theorem wp_59 (nm : ByteArray) (ra dec t p : Int) (K : AV → List Blk → Ans) : evFnP Try.prog GT EQT (inl Try.prog GT EQT XT [12] T_fringeref06_Same 400 1) XT noL (fun _ => [1, 2, 3, 4, 11, 47, 48]) 400 7 [.v (.agg [.str nm, .int .i64 ra, .int .i64 dec]), .v (.c (.d (.int .i64 t))), .v (.c (.d (.int .i64 p))), .v (.c (.d (.int .i64 59)))] [] (fun v M => K v (cutAt 2 M)) = progPath ⟨nm, ra, dec⟩ t p 59 (progK K 28 59) := by
  kernel_rfl
theorem cp_59 (nm : ByteArray) (ra dec t p : Int) : (pathE ⟨nm, ra, dec⟩ t p ((59 : Nat) : Int) = 0 → CallsA Try.prog GT gbT 7 [.v (.agg [.str nm, .int .i64 ra, .int .i64 dec]), .v (.c (.d (.int .i64 t))), .v (.c (.d (.int .i64 p))), .v (.c (.d (.int .i64 ((59 : Nat) : Int))))] [] (vSlice 2 59 0) (mSlice 28 2 (pathD ⟨nm, ra, dec⟩ t p 59))) ∧ (pathE ⟨nm, ra, dec⟩ t p ((59 : Nat) : Int) ≠ 0 → CallsA Try.prog GT gbT 7 [.v (.agg [.str nm, .int .i64 ra, .int .i64 dec]), .v (.c (.d (.int .i64 t))), .v (.c (.d (.int .i64 p))), .v (.c (.d (.int .i64 ((59 : Nat) : Int))))] [] (vNil (pathE ⟨nm, ra, dec⟩ t p ((59 : Nat) : Int))) []) := by
  have hw := wp_59 nm ra dec t p (fun v M => some (Res.fin v M))
  rw [prog_path (by omega)] at hw
  refine ⟨fun h => ?_, fun h => ?_⟩
  · rw [h] at hw; exact CallsA.ofEvCutP (fun _ => [1, 2, 3, 4, 11, 47, 48]) (g_fringeref06_Same.inl hEQT hmT (fun f hf => by simp only [List.mem_cons, List.not_mem_nil, or_false] at hf; subst hf; exact (fun args w => Try.call12 args w)) 400 1) hEQT hmT 2 (fun _ _ _ _ => noL_ok _) hw
  · rw [show (pathE ⟨nm, ra, dec⟩ t p ((59 : Nat) : Int) == 0) = false by simpa using h] at hw; exact (CallsA.ofEvCutP (fun _ => [1, 2, 3, 4, 11, 47, 48]) (g_fringeref06_Same.inl hEQT hmT (fun f hf => by simp only [List.mem_cons, List.not_mem_nil, or_false] at hf; subst hf; exact (fun args w => Try.call12 args w)) 400 1) hEQT hmT 2 (fun _ _ _ _ => noL_ok _) hw).drop (M' := []) fun b => .inr rfl

set_option maxRecDepth 100000 in
theorem wp_60 (nm : ByteArray) (ra dec t p : Int) (K : AV → List Blk → Ans) : evFnP Try.prog GT EQT (inl Try.prog GT EQT XT [12] T_fringeref06_Same 400 1) XT noL (fun _ => [1, 2, 3, 4, 11, 47, 48]) 400 7 [.v (.agg [.str nm, .int .i64 ra, .int .i64 dec]), .v (.c (.d (.int .i64 t))), .v (.c (.d (.int .i64 p))), .v (.c (.d (.int .i64 60)))] [] (fun v M => K v (cutAt 2 M)) = progPath ⟨nm, ra, dec⟩ t p 60 (progK K 28 60) := by
  kernel_rfl
theorem cp_60 (nm : ByteArray) (ra dec t p : Int) : (pathE ⟨nm, ra, dec⟩ t p ((60 : Nat) : Int) = 0 → CallsA Try.prog GT gbT 7 [.v (.agg [.str nm, .int .i64 ra, .int .i64 dec]), .v (.c (.d (.int .i64 t))), .v (.c (.d (.int .i64 p))), .v (.c (.d (.int .i64 ((60 : Nat) : Int))))] [] (vSlice 2 60 0) (mSlice 28 2 (pathD ⟨nm, ra, dec⟩ t p 60))) ∧ (pathE ⟨nm, ra, dec⟩ t p ((60 : Nat) : Int) ≠ 0 → CallsA Try.prog GT gbT 7 [.v (.agg [.str nm, .int .i64 ra, .int .i64 dec]), .v (.c (.d (.int .i64 t))), .v (.c (.d (.int .i64 p))), .v (.c (.d (.int .i64 ((60 : Nat) : Int))))] [] (vNil (pathE ⟨nm, ra, dec⟩ t p ((60 : Nat) : Int))) []) := by
  have hw := wp_60 nm ra dec t p (fun v M => some (Res.fin v M))
  rw [prog_path (by omega)] at hw
  refine ⟨fun h => ?_, fun h => ?_⟩
  · rw [h] at hw; exact CallsA.ofEvCutP (fun _ => [1, 2, 3, 4, 11, 47, 48]) (g_fringeref06_Same.inl hEQT hmT (fun f hf => by simp only [List.mem_cons, List.not_mem_nil, or_false] at hf; subst hf; exact (fun args w => Try.call12 args w)) 400 1) hEQT hmT 2 (fun _ _ _ _ => noL_ok _) hw
  · rw [show (pathE ⟨nm, ra, dec⟩ t p ((60 : Nat) : Int) == 0) = false by simpa using h] at hw; exact (CallsA.ofEvCutP (fun _ => [1, 2, 3, 4, 11, 47, 48]) (g_fringeref06_Same.inl hEQT hmT (fun f hf => by simp only [List.mem_cons, List.not_mem_nil, or_false] at hf; subst hf; exact (fun args w => Try.call12 args w)) 400 1) hEQT hmT 2 (fun _ _ _ _ => noL_ok _) hw).drop (M' := []) fun b => .inr rfl

set_option maxRecDepth 100000 in
theorem wp_61 (nm : ByteArray) (ra dec t p : Int) (K : AV → List Blk → Ans) : evFnP Try.prog GT EQT (inl Try.prog GT EQT XT [12] T_fringeref06_Same 400 1) XT noL (fun _ => [1, 2, 3, 4, 11, 47, 48]) 400 7 [.v (.agg [.str nm, .int .i64 ra, .int .i64 dec]), .v (.c (.d (.int .i64 t))), .v (.c (.d (.int .i64 p))), .v (.c (.d (.int .i64 61)))] [] (fun v M => K v (cutAt 2 M)) = progPath ⟨nm, ra, dec⟩ t p 61 (progK K 28 61) := by
  kernel_rfl
theorem cp_61 (nm : ByteArray) (ra dec t p : Int) : (pathE ⟨nm, ra, dec⟩ t p ((61 : Nat) : Int) = 0 → CallsA Try.prog GT gbT 7 [.v (.agg [.str nm, .int .i64 ra, .int .i64 dec]), .v (.c (.d (.int .i64 t))), .v (.c (.d (.int .i64 p))), .v (.c (.d (.int .i64 ((61 : Nat) : Int))))] [] (vSlice 2 61 0) (mSlice 28 2 (pathD ⟨nm, ra, dec⟩ t p 61))) ∧ (pathE ⟨nm, ra, dec⟩ t p ((61 : Nat) : Int) ≠ 0 → CallsA Try.prog GT gbT 7 [.v (.agg [.str nm, .int .i64 ra, .int .i64 dec]), .v (.c (.d (.int .i64 t))), .v (.c (.d (.int .i64 p))), .v (.c (.d (.int .i64 ((61 : Nat) : Int))))] [] (vNil (pathE ⟨nm, ra, dec⟩ t p ((61 : Nat) : Int))) []) := by
  have hw := wp_61 nm ra dec t p (fun v M => some (Res.fin v M))
  rw [prog_path (by omega)] at hw
  refine ⟨fun h => ?_, fun h => ?_⟩
  · rw [h] at hw; exact CallsA.ofEvCutP (fun _ => [1, 2, 3, 4, 11, 47, 48]) (g_fringeref06_Same.inl hEQT hmT (fun f hf => by simp only [List.mem_cons, List.not_mem_nil, or_false] at hf; subst hf; exact (fun args w => Try.call12 args w)) 400 1) hEQT hmT 2 (fun _ _ _ _ => noL_ok _) hw
  · rw [show (pathE ⟨nm, ra, dec⟩ t p ((61 : Nat) : Int) == 0) = false by simpa using h] at hw; exact (CallsA.ofEvCutP (fun _ => [1, 2, 3, 4, 11, 47, 48]) (g_fringeref06_Same.inl hEQT hmT (fun f hf => by simp only [List.mem_cons, List.not_mem_nil, or_false] at hf; subst hf; exact (fun args w => Try.call12 args w)) 400 1) hEQT hmT 2 (fun _ _ _ _ => noL_ok _) hw).drop (M' := []) fun b => .inr rfl

set_option maxRecDepth 100000 in
theorem wp_62 (nm : ByteArray) (ra dec t p : Int) (K : AV → List Blk → Ans) : evFnP Try.prog GT EQT (inl Try.prog GT EQT XT [12] T_fringeref06_Same 400 1) XT noL (fun _ => [1, 2, 3, 4, 11, 47, 48]) 400 7 [.v (.agg [.str nm, .int .i64 ra, .int .i64 dec]), .v (.c (.d (.int .i64 t))), .v (.c (.d (.int .i64 p))), .v (.c (.d (.int .i64 62)))] [] (fun v M => K v (cutAt 2 M)) = progPath ⟨nm, ra, dec⟩ t p 62 (progK K 28 62) := by
  kernel_rfl
theorem cp_62 (nm : ByteArray) (ra dec t p : Int) : (pathE ⟨nm, ra, dec⟩ t p ((62 : Nat) : Int) = 0 → CallsA Try.prog GT gbT 7 [.v (.agg [.str nm, .int .i64 ra, .int .i64 dec]), .v (.c (.d (.int .i64 t))), .v (.c (.d (.int .i64 p))), .v (.c (.d (.int .i64 ((62 : Nat) : Int))))] [] (vSlice 2 62 0) (mSlice 28 2 (pathD ⟨nm, ra, dec⟩ t p 62))) ∧ (pathE ⟨nm, ra, dec⟩ t p ((62 : Nat) : Int) ≠ 0 → CallsA Try.prog GT gbT 7 [.v (.agg [.str nm, .int .i64 ra, .int .i64 dec]), .v (.c (.d (.int .i64 t))), .v (.c (.d (.int .i64 p))), .v (.c (.d (.int .i64 ((62 : Nat) : Int))))] [] (vNil (pathE ⟨nm, ra, dec⟩ t p ((62 : Nat) : Int))) []) := by
  have hw := wp_62 nm ra dec t p (fun v M => some (Res.fin v M))
  rw [prog_path (by omega)] at hw
  refine ⟨fun h => ?_, fun h => ?_⟩
  · rw [h] at hw; exact CallsA.ofEvCutP (fun _ => [1, 2, 3, 4, 11, 47, 48]) (g_fringeref06_Same.inl hEQT hmT (fun f hf => by simp only [List.mem_cons, List.not_mem_nil, or_false] at hf; subst hf; exact (fun args w => Try.call12 args w)) 400 1) hEQT hmT 2 (fun _ _ _ _ => noL_ok _) hw
  · rw [show (pathE ⟨nm, ra, dec⟩ t p ((62 : Nat) : Int) == 0) = false by simpa using h] at hw; exact (CallsA.ofEvCutP (fun _ => [1, 2, 3, 4, 11, 47, 48]) (g_fringeref06_Same.inl hEQT hmT (fun f hf => by simp only [List.mem_cons, List.not_mem_nil, or_false] at hf; subst hf; exact (fun args w => Try.call12 args w)) 400 1) hEQT hmT 2 (fun _ _ _ _ => noL_ok _) hw).drop (M' := []) fun b => .inr rfl

set_option maxRecDepth 100000 in
theorem wp_63 (nm : ByteArray) (ra dec t p : Int) (K : AV → List Blk → Ans) : evFnP Try.prog GT EQT (inl Try.prog GT EQT XT [12] T_fringeref06_Same 400 1) XT noL (fun _ => [1, 2, 3, 4, 11, 47, 48]) 400 7 [.v (.agg [.str nm, .int .i64 ra, .int .i64 dec]), .v (.c (.d (.int .i64 t))), .v (.c (.d (.int .i64 p))), .v (.c (.d (.int .i64 63)))] [] (fun v M => K v (cutAt 2 M)) = progPath ⟨nm, ra, dec⟩ t p 63 (progK K 28 63) := by
  kernel_rfl
theorem cp_63 (nm : ByteArray) (ra dec t p : Int) : (pathE ⟨nm, ra, dec⟩ t p ((63 : Nat) : Int) = 0 → CallsA Try.prog GT gbT 7 [.v (.agg [.str nm, .int .i64 ra, .int .i64 dec]), .v (.c (.d (.int .i64 t))), .v (.c (.d (.int .i64 p))), .v (.c (.d (.int .i64 ((63 : Nat) : Int))))] [] (vSlice 2 63 0) (mSlice 28 2 (pathD ⟨nm, ra, dec⟩ t p 63))) ∧ (pathE ⟨nm, ra, dec⟩ t p ((63 : Nat) : Int) ≠ 0 → CallsA Try.prog GT gbT 7 [.v (.agg [.str nm, .int .i64 ra, .int .i64 dec]), .v (.c (.d (.int .i64 t))), .v (.c (.d (.int .i64 p))), .v (.c (.d (.int .i64 ((63 : Nat) : Int))))] [] (vNil (pathE ⟨nm, ra, dec⟩ t p ((63 : Nat) : Int))) []) := by
  have hw := wp_63 nm ra dec t p (fun v M => some (Res.fin v M))
  rw [prog_path (by omega)] at hw
  refine ⟨fun h => ?_, fun h => ?_⟩
  · rw [h] at hw; exact CallsA.ofEvCutP (fun _ => [1, 2, 3, 4, 11, 47, 48]) (g_fringeref06_Same.inl hEQT hmT (fun f hf => by simp only [List.mem_cons, List.not_mem_nil, or_false] at hf; subst hf; exact (fun args w => Try.call12 args w)) 400 1) hEQT hmT 2 (fun _ _ _ _ => noL_ok _) hw
  · rw [show (pathE ⟨nm, ra, dec⟩ t p ((63 : Nat) : Int) == 0) = false by simpa using h] at hw; exact (CallsA.ofEvCutP (fun _ => [1, 2, 3, 4, 11, 47, 48]) (g_fringeref06_Same.inl hEQT hmT (fun f hf => by simp only [List.mem_cons, List.not_mem_nil, or_false] at hf; subst hf; exact (fun args w => Try.call12 args w)) 400 1) hEQT hmT 2 (fun _ _ _ _ => noL_ok _) hw).drop (M' := []) fun b => .inr rfl

set_option maxRecDepth 100000 in
theorem wp_64 (nm : ByteArray) (ra dec t p : Int) (K : AV → List Blk → Ans) : evFnP Try.prog GT EQT (inl Try.prog GT EQT XT [12] T_fringeref06_Same 400 1) XT noL (fun _ => [1, 2, 3, 4, 11, 47, 48]) 400 7 [.v (.agg [.str nm, .int .i64 ra, .int .i64 dec]), .v (.c (.d (.int .i64 t))), .v (.c (.d (.int .i64 p))), .v (.c (.d (.int .i64 64)))] [] (fun v M => K v (cutAt 2 M)) = progPath ⟨nm, ra, dec⟩ t p 64 (progK K 28 64) := by
  kernel_rfl
theorem cp_64 (nm : ByteArray) (ra dec t p : Int) : (pathE ⟨nm, ra, dec⟩ t p ((64 : Nat) : Int) = 0 → CallsA Try.prog GT gbT 7 [.v (.agg [.str nm, .int .i64 ra, .int .i64 dec]), .v (.c (.d (.int .i64 t))), .v (.c (.d (.int .i64 p))), .v (.c (.d (.int .i64 ((64 : Nat) : Int))))] [] (vSlice 2 64 0) (mSlice 28 2 (pathD ⟨nm, ra, dec⟩ t p 64))) ∧ (pathE ⟨nm, ra, dec⟩ t p ((64 : Nat) : Int) ≠ 0 → CallsA Try.prog GT gbT 7 [.v (.agg [.str nm, .int .i64 ra, .int .i64 dec]), .v (.c (.d (.int .i64 t))), .v (.c (.d (.int .i64 p))), .v (.c (.d (.int .i64 ((64 : Nat) : Int))))] [] (vNil (pathE ⟨nm, ra, dec⟩ t p ((64 : Nat) : Int))) []) := by
  have hw := wp_64 nm ra dec t p (fun v M => some (Res.fin v M))
  rw [prog_path (by omega)] at hw
  refine ⟨fun h => ?_, fun h => ?_⟩
  · rw [h] at hw; exact CallsA.ofEvCutP (fun _ => [1, 2, 3, 4, 11, 47, 48]) (g_fringeref06_Same.inl hEQT hmT (fun f hf => by simp only [List.mem_cons, List.not_mem_nil, or_false] at hf; subst hf; exact (fun args w => Try.call12 args w)) 400 1) hEQT hmT 2 (fun _ _ _ _ => noL_ok _) hw
  · rw [show (pathE ⟨nm, ra, dec⟩ t p ((64 : Nat) : Int) == 0) = false by simpa using h] at hw; exact (CallsA.ofEvCutP (fun _ => [1, 2, 3, 4, 11, 47, 48]) (g_fringeref06_Same.inl hEQT hmT (fun f hf => by simp only [List.mem_cons, List.not_mem_nil, or_false] at hf; subst hf; exact (fun args w => Try.call12 args w)) 400 1) hEQT hmT 2 (fun _ _ _ _ => noL_ok _) hw).drop (M' := []) fun b => .inr rfl

set_option maxRecDepth 100000 in
theorem wp_65 (nm : ByteArray) (ra dec t p : Int) (K : AV → List Blk → Ans) : evFnP Try.prog GT EQT (inl Try.prog GT EQT XT [12] T_fringeref06_Same 400 1) XT noL (fun _ => [1, 2, 3, 4, 11, 47, 48]) 400 7 [.v (.agg [.str nm, .int .i64 ra, .int .i64 dec]), .v (.c (.d (.int .i64 t))), .v (.c (.d (.int .i64 p))), .v (.c (.d (.int .i64 65)))] [] (fun v M => K v (cutAt 2 M)) = progPath ⟨nm, ra, dec⟩ t p 65 (progK K 28 65) := by
  kernel_rfl
theorem cp_65 (nm : ByteArray) (ra dec t p : Int) : (pathE ⟨nm, ra, dec⟩ t p ((65 : Nat) : Int) = 0 → CallsA Try.prog GT gbT 7 [.v (.agg [.str nm, .int .i64 ra, .int .i64 dec]), .v (.c (.d (.int .i64 t))), .v (.c (.d (.int .i64 p))), .v (.c (.d (.int .i64 ((65 : Nat) : Int))))] [] (vSlice 2 65 0) (mSlice 28 2 (pathD ⟨nm, ra, dec⟩ t p 65))) ∧ (pathE ⟨nm, ra, dec⟩ t p ((65 : Nat) : Int) ≠ 0 → CallsA Try.prog GT gbT 7 [.v (.agg [.str nm, .int .i64 ra, .int .i64 dec]), .v (.c (.d (.int .i64 t))), .v (.c (.d (.int .i64 p))), .v (.c (.d (.int .i64 ((65 : Nat) : Int))))] [] (vNil (pathE ⟨nm, ra, dec⟩ t p ((65 : Nat) : Int))) []) := by
  have hw := wp_65 nm ra dec t p (fun v M => some (Res.fin v M))
  rw [prog_path (by omega)] at hw
  refine ⟨fun h => ?_, fun h => ?_⟩
  · rw [h] at hw; exact CallsA.ofEvCutP (fun _ => [1, 2, 3, 4, 11, 47, 48]) (g_fringeref06_Same.inl hEQT hmT (fun f hf => by simp only [List.mem_cons, List.not_mem_nil, or_false] at hf; subst hf; exact (fun args w => Try.call12 args w)) 400 1) hEQT hmT 2 (fun _ _ _ _ => noL_ok _) hw
  · rw [show (pathE ⟨nm, ra, dec⟩ t p ((65 : Nat) : Int) == 0) = false by simpa using h] at hw; exact (CallsA.ofEvCutP (fun _ => [1, 2, 3, 4, 11, 47, 48]) (g_fringeref06_Same.inl hEQT hmT (fun f hf => by simp only [List.mem_cons, List.not_mem_nil, or_false] at hf; subst hf; exact (fun args w => Try.call12 args w)) 400 1) hEQT hmT 2 (fun _ _ _ _ => noL_ok _) hw).drop (M' := []) fun b => .inr rfl

set_option maxRecDepth 100000 in
theorem wp_66 (nm : ByteArray) (ra dec t p : Int) (K : AV → List Blk → Ans) : evFnP Try.prog GT EQT (inl Try.prog GT EQT XT [12] T_fringeref06_Same 400 1) XT noL (fun _ => [1, 2, 3, 4, 11, 47, 48]) 400 7 [.v (.agg [.str nm, .int .i64 ra, .int .i64 dec]), .v (.c (.d (.int .i64 t))), .v (.c (.d (.int .i64 p))), .v (.c (.d (.int .i64 66)))] [] (fun v M => K v (cutAt 2 M)) = progPath ⟨nm, ra, dec⟩ t p 66 (progK K 28 66) := by
  kernel_rfl
theorem cp_66 (nm : ByteArray) (ra dec t p : Int) : (pathE ⟨nm, ra, dec⟩ t p ((66 : Nat) : Int) = 0 → CallsA Try.prog GT gbT 7 [.v (.agg [.str nm, .int .i64 ra, .int .i64 dec]), .v (.c (.d (.int .i64 t))), .v (.c (.d (.int .i64 p))), .v (.c (.d (.int .i64 ((66 : Nat) : Int))))] [] (vSlice 2 66 0) (mSlice 28 2 (pathD ⟨nm, ra, dec⟩ t p 66))) ∧ (pathE ⟨nm, ra, dec⟩ t p ((66 : Nat) : Int) ≠ 0 → CallsA Try.prog GT gbT 7 [.v (.agg [.str nm, .int .i64 ra, .int .i64 dec]), .v (.c (.d (.int .i64 t))), .v (.c (.d (.int .i64 p))), .v (.c (.d (.int .i64 ((66 : Nat) : Int))))] [] (vNil (pathE ⟨nm, ra, dec⟩ t p ((66 : Nat) : Int))) []) := by
  have hw := wp_66 nm ra dec t p (fun v M => some (Res.fin v M))
  rw [prog_path (by omega)] at hw
  refine ⟨fun h => ?_, fun h => ?_⟩
  · rw [h] at hw; exact CallsA.ofEvCutP (fun _ => [1, 2, 3, 4, 11, 47, 48]) (g_fringeref06_Same.inl hEQT hmT (fun f hf => by simp only [List.mem_cons, List.not_mem_nil, or_false] at hf; subst hf; exact (fun args w => Try.call12 args w)) 400 1) hEQT hmT 2 (fun _ _ _ _ => noL_ok _) hw
  · rw [show (pathE ⟨nm, ra, dec⟩ t p ((66 : Nat) : Int) == 0) = false by simpa using h] at hw; exact (CallsA.ofEvCutP (fun _ => [1, 2, 3, 4, 11, 47, 48]) (g_fringeref06_Same.inl hEQT hmT (fun f hf => by simp only [List.mem_cons, List.not_mem_nil, or_false] at hf; subst hf; exact (fun args w => Try.call12 args w)) 400 1) hEQT hmT 2 (fun _ _ _ _ => noL_ok _) hw).drop (M' := []) fun b => .inr rfl

set_option maxRecDepth 100000 in
theorem wp_67 (nm : ByteArray) (ra dec t p : Int) (K : AV → List Blk → Ans) : evFnP Try.prog GT EQT (inl Try.prog GT EQT XT [12] T_fringeref06_Same 400 1) XT noL (fun _ => [1, 2, 3, 4, 11, 47, 48]) 400 7 [.v (.agg [.str nm, .int .i64 ra, .int .i64 dec]), .v (.c (.d (.int .i64 t))), .v (.c (.d (.int .i64 p))), .v (.c (.d (.int .i64 67)))] [] (fun v M => K v (cutAt 2 M)) = progPath ⟨nm, ra, dec⟩ t p 67 (progK K 28 67) := by
  kernel_rfl
theorem cp_67 (nm : ByteArray) (ra dec t p : Int) : (pathE ⟨nm, ra, dec⟩ t p ((67 : Nat) : Int) = 0 → CallsA Try.prog GT gbT 7 [.v (.agg [.str nm, .int .i64 ra, .int .i64 dec]), .v (.c (.d (.int .i64 t))), .v (.c (.d (.int .i64 p))), .v (.c (.d (.int .i64 ((67 : Nat) : Int))))] [] (vSlice 2 67 0) (mSlice 28 2 (pathD ⟨nm, ra, dec⟩ t p 67))) ∧ (pathE ⟨nm, ra, dec⟩ t p ((67 : Nat) : Int) ≠ 0 → CallsA Try.prog GT gbT 7 [.v (.agg [.str nm, .int .i64 ra, .int .i64 dec]), .v (.c (.d (.int .i64 t))), .v (.c (.d (.int .i64 p))), .v (.c (.d (.int .i64 ((67 : Nat) : Int))))] [] (vNil (pathE ⟨nm, ra, dec⟩ t p ((67 : Nat) : Int))) []) := by
  have hw := wp_67 nm ra dec t p (fun v M => some (Res.fin v M))
  rw [prog_path (by omega)] at hw
  refine ⟨fun h => ?_, fun h => ?_⟩
  · rw [h] at hw; exact CallsA.ofEvCutP (fun _ => [1, 2, 3, 4, 11, 47, 48]) (g_fringeref06_Same.inl hEQT hmT (fun f hf => by simp only [List.mem_cons, List.not_mem_nil, or_false] at hf; subst hf; exact (fun args w => Try.call12 args w)) 400 1) hEQT hmT 2 (fun _ _ _ _ => noL_ok _) hw
  · rw [show (pathE ⟨nm, ra, dec⟩ t p ((67 : Nat) : Int) == 0) = false by simpa using h] at hw; exact (CallsA.ofEvCutP (fun _ => [1, 2, 3, 4, 11, 47, 48]) (g_fringeref06_Same.inl hEQT hmT (fun f hf => by simp only [List.mem_cons, List.not_mem_nil, or_false] at hf; subst hf; exact (fun args w => Try.call12 args w)) 400 1) hEQT hmT 2 (fun _ _ _ _ => noL_ok _) hw).drop (M' := []) fun b => .inr rfl

set_option maxRecDepth 100000 in
theorem wp_68 (nm : ByteArray) (ra dec t p : Int) (K : AV → List Blk → Ans) : evFnP Try.prog GT EQT (inl Try.prog GT EQT XT [12] T_fringeref06_Same 400 1) XT noL (fun _ => [1, 2, 3, 4, 11, 47, 48]) 400 7 [.v (.agg [.str nm, .int .i64 ra, .int .i64 dec]), .v (.c (.d (.int .i64 t))), .v (.c (.d (.int .i64 p))), .v (.c (.d (.int .i64 68)))] [] (fun v M => K v (cutAt 2 M)) = progPath ⟨nm, ra, dec⟩ t p 68 (progK K 28 68) := by
  kernel_rfl
theorem cp_68 (nm : ByteArray) (ra dec t p : Int) : (pathE ⟨nm, ra, dec⟩ t p ((68 : Nat) : Int) = 0 → CallsA Try.prog GT gbT 7 [.v (.agg [.str nm, .int .i64 ra, .int .i64 dec]), .v (.c (.d (.int .i64 t))), .v (.c (.d (.int .i64 p))), .v (.c (.d (.int .i64 ((68 : Nat) : Int))))] [] (vSlice 2 68 0) (mSlice 28 2 (pathD ⟨nm, ra, dec⟩ t p 68))) ∧ (pathE ⟨nm, ra, dec⟩ t p ((68 : Nat) : Int) ≠ 0 → CallsA Try.prog GT gbT 7 [.v (.agg [.str nm, .int .i64 ra, .int .i64 dec]), .v (.c (.d (.int .i64 t))), .v (.c (.d (.int .i64 p))), .v (.c (.d (.int .i64 ((68 : Nat) : Int))))] [] (vNil (pathE ⟨nm, ra, dec⟩ t p ((68 : Nat) : Int))) []) := by
  have hw := wp_68 nm ra dec t p (fun v M => some (Res.fin v M))
  rw [prog_path (by omega)] at hw
  refine ⟨fun h => ?_, fun h => ?_⟩
  · rw [h] at hw; exact CallsA.ofEvCutP (fun _ => [1, 2, 3, 4, 11, 47, 48]) (g_fringeref06_Same.inl hEQT hmT (fun f hf => by simp only [List.mem_cons, List.not_mem_nil, or_false] at hf; subst hf; exact (fun args w => Try.call12 args w)) 400 1) hEQT hmT 2 (fun _ _ _ _ => noL_ok _) hw
  · rw [show (pathE ⟨nm, ra, dec⟩ t p ((68 : Nat) : Int) == 0) = false by simpa using h] at hw; exact (CallsA.ofEvCutP (fun _ => [1, 2, 3, 4, 11, 47, 48]) (g_fringeref06_Same.inl hEQT hmT (fun f hf => by simp only [List.mem_cons, List.not_mem_nil, or_false] at hf; subst hf; exact (fun args w => Try.call12 args w)) 400 1) hEQT hmT 2 (fun _ _ _ _ => noL_ok _) hw).drop (M' := []) fun b => .inr rfl

set_option maxRecDepth 100000 in
theorem wp_69 (nm : ByteArray) (ra dec t p : Int) (K : AV → List Blk → Ans) : evFnP Try.prog GT EQT (inl Try.prog GT EQT XT [12] T_fringeref06_Same 400 1) XT noL (fun _ => [1, 2, 3, 4, 11, 47, 48]) 400 7 [.v (.agg [.str nm, .int .i64 ra, .int .i64 dec]), .v (.c (.d (.int .i64 t))), .v (.c (.d (.int .i64 p))), .v (.c (.d (.int .i64 69)))] [] (fun v M => K v (cutAt 2 M)) = progPath ⟨nm, ra, dec⟩ t p 69 (progK K 28 69) := by
  kernel_rfl
theorem cp_69 (nm : ByteArray) (ra dec t p : Int) : (pathE ⟨nm, ra, dec⟩ t p ((69 : Nat) : Int) = 0 → CallsA Try.prog GT gbT 7 [.v (.agg [.str nm, .int .i64 ra, .int .i64 dec]), .v (.c (.d (.int .i64 t))), .v (.c (.d (.int .i64 p))), .v (.c (.d (.int .i64 ((69 : Nat) : Int))))] [] (vSlice 2 69 0) (mSlice 28 2 (pathD ⟨nm, ra, dec⟩ t p 69))) ∧ (pathE ⟨nm, ra, dec⟩ t p ((69 : Nat) : Int) ≠ 0 → CallsA Try.prog GT gbT 7 [.v (.agg [.str nm, .int .i64 ra, .int .i64 dec]), .v (.c (.d (.int .i64 t))), .v (.c (.d (.int .i64 p))), .v (.c (.d (.int .i64 ((69 : Nat) : Int))))] [] (vNil (pathE ⟨nm, ra, dec⟩ t p ((69 : Nat) : Int))) []) := by
  have hw := wp_69 nm ra dec t p (fun v M => some (Res.fin v M))
  rw [prog_path (by omega)] at hw
  refine ⟨fun h => ?_, fun h => ?_⟩
  · rw [h] at hw; exact CallsA.ofEvCutP (fun _ => [1, 2, 3, 4, 11, 47, 48]) (g_fringeref06_Same.inl hEQT hmT (fun f hf => by simp only [List.mem_cons, List.not_mem_nil, or_false] at hf; subst hf; exact (fun args w => Try.call12 args w)) 400 1) hEQT hmT 2 (fun _ _ _ _ => noL_ok _) hw
  · rw [show (pathE ⟨nm, ra, dec⟩ t p ((69 : Nat) : Int) == 0) = false by simpa using h] at hw; exact (CallsA.ofEvCutP (fun _ => [1, 2, 3, 4, 11, 47, 48]) (g_fringeref06_Same.inl hEQT hmT (fun f hf => by simp only [List.mem_cons, List.not_mem_nil, or_false] at hf; subst hf; exact (fun args w => Try.call12 args w)) 400 1) hEQT hmT 2 (fun _ _ _ _ => noL_ok _) hw).drop (M' := []) fun b => .inr rfl

set_option maxRecDepth 100000 in
theorem wp_70 (nm : ByteArray) (ra dec t p : Int) (K : AV → List Blk → Ans) : evFnP Try.prog GT EQT (inl Try.prog GT EQT XT [12] T_fringeref06_Same 400 1) XT noL (fun _ => [1, 2, 3, 4, 11, 47, 48]) 400 7 [.v (.agg [.str nm, .int .i64 ra, .int .i64 dec]), .v (.c (.d (.int .i64 t))), .v (.c (.d (.int .i64 p))), .v (.c (.d (.int .i64 70)))] [] (fun v M => K v (cutAt 2 M)) = progPath ⟨nm, ra, dec⟩ t p 70 (progK K 28 70) := by
  kernel_rfl
theorem cp_70 (nm : ByteArray) (ra dec t p : Int) : (pathE ⟨nm, ra, dec⟩ t p ((70 : Nat) : Int) = 0 → CallsA Try.prog GT gbT 7 [.v (.agg [.str nm, .int .i64 ra, .int .i64 dec]), .v (.c (.d (.int .i64 t))), .v (.c (.d (.int .i64 p))), .v (.c (.d (.int .i64 ((70 : Nat) : Int))))] [] (vSlice 2 70 0) (mSlice 28 2 (pathD ⟨nm, ra, dec⟩ t p 70))) ∧ (pathE ⟨nm, ra, dec⟩ t p ((70 : Nat) : Int) ≠ 0 → CallsA Try.prog GT gbT 7 [.v (.agg [.str nm, .int .i64 ra, .int .i64 dec]), .v (.c (.d (.int .i64 t))), .v (.c (.d (.int .i64 p))), .v (.c (.d (.int .i64 ((70 : Nat) : Int))))] [] (vNil (pathE ⟨nm, ra, dec⟩ t p ((70 : Nat) : Int))) []) := by
  have hw := wp_70 nm ra dec t p (fun v M => some (Res.fin v M))
  rw [prog_path (by omega)] at hw
  refine ⟨fun h => ?_, fun h => ?_⟩
  · rw [h] at hw; exact CallsA.ofEvCutP (fun _ => [1, 2, 3, 4, 11, 47, 48]) (g_fringeref06_Same.inl hEQT hmT (fun f hf => by simp only [List.mem_cons, List.not_mem_nil, or_false] at hf; subst hf; exact (fun args w => Try.call12 args w)) 400 1) hEQT hmT 2 (fun _ _ _ _ => noL_ok _) hw
  · rw [show (pathE ⟨nm, ra, dec⟩ t p ((70 : Nat) : Int) == 0) = false by simpa using h] at hw; exact (CallsA.ofEvCutP (fun _ => [1, 2, 3, 4, 11, 47, 48]) (g_fringeref06_Same.inl hEQT hmT (fun f hf => by simp only [List.mem_cons, List.not_mem_nil, or_false] at hf; subst hf; exact (fun args w => Try.call12 args w)) 400 1) hEQT hmT 2 (fun _ _ _ _ => noL_ok _) hw).drop (M' := []) fun b => .inr rfl

set_option maxRecDepth 100000 in
theorem wp_71 (nm : ByteArray) (ra dec t p : Int) (K : AV → List Blk → Ans) : evFnP Try.prog GT EQT (inl Try.prog GT EQT XT [12] T_fringeref06_Same 400 1) XT noL (fun _ => [1, 2, 3, 4, 11, 47, 48]) 400 7 [.v (.agg [.str nm, .int .i64 ra, .int .i64 dec]), .v (.c (.d (.int .i64 t))), .v (.c (.d (.int .i64 p))), .v (.c (.d (.int .i64 71)))] [] (fun v M => K v (cutAt 2 M)) = progPath ⟨nm, ra, dec⟩ t p 71 (progK K 28 71) := by
  kernel_rfl
theorem cp_71 (nm : ByteArray) (ra dec t p : Int) : (pathE ⟨nm, ra, dec⟩ t p ((71 : Nat) : Int) = 0 → CallsA Try.prog GT gbT 7 [.v (.agg [.str nm, .int .i64 ra, .int .i64 dec]), .v (.c (.d (.int .i64 t))), .v (.c (.d (.int .i64 p))), .v (.c (.d (.int .i64 ((71 : Nat) : Int))))] [] (vSlice 2 71 0) (mSlice 28 2 (pathD ⟨nm, ra, dec⟩ t p 71))) ∧ (pathE ⟨nm, ra, dec⟩ t p ((71 : Nat) : Int) ≠ 0 → CallsA Try.prog GT gbT 7 [.v (.agg [.str nm, .int .i64 ra, .int .i64 dec]), .v (.c (.d (.int .i64 t))), .v (.c (.d (.int .i64 p))), .v (.c (.d (.int .i64 ((71 : Nat) : Int))))] [] (vNil (pathE ⟨nm, ra, dec⟩ t p ((71 : Nat) : Int))) []) := by
  have hw := wp_71 nm ra dec t p (fun v M => some (Res.fin v M))
  rw [prog_path (by omega)] at hw
  refine ⟨fun h => ?_, fun h => ?_⟩
  · rw [h] at hw; exact CallsA.ofEvCutP (fun _ => [1, 2, 3, 4, 11, 47, 48]) (g_fringeref06_Same.inl hEQT hmT (fun f hf => by simp only [List.mem_cons, List.not_mem_nil, or_false] at hf; subst hf; exact (fun args w => Try.call12 args w)) 400 1) hEQT hmT 2 (fun _ _ _ _ => noL_ok _) hw
  · rw [show (pathE ⟨nm, ra, dec⟩ t p ((71 : Nat) : Int) == 0) = false by simpa using h] at hw; exact (CallsA.ofEvCutP (fun _ => [1, 2, 3, 4, 11, 47, 48]) (g_fringeref06_Same.inl hEQT hmT (fun f hf => by simp only [List.mem_cons, List.not_mem_nil, or_false] at hf; subst hf; exact (fun args w => Try.call12 args w)) 400 1) hEQT hmT 2 (fun _ _ _ _ => noL_ok _) hw).drop (M' := []) fun b => .inr rfl

set_option maxRecDepth 100000 in
theorem wp_72 (nm : ByteArray) (ra dec t p : Int) (K : AV → List Blk → Ans) : evFnP Try.prog GT EQT (inl Try.prog GT EQT XT [12] T_fringeref06_Same 400 1) XT noL (fun _ => [1, 2, 3, 4, 11, 47, 48]) 400 7 [.v (.agg [.str nm, .int .i64 ra, .int .i64 dec]), .v (.c (.d (.int .i64 t))), .v (.c (.d (.int .i64 p))), .v (.c (.d (.int .i64 72)))] [] (fun v M => K v (cutAt 2 M)) = progPath ⟨nm, ra, dec⟩ t p 72 (progK K 28 72) := by
  kernel_rfl
theorem cp_72 (nm : ByteArray) (ra dec t p : Int) : (pathE ⟨nm, ra, dec⟩ t p ((72 : Nat) : Int) = 0 → CallsA Try.prog GT gbT 7 [.v (.agg [.str nm, .int .i64 ra, .int .i64 dec]), .v (.c (.d (.int .i64 t))), .v (.c (.d (.int .i64 p))), .v (.c (.d (.int .i64 ((72 : Nat) : Int))))] [] (vSlice 2 72 0) (mSlice 28 2 (pathD ⟨nm, ra, dec⟩ t p 72))) ∧ (pathE ⟨nm, ra, dec⟩ t p ((72 : Nat) : Int) ≠ 0 → CallsA Try.prog GT gbT 7 [.v (.agg [.str nm, .int .i64 ra, .int .i64 dec]), .v (.c (.d (.int .i64 t))), .v (.c (.d (.int .i64 p))), .v (.c (.d (.int .i64 ((72 : Nat) : Int))))] [] (vNil (pathE ⟨nm, ra, dec⟩ t p ((72 : Nat) : Int))) []) := by
  have hw := wp_72 nm ra dec t p (fun v M => some (Res.fin v M))
  rw [prog_path (by omega)] at hw
  refine ⟨fun h => ?_, fun h => ?_⟩
  · rw [h] at hw; exact CallsA.ofEvCutP (fun _ => [1, 2, 3, 4, 11, 47, 48]) (g_fringeref06_Same.inl hEQT hmT (fun f hf => by simp only [List.mem_cons, List.not_mem_nil, or_false] at hf; subst hf; exact (fun args w => Try.call12 args w)) 400 1) hEQT hmT 2 (fun _ _ _ _ => noL_ok _) hw
  · rw [show (pathE ⟨nm, ra, dec⟩ t p ((72 : Nat) : Int) == 0) = false by simpa using h] at hw; exact (CallsA.ofEvCutP (fun _ => [1, 2, 3, 4, 11, 47, 48]) (g_fringeref06_Same.inl hEQT hmT (fun f hf => by simp only [List.mem_cons, List.not_mem_nil, or_false] at hf; subst hf; exact (fun args w => Try.call12 args w)) 400 1) hEQT hmT 2 (fun _ _ _ _ => noL_ok _) hw).drop (M' := []) fun b => .inr rfl

set_option maxRecDepth 100000 in
theorem wp_73 (nm : ByteArray) (ra dec t p : Int) (K : AV → List Blk → Ans) : evFnP Try.prog GT EQT (inl Try.prog GT EQT XT [12] T_fringeref06_Same 400 1) XT noL (fun _ => [1, 2, 3, 4, 11, 47, 48]) 400 7 [.v (.agg [.str nm, .int .i64 ra, .int .i64 dec]), .v (.c (.d (.int .i64 t))), .v (.c (.d (.int .i64 p))), .v (.c (.d (.int .i64 73)))] [] (fun v M => K v (cutAt 2 M)) = progPath ⟨nm, ra, dec⟩ t p 73 (progK K 28 73) := by
  kernel_rfl
theorem cp_73 (nm : ByteArray) (ra dec t p : Int) : (pathE ⟨nm, ra, dec⟩ t p ((73 : Nat) : Int) = 0 → CallsA Try.prog GT gbT 7 [.v (.agg [.str nm, .int .i64 ra, .int .i64 dec]), .v (.c (.d (.int .i64 t))), .v (.c (.d (.int .i64 p))), .v (.c (.d (.int .i64 ((73 : Nat) : Int))))] [] (vSlice 2 73 0) (mSlice 28 2 (pathD ⟨nm, ra, dec⟩ t p 73))) ∧ (pathE ⟨nm, ra, dec⟩ t p ((73 : Nat) : Int) ≠ 0 → CallsA Try.prog GT gbT 7 [.v (.agg [.str nm, .int .i64 ra, .int .i64 dec]), .v (.c (.d (.int .i64 t))), .v (.c (.d (.int .i64 p))), .v (.c (.d (.int .i64 ((73 : Nat) : Int))))] [] (vNil (pathE ⟨nm, ra, dec⟩ t p ((73 : Nat) : Int))) []) := by
  have hw := wp_73 nm ra dec t p (fun v M => some (Res.fin v M))
  rw [prog_path (by omega)] at hw
  refine ⟨fun h => ?_, fun h => ?_⟩
  · rw [h] at hw; exact CallsA.ofEvCutP (fun _ => [1, 2, 3, 4, 11, 47, 48]) (g_fringeref06_Same.inl hEQT hmT (fun f hf => by simp only [List.mem_cons, List.not_mem_nil, or_false] at hf; subst hf; exact (fun args w => Try.call12 args w)) 400 1) hEQT hmT 2 (fun _ _ _ _ => noL_ok _) hw
  · rw [show (pathE ⟨nm, ra, dec⟩ t p ((73 : Nat) : Int) == 0) = false by simpa using h] at hw; exact (CallsA.ofEvCutP (fun _ => [1, 2, 3, 4, 11, 47, 48]) (g_fringeref06_Same.inl hEQT hmT (fun f hf => by simp only [List.mem_cons, List.not_mem_nil, or_false] at hf; subst hf; exact (fun args w => Try.call12 args w)) 400 1) hEQT hmT 2 (fun _ _ _ _ => noL_ok _) hw).drop (M' := []) fun b => .inr rfl

end Go.Ev
