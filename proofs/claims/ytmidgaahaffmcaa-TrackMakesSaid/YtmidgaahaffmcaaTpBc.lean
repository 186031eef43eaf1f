/-
  TrackMakes, value by value of the length of a path. No condition beyond those of the statements.
-/
import Derived.Test.YtmidgaahaffmcaaTxCA
namespace Go.Ev
open Go Go.Proofs

set_option maxRecDepth 100000 in
theorem wr_74 (nm : ByteArray) (ra dec t p : Int) (K : AV → List Blk → Ans) : evFnP Try.prog GT EQT T_fringeref06_Same XT noL (fun _ => [1, 2, 3, 4, 10, 11]) 400 8 [.v (.agg [.str nm, .int .i64 ra, .int .i64 dec]), .v (.c (.d (.int .i64 t))), .v (.c (.d (.int .i64 p))), .v (.c (.d (.int .i64 74)))] [] (fun v M => K v (cutAt 148 M)) = refPath ⟨nm, ra, dec⟩ t p 74 (refK K 28 148 74) := by
  kernel_rfl
theorem cr_74 (nm : ByteArray) (ra dec t p : Int) : (pathE ⟨nm, ra, dec⟩ t p ((74 : Nat) : Int) = 0 → CallsA Try.prog GT gbT 8 [.v (.agg [.str nm, .int .i64 ra, .int .i64 dec]), .v (.c (.d (.int .i64 t))), .v (.c (.d (.int .i64 p))), .v (.c (.d (.int .i64 ((74 : Nat) : Int))))] [] (vSlice 148 74 0) (mSlice 28 148 (pathD ⟨nm, ra, dec⟩ t p 74))) ∧ (pathE ⟨nm, ra, dec⟩ t p ((74 : Nat) : Int) ≠ 0 → CallsA Try.prog GT gbT 8 [.v (.agg [.str nm, .int .i64 ra, .int .i64 dec]), .v (.c (.d (.int .i64 t))), .v (.c (.d (.int .i64 p))), .v (.c (.d (.int .i64 ((74 : Nat) : Int))))] [] (vNil (pathE ⟨nm, ra, dec⟩ t p ((74 : Nat) : Int))) []) := by
  have key : ∀ ht : -9223372036854775808 ≤ t ∧ t ≤ 9223372036854775807, _ := fun ht => (wr_74 nm ra dec t p (fun v M => some (Res.fin v M))).trans (ref_path (m := 74) (by omega) ht _)
  refine ⟨fun h => CallsA.ofOk fun hok => ?_, fun h => CallsA.ofOk fun hok => ?_⟩
  · have hw := key (inR_i64 (hok (.int .i64 t) (by simp [datasL, datas]))); rw [h] at hw; exact CallsA.ofEvCutP (fun _ => [1, 2, 3, 4, 10, 11]) g_fringeref06_Same hEQT hmT 148 (fun _ _ _ _ => noL_ok _) hw
  · have hw := key (inR_i64 (hok (.int .i64 t) (by simp [datasL, datas]))); rw [show (pathE ⟨nm, ra, dec⟩ t p ((74 : Nat) : Int) == 0) = false by simpa using h] at hw; exact (CallsA.ofEvCutP (fun _ => [1, 2, 3, 4, 10, 11]) g_fringeref06_Same hEQT hmT 148 (fun _ _ _ _ => noL_ok _) hw).drop (M' := []) fun b => .inr rfl

set_option maxRecDepth 100000 in
theorem wr_75 (nm : ByteArray) (ra dec t p : Int) (K : AV → List Blk → Ans) : evFnP Try.prog GT EQT T_fringeref06_Same XT noL (fun _ => [1, 2, 3, 4, 10, 11]) 400 8 [.v (.agg [.str nm, .int .i64 ra, .int .i64 dec]), .v (.c (.d (.int .i64 t))), .v (.c (.d (.int .i64 p))), .v (.c (.d (.int .i64 75)))] [] (fun v M => K v (cutAt 150 M)) = refPath ⟨nm, ra, dec⟩ t p 75 (refK K 28 150 75) := by
  kernel_rfl
theorem cr_75 (nm : ByteArray) (ra dec t p : Int) : (pathE ⟨nm, ra, dec⟩ t p ((75 : Nat) : Int) = 0 → CallsA Try.prog GT gbT 8 [.v (.agg [.str nm, .int .i64 ra, .int .i64 dec]), .v (.c (.d (.int .i64 t))), .v (.c (.d (.int .i64 p))), .v (.c (.d (.int .i64 ((75 : Nat) : Int))))] [] (vSlice 150 75 0) (mSlice 28 150 (pathD ⟨nm, ra, dec⟩ t p 75))) ∧ (pathE ⟨nm, ra, dec⟩ t p ((75 : Nat) : Int) ≠ 0 → CallsA Try.prog GT gbT 8 [.v (.agg [.str nm, .int .i64 ra, .int .i64 dec]), .v (.c (.d (.int .i64 t))), .v (.c (.d (.int .i64 p))), .v (.c (.d (.int .i64 ((75 : Nat) : Int))))] [] (vNil (pathE ⟨nm, ra, dec⟩ t p ((75 : Nat) : Int))) []) := by
  have key : ∀ ht : -9223372036854775808 ≤ t ∧ t ≤ 9223372036854775807, _ := fun ht => (wr_75 nm ra dec t p (fun v M => some (Res.fin v M))).trans (ref_path (m := 75) (by omega) ht _)
  refine ⟨fun h => CallsA.ofOk fun hok => ?_, fun h => CallsA.ofOk fun hok => ?_⟩
  · have hw := key (inR_i64 (hok (.int .i64 t) (by simp [datasL, datas]))); rw [h] at hw; exact CallsA.ofEvCutP (fun _ => [1, 2, 3, 4, 10, 11]) g_fringeref06_Same hEQT hmT 150 (fun _ _ _ _ => noL_ok _) hw
  · have hw := key (inR_i64 (hok (.int .i64 t) (by simp [datasL, datas]))); rw [show (pathE ⟨nm, ra, dec⟩ t p ((75 : Nat) : Int) == 0) = false by simpa using h] at hw; exact (CallsA.ofEvCutP (fun _ => [1, 2, 3, 4, 10, 11]) g_fringeref06_Same hEQT hmT 150 (fun _ _ _ _ => noL_ok _) hw).drop (M' := []) fun b => .inr rfl

set_option maxRecDepth 100000 in
theorem wr_76 (nm : ByteArray) (ra dec t p : Int) (K : AV → List Blk → Ans) : evFnP Try.prog GT EQT T_fringeref06_Same XT noL (fun _ => [1, 2, 3, 4, 10, 11]) 400 8 [.v (.agg [.str nm, .int .i64 ra, .int .i64 dec]), .v (.c (.d (.int .i64 t))), .v (.c (.d (.int .i64 p))), .v (.c (.d (.int .i64 76)))] [] (fun v M => K v (cutAt 152 M)) = refPath ⟨nm, ra, dec⟩ t p 76 (refK K 28 152 76) := by
  kernel_rfl
theorem cr_76 (nm : ByteArray) (ra dec t p : Int) : (pathE ⟨nm, ra, dec⟩ t p ((76 : Nat) : Int) = 0 → CallsA Try.prog GT gbT 8 [.v (.agg [.str nm, .int .i64 ra, .int .i64 dec]), .v (.c (.d (.int .i64 t))), .v (.c (.d (.int .i64 p))), .v (.c (.d (.int .i64 ((76 : Nat) : Int))))] [] (vSlice 152 76 0) (mSlice 28 152 (pathD ⟨nm, ra, dec⟩ t p 76))) ∧ (pathE ⟨nm, ra, dec⟩ t p ((76 : Nat) : Int) ≠ 0 → CallsA Try.prog GT gbT 8 [.v (.agg [.str nm, .int .i64 ra, .int .i64 dec]), .v (.c (.d (.int .i64 t))), .v (.c (.d (.int .i64 p))), .v (.c (.d (.int .i64 ((76 : Nat) : Int))))] [] (vNil (pathE ⟨nm, ra, dec⟩ t p ((76 : Nat) : Int))) []) := by
  have key : ∀ ht : -9223372036854775808 ≤ t ∧ t ≤ 9223372036854775807, _ := fun ht => (wr_76 nm ra dec t p (fun v M => some (Res.fin v M))).trans (ref_path (m := 76) (by omega) ht _)
  refine ⟨fun h => CallsA.ofOk fun hok => ?_, fun h => CallsA.ofOk fun hok => ?_⟩
  · have hw := key (inR_i64 (hok (.int .i64 t) (by simp [datasL, datas]))); rw [h] at hw; exact CallsA.ofEvCutP (fun _ => [1, 2, 3, 4, 10, 11]) g_fringeref06_Same hEQT hmT 152 (fun _ _ _ _ => noL_ok _) hw
  · have hw := key (inR_i64 (hok (.int .i64 t) (by simp [datasL, datas]))); rw [show (pathE ⟨nm, ra, dec⟩ t p ((76 : Nat) : Int) == 0) = false by simpa using h] at hw; exact (CallsA.ofEvCutP (fun _ => [1, 2, 3, 4, 10, 11]) g_fringeref06_Same hEQT hmT 152 (fun _ _ _ _ => noL_ok _) hw).drop (M' := []) fun b => .inr rfl

set_option maxRecDepth 100000 in
theorem wr_77 (nm : ByteArray) (ra dec t p : Int) (K : AV → List Blk → Ans) : evFnP Try.prog GT EQT T_fringeref06_Same XT noL (fun _ => [1, 2, 3, 4, 10, 11]) 400 8 [.v (.agg [.str nm, .int .i64 ra, .int .i64 dec]), .v (.c (.d (.int .i64 t))), .v (.c (.d (.int .i64 p))), .v (.c (.d (.int .i64 77)))] [] (fun v M => K v (cutAt 154 M)) = refPath ⟨nm, ra, dec⟩ t p 77 (refK K 28 154 77) := by
  kernel_rfl
theorem cr_77 (nm : ByteArray) (ra dec t p : Int) : (pathE ⟨nm, ra, dec⟩ t p ((77 : Nat) : Int) = 0 → CallsA Try.prog GT gbT 8 [.v (.agg [.str nm, .int .i64 ra, .int .i64 dec]), .v (.c (.d (.int .i64 t))), .v (.c (.d (.int .i64 p))), .v (.c (.d (.int .i64 ((77 : Nat) : Int))))] [] (vSlice 154 77 0) (mSlice 28 154 (pathD ⟨nm, ra, dec⟩ t p 77))) ∧ (pathE ⟨nm, ra, dec⟩ t p ((77 : Nat) : Int) ≠ 0 → CallsA Try.prog GT gbT 8 [.v (.agg [.str nm, .int .i64 ra, .int .i64 dec]), .v (.c (.d (.int .i64 t))), .v (.c (.d (.int .i64 p))), .v (.c (.d (.int .i64 ((77 : Nat) : Int))))] [] (vNil (pathE ⟨nm, ra, dec⟩ t p ((77 : Nat) : Int))) []) := by
  have key : ∀ ht : -9223372036854775808 ≤ t ∧ t ≤ 9223372036854775807, _ := fun ht => (wr_77 nm ra dec t p (fun v M => some (Res.fin v M))).trans (ref_path (m := 77) (by omega) ht _)
  refine ⟨fun h => CallsA.ofOk fun hok => ?_, fun h => CallsA.ofOk fun hok => ?_⟩
  · have hw := key (inR_i64 (hok (.int .i64 t) (by simp [datasL, datas]))); rw [h] at hw; exact CallsA.ofEvCutP (fun _ => [1, 2, 3, 4, 10, 11]) g_fringeref06_Same hEQT hmT 154 (fun _ _ _ _ => noL_ok _) hw
  · have hw := key (inR_i64 (hok (.int .i64 t) (by simp [datasL, datas]))); rw [show (pathE ⟨nm, ra, dec⟩ t p ((77 : Nat) : Int) == 0) = false by simpa using h] at hw; exact (CallsA.ofEvCutP (fun _ => [1, 2, 3, 4, 10, 11]) g_fringeref06_Same hEQT hmT 154 (fun _ _ _ _ => noL_ok _) hw).drop (M' := []) fun b => .inr rfl

set_option maxRecDepth 100000 in
theorem wr_78 (nm : ByteArray) (ra dec t p : Int) (K : AV → List Blk → Ans) : evFnP Try.prog GT EQT T_fringeref06_Same XT noL (fun _ => [1, 2, 3, 4, 10, 11]) 400 8 [.v (.agg [.str nm, .int .i64 ra, .int .i64 dec]), .v (.c (.d (.int .i64 t))), .v (.c (.d (.int .i64 p))), .v (.c (.d (.int .i64 78)))] [] (fun v M => K v (cutAt 156 M)) = refPath ⟨nm, ra, dec⟩ t p 78 (refK K 28 156 78) := by
  kernel_rfl
theorem cr_78 (nm : ByteArray) (ra dec t p : Int) : (pathE ⟨nm, ra, dec⟩ t p ((78 : Nat) : Int) = 0 → CallsA Try.prog GT gbT 8 [.v (.agg [.str nm, .int .i64 ra, .int .i64 dec]), .v (.c (.d (.int .i64 t))), .v (.c (.d (.int .i64 p))), .v (.c (.d (.int .i64 ((78 : Nat) : Int))))] [] (vSlice 156 78 0) (mSlice 28 156 (pathD ⟨nm, ra, dec⟩ t p 78))) ∧ (pathE ⟨nm, ra, dec⟩ t p ((78 : Nat) : Int) ≠ 0 → CallsA Try.prog GT gbT 8 [.v (.agg [.str nm, .int .i64 ra, .int .i64 dec]), .v (.c (.d (.int .i64 t))), .v (.c (.d (.int .i64 p))), .v (.c (.d (.int .i64 ((78 : Nat) : Int))))] [] (vNil (pathE ⟨nm, ra, dec⟩ t p ((78 : Nat) : Int))) []) := by
  have key : ∀ ht : -9223372036854775808 ≤ t ∧ t ≤ 9223372036854775807, _ := fun ht => (wr_78 nm ra dec t p (fun v M => some (Res.fin v M))).trans (ref_path (m := 78) (by omega) ht _)
  refine ⟨fun h => CallsA.ofOk fun hok => ?_, fun h => CallsA.ofOk fun hok => ?_⟩
  · have hw := key (inR_i64 (hok (.int .i64 t) (by simp [datasL, datas]))); rw [h] at hw; exact CallsA.ofEvCutP (fun _ => [1, 2, 3, 4, 10, 11]) g_fringeref06_Same hEQT hmT 156 (fun _ _ _ _ => noL_ok _) hw
  · have hw := key (inR_i64 (hok (.int .i64 t) (by simp [datasL, datas]))); rw [show (pathE ⟨nm, ra, dec⟩ t p ((78 : Nat) : Int) == 0) = false by simpa using h] at hw; exact (CallsA.ofEvCutP (fun _ => [1, 2, 3, 4, 10, 11]) g_fringeref06_Same hEQT hmT 156 (fun _ _ _ _ => noL_ok _) hw).drop (M' := []) fun b => .inr rfl

set_option maxRecDepth 100000 in
theorem wr_79 (nm : ByteArray) (ra dec t p : Int) (K : AV → List Blk → Ans) : evFnP Try.prog GT EQT T_fringeref06_Same XT noL (fun _ => [1, 2, 3, 4, 10, 11]) 400 8 [.v (.agg [.str nm, .int .i64 ra, .int .i64 dec]), .v (.c (.d (.int .i64 t))), .v (.c (.d (.int .i64 p))), .v (.c (.d (.int .i64 79)))] [] (fun v M => K v (cutAt 158 M)) = refPath ⟨nm, ra, dec⟩ t p 79 (refK K 28 158 79) := by
  kernel_rfl
theorem cr_79 (nm : ByteArray) (ra dec t p : Int) : (pathE ⟨nm, ra, dec⟩ t p ((79 : Nat) : Int) = 0 → CallsA Try.prog GT gbT 8 [.v (.agg [.str nm, .int .i64 ra, .int .i64 dec]), .v (.c (.d (.int .i64 t))), .v (.c (.d (.int .i64 p))), .v (.c (.d (.int .i64 ((79 : Nat) : Int))))] [] (vSlice 158 79 0) (mSlice 28 158 (pathD ⟨nm, ra, dec⟩ t p 79))) ∧ (pathE ⟨nm, ra, dec⟩ t p ((79 : Nat) : Int) ≠ 0 → CallsA Try.prog GT gbT 8 [.v (.agg [.str nm, .int .i64 ra, .int .i64 dec]), .v (.c (.d (.int .i64 t))), .v (.c (.d (.int .i64 p))), .v (.c (.d (.int .i64 ((79 : Nat) : Int))))] [] (vNil (pathE ⟨nm, ra, dec⟩ t p ((79 : Nat) : Int))) []) := by
  have key : ∀ ht : -9223372036854775808 ≤ t ∧ t ≤ 9223372036854775807, _ := fun ht => (wr_79 nm ra dec t p (fun v M => some (Res.fin v M))).trans (ref_path (m := 79) (by omega) ht _)
  refine ⟨fun h => CallsA.ofOk fun hok => ?_, fun h => CallsA.ofOk fun hok => ?_⟩
  · have hw := key (inR_i64 (hok (.int .i64 t) (by simp [datasL, datas]))); rw [h] at hw; exact CallsA.ofEvCutP (fun _ => [1, 2, 3, 4, 10, 11]) g_fringeref06_Same hEQT hmT 158 (fun _ _ _ _ => noL_ok _) hw
  · have hw := key (inR_i64 (hok (.int .i64 t) (by simp [datasL, datas]))); rw [show (pathE ⟨nm, ra, dec⟩ t p ((79 : Nat) : Int) == 0) = false by simpa using h] at hw; exact (CallsA.ofEvCutP (fun _ => [1, 2, 3, 4, 10, 11]) g_fringeref06_Same hEQT hmT 158 (fun _ _ _ _ => noL_ok _) hw).drop (M' := []) fun b => .inr rfl

set_option maxRecDepth 100000 in
theorem wr_80 (nm : ByteArray) (ra dec t p : Int) (K : AV → List Blk → Ans) : evFnP Try.prog GT EQT T_fringeref06_Same XT noL (fun _ => [1, 2, 3, 4, 10, 11]) 400 8 [.v (.agg [.str nm, .int .i64 ra, .int .i64 dec]), .v (.c (.d (.int .i64 t))), .v (.c (.d (.int .i64 p))), .v (.c (.d (.int .i64 80)))] [] (fun v M => K v (cutAt 160 M)) = refPath ⟨nm, ra, dec⟩ t p 80 (refK K 28 160 80) := by
  kernel_rfl
theorem cr_80 (nm : ByteArray) (ra dec t p : Int) : (pathE ⟨nm, ra, dec⟩ t p ((80 : Nat) : Int) = 0 → CallsA Try.prog GT gbT 8 [.v (.agg [.str nm, .int .i64 ra, .int .i64 dec]), .v (.c (.d (.int .i64 t))), .v (.c (.d (.int .i64 p))), .v (.c (.d (.int .i64 ((80 : Nat) : Int))))] [] (vSlice 160 80 0) (mSlice 28 160 (pathD ⟨nm, ra, dec⟩ t p 80))) ∧ (pathE ⟨nm, ra, dec⟩ t p ((80 : Nat) : Int) ≠ 0 → CallsA Try.prog GT gbT 8 [.v (.agg [.str nm, .int .i64 ra, .int .i64 dec]), .v (.c (.d (.int .i64 t))), .v (.c (.d (.int .i64 p))), .v (.c (.d (.int .i64 ((80 : Nat) : Int))))] [] (vNil (pathE ⟨nm, ra, dec⟩ t p ((80 : Nat) : Int))) []) := by
  have key : ∀ ht : -9223372036854775808 ≤ t ∧ t ≤ 9223372036854775807, _ := fun ht => (wr_80 nm ra dec t p (fun v M => some (Res.fin v M))).trans (ref_path (m := 80) (by omega) ht _)
  refine ⟨fun h => CallsA.ofOk fun hok => ?_, fun h => CallsA.ofOk fun hok => ?_⟩
  · have hw := key (inR_i64 (hok (.int .i64 t) (by simp [datasL, datas]))); rw [h] at hw; exact CallsA.ofEvCutP (fun _ => [1, 2, 3, 4, 10, 11]) g_fringeref06_Same hEQT hmT 160 (fun _ _ _ _ => noL_ok _) hw
  · have hw := key (inR_i64 (hok (.int .i64 t) (by simp [datasL, datas]))); rw [show (pathE ⟨nm, ra, dec⟩ t p ((80 : Nat) : Int) == 0) = false by simpa using h] at hw; exact (CallsA.ofEvCutP (fun _ => [1, 2, 3, 4, 10, 11]) g_fringeref06_Same hEQT hmT 160 (fun _ _ _ _ => noL_ok _) hw).drop (M' := []) fun b => .inr rfl

set_option maxRecDepth 100000 in
theorem wr_81 (nm : ByteArray) (ra dec t p : Int) (K : AV → List Blk → Ans) : evFnP Try.prog GT EQT T_fringeref06_Same XT noL (fun _ => [1, 2, 3, 4, 10, 11]) 400 8 [.v (.agg [.str nm, .int .i64 ra, .int .i64 dec]), .v (.c (.d (.int .i64 t))), .v (.c (.d (.int .i64 p))), .v (.c (.d (.int .i64 81)))] [] (fun v M => K v (cutAt 162 M)) = refPath ⟨nm, ra, dec⟩ t p 81 (refK K 28 162 81) := by
  kernel_rfl
theorem cr_81 (nm : ByteArray) (ra dec t p : Int) : (pathE ⟨nm, ra, dec⟩ t p ((81 : Nat) : Int) = 0 → CallsA Try.prog GT gbT 8 [.v (.agg [.str nm, .int .i64 ra, .int .i64 dec]), .v (.c (.d (.int .i64 t))), .v (.c (.d (.int .i64 p))), .v (.c (.d (.int .i64 ((81 : Nat) : Int))))] [] (vSlice 162 81 0) (mSlice 28 162 (pathD ⟨nm, ra, dec⟩ t p 81))) ∧ (pathE ⟨nm, ra, dec⟩ t p ((81 : Nat) : Int) ≠ 0 → CallsA Try.prog GT gbT 8 [.v (.agg [.str nm, .int .i64 ra, .int .i64 dec]), .v (.c (.d (.int .i64 t))), .v (.c (.d (.int .i64 p))), .v (.c (.d (.int .i64 ((81 : Nat) : Int))))] [] (vNil (pathE ⟨nm, ra, dec⟩ t p ((81 : Nat) : Int))) []) := by
  have key : ∀ ht : -9223372036854775808 ≤ t ∧ t ≤ 9223372036854775807, _ := fun ht => (wr_81 nm ra dec t p (fun v M => some (Res.fin v M))).trans (ref_path (m := 81) (by omega) ht _)
  refine ⟨fun h => CallsA.ofOk fun hok => ?_, fun h => CallsA.ofOk fun hok => ?_⟩
  · have hw := key (inR_i64 (hok (.int .i64 t) (by simp [datasL, datas]))); rw [h] at hw; exact CallsA.ofEvCutP (fun _ => [1, 2, 3, 4, 10, 11]) g_fringeref06_Same hEQT hmT 162 (fun _ _ _ _ => noL_ok _) hw
  · have hw := key (inR_i64 (hok (.int .i64 t) (by simp [datasL, datas]))); rw [show (pathE ⟨nm, ra, dec⟩ t p ((81 : Nat) : Int) == 0) = false by simpa using h] at hw; exact (CallsA.ofEvCutP (fun _ => [1, 2, 3, 4, 10, 11]) g_fringeref06_Same hEQT hmT 162 (fun _ _ _ _ => noL_ok _) hw).drop (M' := []) fun b => .inr rfl

set_option maxRecDepth 100000 in
theorem wr_82 (nm : ByteArray) (ra dec t p : Int) (K : AV → List Blk → Ans) : evFnP Try.prog GT EQT T_fringeref06_Same XT noL (fun _ => [1, 2, 3, 4, 10, 11]) 400 8 [.v (.agg [.str nm, .int .i64 ra, .int .i64 dec]), .v (.c (.d (.int .i64 t))), .v (.c (.d (.int .i64 p))), .v (.c (.d (.int .i64 82)))] [] (fun v M => K v (cutAt 164 M)) = refPath ⟨nm, ra, dec⟩ t p 82 (refK K 28 164 82) := by
  kernel_rfl
theorem cr_82 (nm : ByteArray) (ra dec t p : Int) : (pathE ⟨nm, ra, dec⟩ t p ((82 : Nat) : Int) = 0 → CallsA Try.prog GT gbT 8 [.v (.agg [.str nm, .int .i64 ra, .int .i64 dec]), .v (.c (.d (.int .i64 t))), .v (.c (.d (.int .i64 p))), .v (.c (.d (.int .i64 ((82 : Nat) : Int))))] [] (vSlice 164 82 0) (mSlice 28 164 (pathD ⟨nm, ra, dec⟩ t p 82))) ∧ (pathE ⟨nm, ra, dec⟩ t p ((82 : Nat) : Int) ≠ 0 → CallsA Try.prog GT gbT 8 [.v (.agg [.str nm, .int .i64 ra, .int .i64 dec]), .v (.c (.d (.int .i64 t))), .v (.c (.d (.int .i64 p))), .v (.c (.d (.int .i64 ((82 : Nat) : Int))))] [] (vNil (pathE ⟨nm, ra, dec⟩ t p ((82 : Nat) : Int))) []) := by
  have key : ∀ ht : -9223372036854775808 ≤ t ∧ t ≤ 9223372036854775807, _ := fun ht => (wr_82 nm ra dec t p (fun v M => some (Res.fin v M))).trans (ref_path (m := 82) (by omega) ht _)
  refine ⟨fun h => CallsA.ofOk fun hok => ?_, fun h => CallsA.ofOk fun hok => ?_⟩
  · have hw := key (inR_i64 (hok (.int .i64 t) (by simp [datasL, datas]))); rw [h] at hw; exact CallsA.ofEvCutP (fun _ => [1, 2, 3, 4, 10, 11]) g_fringeref06_Same hEQT hmT 164 (fun _ _ _ _ => noL_ok _) hw
  · have hw := key (inR_i64 (hok (.int .i64 t) (by simp [datasL, datas]))); rw [show (pathE ⟨nm, ra, dec⟩ t p ((82 : Nat) : Int) == 0) = false by simpa using h] at hw; exact (CallsA.ofEvCutP (fun _ => [1, 2, 3, 4, 10, 11]) g_fringeref06_Same hEQT hmT 164 (fun _ _ _ _ => noL_ok _) hw).drop (M' := []) fun b => .inr rfl

set_option maxRecDepth 100000 in
theorem wr_83 (nm : ByteArray) (ra dec t p : Int) (K : AV → List Blk → Ans) : evFnP Try.prog GT EQT T_fringeref06_Same XT noL (fun _ => [1, 2, 3, 4, 10, 11]) 400 8 [.v (.agg [.str nm, .int .i64 ra, .int .i64 dec]), .v (.c (.d (.int .i64 t))), .v (.c (.d (.int .i64 p))), .v (.c (.d (.int .i64 83)))] [] (fun v M => K v (cutAt 166 M)) = refPath ⟨nm, ra, dec⟩ t p 83 (refK K 28 166 83) := by
  kernel_rfl
theorem cr_83 (nm : ByteArray) (ra dec t p : Int) : (pathE ⟨nm, ra, dec⟩ t p ((83 : Nat) : Int) = 0 → CallsA Try.prog GT gbT 8 [.v (.agg [.str nm, .int .i64 ra, .int .i64 dec]), .v (.c (.d (.int .i64 t))), .v (.c (.d (.int .i64 p))), .v (.c (.d (.int .i64 ((83 : Nat) : Int))))] [] (vSlice 166 83 0) (mSlice 28 166 (pathD ⟨nm, ra, dec⟩ t p 83))) ∧ (pathE ⟨nm, ra, dec⟩ t p ((83 : Nat) : Int) ≠ 0 → CallsA Try.prog GT gbT 8 [.v (.agg [.str nm, .int .i64 ra, .int .i64 dec]), .v (.c (.d (.int .i64 t))), .v (.c (.d (.int .i64 p))), .v (.c (.d (.int .i64 ((83 : Nat) : Int))))] [] (vNil (pathE ⟨nm, ra, dec⟩ t p ((83 : Nat) : Int))) []) := by
  have key : ∀ ht : -9223372036854775808 ≤ t ∧ t ≤ 9223372036854775807, _ := fun ht => (wr_83 nm ra dec t p (fun v M => some (Res.fin v M))).trans (ref_path (m := 83) (by omega) ht _)
  refine ⟨fun h => CallsA.ofOk fun hok => ?_, fun h => CallsA.ofOk fun hok => ?_⟩
  · have hw := key (inR_i64 (hok (.int .i64 t) (by simp [datasL, datas]))); rw [h] at hw; exact CallsA.ofEvCutP (fun _ => [1, 2, 3, 4, 10, 11]) g_fringeref06_Same hEQT hmT 166 (fun _ _ _ _ => noL_ok _) hw
  · have hw := key (inR_i64 (hok (.int .i64 t) (by simp [datasL, datas]))); rw [show (pathE ⟨nm, ra, dec⟩ t p ((83 : Nat) : Int) == 0) = false by simpa using h] at hw; exact (CallsA.ofEvCutP (fun _ => [1, 2, 3, 4, 10, 11]) g_fringeref06_Same hEQT hmT 166 (fun _ _ _ _ => noL_ok _) hw).drop (M' := []) fun b => .inr rfl

set_option maxRecDepth 100000 in
theorem wr_84 (nm : ByteArray) (ra dec t p : Int) (K : AV → List Blk → Ans) : evFnP Try.prog GT EQT T_fringeref06_Same XT noL (fun _ => [1, 2, 3, 4, 10, 11]) 400 8 [.v (.agg [.str nm, .int .i64 ra, .int .i64 dec]), .v (.c (.d (.int .i64 t))), .v (.c (.d (.int .i64 p))), .v (.c (.d (.int .i64 84)))] [] (fun v M => K v (cutAt 168 M)) = refPath ⟨nm, ra, dec⟩ t p 84 (refK K 28 168 84) := by
  kernel_rfl
theorem cr_84 (nm : ByteArray) (ra dec t p : Int) : (pathE ⟨nm, ra, dec⟩ t p ((84 : Nat) : Int) = 0 → CallsA Try.prog GT gbT 8 [.v (.agg [.str nm, .int .i64 ra, .int .i64 dec]), .v (.c (.d (.int .i64 t))), .v (.c (.d (.int .i64 p))), .v (.c (.d (.int .i64 ((84 : Nat) : Int))))] [] (vSlice 168 84 0) (mSlice 28 168 (pathD ⟨nm, ra, dec⟩ t p 84))) ∧ (pathE ⟨nm, ra, dec⟩ t p ((84 : Nat) : Int) ≠ 0 → CallsA Try.prog GT gbT 8 [.v (.agg [.str nm, .int .i64 ra, .int .i64 dec]), .v (.c (.d (.int .i64 t))), .v (.c (.d (.int .i64 p))), .v (.c (.d (.int .i64 ((84 : Nat) : Int))))] [] (vNil (pathE ⟨nm, ra, dec⟩ t p ((84 : Nat) : Int))) []) := by
  have key : ∀ ht : -9223372036854775808 ≤ t ∧ t ≤ 9223372036854775807, _ := fun ht => (wr_84 nm ra dec t p (fun v M => some (Res.fin v M))).trans (ref_path (m := 84) (by omega) ht _)
  refine ⟨fun h => CallsA.ofOk fun hok => ?_, fun h => CallsA.ofOk fun hok => ?_⟩
  · have hw := key (inR_i64 (hok (.int .i64 t) (by simp [datasL, datas]))); rw [h] at hw; exact CallsA.ofEvCutP (fun _ => [1, 2, 3, 4, 10, 11]) g_fringeref06_Same hEQT hmT 168 (fun _ _ _ _ => noL_ok _) hw
  · have hw := key (inR_i64 (hok (.int .i64 t) (by simp [datasL, datas]))); rw [show (pathE ⟨nm, ra, dec⟩ t p ((84 : Nat) : Int) == 0) = false by simpa using h] at hw; exact (CallsA.ofEvCutP (fun _ => [1, 2, 3, 4, 10, 11]) g_fringeref06_Same hEQT hmT 168 (fun _ _ _ _ => noL_ok _) hw).drop (M' := []) fun b => .inr rfl

set_option maxRecDepth 100000 in
theorem wr_85 (nm : ByteArray) (ra dec t p : Int) (K : AV → List Blk → Ans) : evFnP Try.prog GT EQT T_fringeref06_Same XT noL (fun _ => [1, 2, 3, 4, 10, 11]) 400 8 [.v (.agg [.str nm, .int .i64 ra, .int .i64 dec]), .v (.c (.d (.int .i64 t))), .v (.c (.d (.int .i64 p))), .v (.c (.d (.int .i64 85)))] [] (fun v M => K v (cutAt 170 M)) = refPath ⟨nm, ra, dec⟩ t p 85 (refK K 28 170 85) := by
  kernel_rfl
theorem cr_85 (nm : ByteArray) (ra dec t p : Int) : (pathE ⟨nm, ra, dec⟩ t p ((85 : Nat) : Int) = 0 → CallsA Try.prog GT gbT 8 [.v (.agg [.str nm, .int .i64 ra, .int .i64 dec]), .v (.c (.d (.int .i64 t))), .v (.c (.d (.int .i64 p))), .v (.c (.d (.int .i64 ((85 : Nat) : Int))))] [] (vSlice 170 85 0) (mSlice 28 170 (pathD ⟨nm, ra, dec⟩ t p 85))) ∧ (pathE ⟨nm, ra, dec⟩ t p ((85 : Nat) : Int) ≠ 0 → CallsA Try.prog GT gbT 8 [.v (.agg [.str nm, .int .i64 ra, .int .i64 dec]), .v (.c (.d (.int .i64 t))), .v (.c (.d (.int .i64 p))), .v (.c (.d (.int .i64 ((85 : Nat) : Int))))] [] (vNil (pathE ⟨nm, ra, dec⟩ t p ((85 : Nat) : Int))) []) := by
  have key : ∀ ht : -9223372036854775808 ≤ t ∧ t ≤ 9223372036854775807, _ := fun ht => (wr_85 nm ra dec t p (fun v M => some (Res.fin v M))).trans (ref_path (m := 85) (by omega) ht _)
  refine ⟨fun h => CallsA.ofOk fun hok => ?_, fun h => CallsA.ofOk fun hok => ?_⟩
  · have hw := key (inR_i64 (hok (.int .i64 t) (by simp [datasL, datas]))); rw [h] at hw; exact CallsA.ofEvCutP (fun _ => [1, 2, 3, 4, 10, 11]) g_fringeref06_Same hEQT hmT 170 (fun _ _ _ _ => noL_ok _) hw
  · have hw := key (inR_i64 (hok (.int .i64 t) (by simp [datasL, datas]))); rw [show (pathE ⟨nm, ra, dec⟩ t p ((85 : Nat) : Int) == 0) = false by simpa using h] at hw; exact (CallsA.ofEvCutP (fun _ => [1, 2, 3, 4, 10, 11]) g_fringeref06_Same hEQT hmT 170 (fun _ _ _ _ => noL_ok _) hw).drop (M' := []) fun b => .inr rfl

set_option maxRecDepth 100000 in
theorem wr_86 (nm : ByteArray) (ra dec t p : Int) (K : AV → List Blk → Ans) : evFnP Try.prog GT EQT T_fringeref06_Same XT noL (fun _ => [1, 2, 3, 4, 10, 11]) 400 8 [.v (.agg [.str nm, .int .i64 ra, .int .i64 dec]), .v (.c (.d (.int .i64 t))), .v (.c (.d (.int .i64 p))), .v (.c (.d (.int .i64 86)))] [] (fun v M => K v (cutAt 172 M)) = refPath ⟨nm, ra, dec⟩ t p 86 (refK K 28 172 86) := by
  kernel_rfl
theorem cr_86 (nm : ByteArray) (ra dec t p : Int) : (pathE ⟨nm, ra, dec⟩ t p ((86 : Nat) : Int) = 0 → CallsA Try.prog GT gbT 8 [.v (.agg [.str nm, .int .i64 ra, .int .i64 dec]), .v (.c (.d (.int .i64 t))), .v (.c (.d (.int .i64 p))), .v (.c (.d (.int .i64 ((86 : Nat) : Int))))] [] (vSlice 172 86 0) (mSlice 28 172 (pathD ⟨nm, ra, dec⟩ t p 86))) ∧ (pathE ⟨nm, ra, dec⟩ t p ((86 : Nat) : Int) ≠ 0 → CallsA Try.prog GT gbT 8 [.v (.agg [.str nm, .int .i64 ra, .int .i64 dec]), .v (.c (.d (.int .i64 t))), .v (.c (.d (.int .i64 p))), .v (.c (.d (.int .i64 ((86 : Nat) : Int))))] [] (vNil (pathE ⟨nm, ra, dec⟩ t p ((86 : Nat) : Int))) []) := by
  have key : ∀ ht : -9223372036854775808 ≤ t ∧ t ≤ 9223372036854775807, _ := fun ht => (wr_86 nm ra dec t p (fun v M => some (Res.fin v M))).trans (ref_path (m := 86) (by omega) ht _)
  refine ⟨fun h => CallsA.ofOk fun hok => ?_, fun h => CallsA.ofOk fun hok => ?_⟩
  · have hw := key (inR_i64 (hok (.int .i64 t) (by simp [datasL, datas]))); rw [h] at hw; exact CallsA.ofEvCutP (fun _ => [1, 2, 3, 4, 10, 11]) g_fringeref06_Same hEQT hmT 172 (fun _ _ _ _ => noL_ok _) hw
  · have hw := key (inR_i64 (hok (.int .i64 t) (by simp [datasL, datas]))); rw [show (pathE ⟨nm, ra, dec⟩ t p ((86 : Nat) : Int) == 0) = false by simpa using h] at hw; exact (CallsA.ofEvCutP (fun _ => [1, 2, 3, 4, 10, 11]) g_fringeref06_Same hEQT hmT 172 (fun _ _ _ _ => noL_ok _) hw).drop (M' := []) fun b => .inr rfl

set_option maxRecDepth 100000 in
theorem wr_87 (nm : ByteArray) (ra dec t p : Int) (K : AV → List Blk → Ans) : evFnP Try.prog GT EQT T_fringeref06_Same XT noL (fun _ => [1, 2, 3, 4, 10, 11]) 400 8 [.v (.agg [.str nm, .int .i64 ra, .int .i64 dec]), .v (.c (.d (.int .i64 t))), .v (.c (.d (.int .i64 p))), .v (.c (.d (.int .i64 87)))] [] (fun v M => K v (cutAt 174 M)) = refPath ⟨nm, ra, dec⟩ t p 87 (refK K 28 174 87) := by
  kernel_rfl
theorem cr_87 (nm : ByteArray) (ra dec t p : Int) : (pathE ⟨nm, ra, dec⟩ t p ((87 : Nat) : Int) = 0 → CallsA Try.prog GT gbT 8 [.v (.agg [.str nm, .int .i64 ra, .int .i64 dec]), .v (.c (.d (.int .i64 t))), .v (.c (.d (.int .i64 p))), .v (.c (.d (.int .i64 ((87 : Nat) : Int))))] [] (vSlice 174 87 0) (mSlice 28 174 (pathD ⟨nm, ra, dec⟩ t p 87))) ∧ (pathE ⟨nm, ra, dec⟩ t p ((87 : Nat) : Int) ≠ 0 → CallsA Try.prog GT gbT 8 [.v (.agg [.str nm, .int .i64 ra, .int .i64 dec]), .v (.c (.d (.int .i64 t))), .v (.c (.d (.int .i64 p))), .v (.c (.d (.int .i64 ((87 : Nat) : Int))))] [] (vNil (pathE ⟨nm, ra, dec⟩ t p ((87 : Nat) : Int))) []) := by
  have key : ∀ ht : -9223372036854775808 ≤ t ∧ t ≤ 9223372036854775807, _ := fun ht => (wr_87 nm ra dec t p (fun v M => some (Res.fin v M))).trans (ref_path (m := 87) (by omega) ht _)
  refine ⟨fun h => CallsA.ofOk fun hok => ?_, fun h => CallsA.ofOk fun hok => ?_⟩
  · have hw := key (inR_i64 (hok (.int .i64 t) (by simp [datasL, datas]))); rw [h] at hw; exact CallsA.ofEvCutP (fun _ => [1, 2, 3, 4, 10, 11]) g_fringeref06_Same hEQT hmT 174 (fun _ _ _ _ => noL_ok _) hw
  · have hw := key (inR_i64 (hok (.int .i64 t) (by simp [datasL, datas]))); rw [show (pathE ⟨nm, ra, dec⟩ t p ((87 : Nat) : Int) == 0) = false by simpa using h] at hw; exact (CallsA.ofEvCutP (fun _ => [1, 2, 3, 4, 10, 11]) g_fringeref06_Same hEQT hmT 174 (fun _ _ _ _ => noL_ok _) hw).drop (M' := []) fun b => .inr rfl

end Go.Ev
