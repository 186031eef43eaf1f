/-
  TrackMakes, value by value of the length of a path. No condition beyond those of the statements.
-/
import Derived.Test.YtmidgaahaffmcaaTxCA
namespace Go.Ev
open Go Go.Proofs

set_option maxRecDepth 100000 in
theorem wr_55 (nm : ByteArray) (ra dec t p : Int) (K : AV → List Blk → Ans) : evFnP Try.prog GT EQT T_fringeref06_Same XT noL (fun _ => [1, 2, 3, 4, 10, 11]) 400 8 [.v (.agg [.str nm, .int .i64 ra, .int .i64 dec]), .v (.c (.d (.int .i64 t))), .v (.c (.d (.int .i64 p))), .v (.c (.d (.int .i64 55)))] [] (fun v M => K v (cutAt 110 M)) = refPath ⟨nm, ra, dec⟩ t p 55 (refK K 28 110 55) := by
  kernel_rfl
theorem cr_55 (nm : ByteArray) (ra dec t p : Int) : (pathE ⟨nm, ra, dec⟩ t p ((55 : Nat) : Int) = 0 → CallsA Try.prog GT gbT 8 [.v (.agg [.str nm, .int .i64 ra, .int .i64 dec]), .v (.c (.d (.int .i64 t))), .v (.c (.d (.int .i64 p))), .v (.c (.d (.int .i64 ((55 : Nat) : Int))))] [] (vSlice 110 55 0) (mSlice 28 110 (pathD ⟨nm, ra, dec⟩ t p 55))) ∧ (pathE ⟨nm, ra, dec⟩ t p ((55 : Nat) : Int) ≠ 0 → CallsA Try.prog GT gbT 8 [.v (.agg [.str nm, .int .i64 ra, .int .i64 dec]), .v (.c (.d (.int .i64 t))), .v (.c (.d (.int .i64 p))), .v (.c (.d (.int .i64 ((55 : Nat) : Int))))] [] (vNil (pathE ⟨nm, ra, dec⟩ t p ((55 : Nat) : Int))) []) := by
  have key : ∀ ht : -9223372036854775808 ≤ t ∧ t ≤ 9223372036854775807, _ := fun ht => (wr_55 nm ra dec t p (fun v M => some (Res.fin v M))).trans (ref_path (m := 55) (by omega) ht _)
  refine ⟨fun h => CallsA.ofOk fun hok => ?_, fun h => CallsA.ofOk fun hok => ?_⟩
  · have hw := key (inR_i64 (hok (.int .i64 t) (by simp [datasL, datas]))); rw [h] at hw; exact CallsA.ofEvCutP (fun _ => [1, 2, 3, 4, 10, 11]) g_fringeref06_Same hEQT hmT 110 (fun _ _ _ _ => noL_ok _) hw
  · have hw := key (inR_i64 (hok (.int .i64 t) (by simp [datasL, datas]))); rw [show (pathE ⟨nm, ra, dec⟩ t p ((55 : Nat) : Int) == 0) = false by simpa using h] at hw; exact (CallsA.ofEvCutP (fun _ => [1, 2, 3, 4, 10, 11]) g_fringeref06_Same hEQT hmT 110 (fun _ _ _ _ => noL_ok _) hw).drop (M' := []) fun b => .inr rfl

set_option maxRecDepth 100000 in
theorem wr_56 (nm : ByteArray) (ra dec t p : Int) (K : AV → List Blk → Ans) : evFnP Try.prog GT EQT T_fringeref06_Same XT noL (fun _ => [1, 2, 3, 4, 10, 11]) 400 8 [.v (.agg [.str nm, .int .i64 ra, .int .i64 dec]), .v (.c (.d (.int .i64 t))), .v (.c (.d (.int .i64 p))), .v (.c (.d (.int .i64 56)))] [] (fun v M => K v (cutAt 112 M)) = refPath ⟨nm, ra, dec⟩ t p 56 (refK K 28 112 56) := by
  kernel_rfl
theorem cr_56 (nm : ByteArray) (ra dec t p : Int) : (pathE ⟨nm, ra, dec⟩ t p ((56 : Nat) : Int) = 0 → CallsA Try.prog GT gbT 8 [.v (.agg [.str nm, .int .i64 ra, .int .i64 dec]), .v (.c (.d (.int .i64 t))), .v (.c (.d (.int .i64 p))), .v (.c (.d (.int .i64 ((56 : Nat) : Int))))] [] (vSlice 112 56 0) (mSlice 28 112 (pathD ⟨nm, ra, dec⟩ t p 56))) ∧ (pathE ⟨nm, ra, dec⟩ t p ((56 : Nat) : Int) ≠ 0 → CallsA Try.prog GT gbT 8 [.v (.agg [.str nm, .int .i64 ra, .int .i64 dec]), .v (.c (.d (.int .i64 t))), .v (.c (.d (.int .i64 p))), .v (.c (.d (.int .i64 ((56 : Nat) : Int))))] [] (vNil (pathE ⟨nm, ra, dec⟩ t p ((56 : Nat) : Int))) []) := by
  have key : ∀ ht : -9223372036854775808 ≤ t ∧ t ≤ 9223372036854775807, _ := fun ht => (wr_56 nm ra dec t p (fun v M => some (Res.fin v M))).trans (ref_path (m := 56) (by omega) ht _)
  refine ⟨fun h => CallsA.ofOk fun hok => ?_, fun h => CallsA.ofOk fun hok => ?_⟩
  · have hw := key (inR_i64 (hok (.int .i64 t) (by simp [datasL, datas]))); rw [h] at hw; exact CallsA.ofEvCutP (fun _ => [1, 2, 3, 4, 10, 11]) g_fringeref06_Same hEQT hmT 112 (fun _ _ _ _ => noL_ok _) hw
  · have hw := key (inR_i64 (hok (.int .i64 t) (by simp [datasL, datas]))); rw [show (pathE ⟨nm, ra, dec⟩ t p ((56 : Nat) : Int) == 0) = false by simpa using h] at hw; exact (CallsA.ofEvCutP (fun _ => [1, 2, 3, 4, 10, 11]) g_fringeref06_Same hEQT hmT 112 (fun _ _ _ _ => noL_ok _) hw).drop (M' := []) fun b => .inr rfl

set_option maxRecDepth 100000 in
theorem wr_57 (nm : ByteArray) (ra dec t p : Int) (K : AV → List Blk → Ans) : evFnP Try.prog GT EQT T_fringeref06_Same XT noL (fun _ => [1, 2, 3, 4, 10, 11]) 400 8 [.v (.agg [.str nm, .int .i64 ra, .int .i64 dec]), .v (.c (.d (.int .i64 t))), .v (.c (.d (.int .i64 p))), .v (.c (.d (.int .i64 57)))] [] (fun v M => K v (cutAt 114 M)) = refPath ⟨nm, ra, dec⟩ t p 57 (refK K 28 114 57) := by
  kernel_rfl
theorem cr_57 (nm : ByteArray) (ra dec t p : Int) : (pathE ⟨nm, ra, dec⟩ t p ((57 : Nat) : Int) = 0 → CallsA Try.prog GT gbT 8 [.v (.agg [.str nm, .int .i64 ra, .int .i64 dec]), .v (.c (.d (.int .i64 t))), .v (.c (.d (.int .i64 p))), .v (.c (.d (.int .i64 ((57 : Nat) : Int))))] [] (vSlice 114 57 0) (mSlice 28 114 (pathD ⟨nm, ra, dec⟩ t p 57))) ∧ (pathE ⟨nm, ra, dec⟩ t p ((57 : Nat) : Int) ≠ 0 → CallsA Try.prog GT gbT 8 [.v (.agg [.str nm, .int .i64 ra, .int .i64 dec]), .v (.c (.d (.int .i64 t))), .v (.c (.d (.int .i64 p))), .v (.c (.d (.int .i64 ((57 : Nat) : Int))))] [] (vNil (pathE ⟨nm, ra, dec⟩ t p ((57 : Nat) : Int))) []) := by
  have key : ∀ ht : -9223372036854775808 ≤ t ∧ t ≤ 9223372036854775807, _ := fun ht => (wr_57 nm ra dec t p (fun v M => some (Res.fin v M))).trans (ref_path (m := 57) (by omega) ht _)
  refine ⟨fun h => CallsA.ofOk fun hok => ?_, fun h => CallsA.ofOk fun hok => ?_⟩
  · have hw := key (inR_i64 (hok (.int .i64 t) (by simp [datasL, datas]))); rw [h] at hw; exact CallsA.ofEvCutP (fun _ => [1, 2, 3, 4, 10, 11]) g_fringeref06_Same hEQT hmT 114 (fun _ _ _ _ => noL_ok _) hw
  · have hw := key (inR_i64 (hok (.int .i64 t) (by simp [datasL, datas]))); rw [show (pathE ⟨nm, ra, dec⟩ t p ((57 : Nat) : Int) == 0) = false by simpa using h] at hw; exact (CallsA.ofEvCutP (fun _ => [1, 2, 3, 4, 10, 11]) g_fringeref06_Same hEQT hmT 114 (fun _ _ _ _ => noL_ok _) hw).drop (M' := []) fun b => .inr rfl

set_option maxRecDepth 100000 in
theorem wr_58 (nm : ByteArray) (ra dec t p : Int) (K : AV → List Blk → Ans) : evFnP Try.prog GT EQT T_fringeref06_Same XT noL (fun _ => [1, 2, 3, 4, 10, 11]) 400 8 [.v (.agg [.str nm, .int .i64 ra, .int .i64 dec]), .v (.c (.d (.int .i64 t))), .v (.c (.d (.int .i64 p))), .v (.c (.d (.int .i64 58)))] [] (fun v M => K v (cutAt 116 M)) = refPath ⟨nm, ra, dec⟩ t p 58 (refK K 28 116 58) := by
  kernel_rfl
theorem cr_58 (nm : ByteArray) (ra dec t p : Int) : (pathE ⟨nm, ra, dec⟩ t p ((58 : Nat) : Int) = 0 → CallsA Try.prog GT gbT 8 [.v (.agg [.str nm, .int .i64 ra, .int .i64 dec]), .v (.c (.d (.int .i64 t))), .v (.c (.d (.int .i64 p))), .v (.c (.d (.int .i64 ((58 : Nat) : Int))))] [] (vSlice 116 58 0) (mSlice 28 116 (pathD ⟨nm, ra, dec⟩ t p 58))) ∧ (pathE ⟨nm, ra, dec⟩ t p ((58 : Nat) : Int) ≠ 0 → CallsA Try.prog GT gbT 8 [.v (.agg [.str nm, .int .i64 ra, .int .i64 dec]), .v (.c (.d (.int .i64 t))), .v (.c (.d (.int .i64 p))), .v (.c (.d (.int .i64 ((58 : Nat) : Int))))] [] (vNil (pathE ⟨nm, ra, dec⟩ t p ((58 : Nat) : Int))) []) := by
  have key : ∀ ht : -9223372036854775808 ≤ t ∧ t ≤ 9223372036854775807, _ := fun ht => (wr_58 nm ra dec t p (fun v M => some (Res.fin v M))).trans (ref_path (m := 58) (by omega) ht _)
  refine ⟨fun h => CallsA.ofOk fun hok => ?_, fun h => CallsA.ofOk fun hok => ?_⟩
  · have hw := key (inR_i64 (hok (.int .i64 t) (by simp [datasL, datas]))); rw [h] at hw; exact CallsA.ofEvCutP (fun _ => [1, 2, 3, 4, 10, 11]) g_fringeref06_Same hEQT hmT 116 (fun _ _ _ _ => noL_ok _) hw
  · have hw := key (inR_i64 (hok (.int .i64 t) (by simp [datasL, datas]))); rw [show (pathE ⟨nm, ra, dec⟩ t p ((58 : Nat) : Int) == 0) = false by simpa using h] at hw; exact (CallsA.ofEvCutP (fun _ => [1, 2, 3, 4, 10, 11]) g_fringeref06_Same hEQT hmT 116 (fun _ _ _ _ => noL_ok _) hw).drop (M' := []) fun b => .inr rfl

set_option maxRecDepth 100000 in
theorem wr_59 (nm : ByteArray) (ra dec t p : Int) (K : AV → List Blk → Ans) : evFnP Try.prog GT EQT T_fringeref06_Same XT noL (fun _ => [1, 2, 3, 4, 10, 11]) 400 8 [.v (.agg [.str nm, .int .i64 ra, .int .i64 dec]), .v (.c (.d (.int .i64 t))), .v (.c (.d (.int .i64 p))), .v (.c (.d (.int .i64 59)))] [] (fun v M => K v (cutAt 118 M)) = refPath ⟨nm, ra, dec⟩ t p 59 (refK K 28 118 59) := by
  kernel_rfl
theorem cr_59 (nm : ByteArray) (ra dec t p : Int) : (pathE ⟨nm, ra, dec⟩ t p ((59 : Nat) : Int) = 0 → CallsA Try.prog GT gbT 8 [.v (.agg [.str nm, .int .i64 ra, .int .i64 dec]), .v (.c (.d (.int .i64 t))), .v (.c (.d (.int .i64 p))), .v (.c (.d (.int .i64 ((59 : Nat) : Int))))] [] (vSlice 118 59 0) (mSlice 28 118 (pathD ⟨nm, ra, dec⟩ t p 59))) ∧ (pathE ⟨nm, ra, dec⟩ t p ((59 : Nat) : Int) ≠ 0 → CallsA Try.prog GT gbT 8 [.v (.agg [.str nm, .int .i64 ra, .int .i64 dec]), .v (.c (.d (.int .i64 t))), .v (.c (.d (.int .i64 p))), .v (.c (.d (.int .i64 ((59 : Nat) : Int))))] [] (vNil (pathE ⟨nm, ra, dec⟩ t p ((59 : Nat) : Int))) []) := by
  have key : ∀ ht : -9223372036854775808 ≤ t ∧ t ≤ 9223372036854775807, _ := fun ht => (wr_59 nm ra dec t p (fun v M => some (Res.fin v M))).trans (ref_path (m := 59) (by omega) ht _)
  refine ⟨fun h => CallsA.ofOk fun hok => ?_, fun h => CallsA.ofOk fun hok => ?_⟩
  · have hw := key (inR_i64 (hok (.int .i64 t) (by simp [datasL, datas]))); rw [h] at hw; exact CallsA.ofEvCutP (fun _ => [1, 2, 3, 4, 10, 11]) g_fringeref06_Same hEQT hmT 118 (fun _ _ _ _ => noL_ok _) hw
  · have hw := key (inR_i64 (hok (.int .i64 t) (by simp [datasL, datas]))); rw [show (pathE ⟨nm, ra, dec⟩ t p ((59 : Nat) : Int) == 0) = false by simpa using h] at hw; exact (CallsA.ofEvCutP (fun _ => [1, 2, 3, 4, 10, 11]) g_fringeref06_Same hEQT hmT 118 (fun _ _ _ _ => noL_ok _) hw).drop (M' := []) fun b => .inr rfl

set_option maxRecDepth 100000 in
theorem wr_60 (nm : ByteArray) (ra dec t p : Int) (K : AV → List Blk → Ans) : evFnP Try.prog GT EQT T_fringeref06_Same XT noL (fun _ => [1, 2, 3, 4, 10, 11]) 400 8 [.v (.agg [.str nm, .int .i64 ra, .int .i64 dec]), .v (.c (.d (.int .i64 t))), .v (.c (.d (.int .i64 p))), .v (.c (.d (.int .i64 60)))] [] (fun v M => K v (cutAt 120 M)) = refPath ⟨nm, ra, dec⟩ t p 60 (refK K 28 120 60) := by
  kernel_rfl
theorem cr_60 (nm : ByteArray) (ra dec t p : Int) : (pathE ⟨nm, ra, dec⟩ t p ((60 : Nat) : Int) = 0 → CallsA Try.prog GT gbT 8 [.v (.agg [.str nm, .int .i64 ra, .int .i64 dec]), .v (.c (.d (.int .i64 t))), .v (.c (.d (.int .i64 p))), .v (.c (.d (.int .i64 ((60 : Nat) : Int))))] [] (vSlice 120 60 0) (mSlice 28 120 (pathD ⟨nm, ra, dec⟩ t p 60))) ∧ (pathE ⟨nm, ra, dec⟩ t p ((60 : Nat) : Int) ≠ 0 → CallsA Try.prog GT gbT 8 [.v (.agg [.str nm, .int .i64 ra, .int .i64 dec]), .v (.c (.d (.int .i64 t))), .v (.c (.d (.int .i64 p))), .v (.c (.d (.int .i64 ((60 : Nat) : Int))))] [] (vNil (pathE ⟨nm, ra, dec⟩ t p ((60 : Nat) : Int))) []) := by
  have key : ∀ ht : -9223372036854775808 ≤ t ∧ t ≤ 9223372036854775807, _ := fun ht => (wr_60 nm ra dec t p (fun v M => some (Res.fin v M))).trans (ref_path (m := 60) (by omega) ht _)
  refine ⟨fun h => CallsA.ofOk fun hok => ?_, fun h => CallsA.ofOk fun hok => ?_⟩
  · have hw := key (inR_i64 (hok (.int .i64 t) (by simp [datasL, datas]))); rw [h] at hw; exact CallsA.ofEvCutP (fun _ => [1, 2, 3, 4, 10, 11]) g_fringeref06_Same hEQT hmT 120 (fun _ _ _ _ => noL_ok _) hw
  · have hw := key (inR_i64 (hok (.int .i64 t) (by simp [datasL, datas]))); rw [show (pathE ⟨nm, ra, dec⟩ t p ((60 : Nat) : Int) == 0) = false by simpa using h] at hw; exact (CallsA.ofEvCutP (fun _ => [1, 2, 3, 4, 10, 11]) g_fringeref06_Same hEQT hmT 120 (fun _ _ _ _ => noL_ok _) hw).drop (M' := []) fun b => .inr rfl

set_option maxRecDepth 100000 in
theorem wr_61 (nm : ByteArray) (ra dec t p : Int) (K : AV → List Blk → Ans) : evFnP Try.prog GT EQT T_fringeref06_Same XT noL (fun _ => [1, 2, 3, 4, 10, 11]) 400 8 [.v (.agg [.str nm, .int .i64 ra, .int .i64 dec]), .v (.c (.d (.int .i64 t))), .v (.c (.d (.int .i64 p))), .v (.c (.d (.int .i64 61)))] [] (fun v M => K v (cutAt 122 M)) = refPath ⟨nm, ra, dec⟩ t p 61 (refK K 28 122 61) := by
  kernel_rfl
theorem cr_61 (nm : ByteArray) (ra dec t p : Int) : (pathE ⟨nm, ra, dec⟩ t p ((61 : Nat) : Int) = 0 → CallsA Try.prog GT gbT 8 [.v (.agg [.str nm, .int .i64 ra, .int .i64 dec]), .v (.c (.d (.int .i64 t))), .v (.c (.d (.int .i64 p))), .v (.c (.d (.int .i64 ((61 : Nat) : Int))))] [] (vSlice 122 61 0) (mSlice 28 122 (pathD ⟨nm, ra, dec⟩ t p 61))) ∧ (pathE ⟨nm, ra, dec⟩ t p ((61 : Nat) : Int) ≠ 0 → CallsA Try.prog GT gbT 8 [.v (.agg [.str nm, .int .i64 ra, .int .i64 dec]), .v (.c (.d (.int .i64 t))), .v (.c (.d (.int .i64 p))), .v (.c (.d (.int .i64 ((61 : Nat) : Int))))] [] (vNil (pathE ⟨nm, ra, dec⟩ t p ((61 : Nat) : Int))) []) := by
  have key : ∀ ht : -9223372036854775808 ≤ t ∧ t ≤ 9223372036854775807, _ := fun ht => (wr_61 nm ra dec t p (fun v M => some (Res.fin v M))).trans (ref_path (m := 61) (by omega) ht _)
  refine ⟨fun h => CallsA.ofOk fun hok => ?_, fun h => CallsA.ofOk fun hok => ?_⟩
  · have hw := key (inR_i64 (hok (.int .i64 t) (by simp [datasL, datas]))); rw [h] at hw; exact CallsA.ofEvCutP (fun _ => [1, 2, 3, 4, 10, 11]) g_fringeref06_Same hEQT hmT 122 (fun _ _ _ _ => noL_ok _) hw
  · have hw := key (inR_i64 (hok (.int .i64 t) (by simp [datasL, datas]))); rw [show (pathE ⟨nm, ra, dec⟩ t p ((61 : Nat) : Int) == 0) = false by simpa using h] at hw; exact (CallsA.ofEvCutP (fun _ => [1, 2, 3, 4, 10, 11]) g_fringeref06_Same hEQT hmT 122 (fun _ _ _ _ => noL_ok _) hw).drop (M' := []) fun b => .inr rfl

set_option maxRecDepth 100000 in
theorem wr_62 (nm : ByteArray) (ra dec t p : Int) (K : AV → List Blk → Ans) : evFnP Try.prog GT EQT T_fringeref06_Same XT noL (fun _ => [1, 2, 3, 4, 10, 11]) 400 8 [.v (.agg [.str nm, .int .i64 ra, .int .i64 dec]), .v (.c (.d (.int .i64 t))), .v (.c (.d (.int .i64 p))), .v (.c (.d (.int .i64 62)))] [] (fun v M => K v (cutAt 124 M)) = refPath ⟨nm, ra, dec⟩ t p 62 (refK K 28 124 62) := by
  kernel_rfl
theorem cr_62 (nm : ByteArray) (ra dec t p : Int) : (pathE ⟨nm, ra, dec⟩ t p ((62 : Nat) : Int) = 0 → CallsA Try.prog GT gbT 8 [.v (.agg [.str nm, .int .i64 ra, .int .i64 dec]), .v (.c (.d (.int .i64 t))), .v (.c (.d (.int .i64 p))), .v (.c (.d (.int .i64 ((62 : Nat) : Int))))] [] (vSlice 124 62 0) (mSlice 28 124 (pathD ⟨nm, ra, dec⟩ t p 62))) ∧ (pathE ⟨nm, ra, dec⟩ t p ((62 : Nat) : Int) ≠ 0 → CallsA Try.prog GT gbT 8 [.v (.agg [.str nm, .int .i64 ra, .int .i64 dec]), .v (.c (.d (.int .i64 t))), .v (.c (.d (.int .i64 p))), .v (.c (.d (.int .i64 ((62 : Nat) : Int))))] [] (vNil (pathE ⟨nm, ra, dec⟩ t p ((62 : Nat) : Int))) []) := by
  have key : ∀ ht : -9223372036854775808 ≤ t ∧ t ≤ 9223372036854775807, _ := fun ht => (wr_62 nm ra dec t p (fun v M => some (Res.fin v M))).trans (ref_path (m := 62) (by omega) ht _)
  refine ⟨fun h => CallsA.ofOk fun hok => ?_, fun h => CallsA.ofOk fun hok => ?_⟩
  · have hw := key (inR_i64 (hok (.int .i64 t) (by simp [datasL, datas]))); rw [h] at hw; exact CallsA.ofEvCutP (fun _ => [1, 2, 3, 4, 10, 11]) g_fringeref06_Same hEQT hmT 124 (fun _ _ _ _ => noL_ok _) hw
  · have hw := key (inR_i64 (hok (.int .i64 t) (by simp [datasL, datas]))); rw [show (pathE ⟨nm, ra, dec⟩ t p ((62 : Nat) : Int) == 0) = false by simpa using h] at hw; exact (CallsA.ofEvCutP (fun _ => [1, 2, 3, 4, 10, 11]) g_fringeref06_Same hEQT hmT 124 (fun _ _ _ _ => noL_ok _) hw).drop (M' := []) fun b => .inr rfl

set_option maxRecDepth 100000 in
theorem wr_63 (nm : ByteArray) (ra dec t p : Int) (K : AV → List Blk → Ans) : evFnP Try.prog GT EQT T_fringeref06_Same XT noL (fun _ => [1, 2, 3, 4, 10, 11]) 400 8 [.v (.agg [.str nm, .int .i64 ra, .int .i64 dec]), .v (.c (.d (.int .i64 t))), .v (.c (.d (.int .i64 p))), .v (.c (.d (.int .i64 63)))] [] (fun v M => K v (cutAt 126 M)) = refPath ⟨nm, ra, dec⟩ t p 63 (refK K 28 126 63) := by
  kernel_rfl
theorem cr_63 (nm : ByteArray) (ra dec t p : Int) : (pathE ⟨nm, ra, dec⟩ t p ((63 : Nat) : Int) = 0 → CallsA Try.prog GT gbT 8 [.v (.agg [.str nm, .int .i64 ra, .int .i64 dec]), .v (.c (.d (.int .i64 t))), .v (.c (.d (.int .i64 p))), .v (.c (.d (.int .i64 ((63 : Nat) : Int))))] [] (vSlice 126 63 0) (mSlice 28 126 (pathD ⟨nm, ra, dec⟩ t p 63))) ∧ (pathE ⟨nm, ra, dec⟩ t p ((63 : Nat) : Int) ≠ 0 → CallsA Try.prog GT gbT 8 [.v (.agg [.str nm, .int .i64 ra, .int .i64 dec]), .v (.c (.d (.int .i64 t))), .v (.c (.d (.int .i64 p))), .v (.c (.d (.int .i64 ((63 : Nat) : Int))))] [] (vNil (pathE ⟨nm, ra, dec⟩ t p ((63 : Nat) : Int))) []) := by
  have key : ∀ ht : -9223372036854775808 ≤ t ∧ t ≤ 9223372036854775807, _ := fun ht => (wr_63 nm ra dec t p (fun v M => some (Res.fin v M))).trans (ref_path (m := 63) (by omega) ht _)
  refine ⟨fun h => CallsA.ofOk fun hok => ?_, fun h => CallsA.ofOk fun hok => ?_⟩
  · have hw := key (inR_i64 (hok (.int .i64 t) (by simp [datasL, datas]))); rw [h] at hw; exact CallsA.ofEvCutP (fun _ => [1, 2, 3, 4, 10, 11]) g_fringeref06_Same hEQT hmT 126 (fun _ _ _ _ => noL_ok _) hw
  · have hw := key (inR_i64 (hok (.int .i64 t) (by simp [datasL, datas]))); rw [show (pathE ⟨nm, ra, dec⟩ t p ((63 : Nat) : Int) == 0) = false by simpa using h] at hw; exact (CallsA.ofEvCutP (fun _ => [1, 2, 3, 4, 10, 11]) g_fringeref06_Same hEQT hmT 126 (fun _ _ _ _ => noL_ok _) hw).drop (M' := []) fun b => .inr rfl

set_option maxRecDepth 100000 in
theorem wr_64 (nm : ByteArray) (ra dec t p : Int) (K : AV → List Blk → Ans) : evFnP Try.prog GT EQT T_fringeref06_Same XT noL (fun _ => [1, 2, 3, 4, 10, 11]) 400 8 [.v (.agg [.str nm, .int .i64 ra, .int .i64 dec]), .v (.c (.d (.int .i64 t))), .v (.c (.d (.int .i64 p))), .v (.c (.d (.int .i64 64)))] [] (fun v M => K v (cutAt 128 M)) = refPath ⟨nm, ra, dec⟩ t p 64 (refK K 28 128 64) := by
  kernel_rfl
theorem cr_64 (nm : ByteArray) (ra dec t p : Int) : (pathE ⟨nm, ra, dec⟩ t p ((64 : Nat) : Int) = 0 → CallsA Try.prog GT gbT 8 [.v (.agg [.str nm, .int .i64 ra, .int .i64 dec]), .v (.c (.d (.int .i64 t))), .v (.c (.d (.int .i64 p))), .v (.c (.d (.int .i64 ((64 : Nat) : Int))))] [] (vSlice 128 64 0) (mSlice 28 128 (pathD ⟨nm, ra, dec⟩ t p 64))) ∧ (pathE ⟨nm, ra, dec⟩ t p ((64 : Nat) : Int) ≠ 0 → CallsA Try.prog GT gbT 8 [.v (.agg [.str nm, .int .i64 ra, .int .i64 dec]), .v (.c (.d (.int .i64 t))), .v (.c (.d (.int .i64 p))), .v (.c (.d (.int .i64 ((64 : Nat) : Int))))] [] (vNil (pathE ⟨nm, ra, dec⟩ t p ((64 : Nat) : Int))) []) := by
  have key : ∀ ht : -9223372036854775808 ≤ t ∧ t ≤ 9223372036854775807, _ := fun ht => (wr_64 nm ra dec t p (fun v M => some (Res.fin v M))).trans (ref_path (m := 64) (by omega) ht _)
  refine ⟨fun h => CallsA.ofOk fun hok => ?_, fun h => CallsA.ofOk fun hok => ?_⟩
  · have hw := key (inR_i64 (hok (.int .i64 t) (by simp [datasL, datas]))); rw [h] at hw; exact CallsA.ofEvCutP (fun _ => [1, 2, 3, 4, 10, 11]) g_fringeref06_Same hEQT hmT 128 (fun _ _ _ _ => noL_ok _) hw
  · have hw := key (inR_i64 (hok (.int .i64 t) (by simp [datasL, datas]))); rw [show (pathE ⟨nm, ra, dec⟩ t p ((64 : Nat) : Int) == 0) = false by simpa using h] at hw; exact (CallsA.ofEvCutP (fun _ => [1, 2, 3, 4, 10, 11]) g_fringeref06_Same hEQT hmT 128 (fun _ _ _ _ => noL_ok _) hw).drop (M' := []) fun b => .inr rfl

set_option maxRecDepth 100000 in
theorem wr_65 (nm : ByteArray) (ra dec t p : Int) (K : AV → List Blk → Ans) : evFnP Try.prog GT EQT T_fringeref06_Same XT noL (fun _ => [1, 2, 3, 4, 10, 11]) 400 8 [.v (.agg [.str nm, .int .i64 ra, .int .i64 dec]), .v (.c (.d (.int .i64 t))), .v (.c (.d (.int .i64 p))), .v (.c (.d (.int .i64 65)))] [] (fun v M => K v (cutAt 130 M)) = refPath ⟨nm, ra, dec⟩ t p 65 (refK K 28 130 65) := by
  kernel_rfl
theorem cr_65 (nm : ByteArray) (ra dec t p : Int) : (pathE ⟨nm, ra, dec⟩ t p ((65 : Nat) : Int) = 0 → CallsA Try.prog GT gbT 8 [.v (.agg [.str nm, .int .i64 ra, .int .i64 dec]), .v (.c (.d (.int .i64 t))), .v (.c (.d (.int .i64 p))), .v (.c (.d (.int .i64 ((65 : Nat) : Int))))] [] (vSlice 130 65 0) (mSlice 28 130 (pathD ⟨nm, ra, dec⟩ t p 65))) ∧ (pathE ⟨nm, ra, dec⟩ t p ((65 : Nat) : Int) ≠ 0 → CallsA Try.prog GT gbT 8 [.v (.agg [.str nm, .int .i64 ra, .int .i64 dec]), .v (.c (.d (.int .i64 t))), .v (.c (.d (.int .i64 p))), .v (.c (.d (.int .i64 ((65 : Nat) : Int))))] [] (vNil (pathE ⟨nm, ra, dec⟩ t p ((65 : Nat) : Int))) []) := by
  have key : ∀ ht : -9223372036854775808 ≤ t ∧ t ≤ 9223372036854775807, _ := fun ht => (wr_65 nm ra dec t p (fun v M => some (Res.fin v M))).trans (ref_path (m := 65) (by omega) ht _)
  refine ⟨fun h => CallsA.ofOk fun hok => ?_, fun h => CallsA.ofOk fun hok => ?_⟩
  · have hw := key (inR_i64 (hok (.int .i64 t) (by simp [datasL, datas]))); rw [h] at hw; exact CallsA.ofEvCutP (fun _ => [1, 2, 3, 4, 10, 11]) g_fringeref06_Same hEQT hmT 130 (fun _ _ _ _ => noL_ok _) hw
  · have hw := key (inR_i64 (hok (.int .i64 t) (by simp [datasL, datas]))); rw [show (pathE ⟨nm, ra, dec⟩ t p ((65 : Nat) : Int) == 0) = false by simpa using h] at hw; exact (CallsA.ofEvCutP (fun _ => [1, 2, 3, 4, 10, 11]) g_fringeref06_Same hEQT hmT 130 (fun _ _ _ _ => noL_ok _) hw).drop (M' := []) fun b => .inr rfl

set_option maxRecDepth 100000 in
theorem wr_66 (nm : ByteArray) (ra dec t p : Int) (K : AV → List Blk → Ans) : evFnP Try.prog GT EQT T_fringeref06_Same XT noL (fun _ => [1, 2, 3, 4, 10, 11]) 400 8 [.v (.agg [.str nm, .int .i64 ra, .int .i64 dec]), .v (.c (.d (.int .i64 t))), .v (.c (.d (.int .i64 p))), .v (.c (.d (.int .i64 66)))] [] (fun v M => K v (cutAt 132 M)) = refPath ⟨nm, ra, dec⟩ t p 66 (refK K 28 132 66) := by
  kernel_rfl
theorem cr_66 (nm : ByteArray) (ra dec t p : Int) : (pathE ⟨nm, ra, dec⟩ t p ((66 : Nat) : Int) = 0 → CallsA Try.prog GT gbT 8 [.v (.agg [.str nm, .int .i64 ra, .int .i64 dec]), .v (.c (.d (.int .i64 t))), .v (.c (.d (.int .i64 p))), .v (.c (.d (.int .i64 ((66 : Nat) : Int))))] [] (vSlice 132 66 0) (mSlice 28 132 (pathD ⟨nm, ra, dec⟩ t p 66))) ∧ (pathE ⟨nm, ra, dec⟩ t p ((66 : Nat) : Int) ≠ 0 → CallsA Try.prog GT gbT 8 [.v (.agg [.str nm, .int .i64 ra, .int .i64 dec]), .v (.c (.d (.int .i64 t))), .v (.c (.d (.int .i64 p))), .v (.c (.d (.int .i64 ((66 : Nat) : Int))))] [] (vNil (pathE ⟨nm, ra, dec⟩ t p ((66 : Nat) : Int))) []) := by
  have key : ∀ ht : -9223372036854775808 ≤ t ∧ t ≤ 9223372036854775807, _ := fun ht => (wr_66 nm ra dec t p (fun v M => some (Res.fin v M))).trans (ref_path (m := 66) (by omega) ht _)
  refine ⟨fun h => CallsA.ofOk fun hok => ?_, fun h => CallsA.ofOk fun hok => ?_⟩
  · have hw := key (inR_i64 (hok (.int .i64 t) (by simp [datasL, datas]))); rw [h] at hw; exact CallsA.ofEvCutP (fun _ => [1, 2, 3, 4, 10, 11]) g_fringeref06_Same hEQT hmT 132 (fun _ _ _ _ => noL_ok _) hw
  · have hw := key (inR_i64 (hok (.int .i64 t) (by simp [datasL, datas]))); rw [show (pathE ⟨nm, ra, dec⟩ t p ((66 : Nat) : Int) == 0) = false by simpa using h] at hw; exact (CallsA.ofEvCutP (fun _ => [1, 2, 3, 4, 10, 11]) g_fringeref06_Same hEQT hmT 132 (fun _ _ _ _ => noL_ok _) hw).drop (M' := []) fun b => .inr rfl

set_option maxRecDepth 100000 in
theorem wr_67 (nm : ByteArray) (ra dec t p : Int) (K : AV → List Blk → Ans) : evFnP Try.prog GT EQT T_fringeref06_Same XT noL (fun _ => [1, 2, 3, 4, 10, 11]) 400 8 [.v (.agg [.str nm, .int .i64 ra, .int .i64 dec]), .v (.c (.d (.int .i64 t))), .v (.c (.d (.int .i64 p))), .v (.c (.d (.int .i64 67)))] [] (fun v M => K v (cutAt 134 M)) = refPath ⟨nm, ra, dec⟩ t p 67 (refK K 28 134 67) := by
  kernel_rfl
theorem cr_67 (nm : ByteArray) (ra dec t p : Int) : (pathE ⟨nm, ra, dec⟩ t p ((67 : Nat) : Int) = 0 → CallsA Try.prog GT gbT 8 [.v (.agg [.str nm, .int .i64 ra, .int .i64 dec]), .v (.c (.d (.int .i64 t))), .v (.c (.d (.int .i64 p))), .v (.c (.d (.int .i64 ((67 : Nat) : Int))))] [] (vSlice 134 67 0) (mSlice 28 134 (pathD ⟨nm, ra, dec⟩ t p 67))) ∧ (pathE ⟨nm, ra, dec⟩ t p ((67 : Nat) : Int) ≠ 0 → CallsA Try.prog GT gbT 8 [.v (.agg [.str nm, .int .i64 ra, .int .i64 dec]), .v (.c (.d (.int .i64 t))), .v (.c (.d (.int .i64 p))), .v (.c (.d (.int .i64 ((67 : Nat) : Int))))] [] (vNil (pathE ⟨nm, ra, dec⟩ t p ((67 : Nat) : Int))) []) := by
  have key : ∀ ht : -9223372036854775808 ≤ t ∧ t ≤ 9223372036854775807, _ := fun ht => (wr_67 nm ra dec t p (fun v M => some (Res.fin v M))).trans (ref_path (m := 67) (by omega) ht _)
  refine ⟨fun h => CallsA.ofOk fun hok => ?_, fun h => CallsA.ofOk fun hok => ?_⟩
  · have hw := key (inR_i64 (hok (.int .i64 t) (by simp [datasL, datas]))); rw [h] at hw; exact CallsA.ofEvCutP (fun _ => [1, 2, 3, 4, 10, 11]) g_fringeref06_Same hEQT hmT 134 (fun _ _ _ _ => noL_ok _) hw
  · have hw := key (inR_i64 (hok (.int .i64 t) (by simp [datasL, datas]))); rw [show (pathE ⟨nm, ra, dec⟩ t p ((67 : Nat) : Int) == 0) = false by simpa using h] at hw; exact (CallsA.ofEvCutP (fun _ => [1, 2, 3, 4, 10, 11]) g_fringeref06_Same hEQT hmT 134 (fun _ _ _ _ => noL_ok _) hw).drop (M' := []) fun b => .inr rfl

set_option maxRecDepth 100000 in
theorem wr_68 (nm : ByteArray) (ra dec t p : Int) (K : AV → List Blk → Ans) : evFnP Try.prog GT EQT T_fringeref06_Same XT noL (fun _ => [1, 2, 3, 4, 10, 11]) 400 8 [.v (.agg [.str nm, .int .i64 ra, .int .i64 dec]), .v (.c (.d (.int .i64 t))), .v (.c (.d (.int .i64 p))), .v (.c (.d (.int .i64 68)))] [] (fun v M => K v (cutAt 136 M)) = refPath ⟨nm, ra, dec⟩ t p 68 (refK K 28 136 68) := by
  kernel_rfl
theorem cr_68 (nm : ByteArray) (ra dec t p : Int) : (pathE ⟨nm, ra, dec⟩ t p ((68 : Nat) : Int) = 0 → CallsA Try.prog GT gbT 8 [.v (.agg [.str nm, .int .i64 ra, .int .i64 dec]), .v (.c (.d (.int .i64 t))), .v (.c (.d (.int .i64 p))), .v (.c (.d (.int .i64 ((68 : Nat) : Int))))] [] (vSlice 136 68 0) (mSlice 28 136 (pathD ⟨nm, ra, dec⟩ t p 68))) ∧ (pathE ⟨nm, ra, dec⟩ t p ((68 : Nat) : Int) ≠ 0 → CallsA Try.prog GT gbT 8 [.v (.agg [.str nm, .int .i64 ra, .int .i64 dec]), .v (.c (.d (.int .i64 t))), .v (.c (.d (.int .i64 p))), .v (.c (.d (.int .i64 ((68 : Nat) : Int))))] [] (vNil (pathE ⟨nm, ra, dec⟩ t p ((68 : Nat) : Int))) []) := by
  have key : ∀ ht : -9223372036854775808 ≤ t ∧ t ≤ 9223372036854775807, _ := fun ht => (wr_68 nm ra dec t p (fun v M => some (Res.fin v M))).trans (ref_path (m := 68) (by omega) ht _)
  refine ⟨fun h => CallsA.ofOk fun hok => ?_, fun h => CallsA.ofOk fun hok => ?_⟩
  · have hw := key (inR_i64 (hok (.int .i64 t) (by simp [datasL, datas]))); rw [h] at hw; exact CallsA.ofEvCutP (fun _ => [1, 2, 3, 4, 10, 11]) g_fringeref06_Same hEQT hmT 136 (fun _ _ _ _ => noL_ok _) hw
  · have hw := key (inR_i64 (hok (.int .i64 t) (by simp [datasL, datas]))); rw [show (pathE ⟨nm, ra, dec⟩ t p ((68 : Nat) : Int) == 0) = false by simpa using h] at hw; exact (CallsA.ofEvCutP (fun _ => [1, 2, 3, 4, 10, 11]) g_fringeref06_Same hEQT hmT 136 (fun _ _ _ _ => noL_ok _) hw).drop (M' := []) fun b => .inr rfl

set_option maxRecDepth 100000 in
theorem wr_69 (nm : ByteArray) (ra dec t p : Int) (K : AV → List Blk → Ans) : evFnP Try.prog GT EQT T_fringeref06_Same XT noL (fun _ => [1, 2, 3, 4, 10, 11]) 400 8 [.v (.agg [.str nm, .int .i64 ra, .int .i64 dec]), .v (.c (.d (.int .i64 t))), .v (.c (.d (.int .i64 p))), .v (.c (.d (.int .i64 69)))] [] (fun v M => K v (cutAt 138 M)) = refPath ⟨nm, ra, dec⟩ t p 69 (refK K 28 138 69) := by
  kernel_rfl
theorem cr_69 (nm : ByteArray) (ra dec t p : Int) : (pathE ⟨nm, ra, dec⟩ t p ((69 : Nat) : Int) = 0 → CallsA Try.prog GT gbT 8 [.v (.agg [.str nm, .int .i64 ra, .int .i64 dec]), .v (.c (.d (.int .i64 t))), .v (.c (.d (.int .i64 p))), .v (.c (.d (.int .i64 ((69 : Nat) : Int))))] [] (vSlice 138 69 0) (mSlice 28 138 (pathD ⟨nm, ra, dec⟩ t p 69))) ∧ (pathE ⟨nm, ra, dec⟩ t p ((69 : Nat) : Int) ≠ 0 → CallsA Try.prog GT gbT 8 [.v (.agg [.str nm, .int .i64 ra, .int .i64 dec]), .v (.c (.d (.int .i64 t))), .v (.c (.d (.int .i64 p))), .v (.c (.d (.int .i64 ((69 : Nat) : Int))))] [] (vNil (pathE ⟨nm, ra, dec⟩ t p ((69 : Nat) : Int))) []) := by
  have key : ∀ ht : -9223372036854775808 ≤ t ∧ t ≤ 9223372036854775807, _ := fun ht => (wr_69 nm ra dec t p (fun v M => some (Res.fin v M))).trans (ref_path (m := 69) (by omega) ht _)
  refine ⟨fun h => CallsA.ofOk fun hok => ?_, fun h => CallsA.ofOk fun hok => ?_⟩
  · have hw := key (inR_i64 (hok (.int .i64 t) (by simp [datasL, datas]))); rw [h] at hw; exact CallsA.ofEvCutP (fun _ => [1, 2, 3, 4, 10, 11]) g_fringeref06_Same hEQT hmT 138 (fun _ _ _ _ => noL_ok _) hw
  · have hw := key (inR_i64 (hok (.int .i64 t) (by simp [datasL, datas]))); rw [show (pathE ⟨nm, ra, dec⟩ t p ((69 : Nat) : Int) == 0) = false by simpa using h] at hw; exact (CallsA.ofEvCutP (fun _ => [1, 2, 3, 4, 10, 11]) g_fringeref06_Same hEQT hmT 138 (fun _ _ _ _ => noL_ok _) hw).drop (M' := []) fun b => .inr rfl

set_option maxRecDepth 100000 in
theorem wr_70 (nm : ByteArray) (ra dec t p : Int) (K : AV → List Blk → Ans) : evFnP Try.prog GT EQT T_fringeref06_Same XT noL (fun _ => [1, 2, 3, 4, 10, 11]) 400 8 [.v (.agg [.str nm, .int .i64 ra, .int .i64 dec]), .v (.c (.d (.int .i64 t))), .v (.c (.d (.int .i64 p))), .v (.c (.d (.int .i64 70)))] [] (fun v M => K v (cutAt 140 M)) = refPath ⟨nm, ra, dec⟩ t p 70 (refK K 28 140 70) := by
  kernel_rfl
theorem cr_70 (nm : ByteArray) (ra dec t p : Int) : (pathE ⟨nm, ra, dec⟩ t p ((70 : Nat) : Int) = 0 → CallsA Try.prog GT gbT 8 [.v (.agg [.str nm, .int .i64 ra, .int .i64 dec]), .v (.c (.d (.int .i64 t))), .v (.c (.d (.int .i64 p))), .v (.c (.d (.int .i64 ((70 : Nat) : Int))))] [] (vSlice 140 70 0) (mSlice 28 140 (pathD ⟨nm, ra, dec⟩ t p 70))) ∧ (pathE ⟨nm, ra, dec⟩ t p ((70 : Nat) : Int) ≠ 0 → CallsA Try.prog GT gbT 8 [.v (.agg [.str nm, .int .i64 ra, .int .i64 dec]), .v (.c (.d (.int .i64 t))), .v (.c (.d (.int .i64 p))), .v (.c (.d (.int .i64 ((70 : Nat) : Int))))] [] (vNil (pathE ⟨nm, ra, dec⟩ t p ((70 : Nat) : Int))) []) := by
  have key : ∀ ht : -9223372036854775808 ≤ t ∧ t ≤ 9223372036854775807, _ := fun ht => (wr_70 nm ra dec t p (fun v M => some (Res.fin v M))).trans (ref_path (m := 70) (by omega) ht _)
  refine ⟨fun h => CallsA.ofOk fun hok => ?_, fun h => CallsA.ofOk fun hok => ?_⟩
  · have hw := key (inR_i64 (hok (.int .i64 t) (by simp [datasL, datas]))); rw [h] at hw; exact CallsA.ofEvCutP (fun _ => [1, 2, 3, 4, 10, 11]) g_fringeref06_Same hEQT hmT 140 (fun _ _ _ _ => noL_ok _) hw
  · have hw := key (inR_i64 (hok (.int .i64 t) (by simp [datasL, datas]))); rw [show (pathE ⟨nm, ra, dec⟩ t p ((70 : Nat) : Int) == 0) = false by simpa using h] at hw; exact (CallsA.ofEvCutP (fun _ => [1, 2, 3, 4, 10, 11]) g_fringeref06_Same hEQT hmT 140 (fun _ _ _ _ => noL_ok _) hw).drop (M' := []) fun b => .inr rfl

set_option maxRecDepth 100000 in
theorem wr_71 (nm : ByteArray) (ra dec t p : Int) (K : AV → List Blk → Ans) : evFnP Try.prog GT EQT T_fringeref06_Same XT noL (fun _ => [1, 2, 3, 4, 10, 11]) 400 8 [.v (.agg [.str nm, .int .i64 ra, .int .i64 dec]), .v (.c (.d (.int .i64 t))), .v (.c (.d (.int .i64 p))), .v (.c (.d (.int .i64 71)))] [] (fun v M => K v (cutAt 142 M)) = refPath ⟨nm, ra, dec⟩ t p 71 (refK K 28 142 71) := by
  kernel_rfl
theorem cr_71 (nm : ByteArray) (ra dec t p : Int) : (pathE ⟨nm, ra, dec⟩ t p ((71 : Nat) : Int) = 0 → CallsA Try.prog GT gbT 8 [.v (.agg [.str nm, .int .i64 ra, .int .i64 dec]), .v (.c (.d (.int .i64 t))), .v (.c (.d (.int .i64 p))), .v (.c (.d (.int .i64 ((71 : Nat) : Int))))] [] (vSlice 142 71 0) (mSlice 28 142 (pathD ⟨nm, ra, dec⟩ t p 71))) ∧ (pathE ⟨nm, ra, dec⟩ t p ((71 : Nat) : Int) ≠ 0 → CallsA Try.prog GT gbT 8 [.v (.agg [.str nm, .int .i64 ra, .int .i64 dec]), .v (.c (.d (.int .i64 t))), .v (.c (.d (.int .i64 p))), .v (.c (.d (.int .i64 ((71 : Nat) : Int))))] [] (vNil (pathE ⟨nm, ra, dec⟩ t p ((71 : Nat) : Int))) []) := by
  have key : ∀ ht : -9223372036854775808 ≤ t ∧ t ≤ 9223372036854775807, _ := fun ht => (wr_71 nm ra dec t p (fun v M => some (Res.fin v M))).trans (ref_path (m := 71) (by omega) ht _)
  refine ⟨fun h => CallsA.ofOk fun hok => ?_, fun h => CallsA.ofOk fun hok => ?_⟩
  · have hw := key (inR_i64 (hok (.int .i64 t) (by simp [datasL, datas]))); rw [h] at hw; exact CallsA.ofEvCutP (fun _ => [1, 2, 3, 4, 10, 11]) g_fringeref06_Same hEQT hmT 142 (fun _ _ _ _ => noL_ok _) hw
  · have hw := key (inR_i64 (hok (.int .i64 t) (by simp [datasL, datas]))); rw [show (pathE ⟨nm, ra, dec⟩ t p ((71 : Nat) : Int) == 0) = false by simpa using h] at hw; exact (CallsA.ofEvCutP (fun _ => [1, 2, 3, 4, 10, 11]) g_fringeref06_Same hEQT hmT 142 (fun _ _ _ _ => noL_ok _) hw).drop (M' := []) fun b => .inr rfl

set_option maxRecDepth 100000 in
theorem wr_72 (nm : ByteArray) (ra dec t p : Int) (K : AV → List Blk → Ans) : evFnP Try.prog GT EQT T_fringeref06_Same XT noL (fun _ => [1, 2, 3, 4, 10, 11]) 400 8 [.v (.agg [.str nm, .int .i64 ra, .int .i64 dec]), .v (.c (.d (.int .i64 t))), .v (.c (.d (.int .i64 p))), .v (.c (.d (.int .i64 72)))] [] (fun v M => K v (cutAt 144 M)) = refPath ⟨nm, ra, dec⟩ t p 72 (refK K 28 144 72) := by
  kernel_rfl
theorem cr_72 (nm : ByteArray) (ra dec t p : Int) : (pathE ⟨nm, ra, dec⟩ t p ((72 : Nat) : Int) = 0 → CallsA Try.prog GT gbT 8 [.v (.agg [.str nm, .int .i64 ra, .int .i64 dec]), .v (.c (.d (.int .i64 t))), .v (.c (.d (.int .i64 p))), .v (.c (.d (.int .i64 ((72 : Nat) : Int))))] [] (vSlice 144 72 0) (mSlice 28 144 (pathD ⟨nm, ra, dec⟩ t p 72))) ∧ (pathE ⟨nm, ra, dec⟩ t p ((72 : Nat) : Int) ≠ 0 → CallsA Try.prog GT gbT 8 [.v (.agg [.str nm, .int .i64 ra, .int .i64 dec]), .v (.c (.d (.int .i64 t))), .v (.c (.d (.int .i64 p))), .v (.c (.d (.int .i64 ((72 : Nat) : Int))))] [] (vNil (pathE ⟨nm, ra, dec⟩ t p ((72 : Nat) : Int))) []) := by
  have key : ∀ ht : -9223372036854775808 ≤ t ∧ t ≤ 9223372036854775807, _ := fun ht => (wr_72 nm ra dec t p (fun v M => some (Res.fin v M))).trans (ref_path (m := 72) (by omega) ht _)
  refine ⟨fun h => CallsA.ofOk fun hok => ?_, fun h => CallsA.ofOk fun hok => ?_⟩
  · have hw := key (inR_i64 (hok (.int .i64 t) (by simp [datasL, datas]))); rw [h] at hw; exact CallsA.ofEvCutP (fun _ => [1, 2, 3, 4, 10, 11]) g_fringeref06_Same hEQT hmT 144 (fun _ _ _ _ => noL_ok _) hw
  · have hw := key (inR_i64 (hok (.int .i64 t) (by simp [datasL, datas]))); rw [show (pathE ⟨nm, ra, dec⟩ t p ((72 : Nat) : Int) == 0) = false by simpa using h] at hw; exact (CallsA.ofEvCutP (fun _ => [1, 2, 3, 4, 10, 11]) g_fringeref06_Same hEQT hmT 144 (fun _ _ _ _ => noL_ok _) hw).drop (M' := []) fun b => .inr rfl

set_option maxRecDepth 100000 in
theorem wr_73 (nm : ByteArray) (ra dec t p : Int) (K : AV → List Blk → Ans) : evFnP Try.prog GT EQT T_fringeref06_Same XT noL (fun _ => [1, 2, 3, 4, 10, 11]) 400 8 [.v (.agg [.str nm, .int .i64 ra, .int .i64 dec]), .v (.c (.d (.int .i64 t))), .v (.c (.d (.int .i64 p))), .v (.c (.d (.int .i64 73)))] [] (fun v M => K v (cutAt 146 M)) = refPath ⟨nm, ra, dec⟩ t p 73 (refK K 28 146 73) := by
  kernel_rfl
theorem cr_73 (nm : ByteArray) (ra dec t p : Int) : (pathE ⟨nm, ra, dec⟩ t p ((73 : Nat) : Int) = 0 → CallsA Try.prog GT gbT 8 [.v (.agg [.str nm, .int .i64 ra, .int .i64 dec]), .v (.c (.d (.int .i64 t))), .v (.c (.d (.int .i64 p))), .v (.c (.d (.int .i64 ((73 : Nat) : Int))))] [] (vSlice 146 73 0) (mSlice 28 146 (pathD ⟨nm, ra, dec⟩ t p 73))) ∧ (pathE ⟨nm, ra, dec⟩ t p ((73 : Nat) : Int) ≠ 0 → CallsA Try.prog GT gbT 8 [.v (.agg [.str nm, .int .i64 ra, .int .i64 dec]), .v (.c (.d (.int .i64 t))), .v (.c (.d (.int .i64 p))), .v (.c (.d (.int .i64 ((73 : Nat) : Int))))] [] (vNil (pathE ⟨nm, ra, dec⟩ t p ((73 : Nat) : Int))) []) := by
  have key : ∀ ht : -9223372036854775808 ≤ t ∧ t ≤ 9223372036854775807, _ := fun ht => (wr_73 nm ra dec t p (fun v M => some (Res.fin v M))).trans (ref_path (m := 73) (by omega) ht _)
  refine ⟨fun h => CallsA.ofOk fun hok => ?_, fun h => CallsA.ofOk fun hok => ?_⟩
  · have hw := key (inR_i64 (hok (.int .i64 t) (by simp [datasL, datas]))); rw [h] at hw; exact CallsA.ofEvCutP (fun _ => [1, 2, 3, 4, 10, 11]) g_fringeref06_Same hEQT hmT 146 (fun _ _ _ _ => noL_ok _) hw
  · have hw := key (inR_i64 (hok (.int .i64 t) (by simp [datasL, datas]))); rw [show (pathE ⟨nm, ra, dec⟩ t p ((73 : Nat) : Int) == 0) = false by simpa using h] at hw; exact (CallsA.ofEvCutP (fun _ => [1, 2, 3, 4, 10, 11]) g_fringeref06_Same hEQT hmT 146 (fun _ _ _ _ => noL_ok _) hw).drop (M' := []) fun b => .inr rfl

end Go.Ev
