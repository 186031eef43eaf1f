/-
  TrackMakes, value by value of the length of a path. No condition beyond those of the statements.
-/
import Derived.Test.YtmidgaahaffmcaaTxCA
namespace Go.Ev
open Go Go.Proofs

set_option maxRecDepth 100000 in
theorem wr_88 (nm : ByteArray) (ra dec t p : Int) (K : AV → List Blk → Ans) : evFnP Try.prog GT EQT T_fringeref06_Same XT noL (fun _ => [1, 2, 3, 4, 10, 11]) 400 8 [.v (.agg [.str nm, .int .i64 ra, .int .i64 dec]), .v (.c (.d (.int .i64 t))), .v (.c (.d (.int .i64 p))), .v (.c (.d (.int .i64 88)))] [] (fun v M => K v (cutAt 176 M)) = refPath ⟨nm, ra, dec⟩ t p 88 (refK K 28 176 88) := by
  kernel_rfl
theorem cr_88 (nm : ByteArray) (ra dec t p : Int) : (pathE ⟨nm, ra, dec⟩ t p ((88 : Nat) : Int) = 0 → CallsA Try.prog GT gbT 8 [.v (.agg [.str nm, .int .i64 ra, .int .i64 dec]), .v (.c (.d (.int .i64 t))), .v (.c (.d (.int .i64 p))), .v (.c (.d (.int .i64 ((88 : Nat) : Int))))] [] (vSlice 176 88 0) (mSlice 28 176 (pathD ⟨nm, ra, dec⟩ t p 88))) ∧ (pathE ⟨nm, ra, dec⟩ t p ((88 : Nat) : Int) ≠ 0 → CallsA Try.prog GT gbT 8 [.v (.agg [.str nm, .int .i64 ra, .int .i64 dec]), .v (.c (.d (.int .i64 t))), .v (.c (.d (.int .i64 p))), .v (.c (.d (.int .i64 ((88 : Nat) : Int))))] [] (vNil (pathE ⟨nm, ra, dec⟩ t p ((88 : Nat) : Int))) []) := by
  have key : ∀ ht : -9223372036854775808 ≤ t ∧ t ≤ 9223372036854775807, _ := fun ht => (wr_88 nm ra dec t p (fun v M => some (Res.fin v M))).trans (ref_path (m := 88) (by omega) ht _)
  refine ⟨fun h => CallsA.ofOk fun hok => ?_, fun h => CallsA.ofOk fun hok => ?_⟩
  · have hw := key (inR_i64 (hok (.int .i64 t) (by simp [datasL, datas]))); rw [h] at hw; exact CallsA.ofEvCutP (fun _ => [1, 2, 3, 4, 10, 11]) g_fringeref06_Same hEQT hmT 176 (fun _ _ _ _ => noL_ok _) hw
  · have hw := key (inR_i64 (hok (.int .i64 t) (by simp [datasL, datas]))); rw [show (pathE ⟨nm, ra, dec⟩ t p ((88 : Nat) : Int) == 0) = false by simpa using h] at hw; exact (CallsA.ofEvCutP (fun _ => [1, 2, 3, 4, 10, 11]) g_fringeref06_Same hEQT hmT 176 (fun _ _ _ _ => noL_ok _) hw).drop (M' := []) fun b => .inr rfl

set_option maxRecDepth 100000 in
theorem wr_89 (nm : ByteArray) (ra dec t p : Int) (K : AV → List Blk → Ans) : evFnP Try.prog GT EQT T_fringeref06_Same XT noL (fun _ => [1, 2, 3, 4, 10, 11]) 400 8 [.v (.agg [.str nm, .int .i64 ra, .int .i64 dec]), .v (.c (.d (.int .i64 t))), .v (.c (.d (.int .i64 p))), .v (.c (.d (.int .i64 89)))] [] (fun v M => K v (cutAt 178 M)) = refPath ⟨nm, ra, dec⟩ t p 89 (refK K 28 178 89) := by
  kernel_rfl
theorem cr_89 (nm : ByteArray) (ra dec t p : Int) : (pathE ⟨nm, ra, dec⟩ t p ((89 : Nat) : Int) = 0 → CallsA Try.prog GT gbT 8 [.v (.agg [.str nm, .int .i64 ra, .int .i64 dec]), .v (.c (.d (.int .i64 t))), .v (.c (.d (.int .i64 p))), .v (.c (.d (.int .i64 ((89 : Nat) : Int))))] [] (vSlice 178 89 0) (mSlice 28 178 (pathD ⟨nm, ra, dec⟩ t p 89))) ∧ (pathE ⟨nm, ra, dec⟩ t p ((89 : Nat) : Int) ≠ 0 → CallsA Try.prog GT gbT 8 [.v (.agg [.str nm, .int .i64 ra, .int .i64 dec]), .v (.c (.d (.int .i64 t))), .v (.c (.d (.int .i64 p))), .v (.c (.d (.int .i64 ((89 : Nat) : Int))))] [] (vNil (pathE ⟨nm, ra, dec⟩ t p ((89 : Nat) : Int))) []) := by
  have key : ∀ ht : -9223372036854775808 ≤ t ∧ t ≤ 9223372036854775807, _ := fun ht => (wr_89 nm ra dec t p (fun v M => some (Res.fin v M))).trans (ref_path (m := 89) (by omega) ht _)
  refine ⟨fun h => CallsA.ofOk fun hok => ?_, fun h => CallsA.ofOk fun hok => ?_⟩
  · have hw := key (inR_i64 (hok (.int .i64 t) (by simp [datasL, datas]))); rw [h] at hw; exact CallsA.ofEvCutP (fun _ => [1, 2, 3, 4, 10, 11]) g_fringeref06_Same hEQT hmT 178 (fun _ _ _ _ => noL_ok _) hw
  · have hw := key (inR_i64 (hok (.int .i64 t) (by simp [datasL, datas]))); rw [show (pathE ⟨nm, ra, dec⟩ t p ((89 : Nat) : Int) == 0) = false by simpa using h] at hw; exact (CallsA.ofEvCutP (fun _ => [1, 2, 3, 4, 10, 11]) g_fringeref06_Same hEQT hmT 178 (fun _ _ _ _ => noL_ok _) hw).drop (M' := []) fun b => .inr rfl

set_option maxRecDepth 100000 in
theorem wr_90 (nm : ByteArray) (ra dec t p : Int) (K : AV → List Blk → Ans) : evFnP Try.prog GT EQT T_fringeref06_Same XT noL (fun _ => [1, 2, 3, 4, 10, 11]) 400 8 [.v (.agg [.str nm, .int .i64 ra, .int .i64 dec]), .v (.c (.d (.int .i64 t))), .v (.c (.d (.int .i64 p))), .v (.c (.d (.int .i64 90)))] [] (fun v M => K v (cutAt 180 M)) = refPath ⟨nm, ra, dec⟩ t p 90 (refK K 28 180 90) := by
  kernel_rfl
theorem cr_90 (nm : ByteArray) (ra dec t p : Int) : (pathE ⟨nm, ra, dec⟩ t p ((90 : Nat) : Int) = 0 → CallsA Try.prog GT gbT 8 [.v (.agg [.str nm, .int .i64 ra, .int .i64 dec]), .v (.c (.d (.int .i64 t))), .v (.c (.d (.int .i64 p))), .v (.c (.d (.int .i64 ((90 : Nat) : Int))))] [] (vSlice 180 90 0) (mSlice 28 180 (pathD ⟨nm, ra, dec⟩ t p 90))) ∧ (pathE ⟨nm, ra, dec⟩ t p ((90 : Nat) : Int) ≠ 0 → CallsA Try.prog GT gbT 8 [.v (.agg [.str nm, .int .i64 ra, .int .i64 dec]), .v (.c (.d (.int .i64 t))), .v (.c (.d (.int .i64 p))), .v (.c (.d (.int .i64 ((90 : Nat) : Int))))] [] (vNil (pathE ⟨nm, ra, dec⟩ t p ((90 : Nat) : Int))) []) := by
  have key : ∀ ht : -9223372036854775808 ≤ t ∧ t ≤ 9223372036854775807, _ := fun ht => (wr_90 nm ra dec t p (fun v M => some (Res.fin v M))).trans (ref_path (m := 90) (by omega) ht _)
  refine ⟨fun h => CallsA.ofOk fun hok => ?_, fun h => CallsA.ofOk fun hok => ?_⟩
  · have hw := key (inR_i64 (hok (.int .i64 t) (by simp [datasL, datas]))); rw [h] at hw; exact CallsA.ofEvCutP (fun _ => [1, 2, 3, 4, 10, 11]) g_fringeref06_Same hEQT hmT 180 (fun _ _ _ _ => noL_ok _) hw
  · have hw := key (inR_i64 (hok (.int .i64 t) (by simp [datasL, datas]))); rw [show (pathE ⟨nm, ra, dec⟩ t p ((90 : Nat) : Int) == 0) = false by simpa using h] at hw; exact (CallsA.ofEvCutP (fun _ => [1, 2, 3, 4, 10, 11]) g_fringeref06_Same hEQT hmT 180 (fun _ _ _ _ => noL_ok _) hw).drop (M' := []) fun b => .inr rfl

set_option maxRecDepth 100000 in
theorem wr_91 (nm : ByteArray) (ra dec t p : Int) (K : AV → List Blk → Ans) : evFnP Try.prog GT EQT T_fringeref06_Same XT noL (fun _ => [1, 2, 3, 4, 10, 11]) 400 8 [.v (.agg [.str nm, .int .i64 ra, .int .i64 dec]), .v (.c (.d (.int .i64 t))), .v (.c (.d (.int .i64 p))), .v (.c (.d (.int .i64 91)))] [] (fun v M => K v (cutAt 182 M)) = refPath ⟨nm, ra, dec⟩ t p 91 (refK K 28 182 91) := by
  kernel_rfl
theorem cr_91 (nm : ByteArray) (ra dec t p : Int) : (pathE ⟨nm, ra, dec⟩ t p ((91 : Nat) : Int) = 0 → CallsA Try.prog GT gbT 8 [.v (.agg [.str nm, .int .i64 ra, .int .i64 dec]), .v (.c (.d (.int .i64 t))), .v (.c (.d (.int .i64 p))), .v (.c (.d (.int .i64 ((91 : Nat) : Int))))] [] (vSlice 182 91 0) (mSlice 28 182 (pathD ⟨nm, ra, dec⟩ t p 91))) ∧ (pathE ⟨nm, ra, dec⟩ t p ((91 : Nat) : Int) ≠ 0 → CallsA Try.prog GT gbT 8 [.v (.agg [.str nm, .int .i64 ra, .int .i64 dec]), .v (.c (.d (.int .i64 t))), .v (.c (.d (.int .i64 p))), .v (.c (.d (.int .i64 ((91 : Nat) : Int))))] [] (vNil (pathE ⟨nm, ra, dec⟩ t p ((91 : Nat) : Int))) []) := by
  have key : ∀ ht : -9223372036854775808 ≤ t ∧ t ≤ 9223372036854775807, _ := fun ht => (wr_91 nm ra dec t p (fun v M => some (Res.fin v M))).trans (ref_path (m := 91) (by omega) ht _)
  refine ⟨fun h => CallsA.ofOk fun hok => ?_, fun h => CallsA.ofOk fun hok => ?_⟩
  · have hw := key (inR_i64 (hok (.int .i64 t) (by simp [datasL, datas]))); rw [h] at hw; exact CallsA.ofEvCutP (fun _ => [1, 2, 3, 4, 10, 11]) g_fringeref06_Same hEQT hmT 182 (fun _ _ _ _ => noL_ok _) hw
  · have hw := key (inR_i64 (hok (.int .i64 t) (by simp [datasL, datas]))); rw [show (pathE ⟨nm, ra, dec⟩ t p ((91 : Nat) : Int) == 0) = false by simpa using h] at hw; exact (CallsA.ofEvCutP (fun _ => [1, 2, 3, 4, 10, 11]) g_fringeref06_Same hEQT hmT 182 (fun _ _ _ _ => noL_ok _) hw).drop (M' := []) fun b => .inr rfl

set_option maxRecDepth 100000 in
theorem wr_92 (nm : ByteArray) (ra dec t p : Int) (K : AV → List Blk → Ans) : evFnP Try.prog GT EQT T_fringeref06_Same XT noL (fun _ => [1, 2, 3, 4, 10, 11]) 400 8 [.v (.agg [.str nm, .int .i64 ra, .int .i64 dec]), .v (.c (.d (.int .i64 t))), .v (.c (.d (.int .i64 p))), .v (.c (.d (.int .i64 92)))] [] (fun v M => K v (cutAt 184 M)) = refPath ⟨nm, ra, dec⟩ t p 92 (refK K 28 184 92) := by
  kernel_rfl
theorem cr_92 (nm : ByteArray) (ra dec t p : Int) : (pathE ⟨nm, ra, dec⟩ t p ((92 : Nat) : Int) = 0 → CallsA Try.prog GT gbT 8 [.v (.agg [.str nm, .int .i64 ra, .int .i64 dec]), .v (.c (.d (.int .i64 t))), .v (.c (.d (.int .i64 p))), .v (.c (.d (.int .i64 ((92 : Nat) : Int))))] [] (vSlice 184 92 0) (mSlice 28 184 (pathD ⟨nm, ra, dec⟩ t p 92))) ∧ (pathE ⟨nm, ra, dec⟩ t p ((92 : Nat) : Int) ≠ 0 → CallsA Try.prog GT gbT 8 [.v (.agg [.str nm, .int .i64 ra, .int .i64 dec]), .v (.c (.d (.int .i64 t))), .v (.c (.d (.int .i64 p))), .v (.c (.d (.int .i64 ((92 : Nat) : Int))))] [] (vNil (pathE ⟨nm, ra, dec⟩ t p ((92 : Nat) : Int))) []) := by
  have key : ∀ ht : -9223372036854775808 ≤ t ∧ t ≤ 9223372036854775807, _ := fun ht => (wr_92 nm ra dec t p (fun v M => some (Res.fin v M))).trans (ref_path (m := 92) (by omega) ht _)
  refine ⟨fun h => CallsA.ofOk fun hok => ?_, fun h => CallsA.ofOk fun hok => ?_⟩
  · have hw := key (inR_i64 (hok (.int .i64 t) (by simp [datasL, datas]))); rw [h] at hw; exact CallsA.ofEvCutP (fun _ => [1, 2, 3, 4, 10, 11]) g_fringeref06_Same hEQT hmT 184 (fun _ _ _ _ => noL_ok _) hw
  · have hw := key (inR_i64 (hok (.int .i64 t) (by simp [datasL, datas]))); rw [show (pathE ⟨nm, ra, dec⟩ t p ((92 : Nat) : Int) == 0) = false by simpa using h] at hw; exact (CallsA.ofEvCutP (fun _ => [1, 2, 3, 4, 10, 11]) g_fringeref06_Same hEQT hmT 184 (fun _ _ _ _ => noL_ok _) hw).drop (M' := []) fun b => .inr rfl

set_option maxRecDepth 100000 in
theorem wr_93 (nm : ByteArray) (ra dec t p : Int) (K : AV → List Blk → Ans) : evFnP Try.prog GT EQT T_fringeref06_Same XT noL (fun _ => [1, 2, 3, 4, 10, 11]) 400 8 [.v (.agg [.str nm, .int .i64 ra, .int .i64 dec]), .v (.c (.d (.int .i64 t))), .v (.c (.d (.int .i64 p))), .v (.c (.d (.int .i64 93)))] [] (fun v M => K v (cutAt 186 M)) = refPath ⟨nm, ra, dec⟩ t p 93 (refK K 28 186 93) := by
  kernel_rfl
theorem cr_93 (nm : ByteArray) (ra dec t p : Int) : (pathE ⟨nm, ra, dec⟩ t p ((93 : Nat) : Int) = 0 → CallsA Try.prog GT gbT 8 [.v (.agg [.str nm, .int .i64 ra, .int .i64 dec]), .v (.c (.d (.int .i64 t))), .v (.c (.d (.int .i64 p))), .v (.c (.d (.int .i64 ((93 : Nat) : Int))))] [] (vSlice 186 93 0) (mSlice 28 186 (pathD ⟨nm, ra, dec⟩ t p 93))) ∧ (pathE ⟨nm, ra, dec⟩ t p ((93 : Nat) : Int) ≠ 0 → CallsA Try.prog GT gbT 8 [.v (.agg [.str nm, .int .i64 ra, .int .i64 dec]), .v (.c (.d (.int .i64 t))), .v (.c (.d (.int .i64 p))), .v (.c (.d (.int .i64 ((93 : Nat) : Int))))] [] (vNil (pathE ⟨nm, ra, dec⟩ t p ((93 : Nat) : Int))) []) := by
  have key : ∀ ht : -9223372036854775808 ≤ t ∧ t ≤ 9223372036854775807, _ := fun ht => (wr_93 nm ra dec t p (fun v M => some (Res.fin v M))).trans (ref_path (m := 93) (by omega) ht _)
  refine ⟨fun h => CallsA.ofOk fun hok => ?_, fun h => CallsA.ofOk fun hok => ?_⟩
  · have hw := key (inR_i64 (hok (.int .i64 t) (by simp [datasL, datas]))); rw [h] at hw; exact CallsA.ofEvCutP (fun _ => [1, 2, 3, 4, 10, 11]) g_fringeref06_Same hEQT hmT 186 (fun _ _ _ _ => noL_ok _) hw
  · have hw := key (inR_i64 (hok (.int .i64 t) (by simp [datasL, datas]))); rw [show (pathE ⟨nm, ra, dec⟩ t p ((93 : Nat) : Int) == 0) = false by simpa using h] at hw; exact (CallsA.ofEvCutP (fun _ => [1, 2, 3, 4, 10, 11]) g_fringeref06_Same hEQT hmT 186 (fun _ _ _ _ => noL_ok _) hw).drop (M' := []) fun b => .inr rfl

set_option maxRecDepth 100000 in
theorem wr_94 (nm : ByteArray) (ra dec t p : Int) (K : AV → List Blk → Ans) : evFnP Try.prog GT EQT T_fringeref06_Same XT noL (fun _ => [1, 2, 3, 4, 10, 11]) 400 8 [.v (.agg [.str nm, .int .i64 ra, .int .i64 dec]), .v (.c (.d (.int .i64 t))), .v (.c (.d (.int .i64 p))), .v (.c (.d (.int .i64 94)))] [] (fun v M => K v (cutAt 188 M)) = refPath ⟨nm, ra, dec⟩ t p 94 (refK K 28 188 94) := by
  kernel_rfl
theorem cr_94 (nm : ByteArray) (ra dec t p : Int) : (pathE ⟨nm, ra, dec⟩ t p ((94 : Nat) : Int) = 0 → CallsA Try.prog GT gbT 8 [.v (.agg [.str nm, .int .i64 ra, .int .i64 dec]), .v (.c (.d (.int .i64 t))), .v (.c (.d (.int .i64 p))), .v (.c (.d (.int .i64 ((94 : Nat) : Int))))] [] (vSlice 188 94 0) (mSlice 28 188 (pathD ⟨nm, ra, dec⟩ t p 94))) ∧ (pathE ⟨nm, ra, dec⟩ t p ((94 : Nat) : Int) ≠ 0 → CallsA Try.prog GT gbT 8 [.v (.agg [.str nm, .int .i64 ra, .int .i64 dec]), .v (.c (.d (.int .i64 t))), .v (.c (.d (.int .i64 p))), .v (.c (.d (.int .i64 ((94 : Nat) : Int))))] [] (vNil (pathE ⟨nm, ra, dec⟩ t p ((94 : Nat) : Int))) []) := by
  have key : ∀ ht : -9223372036854775808 ≤ t ∧ t ≤ 9223372036854775807, _ := fun ht => (wr_94 nm ra dec t p (fun v M => some (Res.fin v M))).trans (ref_path (m := 94) (by omega) ht _)
  refine ⟨fun h => CallsA.ofOk fun hok => ?_, fun h => CallsA.ofOk fun hok => ?_⟩
  · have hw := key (inR_i64 (hok (.int .i64 t) (by simp [datasL, datas]))); rw [h] at hw; exact CallsA.ofEvCutP (fun _ => [1, 2, 3, 4, 10, 11]) g_fringeref06_Same hEQT hmT 188 (fun _ _ _ _ => noL_ok _) hw
  · have hw := key (inR_i64 (hok (.int .i64 t) (by simp [datasL, datas]))); rw [show (pathE ⟨nm, ra, dec⟩ t p ((94 : Nat) : Int) == 0) = false by simpa using h] at hw; exact (CallsA.ofEvCutP (fun _ => [1, 2, 3, 4, 10, 11]) g_fringeref06_Same hEQT hmT 188 (fun _ _ _ _ => noL_ok _) hw).drop (M' := []) fun b => .inr rfl

set_option maxRecDepth 100000 in
theorem wr_95 (nm : ByteArray) (ra dec t p : Int) (K : AV → List Blk → Ans) : evFnP Try.prog GT EQT T_fringeref06_Same XT noL (fun _ => [1, 2, 3, 4, 10, 11]) 400 8 [.v (.agg [.str nm, .int .i64 ra, .int .i64 dec]), .v (.c (.d (.int .i64 t))), .v (.c (.d (.int .i64 p))), .v (.c (.d (.int .i64 95)))] [] (fun v M => K v (cutAt 190 M)) = refPath ⟨nm, ra, dec⟩ t p 95 (refK K 28 190 95) := by
  kernel_rfl
theorem cr_95 (nm : ByteArray) (ra dec t p : Int) : (pathE ⟨nm, ra, dec⟩ t p ((95 : Nat) : Int) = 0 → CallsA Try.prog GT gbT 8 [.v (.agg [.str nm, .int .i64 ra, .int .i64 dec]), .v (.c (.d (.int .i64 t))), .v (.c (.d (.int .i64 p))), .v (.c (.d (.int .i64 ((95 : Nat) : Int))))] [] (vSlice 190 95 0) (mSlice 28 190 (pathD ⟨nm, ra, dec⟩ t p 95))) ∧ (pathE ⟨nm, ra, dec⟩ t p ((95 : Nat) : Int) ≠ 0 → CallsA Try.prog GT gbT 8 [.v (.agg [.str nm, .int .i64 ra, .int .i64 dec]), .v (.c (.d (.int .i64 t))), .v (.c (.d (.int .i64 p))), .v (.c (.d (.int .i64 ((95 : Nat) : Int))))] [] (vNil (pathE ⟨nm, ra, dec⟩ t p ((95 : Nat) : Int))) []) := by
  have key : ∀ ht : -9223372036854775808 ≤ t ∧ t ≤ 9223372036854775807, _ := fun ht => (wr_95 nm ra dec t p (fun v M => some (Res.fin v M))).trans (ref_path (m := 95) (by omega) ht _)
  refine ⟨fun h => CallsA.ofOk fun hok => ?_, fun h => CallsA.ofOk fun hok => ?_⟩
  · have hw := key (inR_i64 (hok (.int .i64 t) (by simp [datasL, datas]))); rw [h] at hw; exact CallsA.ofEvCutP (fun _ => [1, 2, 3, 4, 10, 11]) g_fringeref06_Same hEQT hmT 190 (fun _ _ _ _ => noL_ok _) hw
  · have hw := key (inR_i64 (hok (.int .i64 t) (by simp [datasL, datas]))); rw [show (pathE ⟨nm, ra, dec⟩ t p ((95 : Nat) : Int) == 0) = false by simpa using h] at hw; exact (CallsA.ofEvCutP (fun _ => [1, 2, 3, 4, 10, 11]) g_fringeref06_Same hEQT hmT 190 (fun _ _ _ _ => noL_ok _) hw).drop (M' := []) fun b => .inr rfl

set_option maxRecDepth 100000 in
theorem wr_96 (nm : ByteArray) (ra dec t p : Int) (K : AV → List Blk → Ans) : evFnP Try.prog GT EQT T_fringeref06_Same XT noL (fun _ => [1, 2, 3, 4, 10, 11]) 400 8 [.v (.agg [.str nm, .int .i64 ra, .int .i64 dec]), .v (.c (.d (.int .i64 t))), .v (.c (.d (.int .i64 p))), .v (.c (.d (.int .i64 96)))] [] (fun v M => K v (cutAt 192 M)) = refPath ⟨nm, ra, dec⟩ t p 96 (refK K 28 192 96) := by
  kernel_rfl
theorem cr_96 (nm : ByteArray) (ra dec t p : Int) : (pathE ⟨nm, ra, dec⟩ t p ((96 : Nat) : Int) = 0 → CallsA Try.prog GT gbT 8 [.v (.agg [.str nm, .int .i64 ra, .int .i64 dec]), .v (.c (.d (.int .i64 t))), .v (.c (.d (.int .i64 p))), .v (.c (.d (.int .i64 ((96 : Nat) : Int))))] [] (vSlice 192 96 0) (mSlice 28 192 (pathD ⟨nm, ra, dec⟩ t p 96))) ∧ (pathE ⟨nm, ra, dec⟩ t p ((96 : Nat) : Int) ≠ 0 → CallsA Try.prog GT gbT 8 [.v (.agg [.str nm, .int .i64 ra, .int .i64 dec]), .v (.c (.d (.int .i64 t))), .v (.c (.d (.int .i64 p))), .v (.c (.d (.int .i64 ((96 : Nat) : Int))))] [] (vNil (pathE ⟨nm, ra, dec⟩ t p ((96 : Nat) : Int))) []) := by
  have key : ∀ ht : -9223372036854775808 ≤ t ∧ t ≤ 9223372036854775807, _ := fun ht => (wr_96 nm ra dec t p (fun v M => some (Res.fin v M))).trans (ref_path (m := 96) (by omega) ht _)
  refine ⟨fun h => CallsA.ofOk fun hok => ?_, fun h => CallsA.ofOk fun hok => ?_⟩
  · have hw := key (inR_i64 (hok (.int .i64 t) (by simp [datasL, datas]))); rw [h] at hw; exact CallsA.ofEvCutP (fun _ => [1, 2, 3, 4, 10, 11]) g_fringeref06_Same hEQT hmT 192 (fun _ _ _ _ => noL_ok _) hw
  · have hw := key (inR_i64 (hok (.int .i64 t) (by simp [datasL, datas]))); rw [show (pathE ⟨nm, ra, dec⟩ t p ((96 : Nat) : Int) == 0) = false by simpa using h] at hw; exact (CallsA.ofEvCutP (fun _ => [1, 2, 3, 4, 10, 11]) g_fringeref06_Same hEQT hmT 192 (fun _ _ _ _ => noL_ok _) hw).drop (M' := []) fun b => .inr rfl

set_option maxRecDepth 100000 in
theorem wr_97 (nm : ByteArray) (ra dec t p : Int) (K : AV → List Blk → Ans) : evFnP Try.prog GT EQT T_fringeref06_Same XT noL (fun _ => [1, 2, 3, 4, 10, 11]) 400 8 [.v (.agg [.str nm, .int .i64 ra, .int .i64 dec]), .v (.c (.d (.int .i64 t))), .v (.c (.d (.int .i64 p))), .v (.c (.d (.int .i64 97)))] [] (fun v M => K v (cutAt 194 M)) = refPath ⟨nm, ra, dec⟩ t p 97 (refK K 28 194 97) := by
  kernel_rfl
theorem cr_97 (nm : ByteArray) (ra dec t p : Int) : (pathE ⟨nm, ra, dec⟩ t p ((97 : Nat) : Int) = 0 → CallsA Try.prog GT gbT 8 [.v (.agg [.str nm, .int .i64 ra, .int .i64 dec]), .v (.c (.d (.int .i64 t))), .v (.c (.d (.int .i64 p))), .v (.c (.d (.int .i64 ((97 : Nat) : Int))))] [] (vSlice 194 97 0) (mSlice 28 194 (pathD ⟨nm, ra, dec⟩ t p 97))) ∧ (pathE ⟨nm, ra, dec⟩ t p ((97 : Nat) : Int) ≠ 0 → CallsA Try.prog GT gbT 8 [.v (.agg [.str nm, .int .i64 ra, .int .i64 dec]), .v (.c (.d (.int .i64 t))), .v (.c (.d (.int .i64 p))), .v (.c (.d (.int .i64 ((97 : Nat) : Int))))] [] (vNil (pathE ⟨nm, ra, dec⟩ t p ((97 : Nat) : Int))) []) := by
  have key : ∀ ht : -9223372036854775808 ≤ t ∧ t ≤ 9223372036854775807, _ := fun ht => (wr_97 nm ra dec t p (fun v M => some (Res.fin v M))).trans (ref_path (m := 97) (by omega) ht _)
  refine ⟨fun h => CallsA.ofOk fun hok => ?_, fun h => CallsA.ofOk fun hok => ?_⟩
  · have hw := key (inR_i64 (hok (.int .i64 t) (by simp [datasL, datas]))); rw [h] at hw; exact CallsA.ofEvCutP (fun _ => [1, 2, 3, 4, 10, 11]) g_fringeref06_Same hEQT hmT 194 (fun _ _ _ _ => noL_ok _) hw
  · have hw := key (inR_i64 (hok (.int .i64 t) (by simp [datasL, datas]))); rw [show (pathE ⟨nm, ra, dec⟩ t p ((97 : Nat) : Int) == 0) = false by simpa using h] at hw; exact (CallsA.ofEvCutP (fun _ => [1, 2, 3, 4, 10, 11]) g_fringeref06_Same hEQT hmT 194 (fun _ _ _ _ => noL_ok _) hw).drop (M' := []) fun b => .inr rfl

set_option maxRecDepth 100000 in
theorem wr_98 (nm : ByteArray) (ra dec t p : Int) (K : AV → List Blk → Ans) : evFnP Try.prog GT EQT T_fringeref06_Same XT noL (fun _ => [1, 2, 3, 4, 10, 11]) 400 8 [.v (.agg [.str nm, .int .i64 ra, .int .i64 dec]), .v (.c (.d (.int .i64 t))), .v (.c (.d (.int .i64 p))), .v (.c (.d (.int .i64 98)))] [] (fun v M => K v (cutAt 196 M)) = refPath ⟨nm, ra, dec⟩ t p 98 (refK K 28 196 98) := by
  kernel_rfl
theorem cr_98 (nm : ByteArray) (ra dec t p : Int) : (pathE ⟨nm, ra, dec⟩ t p ((98 : Nat) : Int) = 0 → CallsA Try.prog GT gbT 8 [.v (.agg [.str nm, .int .i64 ra, .int .i64 dec]), .v (.c (.d (.int .i64 t))), .v (.c (.d (.int .i64 p))), .v (.c (.d (.int .i64 ((98 : Nat) : Int))))] [] (vSlice 196 98 0) (mSlice 28 196 (pathD ⟨nm, ra, dec⟩ t p 98))) ∧ (pathE ⟨nm, ra, dec⟩ t p ((98 : Nat) : Int) ≠ 0 → CallsA Try.prog GT gbT 8 [.v (.agg [.str nm, .int .i64 ra, .int .i64 dec]), .v (.c (.d (.int .i64 t))), .v (.c (.d (.int .i64 p))), .v (.c (.d (.int .i64 ((98 : Nat) : Int))))] [] (vNil (pathE ⟨nm, ra, dec⟩ t p ((98 : Nat) : Int))) []) := by
  have key : ∀ ht : -9223372036854775808 ≤ t ∧ t ≤ 9223372036854775807, _ := fun ht => (wr_98 nm ra dec t p (fun v M => some (Res.fin v M))).trans (ref_path (m := 98) (by omega) ht _)
  refine ⟨fun h => CallsA.ofOk fun hok => ?_, fun h => CallsA.ofOk fun hok => ?_⟩
  · have hw := key (inR_i64 (hok (.int .i64 t) (by simp [datasL, datas]))); rw [h] at hw; exact CallsA.ofEvCutP (fun _ => [1, 2, 3, 4, 10, 11]) g_fringeref06_Same hEQT hmT 196 (fun _ _ _ _ => noL_ok _) hw
  · have hw := key (inR_i64 (hok (.int .i64 t) (by simp [datasL, datas]))); rw [show (pathE ⟨nm, ra, dec⟩ t p ((98 : Nat) : Int) == 0) = false by simpa using h] at hw; exact (CallsA.ofEvCutP (fun _ => [1, 2, 3, 4, 10, 11]) g_fringeref06_Same hEQT hmT 196 (fun _ _ _ _ => noL_ok _) hw).drop (M' := []) fun b => .inr rfl

set_option maxRecDepth 100000 in
theorem wr_99 (nm : ByteArray) (ra dec t p : Int) (K : AV → List Blk → Ans) : evFnP Try.prog GT EQT T_fringeref06_Same XT noL (fun _ => [1, 2, 3, 4, 10, 11]) 400 8 [.v (.agg [.str nm, .int .i64 ra, .int .i64 dec]), .v (.c (.d (.int .i64 t))), .v (.c (.d (.int .i64 p))), .v (.c (.d (.int .i64 99)))] [] (fun v M => K v (cutAt 198 M)) = refPath ⟨nm, ra, dec⟩ t p 99 (refK K 28 198 99) := by
  kernel_rfl
theorem cr_99 (nm : ByteArray) (ra dec t p : Int) : (pathE ⟨nm, ra, dec⟩ t p ((99 : Nat) : Int) = 0 → CallsA Try.prog GT gbT 8 [.v (.agg [.str nm, .int .i64 ra, .int .i64 dec]), .v (.c (.d (.int .i64 t))), .v (.c (.d (.int .i64 p))), .v (.c (.d (.int .i64 ((99 : Nat) : Int))))] [] (vSlice 198 99 0) (mSlice 28 198 (pathD ⟨nm, ra, dec⟩ t p 99))) ∧ (pathE ⟨nm, ra, dec⟩ t p ((99 : Nat) : Int) ≠ 0 → CallsA Try.prog GT gbT 8 [.v (.agg [.str nm, .int .i64 ra, .int .i64 dec]), .v (.c (.d (.int .i64 t))), .v (.c (.d (.int .i64 p))), .v (.c (.d (.int .i64 ((99 : Nat) : Int))))] [] (vNil (pathE ⟨nm, ra, dec⟩ t p ((99 : Nat) : Int))) []) := by
  have key : ∀ ht : -9223372036854775808 ≤ t ∧ t ≤ 9223372036854775807, _ := fun ht => (wr_99 nm ra dec t p (fun v M => some (Res.fin v M))).trans (ref_path (m := 99) (by omega) ht _)
  refine ⟨fun h => CallsA.ofOk fun hok => ?_, fun h => CallsA.ofOk fun hok => ?_⟩
  · have hw := key (inR_i64 (hok (.int .i64 t) (by simp [datasL, datas]))); rw [h] at hw; exact CallsA.ofEvCutP (fun _ => [1, 2, 3, 4, 10, 11]) g_fringeref06_Same hEQT hmT 198 (fun _ _ _ _ => noL_ok _) hw
  · have hw := key (inR_i64 (hok (.int .i64 t) (by simp [datasL, datas]))); rw [show (pathE ⟨nm, ra, dec⟩ t p ((99 : Nat) : Int) == 0) = false by simpa using h] at hw; exact (CallsA.ofEvCutP (fun _ => [1, 2, 3, 4, 10, 11]) g_fringeref06_Same hEQT hmT 198 (fun _ _ _ _ => noL_ok _) hw).drop (M' := []) fun b => .inr rfl

set_option maxRecDepth 100000 in
theorem wr_100 (nm : ByteArray) (ra dec t p : Int) (K : AV → List Blk → Ans) : evFnP Try.prog GT EQT T_fringeref06_Same XT noL (fun _ => [1, 2, 3, 4, 10, 11]) 400 8 [.v (.agg [.str nm, .int .i64 ra, .int .i64 dec]), .v (.c (.d (.int .i64 t))), .v (.c (.d (.int .i64 p))), .v (.c (.d (.int .i64 100)))] [] (fun v M => K v (cutAt 200 M)) = refPath ⟨nm, ra, dec⟩ t p 100 (refK K 28 200 100) := by
  kernel_rfl
theorem cr_100 (nm : ByteArray) (ra dec t p : Int) : (pathE ⟨nm, ra, dec⟩ t p ((100 : Nat) : Int) = 0 → CallsA Try.prog GT gbT 8 [.v (.agg [.str nm, .int .i64 ra, .int .i64 dec]), .v (.c (.d (.int .i64 t))), .v (.c (.d (.int .i64 p))), .v (.c (.d (.int .i64 ((100 : Nat) : Int))))] [] (vSlice 200 100 0) (mSlice 28 200 (pathD ⟨nm, ra, dec⟩ t p 100))) ∧ (pathE ⟨nm, ra, dec⟩ t p ((100 : Nat) : Int) ≠ 0 → CallsA Try.prog GT gbT 8 [.v (.agg [.str nm, .int .i64 ra, .int .i64 dec]), .v (.c (.d (.int .i64 t))), .v (.c (.d (.int .i64 p))), .v (.c (.d (.int .i64 ((100 : Nat) : Int))))] [] (vNil (pathE ⟨nm, ra, dec⟩ t p ((100 : Nat) : Int))) []) := by
  have key : ∀ ht : -9223372036854775808 ≤ t ∧ t ≤ 9223372036854775807, _ := fun ht => (wr_100 nm ra dec t p (fun v M => some (Res.fin v M))).trans (ref_path (m := 100) (by omega) ht _)
  refine ⟨fun h => CallsA.ofOk fun hok => ?_, fun h => CallsA.ofOk fun hok => ?_⟩
  · have hw := key (inR_i64 (hok (.int .i64 t) (by simp [datasL, datas]))); rw [h] at hw; exact CallsA.ofEvCutP (fun _ => [1, 2, 3, 4, 10, 11]) g_fringeref06_Same hEQT hmT 200 (fun _ _ _ _ => noL_ok _) hw
  · have hw := key (inR_i64 (hok (.int .i64 t) (by simp [datasL, datas]))); rw [show (pathE ⟨nm, ra, dec⟩ t p ((100 : Nat) : Int) == 0) = false by simpa using h] at hw; exact (CallsA.ofEvCutP (fun _ => [1, 2, 3, 4, 10, 11]) g_fringeref06_Same hEQT hmT 200 (fun _ _ _ _ => noL_ok _) hw).drop (M' := []) fun b => .inr rfl

end Go.Ev
