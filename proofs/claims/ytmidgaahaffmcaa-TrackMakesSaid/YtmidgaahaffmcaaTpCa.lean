/-
  TrackMakes, value by value of the length of a path. No condition beyond those of the statements.
-/
import Derived.Test.YtmidgaahaffmcaaTpB
namespace Go.Ev
open Go Go.Proofs

set_option maxRecDepth 100000 in
theorem wl_0 (nm : ByteArray) (ra dec t p : Int) (K : AV → List Blk → Ans) : evFn Try.prog GT EQT (inl Try.prog GT EQT XT [11] T_tref 400 1) XT noL 100 3 [.v (.agg [.str nm, .int .i64 ra, .int .i64 dec]), .v (.c (.d (.int .i64 t))), .v (.c (.d (.int .i64 p))), .v (.c (.d (.int .i64 0)))] [] (fun v M => K v (M.take ([] : List Blk).length)) = lawTM K ⟨nm, ra, dec⟩ t p 0 := by
  kernel_rfl
theorem cl_0 (nm : ByteArray) (ra dec t p : Int) : CallsA Try.prog GT gbT 3 [.v (.agg [.str nm, .int .i64 ra, .int .i64 dec]), .v (.c (.d (.int .i64 t))), .v (.c (.d (.int .i64 p))), .v (.c (.d (.int .i64 ((0 : Nat) : Int))))] [] (rB true) [] := by
  have hw := wl_0 nm ra dec t p (fun v M => some (Res.fin v M))
  rw [lawTM_ok] at hw
  exact CallsA.ofEv (Γ := (inl Try.prog GT EQT XT [11] T_tref 400 1)) (X := XT) (Λ := noL) (EQ := EQT) (n := 100) (g_tref.inl hEQT hmT (fun f hf => by simp only [List.mem_cons, List.not_mem_nil, or_false] at hf; subst hf; exact (fun args w => Try.call11 args w)) 400 1) hEQT hmT (fun _ _ _ _ => noL_ok _) hw

set_option maxRecDepth 100000 in
theorem wl_1 (nm : ByteArray) (ra dec t p : Int) (K : AV → List Blk → Ans) : evFn Try.prog GT EQT (inl Try.prog GT EQT XT [11] T_tref 400 1) XT noL 100 3 [.v (.agg [.str nm, .int .i64 ra, .int .i64 dec]), .v (.c (.d (.int .i64 t))), .v (.c (.d (.int .i64 p))), .v (.c (.d (.int .i64 1)))] [] (fun v M => K v (M.take ([] : List Blk).length)) = lawTM K ⟨nm, ra, dec⟩ t p 1 := by
  kernel_rfl
theorem cl_1 (nm : ByteArray) (ra dec t p : Int) : CallsA Try.prog GT gbT 3 [.v (.agg [.str nm, .int .i64 ra, .int .i64 dec]), .v (.c (.d (.int .i64 t))), .v (.c (.d (.int .i64 p))), .v (.c (.d (.int .i64 ((1 : Nat) : Int))))] [] (rB true) [] := by
  have hw := wl_1 nm ra dec t p (fun v M => some (Res.fin v M))
  rw [lawTM_ok] at hw
  exact CallsA.ofEv (Γ := (inl Try.prog GT EQT XT [11] T_tref 400 1)) (X := XT) (Λ := noL) (EQ := EQT) (n := 100) (g_tref.inl hEQT hmT (fun f hf => by simp only [List.mem_cons, List.not_mem_nil, or_false] at hf; subst hf; exact (fun args w => Try.call11 args w)) 400 1) hEQT hmT (fun _ _ _ _ => noL_ok _) hw

set_option maxRecDepth 100000 in
theorem wl_2 (nm : ByteArray) (ra dec t p : Int) (K : AV → List Blk → Ans) : evFn Try.prog GT EQT (inl Try.prog GT EQT XT [11] T_tref 400 1) XT noL 100 3 [.v (.agg [.str nm, .int .i64 ra, .int .i64 dec]), .v (.c (.d (.int .i64 t))), .v (.c (.d (.int .i64 p))), .v (.c (.d (.int .i64 2)))] [] (fun v M => K v (M.take ([] : List Blk).length)) = lawTM K ⟨nm, ra, dec⟩ t p 2 := by
  kernel_rfl
theorem cl_2 (nm : ByteArray) (ra dec t p : Int) : CallsA Try.prog GT gbT 3 [.v (.agg [.str nm, .int .i64 ra, .int .i64 dec]), .v (.c (.d (.int .i64 t))), .v (.c (.d (.int .i64 p))), .v (.c (.d (.int .i64 ((2 : Nat) : Int))))] [] (rB true) [] := by
  have hw := wl_2 nm ra dec t p (fun v M => some (Res.fin v M))
  rw [lawTM_ok] at hw
  exact CallsA.ofEv (Γ := (inl Try.prog GT EQT XT [11] T_tref 400 1)) (X := XT) (Λ := noL) (EQ := EQT) (n := 100) (g_tref.inl hEQT hmT (fun f hf => by simp only [List.mem_cons, List.not_mem_nil, or_false] at hf; subst hf; exact (fun args w => Try.call11 args w)) 400 1) hEQT hmT (fun _ _ _ _ => noL_ok _) hw

set_option maxRecDepth 100000 in
theorem wl_3 (nm : ByteArray) (ra dec t p : Int) (K : AV → List Blk → Ans) : evFn Try.prog GT EQT (inl Try.prog GT EQT XT [11] T_tref 400 1) XT noL 100 3 [.v (.agg [.str nm, .int .i64 ra, .int .i64 dec]), .v (.c (.d (.int .i64 t))), .v (.c (.d (.int .i64 p))), .v (.c (.d (.int .i64 3)))] [] (fun v M => K v (M.take ([] : List Blk).length)) = lawTM K ⟨nm, ra, dec⟩ t p 3 := by
  kernel_rfl
theorem cl_3 (nm : ByteArray) (ra dec t p : Int) : CallsA Try.prog GT gbT 3 [.v (.agg [.str nm, .int .i64 ra, .int .i64 dec]), .v (.c (.d (.int .i64 t))), .v (.c (.d (.int .i64 p))), .v (.c (.d (.int .i64 ((3 : Nat) : Int))))] [] (rB true) [] := by
  have hw := wl_3 nm ra dec t p (fun v M => some (Res.fin v M))
  rw [lawTM_ok] at hw
  exact CallsA.ofEv (Γ := (inl Try.prog GT EQT XT [11] T_tref 400 1)) (X := XT) (Λ := noL) (EQ := EQT) (n := 100) (g_tref.inl hEQT hmT (fun f hf => by simp only [List.mem_cons, List.not_mem_nil, or_false] at hf; subst hf; exact (fun args w => Try.call11 args w)) 400 1) hEQT hmT (fun _ _ _ _ => noL_ok _) hw

set_option maxRecDepth 100000 in
theorem wl_4 (nm : ByteArray) (ra dec t p : Int) (K : AV → List Blk → Ans) : evFn Try.prog GT EQT (inl Try.prog GT EQT XT [11] T_tref 400 1) XT noL 100 3 [.v (.agg [.str nm, .int .i64 ra, .int .i64 dec]), .v (.c (.d (.int .i64 t))), .v (.c (.d (.int .i64 p))), .v (.c (.d (.int .i64 4)))] [] (fun v M => K v (M.take ([] : List Blk).length)) = lawTM K ⟨nm, ra, dec⟩ t p 4 := by
  kernel_rfl
theorem cl_4 (nm : ByteArray) (ra dec t p : Int) : CallsA Try.prog GT gbT 3 [.v (.agg [.str nm, .int .i64 ra, .int .i64 dec]), .v (.c (.d (.int .i64 t))), .v (.c (.d (.int .i64 p))), .v (.c (.d (.int .i64 ((4 : Nat) : Int))))] [] (rB true) [] := by
  have hw := wl_4 nm ra dec t p (fun v M => some (Res.fin v M))
  rw [lawTM_ok] at hw
  exact CallsA.ofEv (Γ := (inl Try.prog GT EQT XT [11] T_tref 400 1)) (X := XT) (Λ := noL) (EQ := EQT) (n := 100) (g_tref.inl hEQT hmT (fun f hf => by simp only [List.mem_cons, List.not_mem_nil, or_false] at hf; subst hf; exact (fun args w => Try.call11 args w)) 400 1) hEQT hmT (fun _ _ _ _ => noL_ok _) hw

set_option maxRecDepth 100000 in
theorem wl_5 (nm : ByteArray) (ra dec t p : Int) (K : AV → List Blk → Ans) : evFn Try.prog GT EQT (inl Try.prog GT EQT XT [11] T_tref 400 1) XT noL 100 3 [.v (.agg [.str nm, .int .i64 ra, .int .i64 dec]), .v (.c (.d (.int .i64 t))), .v (.c (.d (.int .i64 p))), .v (.c (.d (.int .i64 5)))] [] (fun v M => K v (M.take ([] : List Blk).length)) = lawTM K ⟨nm, ra, dec⟩ t p 5 := by
  kernel_rfl
theorem cl_5 (nm : ByteArray) (ra dec t p : Int) : CallsA Try.prog GT gbT 3 [.v (.agg [.str nm, .int .i64 ra, .int .i64 dec]), .v (.c (.d (.int .i64 t))), .v (.c (.d (.int .i64 p))), .v (.c (.d (.int .i64 ((5 : Nat) : Int))))] [] (rB true) [] := by
  have hw := wl_5 nm ra dec t p (fun v M => some (Res.fin v M))
  rw [lawTM_ok] at hw
  exact CallsA.ofEv (Γ := (inl Try.prog GT EQT XT [11] T_tref 400 1)) (X := XT) (Λ := noL) (EQ := EQT) (n := 100) (g_tref.inl hEQT hmT (fun f hf => by simp only [List.mem_cons, List.not_mem_nil, or_false] at hf; subst hf; exact (fun args w => Try.call11 args w)) 400 1) hEQT hmT (fun _ _ _ _ => noL_ok _) hw

set_option maxRecDepth 100000 in
theorem wl_6 (nm : ByteArray) (ra dec t p : Int) (K : AV → List Blk → Ans) : evFn Try.prog GT EQT (inl Try.prog GT EQT XT [11] T_tref 400 1) XT noL 100 3 [.v (.agg [.str nm, .int .i64 ra, .int .i64 dec]), .v (.c (.d (.int .i64 t))), .v (.c (.d (.int .i64 p))), .v (.c (.d (.int .i64 6)))] [] (fun v M => K v (M.take ([] : List Blk).length)) = lawTM K ⟨nm, ra, dec⟩ t p 6 := by
  kernel_rfl
theorem cl_6 (nm : ByteArray) (ra dec t p : Int) : CallsA Try.prog GT gbT 3 [.v (.agg [.str nm, .int .i64 ra, .int .i64 dec]), .v (.c (.d (.int .i64 t))), .v (.c (.d (.int .i64 p))), .v (.c (.d (.int .i64 ((6 : Nat) : Int))))] [] (rB true) [] := by
  have hw := wl_6 nm ra dec t p (fun v M => some (Res.fin v M))
  rw [lawTM_ok] at hw
  exact CallsA.ofEv (Γ := (inl Try.prog GT EQT XT [11] T_tref 400 1)) (X := XT) (Λ := noL) (EQ := EQT) (n := 100) (g_tref.inl hEQT hmT (fun f hf => by simp only [List.mem_cons, List.not_mem_nil, or_false] at hf; subst hf; exact (fun args w => Try.call11 args w)) 400 1) hEQT hmT (fun _ _ _ _ => noL_ok _) hw

set_option maxRecDepth 100000 in
theorem wl_7 (nm : ByteArray) (ra dec t p : Int) (K : AV → List Blk → Ans) : evFn Try.prog GT EQT (inl Try.prog GT EQT XT [11] T_tref 400 1) XT noL 100 3 [.v (.agg [.str nm, .int .i64 ra, .int .i64 dec]), .v (.c (.d (.int .i64 t))), .v (.c (.d (.int .i64 p))), .v (.c (.d (.int .i64 7)))] [] (fun v M => K v (M.take ([] : List Blk).length)) = lawTM K ⟨nm, ra, dec⟩ t p 7 := by
  kernel_rfl
theorem cl_7 (nm : ByteArray) (ra dec t p : Int) : CallsA Try.prog GT gbT 3 [.v (.agg [.str nm, .int .i64 ra, .int .i64 dec]), .v (.c (.d (.int .i64 t))), .v (.c (.d (.int .i64 p))), .v (.c (.d (.int .i64 ((7 : Nat) : Int))))] [] (rB true) [] := by
  have hw := wl_7 nm ra dec t p (fun v M => some (Res.fin v M))
  rw [lawTM_ok] at hw
  exact CallsA.ofEv (Γ := (inl Try.prog GT EQT XT [11] T_tref 400 1)) (X := XT) (Λ := noL) (EQ := EQT) (n := 100) (g_tref.inl hEQT hmT (fun f hf => by simp only [List.mem_cons, List.not_mem_nil, or_false] at hf; subst hf; exact (fun args w => Try.call11 args w)) 400 1) hEQT hmT (fun _ _ _ _ => noL_ok _) hw

set_option maxRecDepth 100000 in
theorem wl_8 (nm : ByteArray) (ra dec t p : Int) (K : AV → List Blk → Ans) : evFn Try.prog GT EQT (inl Try.prog GT EQT XT [11] T_tref 400 1) XT noL 100 3 [.v (.agg [.str nm, .int .i64 ra, .int .i64 dec]), .v (.c (.d (.int .i64 t))), .v (.c (.d (.int .i64 p))), .v (.c (.d (.int .i64 8)))] [] (fun v M => K v (M.take ([] : List Blk).length)) = lawTM K ⟨nm, ra, dec⟩ t p 8 := by
  kernel_rfl
theorem cl_8 (nm : ByteArray) (ra dec t p : Int) : CallsA Try.prog GT gbT 3 [.v (.agg [.str nm, .int .i64 ra, .int .i64 dec]), .v (.c (.d (.int .i64 t))), .v (.c (.d (.int .i64 p))), .v (.c (.d (.int .i64 ((8 : Nat) : Int))))] [] (rB true) [] := by
  have hw := wl_8 nm ra dec t p (fun v M => some (Res.fin v M))
  rw [lawTM_ok] at hw
  exact CallsA.ofEv (Γ := (inl Try.prog GT EQT XT [11] T_tref 400 1)) (X := XT) (Λ := noL) (EQ := EQT) (n := 100) (g_tref.inl hEQT hmT (fun f hf => by simp only [List.mem_cons, List.not_mem_nil, or_false] at hf; subst hf; exact (fun args w => Try.call11 args w)) 400 1) hEQT hmT (fun _ _ _ _ => noL_ok _) hw

set_option maxRecDepth 100000 in
theorem wl_9 (nm : ByteArray) (ra dec t p : Int) (K : AV → List Blk → Ans) : evFn Try.prog GT EQT (inl Try.prog GT EQT XT [11] T_tref 400 1) XT noL 100 3 [.v (.agg [.str nm, .int .i64 ra, .int .i64 dec]), .v (.c (.d (.int .i64 t))), .v (.c (.d (.int .i64 p))), .v (.c (.d (.int .i64 9)))] [] (fun v M => K v (M.take ([] : List Blk).length)) = lawTM K ⟨nm, ra, dec⟩ t p 9 := by
  kernel_rfl
theorem cl_9 (nm : ByteArray) (ra dec t p : Int) : CallsA Try.prog GT gbT 3 [.v (.agg [.str nm, .int .i64 ra, .int .i64 dec]), .v (.c (.d (.int .i64 t))), .v (.c (.d (.int .i64 p))), .v (.c (.d (.int .i64 ((9 : Nat) : Int))))] [] (rB true) [] := by
  have hw := wl_9 nm ra dec t p (fun v M => some (Res.fin v M))
  rw [lawTM_ok] at hw
  exact CallsA.ofEv (Γ := (inl Try.prog GT EQT XT [11] T_tref 400 1)) (X := XT) (Λ := noL) (EQ := EQT) (n := 100) (g_tref.inl hEQT hmT (fun f hf => by simp only [List.mem_cons, List.not_mem_nil, or_false] at hf; subst hf; exact (fun args w => Try.call11 args w)) 400 1) hEQT hmT (fun _ _ _ _ => noL_ok _) hw

set_option maxRecDepth 100000 in
theorem wl_10 (nm : ByteArray) (ra dec t p : Int) (K : AV → List Blk → Ans) : evFn Try.prog GT EQT (inl Try.prog GT EQT XT [11] T_tref 400 1) XT noL 100 3 [.v (.agg [.str nm, .int .i64 ra, .int .i64 dec]), .v (.c (.d (.int .i64 t))), .v (.c (.d (.int .i64 p))), .v (.c (.d (.int .i64 10)))] [] (fun v M => K v (M.take ([] : List Blk).length)) = lawTM K ⟨nm, ra, dec⟩ t p 10 := by
  kernel_rfl
theorem cl_10 (nm : ByteArray) (ra dec t p : Int) : CallsA Try.prog GT gbT 3 [.v (.agg [.str nm, .int .i64 ra, .int .i64 dec]), .v (.c (.d (.int .i64 t))), .v (.c (.d (.int .i64 p))), .v (.c (.d (.int .i64 ((10 : Nat) : Int))))] [] (rB true) [] := by
  have hw := wl_10 nm ra dec t p (fun v M => some (Res.fin v M))
  rw [lawTM_ok] at hw
  exact CallsA.ofEv (Γ := (inl Try.prog GT EQT XT [11] T_tref 400 1)) (X := XT) (Λ := noL) (EQ := EQT) (n := 100) (g_tref.inl hEQT hmT (fun f hf => by simp only [List.mem_cons, List.not_mem_nil, or_false] at hf; subst hf; exact (fun args w => Try.call11 args w)) 400 1) hEQT hmT (fun _ _ _ _ => noL_ok _) hw

set_option maxRecDepth 100000 in
theorem wl_11 (nm : ByteArray) (ra dec t p : Int) (K : AV → List Blk → Ans) : evFn Try.prog GT EQT (inl Try.prog GT EQT XT [11] T_tref 400 1) XT noL 100 3 [.v (.agg [.str nm, .int .i64 ra, .int .i64 dec]), .v (.c (.d (.int .i64 t))), .v (.c (.d (.int .i64 p))), .v (.c (.d (.int .i64 11)))] [] (fun v M => K v (M.take ([] : List Blk).length)) = lawTM K ⟨nm, ra, dec⟩ t p 11 := by
  kernel_rfl
theorem cl_11 (nm : ByteArray) (ra dec t p : Int) : CallsA Try.prog GT gbT 3 [.v (.agg [.str nm, .int .i64 ra, .int .i64 dec]), .v (.c (.d (.int .i64 t))), .v (.c (.d (.int .i64 p))), .v (.c (.d (.int .i64 ((11 : Nat) : Int))))] [] (rB true) [] := by
  have hw := wl_11 nm ra dec t p (fun v M => some (Res.fin v M))
  rw [lawTM_ok] at hw
  exact CallsA.ofEv (Γ := (inl Try.prog GT EQT XT [11] T_tref 400 1)) (X := XT) (Λ := noL) (EQ := EQT) (n := 100) (g_tref.inl hEQT hmT (fun f hf => by simp only [List.mem_cons, List.not_mem_nil, or_false] at hf; subst hf; exact (fun args w => Try.call11 args w)) 400 1) hEQT hmT (fun _ _ _ _ => noL_ok _) hw

set_option maxRecDepth 100000 in
theorem wl_12 (nm : ByteArray) (ra dec t p : Int) (K : AV → List Blk → Ans) : evFn Try.prog GT EQT (inl Try.prog GT EQT XT [11] T_tref 400 1) XT noL 100 3 [.v (.agg [.str nm, .int .i64 ra, .int .i64 dec]), .v (.c (.d (.int .i64 t))), .v (.c (.d (.int .i64 p))), .v (.c (.d (.int .i64 12)))] [] (fun v M => K v (M.take ([] : List Blk).length)) = lawTM K ⟨nm, ra, dec⟩ t p 12 := by
  kernel_rfl
theorem cl_12 (nm : ByteArray) (ra dec t p : Int) : CallsA Try.prog GT gbT 3 [.v (.agg [.str nm, .int .i64 ra, .int .i64 dec]), .v (.c (.d (.int .i64 t))), .v (.c (.d (.int .i64 p))), .v (.c (.d (.int .i64 ((12 : Nat) : Int))))] [] (rB true) [] := by
  have hw := wl_12 nm ra dec t p (fun v M => some (Res.fin v M))
  rw [lawTM_ok] at hw
  exact CallsA.ofEv (Γ := (inl Try.prog GT EQT XT [11] T_tref 400 1)) (X := XT) (Λ := noL) (EQ := EQT) (n := 100) (g_tref.inl hEQT hmT (fun f hf => by simp only [List.mem_cons, List.not_mem_nil, or_false] at hf; subst hf; exact (fun args w => Try.call11 args w)) 400 1) hEQT hmT (fun _ _ _ _ => noL_ok _) hw

set_option maxRecDepth 100000 in
theorem wl_13 (nm : ByteArray) (ra dec t p : Int) (K : AV → List Blk → Ans) : evFn Try.prog GT EQT (inl Try.prog GT EQT XT [11] T_tref 400 1) XT noL 100 3 [.v (.agg [.str nm, .int .i64 ra, .int .i64 dec]), .v (.c (.d (.int .i64 t))), .v (.c (.d (.int .i64 p))), .v (.c (.d (.int .i64 13)))] [] (fun v M => K v (M.take ([] : List Blk).length)) = lawTM K ⟨nm, ra, dec⟩ t p 13 := by
  kernel_rfl
theorem cl_13 (nm : ByteArray) (ra dec t p : Int) : CallsA Try.prog GT gbT 3 [.v (.agg [.str nm, .int .i64 ra, .int .i64 dec]), .v (.c (.d (.int .i64 t))), .v (.c (.d (.int .i64 p))), .v (.c (.d (.int .i64 ((13 : Nat) : Int))))] [] (rB true) [] := by
  have hw := wl_13 nm ra dec t p (fun v M => some (Res.fin v M))
  rw [lawTM_ok] at hw
  exact CallsA.ofEv (Γ := (inl Try.prog GT EQT XT [11] T_tref 400 1)) (X := XT) (Λ := noL) (EQ := EQT) (n := 100) (g_tref.inl hEQT hmT (fun f hf => by simp only [List.mem_cons, List.not_mem_nil, or_false] at hf; subst hf; exact (fun args w => Try.call11 args w)) 400 1) hEQT hmT (fun _ _ _ _ => noL_ok _) hw

set_option maxRecDepth 100000 in
theorem wl_14 (nm : ByteArray) (ra dec t p : Int) (K : AV → List Blk → Ans) : evFn Try.prog GT EQT (inl Try.prog GT EQT XT [11] T_tref 400 1) XT noL 100 3 [.v (.agg [.str nm, .int .i64 ra, .int .i64 dec]), .v (.c (.d (.int .i64 t))), .v (.c (.d (.int .i64 p))), .v (.c (.d (.int .i64 14)))] [] (fun v M => K v (M.take ([] : List Blk).length)) = lawTM K ⟨nm, ra, dec⟩ t p 14 := by
  kernel_rfl
theorem cl_14 (nm : ByteArray) (ra dec t p : Int) : CallsA Try.prog GT gbT 3 [.v (.agg [.str nm, .int .i64 ra, .int .i64 dec]), .v (.c (.d (.int .i64 t))), .v (.c (.d (.int .i64 p))), .v (.c (.d (.int .i64 ((14 : Nat) : Int))))] [] (rB true) [] := by
  have hw := wl_14 nm ra dec t p (fun v M => some (Res.fin v M))
  rw [lawTM_ok] at hw
  exact CallsA.ofEv (Γ := (inl Try.prog GT EQT XT [11] T_tref 400 1)) (X := XT) (Λ := noL) (EQ := EQT) (n := 100) (g_tref.inl hEQT hmT (fun f hf => by simp only [List.mem_cons, List.not_mem_nil, or_false] at hf; subst hf; exact (fun args w => Try.call11 args w)) 400 1) hEQT hmT (fun _ _ _ _ => noL_ok _) hw

set_option maxRecDepth 100000 in
theorem wl_15 (nm : ByteArray) (ra dec t p : Int) (K : AV → List Blk → Ans) : evFn Try.prog GT EQT (inl Try.prog GT EQT XT [11] T_tref 400 1) XT noL 100 3 [.v (.agg [.str nm, .int .i64 ra, .int .i64 dec]), .v (.c (.d (.int .i64 t))), .v (.c (.d (.int .i64 p))), .v (.c (.d (.int .i64 15)))] [] (fun v M => K v (M.take ([] : List Blk).length)) = lawTM K ⟨nm, ra, dec⟩ t p 15 := by
  kernel_rfl
theorem cl_15 (nm : ByteArray) (ra dec t p : Int) : CallsA Try.prog GT gbT 3 [.v (.agg [.str nm, .int .i64 ra, .int .i64 dec]), .v (.c (.d (.int .i64 t))), .v (.c (.d (.int .i64 p))), .v (.c (.d (.int .i64 ((15 : Nat) : Int))))] [] (rB true) [] := by
  have hw := wl_15 nm ra dec t p (fun v M => some (Res.fin v M))
  rw [lawTM_ok] at hw
  exact CallsA.ofEv (Γ := (inl Try.prog GT EQT XT [11] T_tref 400 1)) (X := XT) (Λ := noL) (EQ := EQT) (n := 100) (g_tref.inl hEQT hmT (fun f hf => by simp only [List.mem_cons, List.not_mem_nil, or_false] at hf; subst hf; exact (fun args w => Try.call11 args w)) 400 1) hEQT hmT (fun _ _ _ _ => noL_ok _) hw

set_option maxRecDepth 100000 in
theorem wl_16 (nm : ByteArray) (ra dec t p : Int) (K : AV → List Blk → Ans) : evFn Try.prog GT EQT (inl Try.prog GT EQT XT [11] T_tref 400 1) XT noL 100 3 [.v (.agg [.str nm, .int .i64 ra, .int .i64 dec]), .v (.c (.d (.int .i64 t))), .v (.c (.d (.int .i64 p))), .v (.c (.d (.int .i64 16)))] [] (fun v M => K v (M.take ([] : List Blk).length)) = lawTM K ⟨nm, ra, dec⟩ t p 16 := by
  kernel_rfl
theorem cl_16 (nm : ByteArray) (ra dec t p : Int) : CallsA Try.prog GT gbT 3 [.v (.agg [.str nm, .int .i64 ra, .int .i64 dec]), .v (.c (.d (.int .i64 t))), .v (.c (.d (.int .i64 p))), .v (.c (.d (.int .i64 ((16 : Nat) : Int))))] [] (rB true) [] := by
  have hw := wl_16 nm ra dec t p (fun v M => some (Res.fin v M))
  rw [lawTM_ok] at hw
  exact CallsA.ofEv (Γ := (inl Try.prog GT EQT XT [11] T_tref 400 1)) (X := XT) (Λ := noL) (EQ := EQT) (n := 100) (g_tref.inl hEQT hmT (fun f hf => by simp only [List.mem_cons, List.not_mem_nil, or_false] at hf; subst hf; exact (fun args w => Try.call11 args w)) 400 1) hEQT hmT (fun _ _ _ _ => noL_ok _) hw

set_option maxRecDepth 100000 in
theorem wl_17 (nm : ByteArray) (ra dec t p : Int) (K : AV → List Blk → Ans) : evFn Try.prog GT EQT (inl Try.prog GT EQT XT [11] T_tref 400 1) XT noL 100 3 [.v (.agg [.str nm, .int .i64 ra, .int .i64 dec]), .v (.c (.d (.int .i64 t))), .v (.c (.d (.int .i64 p))), .v (.c (.d (.int .i64 17)))] [] (fun v M => K v (M.take ([] : List Blk).length)) = lawTM K ⟨nm, ra, dec⟩ t p 17 := by
  kernel_rfl
theorem cl_17 (nm : ByteArray) (ra dec t p : Int) : CallsA Try.prog GT gbT 3 [.v (.agg [.str nm, .int .i64 ra, .int .i64 dec]), .v (.c (.d (.int .i64 t))), .v (.c (.d (.int .i64 p))), .v (.c (.d (.int .i64 ((17 : Nat) : Int))))] [] (rB true) [] := by
  have hw := wl_17 nm ra dec t p (fun v M => some (Res.fin v M))
  rw [lawTM_ok] at hw
  exact CallsA.ofEv (Γ := (inl Try.prog GT EQT XT [11] T_tref 400 1)) (X := XT) (Λ := noL) (EQ := EQT) (n := 100) (g_tref.inl hEQT hmT (fun f hf => by simp only [List.mem_cons, List.not_mem_nil, or_false] at hf; subst hf; exact (fun args w => Try.call11 args w)) 400 1) hEQT hmT (fun _ _ _ _ => noL_ok _) hw

set_option maxRecDepth 100000 in
theorem wl_18 (nm : ByteArray) (ra dec t p : Int) (K : AV → List Blk → Ans) : evFn Try.prog GT EQT (inl Try.prog GT EQT XT [11] T_tref 400 1) XT noL 100 3 [.v (.agg [.str nm, .int .i64 ra, .int .i64 dec]), .v (.c (.d (.int .i64 t))), .v (.c (.d (.int .i64 p))), .v (.c (.d (.int .i64 18)))] [] (fun v M => K v (M.take ([] : List Blk).length)) = lawTM K ⟨nm, ra, dec⟩ t p 18 := by
  kernel_rfl
theorem cl_18 (nm : ByteArray) (ra dec t p : Int) : CallsA Try.prog GT gbT 3 [.v (.agg [.str nm, .int .i64 ra, .int .i64 dec]), .v (.c (.d (.int .i64 t))), .v (.c (.d (.int .i64 p))), .v (.c (.d (.int .i64 ((18 : Nat) : Int))))] [] (rB true) [] := by
  have hw := wl_18 nm ra dec t p (fun v M => some (Res.fin v M))
  rw [lawTM_ok] at hw
  exact CallsA.ofEv (Γ := (inl Try.prog GT EQT XT [11] T_tref 400 1)) (X := XT) (Λ := noL) (EQ := EQT) (n := 100) (g_tref.inl hEQT hmT (fun f hf => by simp only [List.mem_cons, List.not_mem_nil, or_false] at hf; subst hf; exact (fun args w => Try.call11 args w)) 400 1) hEQT hmT (fun _ _ _ _ => noL_ok _) hw

set_option maxRecDepth 100000 in
theorem wl_19 (nm : ByteArray) (ra dec t p : Int) (K : AV → List Blk → Ans) : evFn Try.prog GT EQT (inl Try.prog GT EQT XT [11] T_tref 400 1) XT noL 100 3 [.v (.agg [.str nm, .int .i64 ra, .int .i64 dec]), .v (.c (.d (.int .i64 t))), .v (.c (.d (.int .i64 p))), .v (.c (.d (.int .i64 19)))] [] (fun v M => K v (M.take ([] : List Blk).length)) = lawTM K ⟨nm, ra, dec⟩ t p 19 := by
  kernel_rfl
theorem cl_19 (nm : ByteArray) (ra dec t p : Int) : CallsA Try.prog GT gbT 3 [.v (.agg [.str nm, .int .i64 ra, .int .i64 dec]), .v (.c (.d (.int .i64 t))), .v (.c (.d (.int .i64 p))), .v (.c (.d (.int .i64 ((19 : Nat) : Int))))] [] (rB true) [] := by
  have hw := wl_19 nm ra dec t p (fun v M => some (Res.fin v M))
  rw [lawTM_ok] at hw
  exact CallsA.ofEv (Γ := (inl Try.prog GT EQT XT [11] T_tref 400 1)) (X := XT) (Λ := noL) (EQ := EQT) (n := 100) (g_tref.inl hEQT hmT (fun f hf => by simp only [List.mem_cons, List.not_mem_nil, or_false] at hf; subst hf; exact (fun args w => Try.call11 args w)) 400 1) hEQT hmT (fun _ _ _ _ => noL_ok _) hw

set_option maxRecDepth 100000 in
theorem wl_20 (nm : ByteArray) (ra dec t p : Int) (K : AV → List Blk → Ans) : evFn Try.prog GT EQT (inl Try.prog GT EQT XT [11] T_tref 400 1) XT noL 100 3 [.v (.agg [.str nm, .int .i64 ra, .int .i64 dec]), .v (.c (.d (.int .i64 t))), .v (.c (.d (.int .i64 p))), .v (.c (.d (.int .i64 20)))] [] (fun v M => K v (M.take ([] : List Blk).length)) = lawTM K ⟨nm, ra, dec⟩ t p 20 := by
  kernel_rfl
theorem cl_20 (nm : ByteArray) (ra dec t p : Int) : CallsA Try.prog GT gbT 3 [.v (.agg [.str nm, .int .i64 ra, .int .i64 dec]), .v (.c (.d (.int .i64 t))), .v (.c (.d (.int .i64 p))), .v (.c (.d (.int .i64 ((20 : Nat) : Int))))] [] (rB true) [] := by
  have hw := wl_20 nm ra dec t p (fun v M => some (Res.fin v M))
  rw [lawTM_ok] at hw
  exact CallsA.ofEv (Γ := (inl Try.prog GT EQT XT [11] T_tref 400 1)) (X := XT) (Λ := noL) (EQ := EQT) (n := 100) (g_tref.inl hEQT hmT (fun f hf => by simp only [List.mem_cons, List.not_mem_nil, or_false] at hf; subst hf; exact (fun args w => Try.call11 args w)) 400 1) hEQT hmT (fun _ _ _ _ => noL_ok _) hw

set_option maxRecDepth 100000 in
theorem wl_21 (nm : ByteArray) (ra dec t p : Int) (K : AV → List Blk → Ans) : evFn Try.prog GT EQT (inl Try.prog GT EQT XT [11] T_tref 400 1) XT noL 100 3 [.v (.agg [.str nm, .int .i64 ra, .int .i64 dec]), .v (.c (.d (.int .i64 t))), .v (.c (.d (.int .i64 p))), .v (.c (.d (.int .i64 21)))] [] (fun v M => K v (M.take ([] : List Blk).length)) = lawTM K ⟨nm, ra, dec⟩ t p 21 := by
  kernel_rfl
theorem cl_21 (nm : ByteArray) (ra dec t p : Int) : CallsA Try.prog GT gbT 3 [.v (.agg [.str nm, .int .i64 ra, .int .i64 dec]), .v (.c (.d (.int .i64 t))), .v (.c (.d (.int .i64 p))), .v (.c (.d (.int .i64 ((21 : Nat) : Int))))] [] (rB true) [] := by
  have hw := wl_21 nm ra dec t p (fun v M => some (Res.fin v M))
  rw [lawTM_ok] at hw
  exact CallsA.ofEv (Γ := (inl Try.prog GT EQT XT [11] T_tref 400 1)) (X := XT) (Λ := noL) (EQ := EQT) (n := 100) (g_tref.inl hEQT hmT (fun f hf => by simp only [List.mem_cons, List.not_mem_nil, or_false] at hf; subst hf; exact (fun args w => Try.call11 args w)) 400 1) hEQT hmT (fun _ _ _ _ => noL_ok _) hw

set_option maxRecDepth 100000 in
theorem wl_22 (nm : ByteArray) (ra dec t p : Int) (K : AV → List Blk → Ans) : evFn Try.prog GT EQT (inl Try.prog GT EQT XT [11] T_tref 400 1) XT noL 100 3 [.v (.agg [.str nm, .int .i64 ra, .int .i64 dec]), .v (.c (.d (.int .i64 t))), .v (.c (.d (.int .i64 p))), .v (.c (.d (.int .i64 22)))] [] (fun v M => K v (M.take ([] : List Blk).length)) = lawTM K ⟨nm, ra, dec⟩ t p 22 := by
  kernel_rfl
theorem cl_22 (nm : ByteArray) (ra dec t p : Int) : CallsA Try.prog GT gbT 3 [.v (.agg [.str nm, .int .i64 ra, .int .i64 dec]), .v (.c (.d (.int .i64 t))), .v (.c (.d (.int .i64 p))), .v (.c (.d (.int .i64 ((22 : Nat) : Int))))] [] (rB true) [] := by
  have hw := wl_22 nm ra dec t p (fun v M => some (Res.fin v M))
  rw [lawTM_ok] at hw
  exact CallsA.ofEv (Γ := (inl Try.prog GT EQT XT [11] T_tref 400 1)) (X := XT) (Λ := noL) (EQ := EQT) (n := 100) (g_tref.inl hEQT hmT (fun f hf => by simp only [List.mem_cons, List.not_mem_nil, or_false] at hf; subst hf; exact (fun args w => Try.call11 args w)) 400 1) hEQT hmT (fun _ _ _ _ => noL_ok _) hw

set_option maxRecDepth 100000 in
theorem wl_23 (nm : ByteArray) (ra dec t p : Int) (K : AV → List Blk → Ans) : evFn Try.prog GT EQT (inl Try.prog GT EQT XT [11] T_tref 400 1) XT noL 100 3 [.v (.agg [.str nm, .int .i64 ra, .int .i64 dec]), .v (.c (.d (.int .i64 t))), .v (.c (.d (.int .i64 p))), .v (.c (.d (.int .i64 23)))] [] (fun v M => K v (M.take ([] : List Blk).length)) = lawTM K ⟨nm, ra, dec⟩ t p 23 := by
  kernel_rfl
theorem cl_23 (nm : ByteArray) (ra dec t p : Int) : CallsA Try.prog GT gbT 3 [.v (.agg [.str nm, .int .i64 ra, .int .i64 dec]), .v (.c (.d (.int .i64 t))), .v (.c (.d (.int .i64 p))), .v (.c (.d (.int .i64 ((23 : Nat) : Int))))] [] (rB true) [] := by
  have hw := wl_23 nm ra dec t p (fun v M => some (Res.fin v M))
  rw [lawTM_ok] at hw
  exact CallsA.ofEv (Γ := (inl Try.prog GT EQT XT [11] T_tref 400 1)) (X := XT) (Λ := noL) (EQ := EQT) (n := 100) (g_tref.inl hEQT hmT (fun f hf => by simp only [List.mem_cons, List.not_mem_nil, or_false] at hf; subst hf; exact (fun args w => Try.call11 args w)) 400 1) hEQT hmT (fun _ _ _ _ => noL_ok _) hw

set_option maxRecDepth 100000 in
theorem wl_24 (nm : ByteArray) (ra dec t p : Int) (K : AV → List Blk → Ans) : evFn Try.prog GT EQT (inl Try.prog GT EQT XT [11] T_tref 400 1) XT noL 100 3 [.v (.agg [.str nm, .int .i64 ra, .int .i64 dec]), .v (.c (.d (.int .i64 t))), .v (.c (.d (.int .i64 p))), .v (.c (.d (.int .i64 24)))] [] (fun v M => K v (M.take ([] : List Blk).length)) = lawTM K ⟨nm, ra, dec⟩ t p 24 := by
  kernel_rfl
theorem cl_24 (nm : ByteArray) (ra dec t p : Int) : CallsA Try.prog GT gbT 3 [.v (.agg [.str nm, .int .i64 ra, .int .i64 dec]), .v (.c (.d (.int .i64 t))), .v (.c (.d (.int .i64 p))), .v (.c (.d (.int .i64 ((24 : Nat) : Int))))] [] (rB true) [] := by
  have hw := wl_24 nm ra dec t p (fun v M => some (Res.fin v M))
  rw [lawTM_ok] at hw
  exact CallsA.ofEv (Γ := (inl Try.prog GT EQT XT [11] T_tref 400 1)) (X := XT) (Λ := noL) (EQ := EQT) (n := 100) (g_tref.inl hEQT hmT (fun f hf => by simp only [List.mem_cons, List.not_mem_nil, or_false] at hf; subst hf; exact (fun args w => Try.call11 args w)) 400 1) hEQT hmT (fun _ _ _ _ => noL_ok _) hw

set_option maxRecDepth 100000 in
theorem wl_25 (nm : ByteArray) (ra dec t p : Int) (K : AV → List Blk → Ans) : evFn Try.prog GT EQT (inl Try.prog GT EQT XT [11] T_tref 400 1) XT noL 100 3 [.v (.agg [.str nm, .int .i64 ra, .int .i64 dec]), .v (.c (.d (.int .i64 t))), .v (.c (.d (.int .i64 p))), .v (.c (.d (.int .i64 25)))] [] (fun v M => K v (M.take ([] : List Blk).length)) = lawTM K ⟨nm, ra, dec⟩ t p 25 := by
  kernel_rfl
theorem cl_25 (nm : ByteArray) (ra dec t p : Int) : CallsA Try.prog GT gbT 3 [.v (.agg [.str nm, .int .i64 ra, .int .i64 dec]), .v (.c (.d (.int .i64 t))), .v (.c (.d (.int .i64 p))), .v (.c (.d (.int .i64 ((25 : Nat) : Int))))] [] (rB true) [] := by
  have hw := wl_25 nm ra dec t p (fun v M => some (Res.fin v M))
  rw [lawTM_ok] at hw
  exact CallsA.ofEv (Γ := (inl Try.prog GT EQT XT [11] T_tref 400 1)) (X := XT) (Λ := noL) (EQ := EQT) (n := 100) (g_tref.inl hEQT hmT (fun f hf => by simp only [List.mem_cons, List.not_mem_nil, or_false] at hf; subst hf; exact (fun args w => Try.call11 args w)) 400 1) hEQT hmT (fun _ _ _ _ => noL_ok _) hw

set_option maxRecDepth 100000 in
theorem wl_26 (nm : ByteArray) (ra dec t p : Int) (K : AV → List Blk → Ans) : evFn Try.prog GT EQT (inl Try.prog GT EQT XT [11] T_tref 400 1) XT noL 100 3 [.v (.agg [.str nm, .int .i64 ra, .int .i64 dec]), .v (.c (.d (.int .i64 t))), .v (.c (.d (.int .i64 p))), .v (.c (.d (.int .i64 26)))] [] (fun v M => K v (M.take ([] : List Blk).length)) = lawTM K ⟨nm, ra, dec⟩ t p 26 := by
  kernel_rfl
theorem cl_26 (nm : ByteArray) (ra dec t p : Int) : CallsA Try.prog GT gbT 3 [.v (.agg [.str nm, .int .i64 ra, .int .i64 dec]), .v (.c (.d (.int .i64 t))), .v (.c (.d (.int .i64 p))), .v (.c (.d (.int .i64 ((26 : Nat) : Int))))] [] (rB true) [] := by
  have hw := wl_26 nm ra dec t p (fun v M => some (Res.fin v M))
  rw [lawTM_ok] at hw
  exact CallsA.ofEv (Γ := (inl Try.prog GT EQT XT [11] T_tref 400 1)) (X := XT) (Λ := noL) (EQ := EQT) (n := 100) (g_tref.inl hEQT hmT (fun f hf => by simp only [List.mem_cons, List.not_mem_nil, or_false] at hf; subst hf; exact (fun args w => Try.call11 args w)) 400 1) hEQT hmT (fun _ _ _ _ => noL_ok _) hw

set_option maxRecDepth 100000 in
theorem wl_27 (nm : ByteArray) (ra dec t p : Int) (K : AV → List Blk → Ans) : evFn Try.prog GT EQT (inl Try.prog GT EQT XT [11] T_tref 400 1) XT noL 100 3 [.v (.agg [.str nm, .int .i64 ra, .int .i64 dec]), .v (.c (.d (.int .i64 t))), .v (.c (.d (.int .i64 p))), .v (.c (.d (.int .i64 27)))] [] (fun v M => K v (M.take ([] : List Blk).length)) = lawTM K ⟨nm, ra, dec⟩ t p 27 := by
  kernel_rfl
theorem cl_27 (nm : ByteArray) (ra dec t p : Int) : CallsA Try.prog GT gbT 3 [.v (.agg [.str nm, .int .i64 ra, .int .i64 dec]), .v (.c (.d (.int .i64 t))), .v (.c (.d (.int .i64 p))), .v (.c (.d (.int .i64 ((27 : Nat) : Int))))] [] (rB true) [] := by
  have hw := wl_27 nm ra dec t p (fun v M => some (Res.fin v M))
  rw [lawTM_ok] at hw
  exact CallsA.ofEv (Γ := (inl Try.prog GT EQT XT [11] T_tref 400 1)) (X := XT) (Λ := noL) (EQ := EQT) (n := 100) (g_tref.inl hEQT hmT (fun f hf => by simp only [List.mem_cons, List.not_mem_nil, or_false] at hf; subst hf; exact (fun args w => Try.call11 args w)) 400 1) hEQT hmT (fun _ _ _ _ => noL_ok _) hw

set_option maxRecDepth 100000 in
theorem wl_28 (nm : ByteArray) (ra dec t p : Int) (K : AV → List Blk → Ans) : evFn Try.prog GT EQT (inl Try.prog GT EQT XT [11] T_tref 400 1) XT noL 100 3 [.v (.agg [.str nm, .int .i64 ra, .int .i64 dec]), .v (.c (.d (.int .i64 t))), .v (.c (.d (.int .i64 p))), .v (.c (.d (.int .i64 28)))] [] (fun v M => K v (M.take ([] : List Blk).length)) = lawTM K ⟨nm, ra, dec⟩ t p 28 := by
  kernel_rfl
theorem cl_28 (nm : ByteArray) (ra dec t p : Int) : CallsA Try.prog GT gbT 3 [.v (.agg [.str nm, .int .i64 ra, .int .i64 dec]), .v (.c (.d (.int .i64 t))), .v (.c (.d (.int .i64 p))), .v (.c (.d (.int .i64 ((28 : Nat) : Int))))] [] (rB true) [] := by
  have hw := wl_28 nm ra dec t p (fun v M => some (Res.fin v M))
  rw [lawTM_ok] at hw
  exact CallsA.ofEv (Γ := (inl Try.prog GT EQT XT [11] T_tref 400 1)) (X := XT) (Λ := noL) (EQ := EQT) (n := 100) (g_tref.inl hEQT hmT (fun f hf => by simp only [List.mem_cons, List.not_mem_nil, or_false] at hf; subst hf; exact (fun args w => Try.call11 args w)) 400 1) hEQT hmT (fun _ _ _ _ => noL_ok _) hw

set_option maxRecDepth 100000 in
theorem wl_29 (nm : ByteArray) (ra dec t p : Int) (K : AV → List Blk → Ans) : evFn Try.prog GT EQT (inl Try.prog GT EQT XT [11] T_tref 400 1) XT noL 100 3 [.v (.agg [.str nm, .int .i64 ra, .int .i64 dec]), .v (.c (.d (.int .i64 t))), .v (.c (.d (.int .i64 p))), .v (.c (.d (.int .i64 29)))] [] (fun v M => K v (M.take ([] : List Blk).length)) = lawTM K ⟨nm, ra, dec⟩ t p 29 := by
  kernel_rfl
theorem cl_29 (nm : ByteArray) (ra dec t p : Int) : CallsA Try.prog GT gbT 3 [.v (.agg [.str nm, .int .i64 ra, .int .i64 dec]), .v (.c (.d (.int .i64 t))), .v (.c (.d (.int .i64 p))), .v (.c (.d (.int .i64 ((29 : Nat) : Int))))] [] (rB true) [] := by
  have hw := wl_29 nm ra dec t p (fun v M => some (Res.fin v M))
  rw [lawTM_ok] at hw
  exact CallsA.ofEv (Γ := (inl Try.prog GT EQT XT [11] T_tref 400 1)) (X := XT) (Λ := noL) (EQ := EQT) (n := 100) (g_tref.inl hEQT hmT (fun f hf => by simp only [List.mem_cons, List.not_mem_nil, or_false] at hf; subst hf; exact (fun args w => Try.call11 args w)) 400 1) hEQT hmT (fun _ _ _ _ => noL_ok _) hw

set_option maxRecDepth 100000 in
theorem wl_30 (nm : ByteArray) (ra dec t p : Int) (K : AV → List Blk → Ans) : evFn Try.prog GT EQT (inl Try.prog GT EQT XT [11] T_tref 400 1) XT noL 100 3 [.v (.agg [.str nm, .int .i64 ra, .int .i64 dec]), .v (.c (.d (.int .i64 t))), .v (.c (.d (.int .i64 p))), .v (.c (.d (.int .i64 30)))] [] (fun v M => K v (M.take ([] : List Blk).length)) = lawTM K ⟨nm, ra, dec⟩ t p 30 := by
  kernel_rfl
theorem cl_30 (nm : ByteArray) (ra dec t p : Int) : CallsA Try.prog GT gbT 3 [.v (.agg [.str nm, .int .i64 ra, .int .i64 dec]), .v (.c (.d (.int .i64 t))), .v (.c (.d (.int .i64 p))), .v (.c (.d (.int .i64 ((30 : Nat) : Int))))] [] (rB true) [] := by
  have hw := wl_30 nm ra dec t p (fun v M => some (Res.fin v M))
  rw [lawTM_ok] at hw
  exact CallsA.ofEv (Γ := (inl Try.prog GT EQT XT [11] T_tref 400 1)) (X := XT) (Λ := noL) (EQ := EQT) (n := 100) (g_tref.inl hEQT hmT (fun f hf => by simp only [List.mem_cons, List.not_mem_nil, or_false] at hf; subst hf; exact (fun args w => Try.call11 args w)) 400 1) hEQT hmT (fun _ _ _ _ => noL_ok _) hw

set_option maxRecDepth 100000 in
theorem wl_31 (nm : ByteArray) (ra dec t p : Int) (K : AV → List Blk → Ans) : evFn Try.prog GT EQT (inl Try.prog GT EQT XT [11] T_tref 400 1) XT noL 100 3 [.v (.agg [.str nm, .int .i64 ra, .int .i64 dec]), .v (.c (.d (.int .i64 t))), .v (.c (.d (.int .i64 p))), .v (.c (.d (.int .i64 31)))] [] (fun v M => K v (M.take ([] : List Blk).length)) = lawTM K ⟨nm, ra, dec⟩ t p 31 := by
  kernel_rfl
theorem cl_31 (nm : ByteArray) (ra dec t p : Int) : CallsA Try.prog GT gbT 3 [.v (.agg [.str nm, .int .i64 ra, .int .i64 dec]), .v (.c (.d (.int .i64 t))), .v (.c (.d (.int .i64 p))), .v (.c (.d (.int .i64 ((31 : Nat) : Int))))] [] (rB true) [] := by
  have hw := wl_31 nm ra dec t p (fun v M => some (Res.fin v M))
  rw [lawTM_ok] at hw
  exact CallsA.ofEv (Γ := (inl Try.prog GT EQT XT [11] T_tref 400 1)) (X := XT) (Λ := noL) (EQ := EQT) (n := 100) (g_tref.inl hEQT hmT (fun f hf => by simp only [List.mem_cons, List.not_mem_nil, or_false] at hf; subst hf; exact (fun args w => Try.call11 args w)) 400 1) hEQT hmT (fun _ _ _ _ => noL_ok _) hw

set_option maxRecDepth 100000 in
theorem wl_32 (nm : ByteArray) (ra dec t p : Int) (K : AV → List Blk → Ans) : evFn Try.prog GT EQT (inl Try.prog GT EQT XT [11] T_tref 400 1) XT noL 100 3 [.v (.agg [.str nm, .int .i64 ra, .int .i64 dec]), .v (.c (.d (.int .i64 t))), .v (.c (.d (.int .i64 p))), .v (.c (.d (.int .i64 32)))] [] (fun v M => K v (M.take ([] : List Blk).length)) = lawTM K ⟨nm, ra, dec⟩ t p 32 := by
  kernel_rfl
theorem cl_32 (nm : ByteArray) (ra dec t p : Int) : CallsA Try.prog GT gbT 3 [.v (.agg [.str nm, .int .i64 ra, .int .i64 dec]), .v (.c (.d (.int .i64 t))), .v (.c (.d (.int .i64 p))), .v (.c (.d (.int .i64 ((32 : Nat) : Int))))] [] (rB true) [] := by
  have hw := wl_32 nm ra dec t p (fun v M => some (Res.fin v M))
  rw [lawTM_ok] at hw
  exact CallsA.ofEv (Γ := (inl Try.prog GT EQT XT [11] T_tref 400 1)) (X := XT) (Λ := noL) (EQ := EQT) (n := 100) (g_tref.inl hEQT hmT (fun f hf => by simp only [List.mem_cons, List.not_mem_nil, or_false] at hf; subst hf; exact (fun args w => Try.call11 args w)) 400 1) hEQT hmT (fun _ _ _ _ => noL_ok _) hw

set_option maxRecDepth 100000 in
theorem wl_33 (nm : ByteArray) (ra dec t p : Int) (K : AV → List Blk → Ans) : evFn Try.prog GT EQT (inl Try.prog GT EQT XT [11] T_tref 400 1) XT noL 100 3 [.v (.agg [.str nm, .int .i64 ra, .int .i64 dec]), .v (.c (.d (.int .i64 t))), .v (.c (.d (.int .i64 p))), .v (.c (.d (.int .i64 33)))] [] (fun v M => K v (M.take ([] : List Blk).length)) = lawTM K ⟨nm, ra, dec⟩ t p 33 := by
  kernel_rfl
theorem cl_33 (nm : ByteArray) (ra dec t p : Int) : CallsA Try.prog GT gbT 3 [.v (.agg [.str nm, .int .i64 ra, .int .i64 dec]), .v (.c (.d (.int .i64 t))), .v (.c (.d (.int .i64 p))), .v (.c (.d (.int .i64 ((33 : Nat) : Int))))] [] (rB true) [] := by
  have hw := wl_33 nm ra dec t p (fun v M => some (Res.fin v M))
  rw [lawTM_ok] at hw
  exact CallsA.ofEv (Γ := (inl Try.prog GT EQT XT [11] T_tref 400 1)) (X := XT) (Λ := noL) (EQ := EQT) (n := 100) (g_tref.inl hEQT hmT (fun f hf => by simp only [List.mem_cons, List.not_mem_nil, or_false] at hf; subst hf; exact (fun args w => Try.call11 args w)) 400 1) hEQT hmT (fun _ _ _ _ => noL_ok _) hw

set_option maxRecDepth 100000 in
theorem wl_34 (nm : ByteArray) (ra dec t p : Int) (K : AV → List Blk → Ans) : evFn Try.prog GT EQT (inl Try.prog GT EQT XT [11] T_tref 400 1) XT noL 100 3 [.v (.agg [.str nm, .int .i64 ra, .int .i64 dec]), .v (.c (.d (.int .i64 t))), .v (.c (.d (.int .i64 p))), .v (.c (.d (.int .i64 34)))] [] (fun v M => K v (M.take ([] : List Blk).length)) = lawTM K ⟨nm, ra, dec⟩ t p 34 := by
  kernel_rfl
theorem cl_34 (nm : ByteArray) (ra dec t p : Int) : CallsA Try.prog GT gbT 3 [.v (.agg [.str nm, .int .i64 ra, .int .i64 dec]), .v (.c (.d (.int .i64 t))), .v (.c (.d (.int .i64 p))), .v (.c (.d (.int .i64 ((34 : Nat) : Int))))] [] (rB true) [] := by
  have hw := wl_34 nm ra dec t p (fun v M => some (Res.fin v M))
  rw [lawTM_ok] at hw
  exact CallsA.ofEv (Γ := (inl Try.prog GT EQT XT [11] T_tref 400 1)) (X := XT) (Λ := noL) (EQ := EQT) (n := 100) (g_tref.inl hEQT hmT (fun f hf => by simp only [List.mem_cons, List.not_mem_nil, or_false] at hf; subst hf; exact (fun args w => Try.call11 args w)) 400 1) hEQT hmT (fun _ _ _ _ => noL_ok _) hw

set_option maxRecDepth 100000 in
theorem wl_35 (nm : ByteArray) (ra dec t p : Int) (K : AV → List Blk → Ans) : evFn Try.prog GT EQT (inl Try.prog GT EQT XT [11] T_tref 400 1) XT noL 100 3 [.v (.agg [.str nm, .int .i64 ra, .int .i64 dec]), .v (.c (.d (.int .i64 t))), .v (.c (.d (.int .i64 p))), .v (.c (.d (.int .i64 35)))] [] (fun v M => K v (M.take ([] : List Blk).length)) = lawTM K ⟨nm, ra, dec⟩ t p 35 := by
  kernel_rfl
theorem cl_35 (nm : ByteArray) (ra dec t p : Int) : CallsA Try.prog GT gbT 3 [.v (.agg [.str nm, .int .i64 ra, .int .i64 dec]), .v (.c (.d (.int .i64 t))), .v (.c (.d (.int .i64 p))), .v (.c (.d (.int .i64 ((35 : Nat) : Int))))] [] (rB true) [] := by
  have hw := wl_35 nm ra dec t p (fun v M => some (Res.fin v M))
  rw [lawTM_ok] at hw
  exact CallsA.ofEv (Γ := (inl Try.prog GT EQT XT [11] T_tref 400 1)) (X := XT) (Λ := noL) (EQ := EQT) (n := 100) (g_tref.inl hEQT hmT (fun f hf => by simp only [List.mem_cons, List.not_mem_nil, or_false] at hf; subst hf; exact (fun args w => Try.call11 args w)) 400 1) hEQT hmT (fun _ _ _ _ => noL_ok _) hw

set_option maxRecDepth 100000 in
theorem wl_36 (nm : ByteArray) (ra dec t p : Int) (K : AV → List Blk → Ans) : evFn Try.prog GT EQT (inl Try.prog GT EQT XT [11] T_tref 400 1) XT noL 100 3 [.v (.agg [.str nm, .int .i64 ra, .int .i64 dec]), .v (.c (.d (.int .i64 t))), .v (.c (.d (.int .i64 p))), .v (.c (.d (.int .i64 36)))] [] (fun v M => K v (M.take ([] : List Blk).length)) = lawTM K ⟨nm, ra, dec⟩ t p 36 := by
  kernel_rfl
theorem cl_36 (nm : ByteArray) (ra dec t p : Int) : CallsA Try.prog GT gbT 3 [.v (.agg [.str nm, .int .i64 ra, .int .i64 dec]), .v (.c (.d (.int .i64 t))), .v (.c (.d (.int .i64 p))), .v (.c (.d (.int .i64 ((36 : Nat) : Int))))] [] (rB true) [] := by
  have hw := wl_36 nm ra dec t p (fun v M => some (Res.fin v M))
  rw [lawTM_ok] at hw
  exact CallsA.ofEv (Γ := (inl Try.prog GT EQT XT [11] T_tref 400 1)) (X := XT) (Λ := noL) (EQ := EQT) (n := 100) (g_tref.inl hEQT hmT (fun f hf => by simp only [List.mem_cons, List.not_mem_nil, or_false] at hf; subst hf; exact (fun args w => Try.call11 args w)) 400 1) hEQT hmT (fun _ _ _ _ => noL_ok _) hw

set_option maxRecDepth 100000 in
theorem wl_37 (nm : ByteArray) (ra dec t p : Int) (K : AV → List Blk → Ans) : evFn Try.prog GT EQT (inl Try.prog GT EQT XT [11] T_tref 400 1) XT noL 100 3 [.v (.agg [.str nm, .int .i64 ra, .int .i64 dec]), .v (.c (.d (.int .i64 t))), .v (.c (.d (.int .i64 p))), .v (.c (.d (.int .i64 37)))] [] (fun v M => K v (M.take ([] : List Blk).length)) = lawTM K ⟨nm, ra, dec⟩ t p 37 := by
  kernel_rfl
theorem cl_37 (nm : ByteArray) (ra dec t p : Int) : CallsA Try.prog GT gbT 3 [.v (.agg [.str nm, .int .i64 ra, .int .i64 dec]), .v (.c (.d (.int .i64 t))), .v (.c (.d (.int .i64 p))), .v (.c (.d (.int .i64 ((37 : Nat) : Int))))] [] (rB true) [] := by
  have hw := wl_37 nm ra dec t p (fun v M => some (Res.fin v M))
  rw [lawTM_ok] at hw
  exact CallsA.ofEv (Γ := (inl Try.prog GT EQT XT [11] T_tref 400 1)) (X := XT) (Λ := noL) (EQ := EQT) (n := 100) (g_tref.inl hEQT hmT (fun f hf => by simp only [List.mem_cons, List.not_mem_nil, or_false] at hf; subst hf; exact (fun args w => Try.call11 args w)) 400 1) hEQT hmT (fun _ _ _ _ => noL_ok _) hw

set_option maxRecDepth 100000 in
theorem wl_38 (nm : ByteArray) (ra dec t p : Int) (K : AV → List Blk → Ans) : evFn Try.prog GT EQT (inl Try.prog GT EQT XT [11] T_tref 400 1) XT noL 100 3 [.v (.agg [.str nm, .int .i64 ra, .int .i64 dec]), .v (.c (.d (.int .i64 t))), .v (.c (.d (.int .i64 p))), .v (.c (.d (.int .i64 38)))] [] (fun v M => K v (M.take ([] : List Blk).length)) = lawTM K ⟨nm, ra, dec⟩ t p 38 := by
  kernel_rfl
theorem cl_38 (nm : ByteArray) (ra dec t p : Int) : CallsA Try.prog GT gbT 3 [.v (.agg [.str nm, .int .i64 ra, .int .i64 dec]), .v (.c (.d (.int .i64 t))), .v (.c (.d (.int .i64 p))), .v (.c (.d (.int .i64 ((38 : Nat) : Int))))] [] (rB true) [] := by
  have hw := wl_38 nm ra dec t p (fun v M => some (Res.fin v M))
  rw [lawTM_ok] at hw
  exact CallsA.ofEv (Γ := (inl Try.prog GT EQT XT [11] T_tref 400 1)) (X := XT) (Λ := noL) (EQ := EQT) (n := 100) (g_tref.inl hEQT hmT (fun f hf => by simp only [List.mem_cons, List.not_mem_nil, or_false] at hf; subst hf; exact (fun args w => Try.call11 args w)) 400 1) hEQT hmT (fun _ _ _ _ => noL_ok _) hw

set_option maxRecDepth 100000 in
theorem wl_39 (nm : ByteArray) (ra dec t p : Int) (K : AV → List Blk → Ans) : evFn Try.prog GT EQT (inl Try.prog GT EQT XT [11] T_tref 400 1) XT noL 100 3 [.v (.agg [.str nm, .int .i64 ra, .int .i64 dec]), .v (.c (.d (.int .i64 t))), .v (.c (.d (.int .i64 p))), .v (.c (.d (.int .i64 39)))] [] (fun v M => K v (M.take ([] : List Blk).length)) = lawTM K ⟨nm, ra, dec⟩ t p 39 := by
  kernel_rfl
theorem cl_39 (nm : ByteArray) (ra dec t p : Int) : CallsA Try.prog GT gbT 3 [.v (.agg [.str nm, .int .i64 ra, .int .i64 dec]), .v (.c (.d (.int .i64 t))), .v (.c (.d (.int .i64 p))), .v (.c (.d (.int .i64 ((39 : Nat) : Int))))] [] (rB true) [] := by
  have hw := wl_39 nm ra dec t p (fun v M => some (Res.fin v M))
  rw [lawTM_ok] at hw
  exact CallsA.ofEv (Γ := (inl Try.prog GT EQT XT [11] T_tref 400 1)) (X := XT) (Λ := noL) (EQ := EQT) (n := 100) (g_tref.inl hEQT hmT (fun f hf => by simp only [List.mem_cons, List.not_mem_nil, or_false] at hf; subst hf; exact (fun args w => Try.call11 args w)) 400 1) hEQT hmT (fun _ _ _ _ => noL_ok _) hw

set_option maxRecDepth 100000 in
theorem wl_40 (nm : ByteArray) (ra dec t p : Int) (K : AV → List Blk → Ans) : evFn Try.prog GT EQT (inl Try.prog GT EQT XT [11] T_tref 400 1) XT noL 100 3 [.v (.agg [.str nm, .int .i64 ra, .int .i64 dec]), .v (.c (.d (.int .i64 t))), .v (.c (.d (.int .i64 p))), .v (.c (.d (.int .i64 40)))] [] (fun v M => K v (M.take ([] : List Blk).length)) = lawTM K ⟨nm, ra, dec⟩ t p 40 := by
  kernel_rfl
theorem cl_40 (nm : ByteArray) (ra dec t p : Int) : CallsA Try.prog GT gbT 3 [.v (.agg [.str nm, .int .i64 ra, .int .i64 dec]), .v (.c (.d (.int .i64 t))), .v (.c (.d (.int .i64 p))), .v (.c (.d (.int .i64 ((40 : Nat) : Int))))] [] (rB true) [] := by
  have hw := wl_40 nm ra dec t p (fun v M => some (Res.fin v M))
  rw [lawTM_ok] at hw
  exact CallsA.ofEv (Γ := (inl Try.prog GT EQT XT [11] T_tref 400 1)) (X := XT) (Λ := noL) (EQ := EQT) (n := 100) (g_tref.inl hEQT hmT (fun f hf => by simp only [List.mem_cons, List.not_mem_nil, or_false] at hf; subst hf; exact (fun args w => Try.call11 args w)) 400 1) hEQT hmT (fun _ _ _ _ => noL_ok _) hw

set_option maxRecDepth 100000 in
theorem wl_41 (nm : ByteArray) (ra dec t p : Int) (K : AV → List Blk → Ans) : evFn Try.prog GT EQT (inl Try.prog GT EQT XT [11] T_tref 400 1) XT noL 100 3 [.v (.agg [.str nm, .int .i64 ra, .int .i64 dec]), .v (.c (.d (.int .i64 t))), .v (.c (.d (.int .i64 p))), .v (.c (.d (.int .i64 41)))] [] (fun v M => K v (M.take ([] : List Blk).length)) = lawTM K ⟨nm, ra, dec⟩ t p 41 := by
  kernel_rfl
theorem cl_41 (nm : ByteArray) (ra dec t p : Int) : CallsA Try.prog GT gbT 3 [.v (.agg [.str nm, .int .i64 ra, .int .i64 dec]), .v (.c (.d (.int .i64 t))), .v (.c (.d (.int .i64 p))), .v (.c (.d (.int .i64 ((41 : Nat) : Int))))] [] (rB true) [] := by
  have hw := wl_41 nm ra dec t p (fun v M => some (Res.fin v M))
  rw [lawTM_ok] at hw
  exact CallsA.ofEv (Γ := (inl Try.prog GT EQT XT [11] T_tref 400 1)) (X := XT) (Λ := noL) (EQ := EQT) (n := 100) (g_tref.inl hEQT hmT (fun f hf => by simp only [List.mem_cons, List.not_mem_nil, or_false] at hf; subst hf; exact (fun args w => Try.call11 args w)) 400 1) hEQT hmT (fun _ _ _ _ => noL_ok _) hw

set_option maxRecDepth 100000 in
theorem wl_42 (nm : ByteArray) (ra dec t p : Int) (K : AV → List Blk → Ans) : evFn Try.prog GT EQT (inl Try.prog GT EQT XT [11] T_tref 400 1) XT noL 100 3 [.v (.agg [.str nm, .int .i64 ra, .int .i64 dec]), .v (.c (.d (.int .i64 t))), .v (.c (.d (.int .i64 p))), .v (.c (.d (.int .i64 42)))] [] (fun v M => K v (M.take ([] : List Blk).length)) = lawTM K ⟨nm, ra, dec⟩ t p 42 := by
  kernel_rfl
theorem cl_42 (nm : ByteArray) (ra dec t p : Int) : CallsA Try.prog GT gbT 3 [.v (.agg [.str nm, .int .i64 ra, .int .i64 dec]), .v (.c (.d (.int .i64 t))), .v (.c (.d (.int .i64 p))), .v (.c (.d (.int .i64 ((42 : Nat) : Int))))] [] (rB true) [] := by
  have hw := wl_42 nm ra dec t p (fun v M => some (Res.fin v M))
  rw [lawTM_ok] at hw
  exact CallsA.ofEv (Γ := (inl Try.prog GT EQT XT [11] T_tref 400 1)) (X := XT) (Λ := noL) (EQ := EQT) (n := 100) (g_tref.inl hEQT hmT (fun f hf => by simp only [List.mem_cons, List.not_mem_nil, or_false] at hf; subst hf; exact (fun args w => Try.call11 args w)) 400 1) hEQT hmT (fun _ _ _ _ => noL_ok _) hw

set_option maxRecDepth 100000 in
theorem wl_43 (nm : ByteArray) (ra dec t p : Int) (K : AV → List Blk → Ans) : evFn Try.prog GT EQT (inl Try.prog GT EQT XT [11] T_tref 400 1) XT noL 100 3 [.v (.agg [.str nm, .int .i64 ra, .int .i64 dec]), .v (.c (.d (.int .i64 t))), .v (.c (.d (.int .i64 p))), .v (.c (.d (.int .i64 43)))] [] (fun v M => K v (M.take ([] : List Blk).length)) = lawTM K ⟨nm, ra, dec⟩ t p 43 := by
  kernel_rfl
theorem cl_43 (nm : ByteArray) (ra dec t p : Int) : CallsA Try.prog GT gbT 3 [.v (.agg [.str nm, .int .i64 ra, .int .i64 dec]), .v (.c (.d (.int .i64 t))), .v (.c (.d (.int .i64 p))), .v (.c (.d (.int .i64 ((43 : Nat) : Int))))] [] (rB true) [] := by
  have hw := wl_43 nm ra dec t p (fun v M => some (Res.fin v M))
  rw [lawTM_ok] at hw
  exact CallsA.ofEv (Γ := (inl Try.prog GT EQT XT [11] T_tref 400 1)) (X := XT) (Λ := noL) (EQ := EQT) (n := 100) (g_tref.inl hEQT hmT (fun f hf => by simp only [List.mem_cons, List.not_mem_nil, or_false] at hf; subst hf; exact (fun args w => Try.call11 args w)) 400 1) hEQT hmT (fun _ _ _ _ => noL_ok _) hw

set_option maxRecDepth 100000 in
theorem wl_44 (nm : ByteArray) (ra dec t p : Int) (K : AV → List Blk → Ans) : evFn Try.prog GT EQT (inl Try.prog GT EQT XT [11] T_tref 400 1) XT noL 100 3 [.v (.agg [.str nm, .int .i64 ra, .int .i64 dec]), .v (.c (.d (.int .i64 t))), .v (.c (.d (.int .i64 p))), .v (.c (.d (.int .i64 44)))] [] (fun v M => K v (M.take ([] : List Blk).length)) = lawTM K ⟨nm, ra, dec⟩ t p 44 := by
  kernel_rfl
theorem cl_44 (nm : ByteArray) (ra dec t p : Int) : CallsA Try.prog GT gbT 3 [.v (.agg [.str nm, .int .i64 ra, .int .i64 dec]), .v (.c (.d (.int .i64 t))), .v (.c (.d (.int .i64 p))), .v (.c (.d (.int .i64 ((44 : Nat) : Int))))] [] (rB true) [] := by
  have hw := wl_44 nm ra dec t p (fun v M => some (Res.fin v M))
  rw [lawTM_ok] at hw
  exact CallsA.ofEv (Γ := (inl Try.prog GT EQT XT [11] T_tref 400 1)) (X := XT) (Λ := noL) (EQ := EQT) (n := 100) (g_tref.inl hEQT hmT (fun f hf => by simp only [List.mem_cons, List.not_mem_nil, or_false] at hf; subst hf; exact (fun args w => Try.call11 args w)) 400 1) hEQT hmT (fun _ _ _ _ => noL_ok _) hw

set_option maxRecDepth 100000 in
theorem wl_45 (nm : ByteArray) (ra dec t p : Int) (K : AV → List Blk → Ans) : evFn Try.prog GT EQT (inl Try.prog GT EQT XT [11] T_tref 400 1) XT noL 100 3 [.v (.agg [.str nm, .int .i64 ra, .int .i64 dec]), .v (.c (.d (.int .i64 t))), .v (.c (.d (.int .i64 p))), .v (.c (.d (.int .i64 45)))] [] (fun v M => K v (M.take ([] : List Blk).length)) = lawTM K ⟨nm, ra, dec⟩ t p 45 := by
  kernel_rfl
theorem cl_45 (nm : ByteArray) (ra dec t p : Int) : CallsA Try.prog GT gbT 3 [.v (.agg [.str nm, .int .i64 ra, .int .i64 dec]), .v (.c (.d (.int .i64 t))), .v (.c (.d (.int .i64 p))), .v (.c (.d (.int .i64 ((45 : Nat) : Int))))] [] (rB true) [] := by
  have hw := wl_45 nm ra dec t p (fun v M => some (Res.fin v M))
  rw [lawTM_ok] at hw
  exact CallsA.ofEv (Γ := (inl Try.prog GT EQT XT [11] T_tref 400 1)) (X := XT) (Λ := noL) (EQ := EQT) (n := 100) (g_tref.inl hEQT hmT (fun f hf => by simp only [List.mem_cons, List.not_mem_nil, or_false] at hf; subst hf; exact (fun args w => Try.call11 args w)) 400 1) hEQT hmT (fun _ _ _ _ => noL_ok _) hw

set_option maxRecDepth 100000 in
theorem wl_46 (nm : ByteArray) (ra dec t p : Int) (K : AV → List Blk → Ans) : evFn Try.prog GT EQT (inl Try.prog GT EQT XT [11] T_tref 400 1) XT noL 100 3 [.v (.agg [.str nm, .int .i64 ra, .int .i64 dec]), .v (.c (.d (.int .i64 t))), .v (.c (.d (.int .i64 p))), .v (.c (.d (.int .i64 46)))] [] (fun v M => K v (M.take ([] : List Blk).length)) = lawTM K ⟨nm, ra, dec⟩ t p 46 := by
  kernel_rfl
theorem cl_46 (nm : ByteArray) (ra dec t p : Int) : CallsA Try.prog GT gbT 3 [.v (.agg [.str nm, .int .i64 ra, .int .i64 dec]), .v (.c (.d (.int .i64 t))), .v (.c (.d (.int .i64 p))), .v (.c (.d (.int .i64 ((46 : Nat) : Int))))] [] (rB true) [] := by
  have hw := wl_46 nm ra dec t p (fun v M => some (Res.fin v M))
  rw [lawTM_ok] at hw
  exact CallsA.ofEv (Γ := (inl Try.prog GT EQT XT [11] T_tref 400 1)) (X := XT) (Λ := noL) (EQ := EQT) (n := 100) (g_tref.inl hEQT hmT (fun f hf => by simp only [List.mem_cons, List.not_mem_nil, or_false] at hf; subst hf; exact (fun args w => Try.call11 args w)) 400 1) hEQT hmT (fun _ _ _ _ => noL_ok _) hw

set_option maxRecDepth 100000 in
theorem wl_47 (nm : ByteArray) (ra dec t p : Int) (K : AV → List Blk → Ans) : evFn Try.prog GT EQT (inl Try.prog GT EQT XT [11] T_tref 400 1) XT noL 100 3 [.v (.agg [.str nm, .int .i64 ra, .int .i64 dec]), .v (.c (.d (.int .i64 t))), .v (.c (.d (.int .i64 p))), .v (.c (.d (.int .i64 47)))] [] (fun v M => K v (M.take ([] : List Blk).length)) = lawTM K ⟨nm, ra, dec⟩ t p 47 := by
  kernel_rfl
theorem cl_47 (nm : ByteArray) (ra dec t p : Int) : CallsA Try.prog GT gbT 3 [.v (.agg [.str nm, .int .i64 ra, .int .i64 dec]), .v (.c (.d (.int .i64 t))), .v (.c (.d (.int .i64 p))), .v (.c (.d (.int .i64 ((47 : Nat) : Int))))] [] (rB true) [] := by
  have hw := wl_47 nm ra dec t p (fun v M => some (Res.fin v M))
  rw [lawTM_ok] at hw
  exact CallsA.ofEv (Γ := (inl Try.prog GT EQT XT [11] T_tref 400 1)) (X := XT) (Λ := noL) (EQ := EQT) (n := 100) (g_tref.inl hEQT hmT (fun f hf => by simp only [List.mem_cons, List.not_mem_nil, or_false] at hf; subst hf; exact (fun args w => Try.call11 args w)) 400 1) hEQT hmT (fun _ _ _ _ => noL_ok _) hw

set_option maxRecDepth 100000 in
theorem wl_48 (nm : ByteArray) (ra dec t p : Int) (K : AV → List Blk → Ans) : evFn Try.prog GT EQT (inl Try.prog GT EQT XT [11] T_tref 400 1) XT noL 100 3 [.v (.agg [.str nm, .int .i64 ra, .int .i64 dec]), .v (.c (.d (.int .i64 t))), .v (.c (.d (.int .i64 p))), .v (.c (.d (.int .i64 48)))] [] (fun v M => K v (M.take ([] : List Blk).length)) = lawTM K ⟨nm, ra, dec⟩ t p 48 := by
  kernel_rfl
theorem cl_48 (nm : ByteArray) (ra dec t p : Int) : CallsA Try.prog GT gbT 3 [.v (.agg [.str nm, .int .i64 ra, .int .i64 dec]), .v (.c (.d (.int .i64 t))), .v (.c (.d (.int .i64 p))), .v (.c (.d (.int .i64 ((48 : Nat) : Int))))] [] (rB true) [] := by
  have hw := wl_48 nm ra dec t p (fun v M => some (Res.fin v M))
  rw [lawTM_ok] at hw
  exact CallsA.ofEv (Γ := (inl Try.prog GT EQT XT [11] T_tref 400 1)) (X := XT) (Λ := noL) (EQ := EQT) (n := 100) (g_tref.inl hEQT hmT (fun f hf => by simp only [List.mem_cons, List.not_mem_nil, or_false] at hf; subst hf; exact (fun args w => Try.call11 args w)) 400 1) hEQT hmT (fun _ _ _ _ => noL_ok _) hw

set_option maxRecDepth 100000 in
theorem wl_49 (nm : ByteArray) (ra dec t p : Int) (K : AV → List Blk → Ans) : evFn Try.prog GT EQT (inl Try.prog GT EQT XT [11] T_tref 400 1) XT noL 100 3 [.v (.agg [.str nm, .int .i64 ra, .int .i64 dec]), .v (.c (.d (.int .i64 t))), .v (.c (.d (.int .i64 p))), .v (.c (.d (.int .i64 49)))] [] (fun v M => K v (M.take ([] : List Blk).length)) = lawTM K ⟨nm, ra, dec⟩ t p 49 := by
  kernel_rfl
theorem cl_49 (nm : ByteArray) (ra dec t p : Int) : CallsA Try.prog GT gbT 3 [.v (.agg [.str nm, .int .i64 ra, .int .i64 dec]), .v (.c (.d (.int .i64 t))), .v (.c (.d (.int .i64 p))), .v (.c (.d (.int .i64 ((49 : Nat) : Int))))] [] (rB true) [] := by
  have hw := wl_49 nm ra dec t p (fun v M => some (Res.fin v M))
  rw [lawTM_ok] at hw
  exact CallsA.ofEv (Γ := (inl Try.prog GT EQT XT [11] T_tref 400 1)) (X := XT) (Λ := noL) (EQ := EQT) (n := 100) (g_tref.inl hEQT hmT (fun f hf => by simp only [List.mem_cons, List.not_mem_nil, or_false] at hf; subst hf; exact (fun args w => Try.call11 args w)) 400 1) hEQT hmT (fun _ _ _ _ => noL_ok _) hw

set_option maxRecDepth 100000 in
theorem wl_50 (nm : ByteArray) (ra dec t p : Int) (K : AV → List Blk → Ans) : evFn Try.prog GT EQT (inl Try.prog GT EQT XT [11] T_tref 400 1) XT noL 100 3 [.v (.agg [.str nm, .int .i64 ra, .int .i64 dec]), .v (.c (.d (.int .i64 t))), .v (.c (.d (.int .i64 p))), .v (.c (.d (.int .i64 50)))] [] (fun v M => K v (M.take ([] : List Blk).length)) = lawTM K ⟨nm, ra, dec⟩ t p 50 := by
  kernel_rfl
theorem cl_50 (nm : ByteArray) (ra dec t p : Int) : CallsA Try.prog GT gbT 3 [.v (.agg [.str nm, .int .i64 ra, .int .i64 dec]), .v (.c (.d (.int .i64 t))), .v (.c (.d (.int .i64 p))), .v (.c (.d (.int .i64 ((50 : Nat) : Int))))] [] (rB true) [] := by
  have hw := wl_50 nm ra dec t p (fun v M => some (Res.fin v M))
  rw [lawTM_ok] at hw
  exact CallsA.ofEv (Γ := (inl Try.prog GT EQT XT [11] T_tref 400 1)) (X := XT) (Λ := noL) (EQ := EQT) (n := 100) (g_tref.inl hEQT hmT (fun f hf => by simp only [List.mem_cons, List.not_mem_nil, or_false] at hf; subst hf; exact (fun args w => Try.call11 args w)) 400 1) hEQT hmT (fun _ _ _ _ => noL_ok _) hw

set_option maxRecDepth 100000 in
theorem wl_51 (nm : ByteArray) (ra dec t p : Int) (K : AV → List Blk → Ans) : evFn Try.prog GT EQT (inl Try.prog GT EQT XT [11] T_tref 400 1) XT noL 100 3 [.v (.agg [.str nm, .int .i64 ra, .int .i64 dec]), .v (.c (.d (.int .i64 t))), .v (.c (.d (.int .i64 p))), .v (.c (.d (.int .i64 51)))] [] (fun v M => K v (M.take ([] : List Blk).length)) = lawTM K ⟨nm, ra, dec⟩ t p 51 := by
  kernel_rfl
theorem cl_51 (nm : ByteArray) (ra dec t p : Int) : CallsA Try.prog GT gbT 3 [.v (.agg [.str nm, .int .i64 ra, .int .i64 dec]), .v (.c (.d (.int .i64 t))), .v (.c (.d (.int .i64 p))), .v (.c (.d (.int .i64 ((51 : Nat) : Int))))] [] (rB true) [] := by
  have hw := wl_51 nm ra dec t p (fun v M => some (Res.fin v M))
  rw [lawTM_ok] at hw
  exact CallsA.ofEv (Γ := (inl Try.prog GT EQT XT [11] T_tref 400 1)) (X := XT) (Λ := noL) (EQ := EQT) (n := 100) (g_tref.inl hEQT hmT (fun f hf => by simp only [List.mem_cons, List.not_mem_nil, or_false] at hf; subst hf; exact (fun args w => Try.call11 args w)) 400 1) hEQT hmT (fun _ _ _ _ => noL_ok _) hw

set_option maxRecDepth 100000 in
theorem wl_52 (nm : ByteArray) (ra dec t p : Int) (K : AV → List Blk → Ans) : evFn Try.prog GT EQT (inl Try.prog GT EQT XT [11] T_tref 400 1) XT noL 100 3 [.v (.agg [.str nm, .int .i64 ra, .int .i64 dec]), .v (.c (.d (.int .i64 t))), .v (.c (.d (.int .i64 p))), .v (.c (.d (.int .i64 52)))] [] (fun v M => K v (M.take ([] : List Blk).length)) = lawTM K ⟨nm, ra, dec⟩ t p 52 := by
  kernel_rfl
theorem cl_52 (nm : ByteArray) (ra dec t p : Int) : CallsA Try.prog GT gbT 3 [.v (.agg [.str nm, .int .i64 ra, .int .i64 dec]), .v (.c (.d (.int .i64 t))), .v (.c (.d (.int .i64 p))), .v (.c (.d (.int .i64 ((52 : Nat) : Int))))] [] (rB true) [] := by
  have hw := wl_52 nm ra dec t p (fun v M => some (Res.fin v M))
  rw [lawTM_ok] at hw
  exact CallsA.ofEv (Γ := (inl Try.prog GT EQT XT [11] T_tref 400 1)) (X := XT) (Λ := noL) (EQ := EQT) (n := 100) (g_tref.inl hEQT hmT (fun f hf => by simp only [List.mem_cons, List.not_mem_nil, or_false] at hf; subst hf; exact (fun args w => Try.call11 args w)) 400 1) hEQT hmT (fun _ _ _ _ => noL_ok _) hw

set_option maxRecDepth 100000 in
theorem wl_53 (nm : ByteArray) (ra dec t p : Int) (K : AV → List Blk → Ans) : evFn Try.prog GT EQT (inl Try.prog GT EQT XT [11] T_tref 400 1) XT noL 100 3 [.v (.agg [.str nm, .int .i64 ra, .int .i64 dec]), .v (.c (.d (.int .i64 t))), .v (.c (.d (.int .i64 p))), .v (.c (.d (.int .i64 53)))] [] (fun v M => K v (M.take ([] : List Blk).length)) = lawTM K ⟨nm, ra, dec⟩ t p 53 := by
  kernel_rfl
theorem cl_53 (nm : ByteArray) (ra dec t p : Int) : CallsA Try.prog GT gbT 3 [.v (.agg [.str nm, .int .i64 ra, .int .i64 dec]), .v (.c (.d (.int .i64 t))), .v (.c (.d (.int .i64 p))), .v (.c (.d (.int .i64 ((53 : Nat) : Int))))] [] (rB true) [] := by
  have hw := wl_53 nm ra dec t p (fun v M => some (Res.fin v M))
  rw [lawTM_ok] at hw
  exact CallsA.ofEv (Γ := (inl Try.prog GT EQT XT [11] T_tref 400 1)) (X := XT) (Λ := noL) (EQ := EQT) (n := 100) (g_tref.inl hEQT hmT (fun f hf => by simp only [List.mem_cons, List.not_mem_nil, or_false] at hf; subst hf; exact (fun args w => Try.call11 args w)) 400 1) hEQT hmT (fun _ _ _ _ => noL_ok _) hw

set_option maxRecDepth 100000 in
theorem wl_54 (nm : ByteArray) (ra dec t p : Int) (K : AV → List Blk → Ans) : evFn Try.prog GT EQT (inl Try.prog GT EQT XT [11] T_tref 400 1) XT noL 100 3 [.v (.agg [.str nm, .int .i64 ra, .int .i64 dec]), .v (.c (.d (.int .i64 t))), .v (.c (.d (.int .i64 p))), .v (.c (.d (.int .i64 54)))] [] (fun v M => K v (M.take ([] : List Blk).length)) = lawTM K ⟨nm, ra, dec⟩ t p 54 := by
  kernel_rfl
theorem cl_54 (nm : ByteArray) (ra dec t p : Int) : CallsA Try.prog GT gbT 3 [.v (.agg [.str nm, .int .i64 ra, .int .i64 dec]), .v (.c (.d (.int .i64 t))), .v (.c (.d (.int .i64 p))), .v (.c (.d (.int .i64 ((54 : Nat) : Int))))] [] (rB true) [] := by
  have hw := wl_54 nm ra dec t p (fun v M => some (Res.fin v M))
  rw [lawTM_ok] at hw
  exact CallsA.ofEv (Γ := (inl Try.prog GT EQT XT [11] T_tref 400 1)) (X := XT) (Λ := noL) (EQ := EQT) (n := 100) (g_tref.inl hEQT hmT (fun f hf => by simp only [List.mem_cons, List.not_mem_nil, or_false] at hf; subst hf; exact (fun args w => Try.call11 args w)) 400 1) hEQT hmT (fun _ _ _ _ => noL_ok _) hw

end Go.Ev
