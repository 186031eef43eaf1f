/-
  TrackMakes, value by value of the length of a path. No condition beyond those of the statements.
-/
import Derived.Test.YtmidgaahaffmcaaTpB
namespace Go.Ev
open Go Go.Proofs

set_option maxRecDepth 100000 in
theorem wl_74 (nm : ByteArray) (ra dec t p : Int) (K : AV → List Blk → Ans) : evFn Try.prog GT EQT (inl Try.prog GT EQT XT [11] T_tref 400 1) XT noL 100 3 [.v (.agg [.str nm, .int .i64 ra, .int .i64 dec]), .v (.c (.d (.int .i64 t))), .v (.c (.d (.int .i64 p))), .v (.c (.d (.int .i64 74)))] [] (fun v M => K v (M.take ([] : List Blk).length)) = lawTM K ⟨nm, ra, dec⟩ t p 74 := by
  kernel_rfl
theorem cl_74 (nm : ByteArray) (ra dec t p : Int) : CallsA Try.prog GT gbT 3 [.v (.agg [.str nm, .int .i64 ra, .int .i64 dec]), .v (.c (.d (.int .i64 t))), .v (.c (.d (.int .i64 p))), .v (.c (.d (.int .i64 ((74 : Nat) : Int))))] [] (rB true) [] := by
  have hw := wl_74 nm ra dec t p (fun v M => some (Res.fin v M))
  rw [lawTM_ok] at hw
  exact CallsA.ofEv (Γ := (inl Try.prog GT EQT XT [11] T_tref 400 1)) (X := XT) (Λ := noL) (EQ := EQT) (n := 100) (g_tref.inl hEQT hmT (fun f hf => by simp only [List.mem_cons, List.not_mem_nil, or_false] at hf; subst hf; exact (fun args w => Try.call11 args w)) 400 1) hEQT hmT (fun _ _ _ _ => noL_ok _) hw

set_option maxRecDepth 100000 in
theorem wl_75 (nm : ByteArray) (ra dec t p : Int) (K : AV → List Blk → Ans) : evFn Try.prog GT EQT (inl Try.prog GT EQT XT [11] T_tref 400 1) XT noL 100 3 [.v (.agg [.str nm, .int .i64 ra, .int .i64 dec]), .v (.c (.d (.int .i64 t))), .v (.c (.d (.int .i64 p))), .v (.c (.d (.int .i64 75)))] [] (fun v M => K v (M.take ([] : List Blk).length)) = lawTM K ⟨nm, ra, dec⟩ t p 75 := by
  kernel_rfl
theorem cl_75 (nm : ByteArray) (ra dec t p : Int) : CallsA Try.prog GT gbT 3 [.v (.agg [.str nm, .int .i64 ra, .int .i64 dec]), .v (.c (.d (.int .i64 t))), .v (.c (.d (.int .i64 p))), .v (.c (.d (.int .i64 ((75 : Nat) : Int))))] [] (rB true) [] := by
  have hw := wl_75 nm ra dec t p (fun v M => some (Res.fin v M))
  rw [lawTM_ok] at hw
  exact CallsA.ofEv (Γ := (inl Try.prog GT EQT XT [11] T_tref 400 1)) (X := XT) (Λ := noL) (EQ := EQT) (n := 100) (g_tref.inl hEQT hmT (fun f hf => by simp only [List.mem_cons, List.not_mem_nil, or_false] at hf; subst hf; exact (fun args w => Try.call11 args w)) 400 1) hEQT hmT (fun _ _ _ _ => noL_ok _) hw

set_option maxRecDepth 100000 in
theorem wl_76 (nm : ByteArray) (ra dec t p : Int) (K : AV → List Blk → Ans) : evFn Try.prog GT EQT (inl Try.prog GT EQT XT [11] T_tref 400 1) XT noL 100 3 [.v (.agg [.str nm, .int .i64 ra, .int .i64 dec]), .v (.c (.d (.int .i64 t))), .v (.c (.d (.int .i64 p))), .v (.c (.d (.int .i64 76)))] [] (fun v M => K v (M.take ([] : List Blk).length)) = lawTM K ⟨nm, ra, dec⟩ t p 76 := by
  kernel_rfl
theorem cl_76 (nm : ByteArray) (ra dec t p : Int) : CallsA Try.prog GT gbT 3 [.v (.agg [.str nm, .int .i64 ra, .int .i64 dec]), .v (.c (.d (.int .i64 t))), .v (.c (.d (.int .i64 p))), .v (.c (.d (.int .i64 ((76 : Nat) : Int))))] [] (rB true) [] := by
  have hw := wl_76 nm ra dec t p (fun v M => some (Res.fin v M))
  rw [lawTM_ok] at hw
  exact CallsA.ofEv (Γ := (inl Try.prog GT EQT XT [11] T_tref 400 1)) (X := XT) (Λ := noL) (EQ := EQT) (n := 100) (g_tref.inl hEQT hmT (fun f hf => by simp only [List.mem_cons, List.not_mem_nil, or_false] at hf; subst hf; exact (fun args w => Try.call11 args w)) 400 1) hEQT hmT (fun _ _ _ _ => noL_ok _) hw

set_option maxRecDepth 100000 in
theorem wl_77 (nm : ByteArray) (ra dec t p : Int) (K : AV → List Blk → Ans) : evFn Try.prog GT EQT (inl Try.prog GT EQT XT [11] T_tref 400 1) XT noL 100 3 [.v (.agg [.str nm, .int .i64 ra, .int .i64 dec]), .v (.c (.d (.int .i64 t))), .v (.c (.d (.int .i64 p))), .v (.c (.d (.int .i64 77)))] [] (fun v M => K v (M.take ([] : List Blk).length)) = lawTM K ⟨nm, ra, dec⟩ t p 77 := by
  kernel_rfl
theorem cl_77 (nm : ByteArray) (ra dec t p : Int) : CallsA Try.prog GT gbT 3 [.v (.agg [.str nm, .int .i64 ra, .int .i64 dec]), .v (.c (.d (.int .i64 t))), .v (.c (.d (.int .i64 p))), .v (.c (.d (.int .i64 ((77 : Nat) : Int))))] [] (rB true) [] := by
  have hw := wl_77 nm ra dec t p (fun v M => some (Res.fin v M))
  rw [lawTM_ok] at hw
  exact CallsA.ofEv (Γ := (inl Try.prog GT EQT XT [11] T_tref 400 1)) (X := XT) (Λ := noL) (EQ := EQT) (n := 100) (g_tref.inl hEQT hmT (fun f hf => by simp only [List.mem_cons, List.not_mem_nil, or_false] at hf; subst hf; exact (fun args w => Try.call11 args w)) 400 1) hEQT hmT (fun _ _ _ _ => noL_ok _) hw

set_option maxRecDepth 100000 in
theorem wl_78 (nm : ByteArray) (ra dec t p : Int) (K : AV → List Blk → Ans) : evFn Try.prog GT EQT (inl Try.prog GT EQT XT [11] T_tref 400 1) XT noL 100 3 [.v (.agg [.str nm, .int .i64 ra, .int .i64 dec]), .v (.c (.d (.int .i64 t))), .v (.c (.d (.int .i64 p))), .v (.c (.d (.int .i64 78)))] [] (fun v M => K v (M.take ([] : List Blk).length)) = lawTM K ⟨nm, ra, dec⟩ t p 78 := by
  kernel_rfl
theorem cl_78 (nm : ByteArray) (ra dec t p : Int) : CallsA Try.prog GT gbT 3 [.v (.agg [.str nm, .int .i64 ra, .int .i64 dec]), .v (.c (.d (.int .i64 t))), .v (.c (.d (.int .i64 p))), .v (.c (.d (.int .i64 ((78 : Nat) : Int))))] [] (rB true) [] := by
  have hw := wl_78 nm ra dec t p (fun v M => some (Res.fin v M))
  rw [lawTM_ok] at hw
  exact CallsA.ofEv (Γ := (inl Try.prog GT EQT XT [11] T_tref 400 1)) (X := XT) (Λ := noL) (EQ := EQT) (n := 100) (g_tref.inl hEQT hmT (fun f hf => by simp only [List.mem_cons, List.not_mem_nil, or_false] at hf; subst hf; exact (fun args w => Try.call11 args w)) 400 1) hEQT hmT (fun _ _ _ _ => noL_ok _) hw

set_option maxRecDepth 100000 in
theorem wl_79 (nm : ByteArray) (ra dec t p : Int) (K : AV → List Blk → Ans) : evFn Try.prog GT EQT (inl Try.prog GT EQT XT [11] T_tref 400 1) XT noL 100 3 [.v (.agg [.str nm, .int .i64 ra, .int .i64 dec]), .v (.c (.d (.int .i64 t))), .v (.c (.d (.int .i64 p))), .v (.c (.d (.int .i64 79)))] [] (fun v M => K v (M.take ([] : List Blk).length)) = lawTM K ⟨nm, ra, dec⟩ t p 79 := by
  kernel_rfl
theorem cl_79 (nm : ByteArray) (ra dec t p : Int) : CallsA Try.prog GT gbT 3 [.v (.agg [.str nm, .int .i64 ra, .int .i64 dec]), .v (.c (.d (.int .i64 t))), .v (.c (.d (.int .i64 p))), .v (.c (.d (.int .i64 ((79 : Nat) : Int))))] [] (rB true) [] := by
  have hw := wl_79 nm ra dec t p (fun v M => some (Res.fin v M))
  rw [lawTM_ok] at hw
  exact CallsA.ofEv (Γ := (inl Try.prog GT EQT XT [11] T_tref 400 1)) (X := XT) (Λ := noL) (EQ := EQT) (n := 100) (g_tref.inl hEQT hmT (fun f hf => by simp only [List.mem_cons, List.not_mem_nil, or_false] at hf; subst hf; exact (fun args w => Try.call11 args w)) 400 1) hEQT hmT (fun _ _ _ _ => noL_ok _) hw

set_option maxRecDepth 100000 in
theorem wl_80 (nm : ByteArray) (ra dec t p : Int) (K : AV → List Blk → Ans) : evFn Try.prog GT EQT (inl Try.prog GT EQT XT [11] T_tref 400 1) XT noL 100 3 [.v (.agg [.str nm, .int .i64 ra, .int .i64 dec]), .v (.c (.d (.int .i64 t))), .v (.c (.d (.int .i64 p))), .v (.c (.d (.int .i64 80)))] [] (fun v M => K v (M.take ([] : List Blk).length)) = lawTM K ⟨nm, ra, dec⟩ t p 80 := by
  kernel_rfl
theorem cl_80 (nm : ByteArray) (ra dec t p : Int) : CallsA Try.prog GT gbT 3 [.v (.agg [.str nm, .int .i64 ra, .int .i64 dec]), .v (.c (.d (.int .i64 t))), .v (.c (.d (.int .i64 p))), .v (.c (.d (.int .i64 ((80 : Nat) : Int))))] [] (rB true) [] := by
  have hw := wl_80 nm ra dec t p (fun v M => some (Res.fin v M))
  rw [lawTM_ok] at hw
  exact CallsA.ofEv (Γ := (inl Try.prog GT EQT XT [11] T_tref 400 1)) (X := XT) (Λ := noL) (EQ := EQT) (n := 100) (g_tref.inl hEQT hmT (fun f hf => by simp only [List.mem_cons, List.not_mem_nil, or_false] at hf; subst hf; exact (fun args w => Try.call11 args w)) 400 1) hEQT hmT (fun _ _ _ _ => noL_ok _) hw

set_option maxRecDepth 100000 in
theorem wl_81 (nm : ByteArray) (ra dec t p : Int) (K : AV → List Blk → Ans) : evFn Try.prog GT EQT (inl Try.prog GT EQT XT [11] T_tref 400 1) XT noL 100 3 [.v (.agg [.str nm, .int .i64 ra, .int .i64 dec]), .v (.c (.d (.int .i64 t))), .v (.c (.d (.int .i64 p))), .v (.c (.d (.int .i64 81)))] [] (fun v M => K v (M.take ([] : List Blk).length)) = lawTM K ⟨nm, ra, dec⟩ t p 81 := by
  kernel_rfl
theorem cl_81 (nm : ByteArray) (ra dec t p : Int) : CallsA Try.prog GT gbT 3 [.v (.agg [.str nm, .int .i64 ra, .int .i64 dec]), .v (.c (.d (.int .i64 t))), .v (.c (.d (.int .i64 p))), .v (.c (.d (.int .i64 ((81 : Nat) : Int))))] [] (rB true) [] := by
  have hw := wl_81 nm ra dec t p (fun v M => some (Res.fin v M))
  rw [lawTM_ok] at hw
  exact CallsA.ofEv (Γ := (inl Try.prog GT EQT XT [11] T_tref 400 1)) (X := XT) (Λ := noL) (EQ := EQT) (n := 100) (g_tref.inl hEQT hmT (fun f hf => by simp only [List.mem_cons, List.not_mem_nil, or_false] at hf; subst hf; exact (fun args w => Try.call11 args w)) 400 1) hEQT hmT (fun _ _ _ _ => noL_ok _) hw

set_option maxRecDepth 100000 in
theorem wl_82 (nm : ByteArray) (ra dec t p : Int) (K : AV → List Blk → Ans) : evFn Try.prog GT EQT (inl Try.prog GT EQT XT [11] T_tref 400 1) XT noL 100 3 [.v (.agg [.str nm, .int .i64 ra, .int .i64 dec]), .v (.c (.d (.int .i64 t))), .v (.c (.d (.int .i64 p))), .v (.c (.d (.int .i64 82)))] [] (fun v M => K v (M.take ([] : List Blk).length)) = lawTM K ⟨nm, ra, dec⟩ t p 82 := by
  kernel_rfl
theorem cl_82 (nm : ByteArray) (ra dec t p : Int) : CallsA Try.prog GT gbT 3 [.v (.agg [.str nm, .int .i64 ra, .int .i64 dec]), .v (.c (.d (.int .i64 t))), .v (.c (.d (.int .i64 p))), .v (.c (.d (.int .i64 ((82 : Nat) : Int))))] [] (rB true) [] := by
  have hw := wl_82 nm ra dec t p (fun v M => some (Res.fin v M))
  rw [lawTM_ok] at hw
  exact CallsA.ofEv (Γ := (inl Try.prog GT EQT XT [11] T_tref 400 1)) (X := XT) (Λ := noL) (EQ := EQT) (n := 100) (g_tref.inl hEQT hmT (fun f hf => by simp only [List.mem_cons, List.not_mem_nil, or_false] at hf; subst hf; exact (fun args w => Try.call11 args w)) 400 1) hEQT hmT (fun _ _ _ _ => noL_ok _) hw

set_option maxRecDepth 100000 in
theorem wl_83 (nm : ByteArray) (ra dec t p : Int) (K : AV → List Blk → Ans) : evFn Try.prog GT EQT (inl Try.prog GT EQT XT [11] T_tref 400 1) XT noL 100 3 [.v (.agg [.str nm, .int .i64 ra, .int .i64 dec]), .v (.c (.d (.int .i64 t))), .v (.c (.d (.int .i64 p))), .v (.c (.d (.int .i64 83)))] [] (fun v M => K v (M.take ([] : List Blk).length)) = lawTM K ⟨nm, ra, dec⟩ t p 83 := by
  kernel_rfl
theorem cl_83 (nm : ByteArray) (ra dec t p : Int) : CallsA Try.prog GT gbT 3 [.v (.agg [.str nm, .int .i64 ra, .int .i64 dec]), .v (.c (.d (.int .i64 t))), .v (.c (.d (.int .i64 p))), .v (.c (.d (.int .i64 ((83 : Nat) : Int))))] [] (rB true) [] := by
  have hw := wl_83 nm ra dec t p (fun v M => some (Res.fin v M))
  rw [lawTM_ok] at hw
  exact CallsA.ofEv (Γ := (inl Try.prog GT EQT XT [11] T_tref 400 1)) (X := XT) (Λ := noL) (EQ := EQT) (n := 100) (g_tref.inl hEQT hmT (fun f hf => by simp only [List.mem_cons, List.not_mem_nil, or_false] at hf; subst hf; exact (fun args w => Try.call11 args w)) 400 1) hEQT hmT (fun _ _ _ _ => noL_ok _) hw

set_option maxRecDepth 100000 in
theorem wl_84 (nm : ByteArray) (ra dec t p : Int) (K : AV → List Blk → Ans) : evFn Try.prog GT EQT (inl Try.prog GT EQT XT [11] T_tref 400 1) XT noL 100 3 [.v (.agg [.str nm, .int .i64 ra, .int .i64 dec]), .v (.c (.d (.int .i64 t))), .v (.c (.d (.int .i64 p))), .v (.c (.d (.int .i64 84)))] [] (fun v M => K v (M.take ([] : List Blk).length)) = lawTM K ⟨nm, ra, dec⟩ t p 84 := by
  kernel_rfl
theorem cl_84 (nm : ByteArray) (ra dec t p : Int) : CallsA Try.prog GT gbT 3 [.v (.agg [.str nm, .int .i64 ra, .int .i64 dec]), .v (.c (.d (.int .i64 t))), .v (.c (.d (.int .i64 p))), .v (.c (.d (.int .i64 ((84 : Nat) : Int))))] [] (rB true) [] := by
  have hw := wl_84 nm ra dec t p (fun v M => some (Res.fin v M))
  rw [lawTM_ok] at hw
  exact CallsA.ofEv (Γ := (inl Try.prog GT EQT XT [11] T_tref 400 1)) (X := XT) (Λ := noL) (EQ := EQT) (n := 100) (g_tref.inl hEQT hmT (fun f hf => by simp only [List.mem_cons, List.not_mem_nil, or_false] at hf; subst hf; exact (fun args w => Try.call11 args w)) 400 1) hEQT hmT (fun _ _ _ _ => noL_ok _) hw

set_option maxRecDepth 100000 in
theorem wl_85 (nm : ByteArray) (ra dec t p : Int) (K : AV → List Blk → Ans) : evFn Try.prog GT EQT (inl Try.prog GT EQT XT [11] T_tref 400 1) XT noL 100 3 [.v (.agg [.str nm, .int .i64 ra, .int .i64 dec]), .v (.c (.d (.int .i64 t))), .v (.c (.d (.int .i64 p))), .v (.c (.d (.int .i64 85)))] [] (fun v M => K v (M.take ([] : List Blk).length)) = lawTM K ⟨nm, ra, dec⟩ t p 85 := by
  kernel_rfl
theorem cl_85 (nm : ByteArray) (ra dec t p : Int) : CallsA Try.prog GT gbT 3 [.v (.agg [.str nm, .int .i64 ra, .int .i64 dec]), .v (.c (.d (.int .i64 t))), .v (.c (.d (.int .i64 p))), .v (.c (.d (.int .i64 ((85 : Nat) : Int))))] [] (rB true) [] := by
  have hw := wl_85 nm ra dec t p (fun v M => some (Res.fin v M))
  rw [lawTM_ok] at hw
  exact CallsA.ofEv (Γ := (inl Try.prog GT EQT XT [11] T_tref 400 1)) (X := XT) (Λ := noL) (EQ := EQT) (n := 100) (g_tref.inl hEQT hmT (fun f hf => by simp only [List.mem_cons, List.not_mem_nil, or_false] at hf; subst hf; exact (fun args w => Try.call11 args w)) 400 1) hEQT hmT (fun _ _ _ _ => noL_ok _) hw

set_option maxRecDepth 100000 in
theorem wl_86 (nm : ByteArray) (ra dec t p : Int) (K : AV → List Blk → Ans) : evFn Try.prog GT EQT (inl Try.prog GT EQT XT [11] T_tref 400 1) XT noL 100 3 [.v (.agg [.str nm, .int .i64 ra, .int .i64 dec]), .v (.c (.d (.int .i64 t))), .v (.c (.d (.int .i64 p))), .v (.c (.d (.int .i64 86)))] [] (fun v M => K v (M.take ([] : List Blk).length)) = lawTM K ⟨nm, ra, dec⟩ t p 86 := by
  kernel_rfl
theorem cl_86 (nm : ByteArray) (ra dec t p : Int) : CallsA Try.prog GT gbT 3 [.v (.agg [.str nm, .int .i64 ra, .int .i64 dec]), .v (.c (.d (.int .i64 t))), .v (.c (.d (.int .i64 p))), .v (.c (.d (.int .i64 ((86 : Nat) : Int))))] [] (rB true) [] := by
  have hw := wl_86 nm ra dec t p (fun v M => some (Res.fin v M))
  rw [lawTM_ok] at hw
  exact CallsA.ofEv (Γ := (inl Try.prog GT EQT XT [11] T_tref 400 1)) (X := XT) (Λ := noL) (EQ := EQT) (n := 100) (g_tref.inl hEQT hmT (fun f hf => by simp only [List.mem_cons, List.not_mem_nil, or_false] at hf; subst hf; exact (fun args w => Try.call11 args w)) 400 1) hEQT hmT (fun _ _ _ _ => noL_ok _) hw

set_option maxRecDepth 100000 in
theorem wl_87 (nm : ByteArray) (ra dec t p : Int) (K : AV → List Blk → Ans) : evFn Try.prog GT EQT (inl Try.prog GT EQT XT [11] T_tref 400 1) XT noL 100 3 [.v (.agg [.str nm, .int .i64 ra, .int .i64 dec]), .v (.c (.d (.int .i64 t))), .v (.c (.d (.int .i64 p))), .v (.c (.d (.int .i64 87)))] [] (fun v M => K v (M.take ([] : List Blk).length)) = lawTM K ⟨nm, ra, dec⟩ t p 87 := by
  kernel_rfl
theorem cl_87 (nm : ByteArray) (ra dec t p : Int) : CallsA Try.prog GT gbT 3 [.v (.agg [.str nm, .int .i64 ra, .int .i64 dec]), .v (.c (.d (.int .i64 t))), .v (.c (.d (.int .i64 p))), .v (.c (.d (.int .i64 ((87 : Nat) : Int))))] [] (rB true) [] := by
  have hw := wl_87 nm ra dec t p (fun v M => some (Res.fin v M))
  rw [lawTM_ok] at hw
  exact CallsA.ofEv (Γ := (inl Try.prog GT EQT XT [11] T_tref 400 1)) (X := XT) (Λ := noL) (EQ := EQT) (n := 100) (g_tref.inl hEQT hmT (fun f hf => by simp only [List.mem_cons, List.not_mem_nil, or_false] at hf; subst hf; exact (fun args w => Try.call11 args w)) 400 1) hEQT hmT (fun _ _ _ _ => noL_ok _) hw

end Go.Ev
