/-
  TrackMakes, value by value of the length of a path. No condition beyond those of the statements.
-/
import Derived.Test.YtmidgaahaffmcaaTpB
namespace Go.Ev
open Go Go.Proofs

set_option maxRecDepth 100000 in
theorem wl_88 (nm : ByteArray) (ra dec t p : Int) (K : AV → List Blk → Ans) : evFn Try.prog GT EQT (inl Try.prog GT EQT XT [11] T_tref 400 1) XT noL 100 3 [.v (.agg [.str nm, .int .i64 ra, .int .i64 dec]), .v (.c (.d (.int .i64 t))), .v (.c (.d (.int .i64 p))), .v (.c (.d (.int .i64 88)))] [] (fun v M => K v (M.take ([] : List Blk).length)) = lawTM K ⟨nm, ra, dec⟩ t p 88 := by
  kernel_rfl
theorem cl_88 (nm : ByteArray) (ra dec t p : Int) : CallsA Try.prog GT gbT 3 [.v (.agg [.str nm, .int .i64 ra, .int .i64 dec]), .v (.c (.d (.int .i64 t))), .v (.c (.d (.int .i64 p))), .v (.c (.d (.int .i64 ((88 : Nat) : Int))))] [] (rB true) [] := by
  have hw := wl_88 nm ra dec t p (fun v M => some (Res.fin v M))
  rw [lawTM_ok] at hw
  exact CallsA.ofEv (Γ := (inl Try.prog GT EQT XT [11] T_tref 400 1)) (X := XT) (Λ := noL) (EQ := EQT) (n := 100) (g_tref.inl hEQT hmT (fun f hf => by simp only [List.mem_cons, List.not_mem_nil, or_false] at hf; subst hf; exact (fun args w => Try.call11 args w)) 400 1) hEQT hmT (fun _ _ _ _ => noL_ok _) hw

set_option maxRecDepth 100000 in
theorem wl_89 (nm : ByteArray) (ra dec t p : Int) (K : AV → List Blk → Ans) : evFn Try.prog GT EQT (inl Try.prog GT EQT XT [11] T_tref 400 1) XT noL 100 3 [.v (.agg [.str nm, .int .i64 ra, .int .i64 dec]), .v (.c (.d (.int .i64 t))), .v (.c (.d (.int .i64 p))), .v (.c (.d (.int .i64 89)))] [] (fun v M => K v (M.take ([] : List Blk).length)) = lawTM K ⟨nm, ra, dec⟩ t p 89 := by
  kernel_rfl
theorem cl_89 (nm : ByteArray) (ra dec t p : Int) : CallsA Try.prog GT gbT 3 [.v (.agg [.str nm, .int .i64 ra, .int .i64 dec]), .v (.c (.d (.int .i64 t))), .v (.c (.d (.int .i64 p))), .v (.c (.d (.int .i64 ((89 : Nat) : Int))))] [] (rB true) [] := by
  have hw := wl_89 nm ra dec t p (fun v M => some (Res.fin v M))
  rw [lawTM_ok] at hw
  exact CallsA.ofEv (Γ := (inl Try.prog GT EQT XT [11] T_tref 400 1)) (X := XT) (Λ := noL) (EQ := EQT) (n := 100) (g_tref.inl hEQT hmT (fun f hf => by simp only [List.mem_cons, List.not_mem_nil, or_false] at hf; subst hf; exact (fun args w => Try.call11 args w)) 400 1) hEQT hmT (fun _ _ _ _ => noL_ok _) hw

set_option maxRecDepth 100000 in
theorem wl_90 (nm : ByteArray) (ra dec t p : Int) (K : AV → List Blk → Ans) : evFn Try.prog GT EQT (inl Try.prog GT EQT XT [11] T_tref 400 1) XT noL 100 3 [.v (.agg [.str nm, .int .i64 ra, .int .i64 dec]), .v (.c (.d (.int .i64 t))), .v (.c (.d (.int .i64 p))), .v (.c (.d (.int .i64 90)))] [] (fun v M => K v (M.take ([] : List Blk).length)) = lawTM K ⟨nm, ra, dec⟩ t p 90 := by
  kernel_rfl
theorem cl_90 (nm : ByteArray) (ra dec t p : Int) : CallsA Try.prog GT gbT 3 [.v (.agg [.str nm, .int .i64 ra, .int .i64 dec]), .v (.c (.d (.int .i64 t))), .v (.c (.d (.int .i64 p))), .v (.c (.d (.int .i64 ((90 : Nat) : Int))))] [] (rB true) [] := by
  have hw := wl_90 nm ra dec t p (fun v M => some (Res.fin v M))
  rw [lawTM_ok] at hw
  exact CallsA.ofEv (Γ := (inl Try.prog GT EQT XT [11] T_tref 400 1)) (X := XT) (Λ := noL) (EQ := EQT) (n := 100) (g_tref.inl hEQT hmT (fun f hf => by simp only [List.mem_cons, List.not_mem_nil, or_false] at hf; subst hf; exact (fun args w => Try.call11 args w)) 400 1) hEQT hmT (fun _ _ _ _ => noL_ok _) hw

set_option maxRecDepth 100000 in
theorem wl_91 (nm : ByteArray) (ra dec t p : Int) (K : AV → List Blk → Ans) : evFn Try.prog GT EQT (inl Try.prog GT EQT XT [11] T_tref 400 1) XT noL 100 3 [.v (.agg [.str nm, .int .i64 ra, .int .i64 dec]), .v (.c (.d (.int .i64 t))), .v (.c (.d (.int .i64 p))), .v (.c (.d (.int .i64 91)))] [] (fun v M => K v (M.take ([] : List Blk).length)) = lawTM K ⟨nm, ra, dec⟩ t p 91 := by
  kernel_rfl
theorem cl_91 (nm : ByteArray) (ra dec t p : Int) : CallsA Try.prog GT gbT 3 [.v (.agg [.str nm, .int .i64 ra, .int .i64 dec]), .v (.c (.d (.int .i64 t))), .v (.c (.d (.int .i64 p))), .v (.c (.d (.int .i64 ((91 : Nat) : Int))))] [] (rB true) [] := by
  have hw := wl_91 nm ra dec t p (fun v M => some (Res.fin v M))
  rw [lawTM_ok] at hw
  exact CallsA.ofEv (Γ := (inl Try.prog GT EQT XT [11] T_tref 400 1)) (X := XT) (Λ := noL) (EQ := EQT) (n := 100) (g_tref.inl hEQT hmT (fun f hf => by simp only [List.mem_cons, List.not_mem_nil, or_false] at hf; subst hf; exact (fun args w => Try.call11 args w)) 400 1) hEQT hmT (fun _ _ _ _ => noL_ok _) hw

set_option maxRecDepth 100000 in
theorem wl_92 (nm : ByteArray) (ra dec t p : Int) (K : AV → List Blk → Ans) : evFn Try.prog GT EQT (inl Try.prog GT EQT XT [11] T_tref 400 1) XT noL 100 3 [.v (.agg [.str nm, .int .i64 ra, .int .i64 dec]), .v (.c (.d (.int .i64 t))), .v (.c (.d (.int .i64 p))), .v (.c (.d (.int .i64 92)))] [] (fun v M => K v (M.take ([] : List Blk).length)) = lawTM K ⟨nm, ra, dec⟩ t p 92 := by
  kernel_rfl
theorem cl_92 (nm : ByteArray) (ra dec t p : Int) : CallsA Try.prog GT gbT 3 [.v (.agg [.str nm, .int .i64 ra, .int .i64 dec]), .v (.c (.d (.int .i64 t))), .v (.c (.d (.int .i64 p))), .v (.c (.d (.int .i64 ((92 : Nat) : Int))))] [] (rB true) [] := by
  have hw := wl_92 nm ra dec t p (fun v M => some (Res.fin v M))
  rw [lawTM_ok] at hw
  exact CallsA.ofEv (Γ := (inl Try.prog GT EQT XT [11] T_tref 400 1)) (X := XT) (Λ := noL) (EQ := EQT) (n := 100) (g_tref.inl hEQT hmT (fun f hf => by simp only [List.mem_cons, List.not_mem_nil, or_false] at hf; subst hf; exact (fun args w => Try.call11 args w)) 400 1) hEQT hmT (fun _ _ _ _ => noL_ok _) hw

set_option maxRecDepth 100000 in
theorem wl_93 (nm : ByteArray) (ra dec t p : Int) (K : AV → List Blk → Ans) : evFn Try.prog GT EQT (inl Try.prog GT EQT XT [11] T_tref 400 1) XT noL 100 3 [.v (.agg [.str nm, .int .i64 ra, .int .i64 dec]), .v (.c (.d (.int .i64 t))), .v (.c (.d (.int .i64 p))), .v (.c (.d (.int .i64 93)))] [] (fun v M => K v (M.take ([] : List Blk).length)) = lawTM K ⟨nm, ra, dec⟩ t p 93 := by
  kernel_rfl
theorem cl_93 (nm : ByteArray) (ra dec t p : Int) : CallsA Try.prog GT gbT 3 [.v (.agg [.str nm, .int .i64 ra, .int .i64 dec]), .v (.c (.d (.int .i64 t))), .v (.c (.d (.int .i64 p))), .v (.c (.d (.int .i64 ((93 : Nat) : Int))))] [] (rB true) [] := by
  have hw := wl_93 nm ra dec t p (fun v M => some (Res.fin v M))
  rw [lawTM_ok] at hw
  exact CallsA.ofEv (Γ := (inl Try.prog GT EQT XT [11] T_tref 400 1)) (X := XT) (Λ := noL) (EQ := EQT) (n := 100) (g_tref.inl hEQT hmT (fun f hf => by simp only [List.mem_cons, List.not_mem_nil, or_false] at hf; subst hf; exact (fun args w => Try.call11 args w)) 400 1) hEQT hmT (fun _ _ _ _ => noL_ok _) hw

set_option maxRecDepth 100000 in
theorem wl_94 (nm : ByteArray) (ra dec t p : Int) (K : AV → List Blk → Ans) : evFn Try.prog GT EQT (inl Try.prog GT EQT XT [11] T_tref 400 1) XT noL 100 3 [.v (.agg [.str nm, .int .i64 ra, .int .i64 dec]), .v (.c (.d (.int .i64 t))), .v (.c (.d (.int .i64 p))), .v (.c (.d (.int .i64 94)))] [] (fun v M => K v (M.take ([] : List Blk).length)) = lawTM K ⟨nm, ra, dec⟩ t p 94 := by
  kernel_rfl
theorem cl_94 (nm : ByteArray) (ra dec t p : Int) : CallsA Try.prog GT gbT 3 [.v (.agg [.str nm, .int .i64 ra, .int .i64 dec]), .v (.c (.d (.int .i64 t))), .v (.c (.d (.int .i64 p))), .v (.c (.d (.int .i64 ((94 : Nat) : Int))))] [] (rB true) [] := by
  have hw := wl_94 nm ra dec t p (fun v M => some (Res.fin v M))
  rw [lawTM_ok] at hw
  exact CallsA.ofEv (Γ := (inl Try.prog GT EQT XT [11] T_tref 400 1)) (X := XT) (Λ := noL) (EQ := EQT) (n := 100) (g_tref.inl hEQT hmT (fun f hf => by simp only [List.mem_cons, List.not_mem_nil, or_false] at hf; subst hf; exact (fun args w => Try.call11 args w)) 400 1) hEQT hmT (fun _ _ _ _ => noL_ok _) hw

set_option maxRecDepth 100000 in
theorem wl_95 (nm : ByteArray) (ra dec t p : Int) (K : AV → List Blk → Ans) : evFn Try.prog GT EQT (inl Try.prog GT EQT XT [11] T_tref 400 1) XT noL 100 3 [.v (.agg [.str nm, .int .i64 ra, .int .i64 dec]), .v (.c (.d (.int .i64 t))), .v (.c (.d (.int .i64 p))), .v (.c (.d (.int .i64 95)))] [] (fun v M => K v (M.take ([] : List Blk).length)) = lawTM K ⟨nm, ra, dec⟩ t p 95 := by
  kernel_rfl
theorem cl_95 (nm : ByteArray) (ra dec t p : Int) : CallsA Try.prog GT gbT 3 [.v (.agg [.str nm, .int .i64 ra, .int .i64 dec]), .v (.c (.d (.int .i64 t))), .v (.c (.d (.int .i64 p))), .v (.c (.d (.int .i64 ((95 : Nat) : Int))))] [] (rB true) [] := by
  have hw := wl_95 nm ra dec t p (fun v M => some (Res.fin v M))
  rw [lawTM_ok] at hw
  exact CallsA.ofEv (Γ := (inl Try.prog GT EQT XT [11] T_tref 400 1)) (X := XT) (Λ := noL) (EQ := EQT) (n := 100) (g_tref.inl hEQT hmT (fun f hf => by simp only [List.mem_cons, List.not_mem_nil, or_false] at hf; subst hf; exact (fun args w => Try.call11 args w)) 400 1) hEQT hmT (fun _ _ _ _ => noL_ok _) hw

set_option maxRecDepth 100000 in
theorem wl_96 (nm : ByteArray) (ra dec t p : Int) (K : AV → List Blk → Ans) : evFn Try.prog GT EQT (inl Try.prog GT EQT XT [11] T_tref 400 1) XT noL 100 3 [.v (.agg [.str nm, .int .i64 ra, .int .i64 dec]), .v (.c (.d (.int .i64 t))), .v (.c (.d (.int .i64 p))), .v (.c (.d (.int .i64 96)))] [] (fun v M => K v (M.take ([] : List Blk).length)) = lawTM K ⟨nm, ra, dec⟩ t p 96 := by
  kernel_rfl
theorem cl_96 (nm : ByteArray) (ra dec t p : Int) : CallsA Try.prog GT gbT 3 [.v (.agg [.str nm, .int .i64 ra, .int .i64 dec]), .v (.c (.d (.int .i64 t))), .v (.c (.d (.int .i64 p))), .v (.c (.d (.int .i64 ((96 : Nat) : Int))))] [] (rB true) [] := by
  have hw := wl_96 nm ra dec t p (fun v M => some (Res.fin v M))
  rw [lawTM_ok] at hw
  exact CallsA.ofEv (Γ := (inl Try.prog GT EQT XT [11] T_tref 400 1)) (X := XT) (Λ := noL) (EQ := EQT) (n := 100) (g_tref.inl hEQT hmT (fun f hf => by simp only [List.mem_cons, List.not_mem_nil, or_false] at hf; subst hf; exact (fun args w => Try.call11 args w)) 400 1) hEQT hmT (fun _ _ _ _ => noL_ok _) hw

set_option maxRecDepth 100000 in
theorem wl_97 (nm : ByteArray) (ra dec t p : Int) (K : AV → List Blk → Ans) : evFn Try.prog GT EQT (inl Try.prog GT EQT XT [11] T_tref 400 1) XT noL 100 3 [.v (.agg [.str nm, .int .i64 ra, .int .i64 dec]), .v (.c (.d (.int .i64 t))), .v (.c (.d (.int .i64 p))), .v (.c (.d (.int .i64 97)))] [] (fun v M => K v (M.take ([] : List Blk).length)) = lawTM K ⟨nm, ra, dec⟩ t p 97 := by
  kernel_rfl
theorem cl_97 (nm : ByteArray) (ra dec t p : Int) : CallsA Try.prog GT gbT 3 [.v (.agg [.str nm, .int .i64 ra, .int .i64 dec]), .v (.c (.d (.int .i64 t))), .v (.c (.d (.int .i64 p))), .v (.c (.d (.int .i64 ((97 : Nat) : Int))))] [] (rB true) [] := by
  have hw := wl_97 nm ra dec t p (fun v M => some (Res.fin v M))
  rw [lawTM_ok] at hw
  exact CallsA.ofEv (Γ := (inl Try.prog GT EQT XT [11] T_tref 400 1)) (X := XT) (Λ := noL) (EQ := EQT) (n := 100) (g_tref.inl hEQT hmT (fun f hf => by simp only [List.mem_cons, List.not_mem_nil, or_false] at hf; subst hf; exact (fun args w => Try.call11 args w)) 400 1) hEQT hmT (fun _ _ _ _ => noL_ok _) hw

set_option maxRecDepth 100000 in
theorem wl_98 (nm : ByteArray) (ra dec t p : Int) (K : AV → List Blk → Ans) : evFn Try.prog GT EQT (inl Try.prog GT EQT XT [11] T_tref 400 1) XT noL 100 3 [.v (.agg [.str nm, .int .i64 ra, .int .i64 dec]), .v (.c (.d (.int .i64 t))), .v (.c (.d (.int .i64 p))), .v (.c (.d (.int .i64 98)))] [] (fun v M => K v (M.take ([] : List Blk).length)) = lawTM K ⟨nm, ra, dec⟩ t p 98 := by
  kernel_rfl
theorem cl_98 (nm : ByteArray) (ra dec t p : Int) : CallsA Try.prog GT gbT 3 [.v (.agg [.str nm, .int .i64 ra, .int .i64 dec]), .v (.c (.d (.int .i64 t))), .v (.c (.d (.int .i64 p))), .v (.c (.d (.int .i64 ((98 : Nat) : Int))))] [] (rB true) [] := by
  have hw := wl_98 nm ra dec t p (fun v M => some (Res.fin v M))
  rw [lawTM_ok] at hw
  exact CallsA.ofEv (Γ := (inl Try.prog GT EQT XT [11] T_tref 400 1)) (X := XT) (Λ := noL) (EQ := EQT) (n := 100) (g_tref.inl hEQT hmT (fun f hf => by simp only [List.mem_cons, List.not_mem_nil, or_false] at hf; subst hf; exact (fun args w => Try.call11 args w)) 400 1) hEQT hmT (fun _ _ _ _ => noL_ok _) hw

set_option maxRecDepth 100000 in
theorem wl_99 (nm : ByteArray) (ra dec t p : Int) (K : AV → List Blk → Ans) : evFn Try.prog GT EQT (inl Try.prog GT EQT XT [11] T_tref 400 1) XT noL 100 3 [.v (.agg [.str nm, .int .i64 ra, .int .i64 dec]), .v (.c (.d (.int .i64 t))), .v (.c (.d (.int .i64 p))), .v (.c (.d (.int .i64 99)))] [] (fun v M => K v (M.take ([] : List Blk).length)) = lawTM K ⟨nm, ra, dec⟩ t p 99 := by
  kernel_rfl
theorem cl_99 (nm : ByteArray) (ra dec t p : Int) : CallsA Try.prog GT gbT 3 [.v (.agg [.str nm, .int .i64 ra, .int .i64 dec]), .v (.c (.d (.int .i64 t))), .v (.c (.d (.int .i64 p))), .v (.c (.d (.int .i64 ((99 : Nat) : Int))))] [] (rB true) [] := by
  have hw := wl_99 nm ra dec t p (fun v M => some (Res.fin v M))
  rw [lawTM_ok] at hw
  exact CallsA.ofEv (Γ := (inl Try.prog GT EQT XT [11] T_tref 400 1)) (X := XT) (Λ := noL) (EQ := EQT) (n := 100) (g_tref.inl hEQT hmT (fun f hf => by simp only [List.mem_cons, List.not_mem_nil, or_false] at hf; subst hf; exact (fun args w => Try.call11 args w)) 400 1) hEQT hmT (fun _ _ _ _ => noL_ok _) hw

set_option maxRecDepth 100000 in
theorem wl_100 (nm : ByteArray) (ra dec t p : Int) (K : AV → List Blk → Ans) : evFn Try.prog GT EQT (inl Try.prog GT EQT XT [11] T_tref 400 1) XT noL 100 3 [.v (.agg [.str nm, .int .i64 ra, .int .i64 dec]), .v (.c (.d (.int .i64 t))), .v (.c (.d (.int .i64 p))), .v (.c (.d (.int .i64 100)))] [] (fun v M => K v (M.take ([] : List Blk).length)) = lawTM K ⟨nm, ra, dec⟩ t p 100 := by
  kernel_rfl
theorem cl_100 (nm : ByteArray) (ra dec t p : Int) : CallsA Try.prog GT gbT 3 [.v (.agg [.str nm, .int .i64 ra, .int .i64 dec]), .v (.c (.d (.int .i64 t))), .v (.c (.d (.int .i64 p))), .v (.c (.d (.int .i64 ((100 : Nat) : Int))))] [] (rB true) [] := by
  have hw := wl_100 nm ra dec t p (fun v M => some (Res.fin v M))
  rw [lawTM_ok] at hw
  exact CallsA.ofEv (Γ := (inl Try.prog GT EQT XT [11] T_tref 400 1)) (X := XT) (Λ := noL) (EQ := EQT) (n := 100) (g_tref.inl hEQT hmT (fun f hf => by simp only [List.mem_cons, List.not_mem_nil, or_false] at hf; subst hf; exact (fun args w => Try.call11 args w)) 400 1) hEQT hmT (fun _ _ _ _ => noL_ok _) hw

end Go.Ev
