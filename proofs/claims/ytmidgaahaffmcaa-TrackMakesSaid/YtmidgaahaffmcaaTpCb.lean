/-
  TrackMakes, value by value of the length of a path. No condition beyond those of the statements.
-/
import Derived.Test.YtmidgaahaffmcaaTpB
namespace Go.Ev
open Go Go.Proofs

set_option maxRecDepth 100000 in
theorem wl_55 (nm : ByteArray) (ra dec t p : Int) (K : AV → List Blk → Ans) : evFn Try.prog GT EQT (inl Try.prog GT EQT XT [11] T_tref 400 1) XT noL 100 3 [.v (.agg [.str nm, .int .i64 ra, .int .i64 dec]), .v (.c (.d (.int .i64 t))), .v (.c (.d (.int .i64 p))), .v (.c (.d (.int .i64 55)))] [] (fun v M => K v (M.take ([] : List Blk).length)) = lawTM K ⟨nm, ra, dec⟩ t p 55 := by
  kernel_rfl
theorem cl_55 (nm : ByteArray) (ra dec t p : Int) : CallsA Try.prog GT gbT 3 [.v (.agg [.str nm, .int .i64 ra, .int .i64 dec]), .v (.c (.d (.int .i64 t))), .v (.c (.d (.int .i64 p))), .v (.c (.d (.int .i64 ((55 : Nat) : Int))))] [] (rB true) [] := by
  have hw := wl_55 nm ra dec t p (fun v M => some (Res.fin v M))
  rw [lawTM_ok] at hw
  exact CallsA.ofEv (Γ := (inl Try.prog GT EQT XT [11] T_tref 400 1)) (X := XT) (Λ := noL) (EQ := EQT) (n := 100) (g_tref.inl hEQT hmT (fun f hf => by simp only [List.mem_cons, List.not_mem_nil, or_false] at hf; subst hf; exact (fun args w => Try.call11 args w)) 400 1) hEQT hmT (fun _ _ _ _ => noL_ok _) hw

set_option maxRecDepth 100000 in
theorem wl_56 (nm : ByteArray) (ra dec t p : Int) (K : AV → List Blk → Ans) : evFn Try.prog GT EQT (inl Try.prog GT EQT XT [11] T_tref 400 1) XT noL 100 3 [.v (.agg [.str nm, .int .i64 ra, .int .i64 dec]), .v (.c (.d (.int .i64 t))), .v (.c (.d (.int .i64 p))), .v (.c (.d (.int .i64 56)))] [] (fun v M => K v (M.take ([] : List Blk).length)) = lawTM K ⟨nm, ra, dec⟩ t p 56 := by
  kernel_rfl
theorem cl_56 (nm : ByteArray) (ra dec t p : Int) : CallsA Try.prog GT gbT 3 [.v (.agg [.str nm, .int .i64 ra, .int .i64 dec]), .v (.c (.d (.int .i64 t))), .v (.c (.d (.int .i64 p))), .v (.c (.d (.int .i64 ((56 : Nat) : Int))))] [] (rB true) [] := by
  have hw := wl_56 nm ra dec t p (fun v M => some (Res.fin v M))
  rw [lawTM_ok] at hw
  exact CallsA.ofEv (Γ := (inl Try.prog GT EQT XT [11] T_tref 400 1)) (X := XT) (Λ := noL) (EQ := EQT) (n := 100) (g_tref.inl hEQT hmT (fun f hf => by simp only [List.mem_cons, List.not_mem_nil, or_false] at hf; subst hf; exact (fun args w => Try.call11 args w)) 400 1) hEQT hmT (fun _ _ _ _ => noL_ok _) hw

set_option maxRecDepth 100000 in
theorem wl_57 (nm : ByteArray) (ra dec t p : Int) (K : AV → List Blk → Ans) : evFn Try.prog GT EQT (inl Try.prog GT EQT XT [11] T_tref 400 1) XT noL 100 3 [.v (.agg [.str nm, .int .i64 ra, .int .i64 dec]), .v (.c (.d (.int .i64 t))), .v (.c (.d (.int .i64 p))), .v (.c (.d (.int .i64 57)))] [] (fun v M => K v (M.take ([] : List Blk).length)) = lawTM K ⟨nm, ra, dec⟩ t p 57 := by
  kernel_rfl
theorem cl_57 (nm : ByteArray) (ra dec t p : Int) : CallsA Try.prog GT gbT 3 [.v (.agg [.str nm, .int .i64 ra, .int .i64 dec]), .v (.c (.d (.int .i64 t))), .v (.c (.d (.int .i64 p))), .v (.c (.d (.int .i64 ((57 : Nat) : Int))))] [] (rB true) [] := by
  have hw := wl_57 nm ra dec t p (fun v M => some (Res.fin v M))
  rw [lawTM_ok] at hw
  exact CallsA.ofEv (Γ := (inl Try.prog GT EQT XT [11] T_tref 400 1)) (X := XT) (Λ := noL) (EQ := EQT) (n := 100) (g_tref.inl hEQT hmT (fun f hf => by simp only [List.mem_cons, List.not_mem_nil, or_false] at hf; subst hf; exact (fun args w => Try.call11 args w)) 400 1) hEQT hmT (fun _ _ _ _ => noL_ok _) hw

set_option maxRecDepth 100000 in
theorem wl_58 (nm : ByteArray) (ra dec t p : Int) (K : AV → List Blk → Ans) : evFn Try.prog GT EQT (inl Try.prog GT EQT XT [11] T_tref 400 1) XT noL 100 3 [.v (.agg [.str nm, .int .i64 ra, .int .i64 dec]), .v (.c (.d (.int .i64 t))), .v (.c (.d (.int .i64 p))), .v (.c (.d (.int .i64 58)))] [] (fun v M => K v (M.take ([] : List Blk).length)) = lawTM K ⟨nm, ra, dec⟩ t p 58 := by
  kernel_rfl
theorem cl_58 (nm : ByteArray) (ra dec t p : Int) : CallsA Try.prog GT gbT 3 [.v (.agg [.str nm, .int .i64 ra, .int .i64 dec]), .v (.c (.d (.int .i64 t))), .v (.c (.d (.int .i64 p))), .v (.c (.d (.int .i64 ((58 : Nat) : Int))))] [] (rB true) [] := by
  have hw := wl_58 nm ra dec t p (fun v M => some (Res.fin v M))
  rw [lawTM_ok] at hw
  exact CallsA.ofEv (Γ := (inl Try.prog GT EQT XT [11] T_tref 400 1)) (X := XT) (Λ := noL) (EQ := EQT) (n := 100) (g_tref.inl hEQT hmT (fun f hf => by simp only [List.mem_cons, List.not_mem_nil, or_false] at hf; subst hf; exact (fun args w => Try.call11 args w)) 400 1) hEQT hmT (fun _ _ _ _ => noL_ok _) hw

set_option maxRecDepth 100000 in
theorem wl_59 (nm : ByteArray) (ra dec t p : Int) (K : AV → List Blk → Ans) : evFn Try.prog GT EQT (inl Try.prog GT EQT XT [11] T_tref 400 1) XT noL 100 3 [.v (.agg [.str nm, .int .i64 ra, .int .i64 dec]), .v (.c (.d (.int .i64 t))), .v (.c (.d (.int .i64 p))), .v (.c (.d (.int .i64 59)))] [] (fun v M => K v (M.take ([] : List Blk).length)) = lawTM K ⟨nm, ra, dec⟩ t p 59 := by
  kernel_rfl
theorem cl_59 (nm : ByteArray) (ra dec t p : Int) : CallsA Try.prog GT gbT 3 [.v (.agg [.str nm, .int .i64 ra, .int .i64 dec]), .v (.c (.d (.int .i64 t))), .v (.c (.d (.int .i64 p))), .v (.c (.d (.int .i64 ((59 : Nat) : Int))))] [] (rB true) [] := by
  have hw := wl_59 nm ra dec t p (fun v M => some (Res.fin v M))
  rw [lawTM_ok] at hw
  exact CallsA.ofEv (Γ := (inl Try.prog GT EQT XT [11] T_tref 400 1)) (X := XT) (Λ := noL) (EQ := EQT) (n := 100) (g_tref.inl hEQT hmT (fun f hf => by simp only [List.mem_cons, List.not_mem_nil, or_false] at hf; subst hf; exact (fun args w => Try.call11 args w)) 400 1) hEQT hmT (fun _ _ _ _ => noL_ok _) hw

set_option maxRecDepth 100000 in
theorem wl_60 (nm : ByteArray) (ra dec t p : Int) (K : AV → List Blk → Ans) : evFn Try.prog GT EQT (inl Try.prog GT EQT XT [11] T_tref 400 1) XT noL 100 3 [.v (.agg [.str nm, .int .i64 ra, .int .i64 dec]), .v (.c (.d (.int .i64 t))), .v (.c (.d (.int .i64 p))), .v (.c (.d (.int .i64 60)))] [] (fun v M => K v (M.take ([] : List Blk).length)) = lawTM K ⟨nm, ra, dec⟩ t p 60 := by
  kernel_rfl
theorem cl_60 (nm : ByteArray) (ra dec t p : Int) : CallsA Try.prog GT gbT 3 [.v (.agg [.str nm, .int .i64 ra, .int .i64 dec]), .v (.c (.d (.int .i64 t))), .v (.c (.d (.int .i64 p))), .v (.c (.d (.int .i64 ((60 : Nat) : Int))))] [] (rB true) [] := by
  have hw := wl_60 nm ra dec t p (fun v M => some (Res.fin v M))
  rw [lawTM_ok] at hw
  exact CallsA.ofEv (Γ := (inl Try.prog GT EQT XT [11] T_tref 400 1)) (X := XT) (Λ := noL) (EQ := EQT) (n := 100) (g_tref.inl hEQT hmT (fun f hf => by simp only [List.mem_cons, List.not_mem_nil, or_false] at hf; subst hf; exact (fun args w => Try.call11 args w)) 400 1) hEQT hmT (fun _ _ _ _ => noL_ok _) hw

set_option maxRecDepth 100000 in
theorem wl_61 (nm : ByteArray) (ra dec t p : Int) (K : AV → List Blk → Ans) : evFn Try.prog GT EQT (inl Try.prog GT EQT XT [11] T_tref 400 1) XT noL 100 3 [.v (.agg [.str nm, .int .i64 ra, .int .i64 dec]), .v (.c (.d (.int .i64 t))), .v (.c (.d (.int .i64 p))), .v (.c (.d (.int .i64 61)))] [] (fun v M => K v (M.take ([] : List Blk).length)) = lawTM K ⟨nm, ra, dec⟩ t p 61 := by
  kernel_rfl
theorem cl_61 (nm : ByteArray) (ra dec t p : Int) : CallsA Try.prog GT gbT 3 [.v (.agg [.str nm, .int .i64 ra, .int .i64 dec]), .v (.c (.d (.int .i64 t))), .v (.c (.d (.int .i64 p))), .v (.c (.d (.int .i64 ((61 : Nat) : Int))))] [] (rB true) [] := by
  have hw := wl_61 nm ra dec t p (fun v M => some (Res.fin v M))
  rw [lawTM_ok] at hw
  exact CallsA.ofEv (Γ := (inl Try.prog GT EQT XT [11] T_tref 400 1)) (X := XT) (Λ := noL) (EQ := EQT) (n := 100) (g_tref.inl hEQT hmT (fun f hf => by simp only [List.mem_cons, List.not_mem_nil, or_false] at hf; subst hf; exact (fun args w => Try.call11 args w)) 400 1) hEQT hmT (fun _ _ _ _ => noL_ok _) hw

set_option maxRecDepth 100000 in
theorem wl_62 (nm : ByteArray) (ra dec t p : Int) (K : AV → List Blk → Ans) : evFn Try.prog GT EQT (inl Try.prog GT EQT XT [11] T_tref 400 1) XT noL 100 3 [.v (.agg [.str nm, .int .i64 ra, .int .i64 dec]), .v (.c (.d (.int .i64 t))), .v (.c (.d (.int .i64 p))), .v (.c (.d (.int .i64 62)))] [] (fun v M => K v (M.take ([] : List Blk).length)) = lawTM K ⟨nm, ra, dec⟩ t p 62 := by
  kernel_rfl
theorem cl_62 (nm : ByteArray) (ra dec t p : Int) : CallsA Try.prog GT gbT 3 [.v (.agg [.str nm, .int .i64 ra, .int .i64 dec]), .v (.c (.d (.int .i64 t))), .v (.c (.d (.int .i64 p))), .v (.c (.d (.int .i64 ((62 : Nat) : Int))))] [] (rB true) [] := by
  have hw := wl_62 nm ra dec t p (fun v M => some (Res.fin v M))
  rw [lawTM_ok] at hw
  exact CallsA.ofEv (Γ := (inl Try.prog GT EQT XT [11] T_tref 400 1)) (X := XT) (Λ := noL) (EQ := EQT) (n := 100) (g_tref.inl hEQT hmT (fun f hf => by simp only [List.mem_cons, List.not_mem_nil, or_false] at hf; subst hf; exact (fun args w => Try.call11 args w)) 400 1) hEQT hmT (fun _ _ _ _ => noL_ok _) hw

set_option maxRecDepth 100000 in
theorem wl_63 (nm : ByteArray) (ra dec t p : Int) (K : AV → List Blk → Ans) : evFn Try.prog GT EQT (inl Try.prog GT EQT XT [11] T_tref 400 1) XT noL 100 3 [.v (.agg [.str nm, .int .i64 ra, .int .i64 dec]), .v (.c (.d (.int .i64 t))), .v (.c (.d (.int .i64 p))), .v (.c (.d (.int .i64 63)))] [] (fun v M => K v (M.take ([] : List Blk).length)) = lawTM K ⟨nm, ra, dec⟩ t p 63 := by
  kernel_rfl
theorem cl_63 (nm : ByteArray) (ra dec t p : Int) : CallsA Try.prog GT gbT 3 [.v (.agg [.str nm, .int .i64 ra, .int .i64 dec]), .v (.c (.d (.int .i64 t))), .v (.c (.d (.int .i64 p))), .v (.c (.d (.int .i64 ((63 : Nat) : Int))))] [] (rB true) [] := by
  have hw := wl_63 nm ra dec t p (fun v M => some (Res.fin v M))
  rw [lawTM_ok] at hw
  exact CallsA.ofEv (Γ := (inl Try.prog GT EQT XT [11] T_tref 400 1)) (X := XT) (Λ := noL) (EQ := EQT) (n := 100) (g_tref.inl hEQT hmT (fun f hf => by simp only [List.mem_cons, List.not_mem_nil, or_false] at hf; subst hf; exact (fun args w => Try.call11 args w)) 400 1) hEQT hmT (fun _ _ _ _ => noL_ok _) hw

set_option maxRecDepth 100000 in
theorem wl_64 (nm : ByteArray) (ra dec t p : Int) (K : AV → List Blk → Ans) : evFn Try.prog GT EQT (inl Try.prog GT EQT XT [11] T_tref 400 1) XT noL 100 3 [.v (.agg [.str nm, .int .i64 ra, .int .i64 dec]), .v (.c (.d (.int .i64 t))), .v (.c (.d (.int .i64 p))), .v (.c (.d (.int .i64 64)))] [] (fun v M => K v (M.take ([] : List Blk).length)) = lawTM K ⟨nm, ra, dec⟩ t p 64 := by
  kernel_rfl
theorem cl_64 (nm : ByteArray) (ra dec t p : Int) : CallsA Try.prog GT gbT 3 [.v (.agg [.str nm, .int .i64 ra, .int .i64 dec]), .v (.c (.d (.int .i64 t))), .v (.c (.d (.int .i64 p))), .v (.c (.d (.int .i64 ((64 : Nat) : Int))))] [] (rB true) [] := by
  have hw := wl_64 nm ra dec t p (fun v M => some (Res.fin v M))
  rw [lawTM_ok] at hw
  exact CallsA.ofEv (Γ := (inl Try.prog GT EQT XT [11] T_tref 400 1)) (X := XT) (Λ := noL) (EQ := EQT) (n := 100) (g_tref.inl hEQT hmT (fun f hf => by simp only [List.mem_cons, List.not_mem_nil, or_false] at hf; subst hf; exact (fun args w => Try.call11 args w)) 400 1) hEQT hmT (fun _ _ _ _ => noL_ok _) hw

set_option maxRecDepth 100000 in
theorem wl_65 (nm : ByteArray) (ra dec t p : Int) (K : AV → List Blk → Ans) : evFn Try.prog GT EQT (inl Try.prog GT EQT XT [11] T_tref 400 1) XT noL 100 3 [.v (.agg [.str nm, .int .i64 ra, .int .i64 dec]), .v (.c (.d (.int .i64 t))), .v (.c (.d (.int .i64 p))), .v (.c (.d (.int .i64 65)))] [] (fun v M => K v (M.take ([] : List Blk).length)) = lawTM K ⟨nm, ra, dec⟩ t p 65 := by
  kernel_rfl
theorem cl_65 (nm : ByteArray) (ra dec t p : Int) : CallsA Try.prog GT gbT 3 [.v (.agg [.str nm, .int .i64 ra, .int .i64 dec]), .v (.c (.d (.int .i64 t))), .v (.c (.d (.int .i64 p))), .v (.c (.d (.int .i64 ((65 : Nat) : Int))))] [] (rB true) [] := by
  have hw := wl_65 nm ra dec t p (fun v M => some (Res.fin v M))
  rw [lawTM_ok] at hw
  exact CallsA.ofEv (Γ := (inl Try.prog GT EQT XT [11] T_tref 400 1)) (X := XT) (Λ := noL) (EQ := EQT) (n := 100) (g_tref.inl hEQT hmT (fun f hf => by simp only [List.mem_cons, List.not_mem_nil, or_false] at hf; subst hf; exact (fun args w => Try.call11 args w)) 400 1) hEQT hmT (fun _ _ _ _ => noL_ok _) hw

set_option maxRecDepth 100000 in
theorem wl_66 (nm : ByteArray) (ra dec t p : Int) (K : AV → List Blk → Ans) : evFn Try.prog GT EQT (inl Try.prog GT EQT XT [11] T_tref 400 1) XT noL 100 3 [.v (.agg [.str nm, .int .i64 ra, .int .i64 dec]), .v (.c (.d (.int .i64 t))), .v (.c (.d (.int .i64 p))), .v (.c (.d (.int .i64 66)))] [] (fun v M => K v (M.take ([] : List Blk).length)) = lawTM K ⟨nm, ra, dec⟩ t p 66 := by
  kernel_rfl
theorem cl_66 (nm : ByteArray) (ra dec t p : Int) : CallsA Try.prog GT gbT 3 [.v (.agg [.str nm, .int .i64 ra, .int .i64 dec]), .v (.c (.d (.int .i64 t))), .v (.c (.d (.int .i64 p))), .v (.c (.d (.int .i64 ((66 : Nat) : Int))))] [] (rB true) [] := by
  have hw := wl_66 nm ra dec t p (fun v M => some (Res.fin v M))
  rw [lawTM_ok] at hw
  exact CallsA.ofEv (Γ := (inl Try.prog GT EQT XT [11] T_tref 400 1)) (X := XT) (Λ := noL) (EQ := EQT) (n := 100) (g_tref.inl hEQT hmT (fun f hf => by simp only [List.mem_cons, List.not_mem_nil, or_false] at hf; subst hf; exact (fun args w => Try.call11 args w)) 400 1) hEQT hmT (fun _ _ _ _ => noL_ok _) hw

set_option maxRecDepth 100000 in
theorem wl_67 (nm : ByteArray) (ra dec t p : Int) (K : AV → List Blk → Ans) : evFn Try.prog GT EQT (inl Try.prog GT EQT XT [11] T_tref 400 1) XT noL 100 3 [.v (.agg [.str nm, .int .i64 ra, .int .i64 dec]), .v (.c (.d (.int .i64 t))), .v (.c (.d (.int .i64 p))), .v (.c (.d (.int .i64 67)))] [] (fun v M => K v (M.take ([] : List Blk).length)) = lawTM K ⟨nm, ra, dec⟩ t p 67 := by
  kernel_rfl
theorem cl_67 (nm : ByteArray) (ra dec t p : Int) : CallsA Try.prog GT gbT 3 [.v (.agg [.str nm, .int .i64 ra, .int .i64 dec]), .v (.c (.d (.int .i64 t))), .v (.c (.d (.int .i64 p))), .v (.c (.d (.int .i64 ((67 : Nat) : Int))))] [] (rB true) [] := by
  have hw := wl_67 nm ra dec t p (fun v M => some (Res.fin v M))
  rw [lawTM_ok] at hw
  exact CallsA.ofEv (Γ := (inl Try.prog GT EQT XT [11] T_tref 400 1)) (X := XT) (Λ := noL) (EQ := EQT) (n := 100) (g_tref.inl hEQT hmT (fun f hf => by simp only [List.mem_cons, List.not_mem_nil, or_false] at hf; subst hf; exact (fun args w => Try.call11 args w)) 400 1) hEQT hmT (fun _ _ _ _ => noL_ok _) hw

set_option maxRecDepth 100000 in
theorem wl_68 (nm : ByteArray) (ra dec t p : Int) (K : AV → List Blk → Ans) : evFn Try.prog GT EQT (inl Try.prog GT EQT XT [11] T_tref 400 1) XT noL 100 3 [.v (.agg [.str nm, .int .i64 ra, .int .i64 dec]), .v (.c (.d (.int .i64 t))), .v (.c (.d (.int .i64 p))), .v (.c (.d (.int .i64 68)))] [] (fun v M => K v (M.take ([] : List Blk).length)) = lawTM K ⟨nm, ra, dec⟩ t p 68 := by
  kernel_rfl
theorem cl_68 (nm : ByteArray) (ra dec t p : Int) : CallsA Try.prog GT gbT 3 [.v (.agg [.str nm, .int .i64 ra, .int .i64 dec]), .v (.c (.d (.int .i64 t))), .v (.c (.d (.int .i64 p))), .v (.c (.d (.int .i64 ((68 : Nat) : Int))))] [] (rB true) [] := by
  have hw := wl_68 nm ra dec t p (fun v M => some (Res.fin v M))
  rw [lawTM_ok] at hw
  exact CallsA.ofEv (Γ := (inl Try.prog GT EQT XT [11] T_tref 400 1)) (X := XT) (Λ := noL) (EQ := EQT) (n := 100) (g_tref.inl hEQT hmT (fun f hf => by simp only [List.mem_cons, List.not_mem_nil, or_false] at hf; subst hf; exact (fun args w => Try.call11 args w)) 400 1) hEQT hmT (fun _ _ _ _ => noL_ok _) hw

set_option maxRecDepth 100000 in
theorem wl_69 (nm : ByteArray) (ra dec t p : Int) (K : AV → List Blk → Ans) : evFn Try.prog GT EQT (inl Try.prog GT EQT XT [11] T_tref 400 1) XT noL 100 3 [.v (.agg [.str nm, .int .i64 ra, .int .i64 dec]), .v (.c (.d (.int .i64 t))), .v (.c (.d (.int .i64 p))), .v (.c (.d (.int .i64 69)))] [] (fun v M => K v (M.take ([] : List Blk).length)) = lawTM K ⟨nm, ra, dec⟩ t p 69 := by
  kernel_rfl
theorem cl_69 (nm : ByteArray) (ra dec t p : Int) : CallsA Try.prog GT gbT 3 [.v (.agg [.str nm, .int .i64 ra, .int .i64 dec]), .v (.c (.d (.int .i64 t))), .v (.c (.d (.int .i64 p))), .v (.c (.d (.int .i64 ((69 : Nat) : Int))))] [] (rB true) [] := by
  have hw := wl_69 nm ra dec t p (fun v M => some (Res.fin v M))
  rw [lawTM_ok] at hw
  exact CallsA.ofEv (Γ := (inl Try.prog GT EQT XT [11] T_tref 400 1)) (X := XT) (Λ := noL) (EQ := EQT) (n := 100) (g_tref.inl hEQT hmT (fun f hf => by simp only [List.mem_cons, List.not_mem_nil, or_false] at hf; subst hf; exact (fun args w => Try.call11 args w)) 400 1) hEQT hmT (fun _ _ _ _ => noL_ok _) hw

set_option maxRecDepth 100000 in
theorem wl_70 (nm : ByteArray) (ra dec t p : Int) (K : AV → List Blk → Ans) : evFn Try.prog GT EQT (inl Try.prog GT EQT XT [11] T_tref 400 1) XT noL 100 3 [.v (.agg [.str nm, .int .i64 ra, .int .i64 dec]), .v (.c (.d (.int .i64 t))), .v (.c (.d (.int .i64 p))), .v (.c (.d (.int .i64 70)))] [] (fun v M => K v (M.take ([] : List Blk).length)) = lawTM K ⟨nm, ra, dec⟩ t p 70 := by
  kernel_rfl
theorem cl_70 (nm : ByteArray) (ra dec t p : Int) : CallsA Try.prog GT gbT 3 [.v (.agg [.str nm, .int .i64 ra, .int .i64 dec]), .v (.c (.d (.int .i64 t))), .v (.c (.d (.int .i64 p))), .v (.c (.d (.int .i64 ((70 : Nat) : Int))))] [] (rB true) [] := by
  have hw := wl_70 nm ra dec t p (fun v M => some (Res.fin v M))
  rw [lawTM_ok] at hw
  exact CallsA.ofEv (Γ := (inl Try.prog GT EQT XT [11] T_tref 400 1)) (X := XT) (Λ := noL) (EQ := EQT) (n := 100) (g_tref.inl hEQT hmT (fun f hf => by simp only [List.mem_cons, List.not_mem_nil, or_false] at hf; subst hf; exact (fun args w => Try.call11 args w)) 400 1) hEQT hmT (fun _ _ _ _ => noL_ok _) hw

set_option maxRecDepth 100000 in
theorem wl_71 (nm : ByteArray) (ra dec t p : Int) (K : AV → List Blk → Ans) : evFn Try.prog GT EQT (inl Try.prog GT EQT XT [11] T_tref 400 1) XT noL 100 3 [.v (.agg [.str nm, .int .i64 ra, .int .i64 dec]), .v (.c (.d (.int .i64 t))), .v (.c (.d (.int .i64 p))), .v (.c (.d (.int .i64 71)))] [] (fun v M => K v (M.take ([] : List Blk).length)) = lawTM K ⟨nm, ra, dec⟩ t p 71 := by
  kernel_rfl
theorem cl_71 (nm : ByteArray) (ra dec t p : Int) : CallsA Try.prog GT gbT 3 [.v (.agg [.str nm, .int .i64 ra, .int .i64 dec]), .v (.c (.d (.int .i64 t))), .v (.c (.d (.int .i64 p))), .v (.c (.d (.int .i64 ((71 : Nat) : Int))))] [] (rB true) [] := by
  have hw := wl_71 nm ra dec t p (fun v M => some (Res.fin v M))
  rw [lawTM_ok] at hw
  exact CallsA.ofEv (Γ := (inl Try.prog GT EQT XT [11] T_tref 400 1)) (X := XT) (Λ := noL) (EQ := EQT) (n := 100) (g_tref.inl hEQT hmT (fun f hf => by simp only [List.mem_cons, List.not_mem_nil, or_false] at hf; subst hf; exact (fun args w => Try.call11 args w)) 400 1) hEQT hmT (fun _ _ _ _ => noL_ok _) hw

set_option maxRecDepth 100000 in
theorem wl_72 (nm : ByteArray) (ra dec t p : Int) (K : AV → List Blk → Ans) : evFn Try.prog GT EQT (inl Try.prog GT EQT XT [11] T_tref 400 1) XT noL 100 3 [.v (.agg [.str nm, .int .i64 ra, .int .i64 dec]), .v (.c (.d (.int .i64 t))), .v (.c (.d (.int .i64 p))), .v (.c (.d (.int .i64 72)))] [] (fun v M => K v (M.take ([] : List Blk).length)) = lawTM K ⟨nm, ra, dec⟩ t p 72 := by
  kernel_rfl
theorem cl_72 (nm : ByteArray) (ra dec t p : Int) : CallsA Try.prog GT gbT 3 [.v (.agg [.str nm, .int .i64 ra, .int .i64 dec]), .v (.c (.d (.int .i64 t))), .v (.c (.d (.int .i64 p))), .v (.c (.d (.int .i64 ((72 : Nat) : Int))))] [] (rB true) [] := by
  have hw := wl_72 nm ra dec t p (fun v M => some (Res.fin v M))
  rw [lawTM_ok] at hw
  exact CallsA.ofEv (Γ := (inl Try.prog GT EQT XT [11] T_tref 400 1)) (X := XT) (Λ := noL) (EQ := EQT) (n := 100) (g_tref.inl hEQT hmT (fun f hf => by simp only [List.mem_cons, List.not_mem_nil, or_false] at hf; subst hf; exact (fun args w => Try.call11 args w)) 400 1) hEQT hmT (fun _ _ _ _ => noL_ok _) hw

set_option maxRecDepth 100000 in
theorem wl_73 (nm : ByteArray) (ra dec t p : Int) (K : AV → List Blk → Ans) : evFn Try.prog GT EQT (inl Try.prog GT EQT XT [11] T_tref 400 1) XT noL 100 3 [.v (.agg [.str nm, .int .i64 ra, .int .i64 dec]), .v (.c (.d (.int .i64 t))), .v (.c (.d (.int .i64 p))), .v (.c (.d (.int .i64 73)))] [] (fun v M => K v (M.take ([] : List Blk).length)) = lawTM K ⟨nm, ra, dec⟩ t p 73 := by
  kernel_rfl
theorem cl_73 (nm : ByteArray) (ra dec t p : Int) : CallsA Try.prog GT gbT 3 [.v (.agg [.str nm, .int .i64 ra, .int .i64 dec]), .v (.c (.d (.int .i64 t))), .v (.c (.d (.int .i64 p))), .v (.c (.d (.int .i64 ((73 : Nat) : Int))))] [] (rB true) [] := by
  have hw := wl_73 nm ra dec t p (fun v M => some (Res.fin v M))
  rw [lawTM_ok] at hw
  exact CallsA.ofEv (Γ := (inl Try.prog GT EQT XT [11] T_tref 400 1)) (X := XT) (Λ := noL) (EQ := EQT) (n := 100) (g_tref.inl hEQT hmT (fun f hf => by simp only [List.mem_cons, List.not_mem_nil, or_false] at hf; subst hf; exact (fun args w => Try.call11 args w)) 400 1) hEQT hmT (fun _ _ _ _ => noL_ok _) hw

end Go.Ev
