/-
  Contracts of functions: what each returns. No condition beyond those of the statements.
-/
import Derived.Test.YtmiibelbmikieaaDoorVxCD
import Derived.Test.YtmiibelbmikieaaDoorVecGr
namespace Go.Ev
open Go Go.Proofs

set_option maxRecDepth 100000 in
/-- fringelaw02.VecMatrices -/
theorem w_fringelaw02_VecMatrices (m1 m2 m3 m4 m5 m6 m7 m8 m9 m10 m11 m12 m13 m14 m15 m16 m17 m18 n1 n2 n3 n4 n5 n6 n7 n8 n9 n10 n11 n12 n13 n14 n15 n16 n17 n18 v1 v2 v3 v4 v5 v6 x t1 t2 : Int) (K : AV → List Blk → Ans) : evFn Tryd.prog GT EQT T_fringelaw02_small XT noL 120 5 [.v (.agg [.int .i64 m1, .int .i64 m2, .int .i64 m3, .int .i64 m4, .int .i64 m5, .int .i64 m6, .int .i64 m7, .int .i64 m8, .int .i64 m9, .int .i64 m10, .int .i64 m11, .int .i64 m12, .int .i64 m13, .int .i64 m14, .int .i64 m15, .int .i64 m16, .int .i64 m17, .int .i64 m18]), .v (.agg [.int .i64 n1, .int .i64 n2, .int .i64 n3, .int .i64 n4, .int .i64 n5, .int .i64 n6, .int .i64 n7, .int .i64 n8, .int .i64 n9, .int .i64 n10, .int .i64 n11, .int .i64 n12, .int .i64 n13, .int .i64 n14, .int .i64 n15, .int .i64 n16, .int .i64 n17, .int .i64 n18]), .v (.agg [.int .i64 v1, .int .i64 v2, .int .i64 v3, .int .i64 v4, .int .i64 v5, .int .i64 v6]), .v (.c (.d (.int .i64 x))), .v (.agg [.int .i64 t1, .int .i64 t2])] [] (fun v M => K v (M.take ([] : List Blk).length)) = lawVecMatrices K ⟨⟨⟨m1, m2⟩, ⟨m3, m4⟩, ⟨m5, m6⟩⟩, ⟨⟨m7, m8⟩, ⟨m9, m10⟩, ⟨m11, m12⟩⟩, ⟨⟨m13, m14⟩, ⟨m15, m16⟩, ⟨m17, m18⟩⟩⟩ ⟨⟨⟨n1, n2⟩, ⟨n3, n4⟩, ⟨n5, n6⟩⟩, ⟨⟨n7, n8⟩, ⟨n9, n10⟩, ⟨n11, n12⟩⟩, ⟨⟨n13, n14⟩, ⟨n15, n16⟩, ⟨n17, n18⟩⟩⟩ ⟨⟨v1, v2⟩, ⟨v3, v4⟩, ⟨v5, v6⟩⟩ x ⟨t1, t2⟩ := by
  kernel_rfl
set_option maxRecDepth 100000 in
theorem c_fringelaw02_VecMatrices (m1 m2 m3 m4 m5 m6 m7 m8 m9 m10 m11 m12 m13 m14 m15 m16 m17 m18 n1 n2 n3 n4 n5 n6 n7 n8 n9 n10 n11 n12 n13 n14 n15 n16 n17 n18 v1 v2 v3 v4 v5 v6 x t1 t2 : Int) : CallsA Tryd.prog GT gbT 5 [.v (.agg [.int .i64 m1, .int .i64 m2, .int .i64 m3, .int .i64 m4, .int .i64 m5, .int .i64 m6, .int .i64 m7, .int .i64 m8, .int .i64 m9, .int .i64 m10, .int .i64 m11, .int .i64 m12, .int .i64 m13, .int .i64 m14, .int .i64 m15, .int .i64 m16, .int .i64 m17, .int .i64 m18]), .v (.agg [.int .i64 n1, .int .i64 n2, .int .i64 n3, .int .i64 n4, .int .i64 n5, .int .i64 n6, .int .i64 n7, .int .i64 n8, .int .i64 n9, .int .i64 n10, .int .i64 n11, .int .i64 n12, .int .i64 n13, .int .i64 n14, .int .i64 n15, .int .i64 n16, .int .i64 n17, .int .i64 n18]), .v (.agg [.int .i64 v1, .int .i64 v2, .int .i64 v3, .int .i64 v4, .int .i64 v5, .int .i64 v6]), .v (.c (.d (.int .i64 x))), .v (.agg [.int .i64 t1, .int .i64 t2])] [] (rB true) [] := by
  refine CallsA.ofOk fun hok => ?_
  have hw := w_fringelaw02_VecMatrices m1 m2 m3 m4 m5 m6 m7 m8 m9 m10 m11 m12 m13 m14 m15 m16 m17 m18 n1 n2 n3 n4 n5 n6 n7 n8 n9 n10 n11 n12 n13 n14 n15 n16 n17 n18 v1 v2 v3 v4 v5 v6 x t1 t2 (fun v M => some (Res.fin v M))
  refine CallsA.ofEv (Γ := T_fringelaw02_small) (X := XT) (Λ := noL) (EQ := EQT) (n := 120) g_fringelaw02_small hEQT hmT (fun _ _ _ _ => noL_ok _) (hw.trans ?_)
  have h_m1 := inR_i64 (hok (.int .i64 m1) (by simp [datasL, datas]))
  have h_m2 := inR_i64 (hok (.int .i64 m2) (by simp [datasL, datas]))
  have h_m3 := inR_i64 (hok (.int .i64 m3) (by simp [datasL, datas]))
  have h_m4 := inR_i64 (hok (.int .i64 m4) (by simp [datasL, datas]))
  have h_m5 := inR_i64 (hok (.int .i64 m5) (by simp [datasL, datas]))
  have h_m6 := inR_i64 (hok (.int .i64 m6) (by simp [datasL, datas]))
  have h_m7 := inR_i64 (hok (.int .i64 m7) (by simp [datasL, datas]))
  have h_m8 := inR_i64 (hok (.int .i64 m8) (by simp [datasL, datas]))
  have h_m9 := inR_i64 (hok (.int .i64 m9) (by simp [datasL, datas]))
  have h_m10 := inR_i64 (hok (.int .i64 m10) (by simp [datasL, datas]))
  have h_m11 := inR_i64 (hok (.int .i64 m11) (by simp [datasL, datas]))
  have h_m12 := inR_i64 (hok (.int .i64 m12) (by simp [datasL, datas]))
  have h_m13 := inR_i64 (hok (.int .i64 m13) (by simp [datasL, datas]))
  have h_m14 := inR_i64 (hok (.int .i64 m14) (by simp [datasL, datas]))
  have h_m15 := inR_i64 (hok (.int .i64 m15) (by simp [datasL, datas]))
  have h_m16 := inR_i64 (hok (.int .i64 m16) (by simp [datasL, datas]))
  have h_m17 := inR_i64 (hok (.int .i64 m17) (by simp [datasL, datas]))
  have h_m18 := inR_i64 (hok (.int .i64 m18) (by simp [datasL, datas]))
  have h_n1 := inR_i64 (hok (.int .i64 n1) (by simp [datasL, datas]))
  have h_n2 := inR_i64 (hok (.int .i64 n2) (by simp [datasL, datas]))
  have h_n3 := inR_i64 (hok (.int .i64 n3) (by simp [datasL, datas]))
  have h_n4 := inR_i64 (hok (.int .i64 n4) (by simp [datasL, datas]))
  have h_n5 := inR_i64 (hok (.int .i64 n5) (by simp [datasL, datas]))
  have h_n6 := inR_i64 (hok (.int .i64 n6) (by simp [datasL, datas]))
  have h_n7 := inR_i64 (hok (.int .i64 n7) (by simp [datasL, datas]))
  have h_n8 := inR_i64 (hok (.int .i64 n8) (by simp [datasL, datas]))
  have h_n9 := inR_i64 (hok (.int .i64 n9) (by simp [datasL, datas]))
  have h_n10 := inR_i64 (hok (.int .i64 n10) (by simp [datasL, datas]))
  have h_n11 := inR_i64 (hok (.int .i64 n11) (by simp [datasL, datas]))
  have h_n12 := inR_i64 (hok (.int .i64 n12) (by simp [datasL, datas]))
  have h_n13 := inR_i64 (hok (.int .i64 n13) (by simp [datasL, datas]))
  have h_n14 := inR_i64 (hok (.int .i64 n14) (by simp [datasL, datas]))
  have h_n15 := inR_i64 (hok (.int .i64 n15) (by simp [datasL, datas]))
  have h_n16 := inR_i64 (hok (.int .i64 n16) (by simp [datasL, datas]))
  have h_n17 := inR_i64 (hok (.int .i64 n17) (by simp [datasL, datas]))
  have h_n18 := inR_i64 (hok (.int .i64 n18) (by simp [datasL, datas]))
  have h_v1 := inR_i64 (hok (.int .i64 v1) (by simp [datasL, datas]))
  have h_v2 := inR_i64 (hok (.int .i64 v2) (by simp [datasL, datas]))
  have h_v3 := inR_i64 (hok (.int .i64 v3) (by simp [datasL, datas]))
  have h_v4 := inR_i64 (hok (.int .i64 v4) (by simp [datasL, datas]))
  have h_v5 := inR_i64 (hok (.int .i64 v5) (by simp [datasL, datas]))
  have h_v6 := inR_i64 (hok (.int .i64 v6) (by simp [datasL, datas]))
  have h_x := inR_i64 (hok (.int .i64 x) (by simp [datasL, datas]))
  have h_t1 := inR_i64 (hok (.int .i64 t1) (by simp [datasL, datas]))
  have h_t2 := inR_i64 (hok (.int .i64 t2) (by simp [datasL, datas]))
  clear hok hw
  exact lawVecMatrices_ok (K := fun v M => some (Res.fin v M))

end Go.Ev
