/-
  TrackMakes, value by value of the length of a path. No condition beyond those of the statements.
-/
import Derived.Test.YtmidgaahaffmcaaTpCa
import Derived.Test.YtmidgaahaffmcaaTpCb
import Derived.Test.YtmidgaahaffmcaaTpCc
import Derived.Test.YtmidgaahaffmcaaTpCd
namespace Go.Ev
open Go Go.Proofs

theorem cl (nm : ByteArray) (ra dec t p : Int) : ∀ n : Nat, n ≤ 100 → CallsA Try.prog GT gbT 3 [.v (.agg [.str nm, .int .i64 ra, .int .i64 dec]), .v (.c (.d (.int .i64 t))), .v (.c (.d (.int .i64 p))), .v (.c (.d (.int .i64 (n : Int))))] [] (rB true) []
  | 0, _ => cl_0 nm ra dec t p
  | 1, _ => cl_1 nm ra dec t p
  | 2, _ => cl_2 nm ra dec t p
  | 3, _ => cl_3 nm ra dec t p
  | 4, _ => cl_4 nm ra dec t p
  | 5, _ => cl_5 nm ra dec t p
  | 6, _ => cl_6 nm ra dec t p
  | 7, _ => cl_7 nm ra dec t p
  | 8, _ => cl_8 nm ra dec t p
  | 9, _ => cl_9 nm ra dec t p
  | 10, _ => cl_10 nm ra dec t p
  | 11, _ => cl_11 nm ra dec t p
  | 12, _ => cl_12 nm ra dec t p
  | 13, _ => cl_13 nm ra dec t p
  | 14, _ => cl_14 nm ra dec t p
  | 15, _ => cl_15 nm ra dec t p
  | 16, _ => cl_16 nm ra dec t p
  | 17, _ => cl_17 nm ra dec t p
  | 18, _ => cl_18 nm ra dec t p
  | 19, _ => cl_19 nm ra dec t p
  | 20, _ => cl_20 nm ra dec t p
  | 21, _ => cl_21 nm ra dec t p
  | 22, _ => cl_22 nm ra dec t p
  | 23, _ => cl_23 nm ra dec t p
  | 24, _ => cl_24 nm ra dec t p
  | 25, _ => cl_25 nm ra dec t p
  | 26, _ => cl_26 nm ra dec t p
  | 27, _ => cl_27 nm ra dec t p
  | 28, _ => cl_28 nm ra dec t p
  | 29, _ => cl_29 nm ra dec t p
  | 30, _ => cl_30 nm ra dec t p
  | 31, _ => cl_31 nm ra dec t p
  | 32, _ => cl_32 nm ra dec t p
  | 33, _ => cl_33 nm ra dec t p
  | 34, _ => cl_34 nm ra dec t p
  | 35, _ => cl_35 nm ra dec t p
  | 36, _ => cl_36 nm ra dec t p
  | 37, _ => cl_37 nm ra dec t p
  | 38, _ => cl_38 nm ra dec t p
  | 39, _ => cl_39 nm ra dec t p
  | 40, _ => cl_40 nm ra dec t p
  | 41, _ => cl_41 nm ra dec t p
  | 42, _ => cl_42 nm ra dec t p
  | 43, _ => cl_43 nm ra dec t p
  | 44, _ => cl_44 nm ra dec t p
  | 45, _ => cl_45 nm ra dec t p
  | 46, _ => cl_46 nm ra dec t p
  | 47, _ => cl_47 nm ra dec t p
  | 48, _ => cl_48 nm ra dec t p
  | 49, _ => cl_49 nm ra dec t p
  | 50, _ => cl_50 nm ra dec t p
  | 51, _ => cl_51 nm ra dec t p
  | 52, _ => cl_52 nm ra dec t p
  | 53, _ => cl_53 nm ra dec t p
  | 54, _ => cl_54 nm ra dec t p
  | 55, _ => cl_55 nm ra dec t p
  | 56, _ => cl_56 nm ra dec t p
  | 57, _ => cl_57 nm ra dec t p
  | 58, _ => cl_58 nm ra dec t p
  | 59, _ => cl_59 nm ra dec t p
  | 60, _ => cl_60 nm ra dec t p
  | 61, _ => cl_61 nm ra dec t p
  | 62, _ => cl_62 nm ra dec t p
  | 63, _ => cl_63 nm ra dec t p
  | 64, _ => cl_64 nm ra dec t p
  | 65, _ => cl_65 nm ra dec t p
  | 66, _ => cl_66 nm ra dec t p
  | 67, _ => cl_67 nm ra dec t p
  | 68, _ => cl_68 nm ra dec t p
  | 69, _ => cl_69 nm ra dec t p
  | 70, _ => cl_70 nm ra dec t p
  | 71, _ => cl_71 nm ra dec t p
  | 72, _ => cl_72 nm ra dec t p
  | 73, _ => cl_73 nm ra dec t p
  | 74, _ => cl_74 nm ra dec t p
  | 75, _ => cl_75 nm ra dec t p
  | 76, _ => cl_76 nm ra dec t p
  | 77, _ => cl_77 nm ra dec t p
  | 78, _ => cl_78 nm ra dec t p
  | 79, _ => cl_79 nm ra dec t p
  | 80, _ => cl_80 nm ra dec t p
  | 81, _ => cl_81 nm ra dec t p
  | 82, _ => cl_82 nm ra dec t p
  | 83, _ => cl_83 nm ra dec t p
  | 84, _ => cl_84 nm ra dec t p
  | 85, _ => cl_85 nm ra dec t p
  | 86, _ => cl_86 nm ra dec t p
  | 87, _ => cl_87 nm ra dec t p
  | 88, _ => cl_88 nm ra dec t p
  | 89, _ => cl_89 nm ra dec t p
  | 90, _ => cl_90 nm ra dec t p
  | 91, _ => cl_91 nm ra dec t p
  | 92, _ => cl_92 nm ra dec t p
  | 93, _ => cl_93 nm ra dec t p
  | 94, _ => cl_94 nm ra dec t p
  | 95, _ => cl_95 nm ra dec t p
  | 96, _ => cl_96 nm ra dec t p
  | 97, _ => cl_97 nm ra dec t p
  | 98, _ => cl_98 nm ra dec t p
  | 99, _ => cl_99 nm ra dec t p
  | 100, _ => cl_100 nm ra dec t p
  | n + 101, h => absurd h (by omega)

set_option maxRecDepth 100000 in
theorem wl_o (nm : ByteArray) (ra dec t p : Int) (x : Int) (K : AV → List Blk → Ans) : evFn Try.prog GT EQT (inl Try.prog GT EQT XT [7, 8] T_fringeref06_Same 7 3) XT noL 60 3 [.v (.agg [.str nm, .int .i64 ra, .int .i64 dec]), .v (.c (.d (.int .i64 t))), .v (.c (.d (.int .i64 p))), .v (.c (.d (.int .i64 x)))] [] (fun v M => K v (M.take ([] : List Blk).length)) = lawTrackMakes0 K ⟨nm, ra, dec⟩ t p x := by
  kernel_rfl
theorem cl_o (nm : ByteArray) (ra dec t p : Int) (x : Int) (hv : x < 0 ∨ x > 100) : CallsA Try.prog GT gbT 3 [.v (.agg [.str nm, .int .i64 ra, .int .i64 dec]), .v (.c (.d (.int .i64 t))), .v (.c (.d (.int .i64 p))), .v (.c (.d (.int .i64 x)))] [] (rB true) [] := by
  have hw := wl_o nm ra dec t p x (fun v M => some (Res.fin v M))
  rw [lawTrackMakes0_ok hv] at hw
  exact CallsA.ofEv (Γ := (inl Try.prog GT EQT XT [7, 8] T_fringeref06_Same 7 3)) (X := XT) (Λ := noL) (EQ := EQT) (n := 60) (g_fringeref06_Same.inl hEQT hmT (fun f hf => by simp only [List.mem_cons, List.not_mem_nil, or_false] at hf; rcases hf with rfl | rfl <;> first | exact (fun args w => Try.call7 args w) | exact (fun args w => Try.call8 args w)) 7 3) hEQT hmT (fun _ _ _ _ => noL_ok _) hw

theorem c_fringelaw06_TrackMakes (nm : ByteArray) (ra dec t p : Int) (x : Int) : CallsA Try.prog GT gbT 3 [.v (.agg [.str nm, .int .i64 ra, .int .i64 dec]), .v (.c (.d (.int .i64 t))), .v (.c (.d (.int .i64 p))), .v (.c (.d (.int .i64 x)))] [] (rB true) [] := by
  rcases Int.lt_or_le x 0 with h1 | h1
  · exact cl_o nm ra dec t p x (.inl h1)
  rcases Int.lt_or_le 100 x with h2 | h2
  · exact cl_o nm ra dec t p x (.inr h2)
  obtain ⟨n, rfl⟩ := Int.eq_ofNat_of_zero_le h1
  exact cl nm ra dec t p n (by omega)

end Go.Ev
