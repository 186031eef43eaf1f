/-
  TrackMakes, value by value of the length of a path. No condition beyond those of the statements.
-/
import Derived.Test.YtmidgaahaffmcaaTpAa
import Derived.Test.YtmidgaahaffmcaaTpAb
import Derived.Test.YtmidgaahaffmcaaTpAc
import Derived.Test.YtmidgaahaffmcaaTpAd
namespace Go.Ev
open Go Go.Proofs

theorem cp (nm : ByteArray) (ra dec t p : Int) : ∀ n : Nat, n ≤ 100 → (pathE ⟨nm, ra, dec⟩ t p (n : Int) = 0 → CallsA Try.prog GT gbT 7 [.v (.agg [.str nm, .int .i64 ra, .int .i64 dec]), .v (.c (.d (.int .i64 t))), .v (.c (.d (.int .i64 p))), .v (.c (.d (.int .i64 (n : Int))))] [] (vSlice 2 n 0) (mSlice 28 2 (pathD ⟨nm, ra, dec⟩ t p n))) ∧ (pathE ⟨nm, ra, dec⟩ t p (n : Int) ≠ 0 → CallsA Try.prog GT gbT 7 [.v (.agg [.str nm, .int .i64 ra, .int .i64 dec]), .v (.c (.d (.int .i64 t))), .v (.c (.d (.int .i64 p))), .v (.c (.d (.int .i64 (n : Int))))] [] (vNil (pathE ⟨nm, ra, dec⟩ t p (n : Int))) [])
  | 0, _ => cp_0 nm ra dec t p
  | 1, _ => cp_1 nm ra dec t p
  | 2, _ => cp_2 nm ra dec t p
  | 3, _ => cp_3 nm ra dec t p
  | 4, _ => cp_4 nm ra dec t p
  | 5, _ => cp_5 nm ra dec t p
  | 6, _ => cp_6 nm ra dec t p
  | 7, _ => cp_7 nm ra dec t p
  | 8, _ => cp_8 nm ra dec t p
  | 9, _ => cp_9 nm ra dec t p
  | 10, _ => cp_10 nm ra dec t p
  | 11, _ => cp_11 nm ra dec t p
  | 12, _ => cp_12 nm ra dec t p
  | 13, _ => cp_13 nm ra dec t p
  | 14, _ => cp_14 nm ra dec t p
  | 15, _ => cp_15 nm ra dec t p
  | 16, _ => cp_16 nm ra dec t p
  | 17, _ => cp_17 nm ra dec t p
  | 18, _ => cp_18 nm ra dec t p
  | 19, _ => cp_19 nm ra dec t p
  | 20, _ => cp_20 nm ra dec t p
  | 21, _ => cp_21 nm ra dec t p
  | 22, _ => cp_22 nm ra dec t p
  | 23, _ => cp_23 nm ra dec t p
  | 24, _ => cp_24 nm ra dec t p
  | 25, _ => cp_25 nm ra dec t p
  | 26, _ => cp_26 nm ra dec t p
  | 27, _ => cp_27 nm ra dec t p
  | 28, _ => cp_28 nm ra dec t p
  | 29, _ => cp_29 nm ra dec t p
  | 30, _ => cp_30 nm ra dec t p
  | 31, _ => cp_31 nm ra dec t p
  | 32, _ => cp_32 nm ra dec t p
  | 33, _ => cp_33 nm ra dec t p
  | 34, _ => cp_34 nm ra dec t p
  | 35, _ => cp_35 nm ra dec t p
  | 36, _ => cp_36 nm ra dec t p
  | 37, _ => cp_37 nm ra dec t p
  | 38, _ => cp_38 nm ra dec t p
  | 39, _ => cp_39 nm ra dec t p
  | 40, _ => cp_40 nm ra dec t p
  | 41, _ => cp_41 nm ra dec t p
  | 42, _ => cp_42 nm ra dec t p
  | 43, _ => cp_43 nm ra dec t p
  | 44, _ => cp_44 nm ra dec t p
  | 45, _ => cp_45 nm ra dec t p
  | 46, _ => cp_46 nm ra dec t p
  | 47, _ => cp_47 nm ra dec t p
  | 48, _ => cp_48 nm ra dec t p
  | 49, _ => cp_49 nm ra dec t p
  | 50, _ => cp_50 nm ra dec t p
  | 51, _ => cp_51 nm ra dec t p
  | 52, _ => cp_52 nm ra dec t p
  | 53, _ => cp_53 nm ra dec t p
  | 54, _ => cp_54 nm ra dec t p
  | 55, _ => cp_55 nm ra dec t p
  | 56, _ => cp_56 nm ra dec t p
  | 57, _ => cp_57 nm ra dec t p
  | 58, _ => cp_58 nm ra dec t p
  | 59, _ => cp_59 nm ra dec t p
  | 60, _ => cp_60 nm ra dec t p
  | 61, _ => cp_61 nm ra dec t p
  | 62, _ => cp_62 nm ra dec t p
  | 63, _ => cp_63 nm ra dec t p
  | 64, _ => cp_64 nm ra dec t p
  | 65, _ => cp_65 nm ra dec t p
  | 66, _ => cp_66 nm ra dec t p
  | 67, _ => cp_67 nm ra dec t p
  | 68, _ => cp_68 nm ra dec t p
  | 69, _ => cp_69 nm ra dec t p
  | 70, _ => cp_70 nm ra dec t p
  | 71, _ => cp_71 nm ra dec t p
  | 72, _ => cp_72 nm ra dec t p
  | 73, _ => cp_73 nm ra dec t p
  | 74, _ => cp_74 nm ra dec t p
  | 75, _ => cp_75 nm ra dec t p
  | 76, _ => cp_76 nm ra dec t p
  | 77, _ => cp_77 nm ra dec t p
  | 78, _ => cp_78 nm ra dec t p
  | 79, _ => cp_79 nm ra dec t p
  | 80, _ => cp_80 nm ra dec t p
  | 81, _ => cp_81 nm ra dec t p
  | 82, _ => cp_82 nm ra dec t p
  | 83, _ => cp_83 nm ra dec t p
  | 84, _ => cp_84 nm ra dec t p
  | 85, _ => cp_85 nm ra dec t p
  | 86, _ => cp_86 nm ra dec t p
  | 87, _ => cp_87 nm ra dec t p
  | 88, _ => cp_88 nm ra dec t p
  | 89, _ => cp_89 nm ra dec t p
  | 90, _ => cp_90 nm ra dec t p
  | 91, _ => cp_91 nm ra dec t p
  | 92, _ => cp_92 nm ra dec t p
  | 93, _ => cp_93 nm ra dec t p
  | 94, _ => cp_94 nm ra dec t p
  | 95, _ => cp_95 nm ra dec t p
  | 96, _ => cp_96 nm ra dec t p
  | 97, _ => cp_97 nm ra dec t p
  | 98, _ => cp_98 nm ra dec t p
  | 99, _ => cp_99 nm ra dec t p
  | 100, _ => cp_100 nm ra dec t p
  | n + 101, h => absurd h (by omega)

def s_tpath : List AV → List Blk → (AV → List Blk → Ans) → Ans := fun xs bs K => match xs, bs with
  | [.v (.agg [.str nm, .int .i64 ra, .int .i64 dec]), .v (.c (.d (.int .i64 t))), .v (.c (.d (.int .i64 p))), .v (.c (.d (.int .i64 x)))], [] => bif (decide (0 ≤ x) && decide (x ≤ 100)) then (bif pathE ⟨nm, ra, dec⟩ t p x == 0 then K (vSlice 2 x.toNat 0) (mSlice 28 2 (pathD ⟨nm, ra, dec⟩ t p x.toNat)) else K (vNil (pathE ⟨nm, ra, dec⟩ t p x)) []) else none
  | _, _ => none
def T_tpath : Nat → List AV → List Blk → (AV → List Blk → Ans) → Ans := upd T_fringeref06_Same 7 s_tpath
theorem g_tpath : GOK Try.prog GT gbT T_tpath XT := by
  refine GOK.upd g_fringeref06_Same (fun args w => Try.call7 args w) fun xs bs K r h => ?_
  unfold s_tpath at h
  split at h
  · rename_i nm ra dec t p x
    cases hr : (decide (0 ≤ x) && decide (x ≤ 100)) with
    | false => rw [hr] at h; cases h
    | true =>
      rw [hr] at h
      simp only [Bool.and_eq_true, decide_eq_true_eq] at hr
      obtain ⟨n, rfl⟩ := Int.eq_ofNat_of_zero_le hr.1
      have hc := cp nm ra dec t p n (by omega)
      cases he : pathE ⟨nm, ra, dec⟩ t p (n : Int) == 0 with
      | true =>
        rw [he] at h
        simp only [cond_true, Int.toNat_natCast] at h
        exact ⟨_, _, hc.1 (by simpa using he), h⟩
      | false =>
        rw [he] at h
        exact ⟨_, _, hc.2 (by simpa using he), h⟩
  · cases h

end Go.Ev
