/-
  TrackMakes, value by value of the length of a path. No condition beyond those of the statements.
-/
import Derived.Test.YtmidgaahaffmcaaTpA
import Derived.Test.YtmidgaahaffmcaaTpBa
import Derived.Test.YtmidgaahaffmcaaTpBb
import Derived.Test.YtmidgaahaffmcaaTpBc
import Derived.Test.YtmidgaahaffmcaaTpBd
namespace Go.Ev
open Go Go.Proofs

theorem cr (nm : ByteArray) (ra dec t p : Int) : ∀ n : Nat, n ≤ 100 → (pathE ⟨nm, ra, dec⟩ t p (n : Int) = 0 → (match n with | 0 => CallsA Try.prog GT gbT 8 [.v (.agg [.str nm, .int .i64 ra, .int .i64 dec]), .v (.c (.d (.int .i64 t))), .v (.c (.d (.int .i64 p))), .v (.c (.d (.int .i64 ((0 : Nat) : Int))))] [] (vNil 0) [] | n + 1 => CallsA Try.prog GT gbT 8 [.v (.agg [.str nm, .int .i64 ra, .int .i64 dec]), .v (.c (.d (.int .i64 t))), .v (.c (.d (.int .i64 p))), .v (.c (.d (.int .i64 ((n + 1 : Nat) : Int))))] [] (vSlice (2 * (n + 1)) (n + 1) 0) (mSlice 28 (2 * (n + 1)) (pathD ⟨nm, ra, dec⟩ t p (n + 1))))) ∧ (pathE ⟨nm, ra, dec⟩ t p (n : Int) ≠ 0 → CallsA Try.prog GT gbT 8 [.v (.agg [.str nm, .int .i64 ra, .int .i64 dec]), .v (.c (.d (.int .i64 t))), .v (.c (.d (.int .i64 p))), .v (.c (.d (.int .i64 (n : Int))))] [] (vNil (pathE ⟨nm, ra, dec⟩ t p (n : Int))) [])
  | 0, _ => cr_0 nm ra dec t p
  | 1, _ => cr_1 nm ra dec t p
  | 2, _ => cr_2 nm ra dec t p
  | 3, _ => cr_3 nm ra dec t p
  | 4, _ => cr_4 nm ra dec t p
  | 5, _ => cr_5 nm ra dec t p
  | 6, _ => cr_6 nm ra dec t p
  | 7, _ => cr_7 nm ra dec t p
  | 8, _ => cr_8 nm ra dec t p
  | 9, _ => cr_9 nm ra dec t p
  | 10, _ => cr_10 nm ra dec t p
  | 11, _ => cr_11 nm ra dec t p
  | 12, _ => cr_12 nm ra dec t p
  | 13, _ => cr_13 nm ra dec t p
  | 14, _ => cr_14 nm ra dec t p
  | 15, _ => cr_15 nm ra dec t p
  | 16, _ => cr_16 nm ra dec t p
  | 17, _ => cr_17 nm ra dec t p
  | 18, _ => cr_18 nm ra dec t p
  | 19, _ => cr_19 nm ra dec t p
  | 20, _ => cr_20 nm ra dec t p
  | 21, _ => cr_21 nm ra dec t p
  | 22, _ => cr_22 nm ra dec t p
  | 23, _ => cr_23 nm ra dec t p
  | 24, _ => cr_24 nm ra dec t p
  | 25, _ => cr_25 nm ra dec t p
  | 26, _ => cr_26 nm ra dec t p
  | 27, _ => cr_27 nm ra dec t p
  | 28, _ => cr_28 nm ra dec t p
  | 29, _ => cr_29 nm ra dec t p
  | 30, _ => cr_30 nm ra dec t p
  | 31, _ => cr_31 nm ra dec t p
  | 32, _ => cr_32 nm ra dec t p
  | 33, _ => cr_33 nm ra dec t p
  | 34, _ => cr_34 nm ra dec t p
  | 35, _ => cr_35 nm ra dec t p
  | 36, _ => cr_36 nm ra dec t p
  | 37, _ => cr_37 nm ra dec t p
  | 38, _ => cr_38 nm ra dec t p
  | 39, _ => cr_39 nm ra dec t p
  | 40, _ => cr_40 nm ra dec t p
  | 41, _ => cr_41 nm ra dec t p
  | 42, _ => cr_42 nm ra dec t p
  | 43, _ => cr_43 nm ra dec t p
  | 44, _ => cr_44 nm ra dec t p
  | 45, _ => cr_45 nm ra dec t p
  | 46, _ => cr_46 nm ra dec t p
  | 47, _ => cr_47 nm ra dec t p
  | 48, _ => cr_48 nm ra dec t p
  | 49, _ => cr_49 nm ra dec t p
  | 50, _ => cr_50 nm ra dec t p
  | 51, _ => cr_51 nm ra dec t p
  | 52, _ => cr_52 nm ra dec t p
  | 53, _ => cr_53 nm ra dec t p
  | 54, _ => cr_54 nm ra dec t p
  | 55, _ => cr_55 nm ra dec t p
  | 56, _ => cr_56 nm ra dec t p
  | 57, _ => cr_57 nm ra dec t p
  | 58, _ => cr_58 nm ra dec t p
  | 59, _ => cr_59 nm ra dec t p
  | 60, _ => cr_60 nm ra dec t p
  | 61, _ => cr_61 nm ra dec t p
  | 62, _ => cr_62 nm ra dec t p
  | 63, _ => cr_63 nm ra dec t p
  | 64, _ => cr_64 nm ra dec t p
  | 65, _ => cr_65 nm ra dec t p
  | 66, _ => cr_66 nm ra dec t p
  | 67, _ => cr_67 nm ra dec t p
  | 68, _ => cr_68 nm ra dec t p
  | 69, _ => cr_69 nm ra dec t p
  | 70, _ => cr_70 nm ra dec t p
  | 71, _ => cr_71 nm ra dec t p
  | 72, _ => cr_72 nm ra dec t p
  | 73, _ => cr_73 nm ra dec t p
  | 74, _ => cr_74 nm ra dec t p
  | 75, _ => cr_75 nm ra dec t p
  | 76, _ => cr_76 nm ra dec t p
  | 77, _ => cr_77 nm ra dec t p
  | 78, _ => cr_78 nm ra dec t p
  | 79, _ => cr_79 nm ra dec t p
  | 80, _ => cr_80 nm ra dec t p
  | 81, _ => cr_81 nm ra dec t p
  | 82, _ => cr_82 nm ra dec t p
  | 83, _ => cr_83 nm ra dec t p
  | 84, _ => cr_84 nm ra dec t p
  | 85, _ => cr_85 nm ra dec t p
  | 86, _ => cr_86 nm ra dec t p
  | 87, _ => cr_87 nm ra dec t p
  | 88, _ => cr_88 nm ra dec t p
  | 89, _ => cr_89 nm ra dec t p
  | 90, _ => cr_90 nm ra dec t p
  | 91, _ => cr_91 nm ra dec t p
  | 92, _ => cr_92 nm ra dec t p
  | 93, _ => cr_93 nm ra dec t p
  | 94, _ => cr_94 nm ra dec t p
  | 95, _ => cr_95 nm ra dec t p
  | 96, _ => cr_96 nm ra dec t p
  | 97, _ => cr_97 nm ra dec t p
  | 98, _ => cr_98 nm ra dec t p
  | 99, _ => cr_99 nm ra dec t p
  | 100, _ => cr_100 nm ra dec t p
  | n + 101, h => absurd h (by omega)

def s_tref : List AV → List Blk → (AV → List Blk → Ans) → Ans := fun xs bs K => match xs, bs with
  | [.v (.agg [.str nm, .int .i64 ra, .int .i64 dec]), .v (.c (.d (.int .i64 t))), .v (.c (.d (.int .i64 p))), .v (.c (.d (.int .i64 x)))], [] => bif (decide (0 ≤ x) && decide (x ≤ 100)) then (bif pathE ⟨nm, ra, dec⟩ t p x == 0 then (bif x == 0 then K (vNil 0) [] else K (vSlice (2 * x.toNat) x.toNat 0) (mSlice 28 (2 * x.toNat) (pathD ⟨nm, ra, dec⟩ t p x.toNat))) else K (vNil (pathE ⟨nm, ra, dec⟩ t p x)) []) else none
  | _, _ => none
def T_tref : Nat → List AV → List Blk → (AV → List Blk → Ans) → Ans := upd T_tpath 8 s_tref
theorem g_tref : GOK Try.prog GT gbT T_tref XT := by
  refine GOK.upd g_tpath (fun args w => Try.call8 args w) fun xs bs K r h => ?_
  unfold s_tref at h
  split at h
  · rename_i nm ra dec t p x
    cases hr : (decide (0 ≤ x) && decide (x ≤ 100)) with
    | false => rw [hr] at h; cases h
    | true =>
      rw [hr] at h
      simp only [Bool.and_eq_true, decide_eq_true_eq] at hr
      obtain ⟨n, rfl⟩ := Int.eq_ofNat_of_zero_le hr.1
      have hc := cr nm ra dec t p n (by omega)
      cases he : pathE ⟨nm, ra, dec⟩ t p (n : Int) == 0 with
      | true =>
        rw [he] at h
        simp only [cond_true, Int.toNat_natCast] at h
        have h1 := hc.1 (by simpa using he)
        cases n with
        | zero => exact ⟨_, _, h1, h⟩
        | succ n =>
          rw [show ((((n + 1 : Nat) : Int)) == 0) = false by simp; omega] at h
          exact ⟨_, _, h1, h⟩
      | false =>
        rw [he] at h
        exact ⟨_, _, hc.2 (by simpa using he), h⟩
  · cases h

end Go.Ev
