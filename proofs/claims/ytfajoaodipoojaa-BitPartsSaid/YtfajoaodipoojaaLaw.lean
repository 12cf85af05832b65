/- The walks of layer 2's laws BitZigs and BitParts: each returns true; the world has at most new blocks. -/
import Derived.Test.YtfajoaodipoojaaBw
namespace Go.Proofs.Ytfajoaodipoojaa
open Go.RowKit
set_option linter.unusedVariables false

theorem alive_any (w : World) : Calls Try.prog 9 #[] w fun e w' => e = .returned (.bool true) ∧ w = w' := by
  have p0 : Calls Try.prog 12 #[.int .u64 43981, .int .i64 4, .int .i64 8] w fun e w' => e = .returned (.int .u64 188) ∧ w = w' :=
    (part_any 43981#64 4 8 (by omega) (by omega) w)
  have p1 : Calls Try.prog 14 #[.int .u64 1, .int .i64 (-1)] w fun e w' => e = .returned (.int .u64 9223372036854775808) ∧ w = w' :=
    (rotl_any 1#64 (-1) w)
  have p2 : Calls Try.prog 5 #[.int .i64 (-3)] w fun e w' => e = .returned (.int .u64 5) ∧ w = w' :=
    (zig_any (-3) (by omega) (by omega) w)
  have p3 : Calls Try.prog 7 #[.int .u64 5] w fun e w' => e = .returned (.int .i64 (-3)) ∧ w = w' :=
    (zag_any 5#64 w)
  go_enter Try.func9, Try.ntmps9
  go_wp2_with (first | (go_at_call 12; refine p0.mono ?_; rintro e w' ⟨rfl, rfl⟩) | (go_at_call 14; refine p1.mono ?_; rintro e w' ⟨rfl, rfl⟩) | (go_at_call 5; refine p2.mono ?_; rintro e w' ⟨rfl, rfl⟩) | (go_at_call 7; refine p3.mono ?_; rintro e w' ⟨rfl, rfl⟩))
  go_ret
  exact ⟨rfl, rfl⟩

theorem zigs_walk (n : Int) (h0 : -9223372036854775808 ≤ n) (h1 : n ≤ 9223372036854775807) (x : BitVec 64) (w : World) :
    Calls Try.prog 3 #[.int .i64 n, .int .u64 x.toNat] w fun e w' => e = .returned (.bool true) ∧ w = w' := by
  obtain ⟨y, hy⟩ := Pl.zig_nat n h0 h1
  obtain ⟨hz0, hz1⟩ := Pl.zag_bounds x
  have hzz := Pl.zig_zag x
  have z1 : Calls Try.prog 5 #[.int .i64 n] w fun e w' => e = .returned (.int .u64 y.toNat) ∧ w = w' := by rw [← hy]; exact zig_any n h0 h1 w
  have z2 : Calls Try.prog 6 #[.int .i64 n] w fun e w' => e = .returned (.int .u64 y.toNat) ∧ w = w' := by rw [← hy]; exact refzig_any n h0 h1 w
  have z3 : Calls Try.prog 7 #[.int .u64 y.toNat] w fun e w' => e = .returned (.int .i64 n) ∧ w = w' := by
    have c := zag_any y w
    rw [Pl.zag_zig n h0 h1 y hy] at c; exact c
  have z4 : Calls Try.prog 5 #[.int .i64 (Pl.zag x.toNat)] w fun e w' => e = .returned (.int .u64 x.toNat) ∧ w = w' := by
    have c := zig_any (Pl.zag x.toNat) hz0 hz1 w
    rw [hzz] at c; exact c
  have z5 := zag_any x w
  have z6 := refzag_any x w
  have z7 := alive_any w
  clear hzz hy
  go_enter Try.func3, Try.ntmps3
  go_wp2_with (first | (go_at_call 5; ((with_reducible refine z1.mono ?_); rintro e w' ⟨rfl, rfl⟩)) | (go_at_call 5; ((with_reducible refine z4.mono ?_); rintro e w' ⟨rfl, rfl⟩)) | (go_at_call 6; ((with_reducible refine z2.mono ?_); rintro e w' ⟨rfl, rfl⟩)) | (go_at_call 7; ((with_reducible refine z3.mono ?_); rintro e w' ⟨rfl, rfl⟩)) | (go_at_call 7; ((with_reducible refine z5.mono ?_); rintro e w' ⟨rfl, rfl⟩)) | (go_at_call 8; ((with_reducible refine z6.mono ?_); rintro e w' ⟨rfl, rfl⟩)) | (go_at_call 9; ((with_reducible refine z7.mono ?_); rintro e w' ⟨rfl, rfl⟩)))
  go_ret
  exact ⟨rfl, rfl⟩

theorem parts_walk (x : BitVec 64) (f n : Int) (f0 : -9223372036854775808 ≤ f) (f1 : f ≤ 9223372036854775807) (w : World) :
    Calls Try.prog 4 #[.int .u64 x.toNat, .int .i64 f, .int .i64 n] w fun e w' => e = .returned (.bool true) ∧ Grown w w' := by
  go_enter Try.func4, Try.ntmps4
  go_wp2_with (first | (go_at_call 10; (refine (low_any x n _).mono ?_; rintro e w' ⟨rfl, rfl⟩)) | (go_at_call 11; (refine (reflow_any x n _).mono ?_; rintro e w' ⟨rfl, rfl⟩)) | (go_at_call 12; (refine (part_any x f n f0 f1 _).mono ?_; rintro e w' ⟨rfl, rfl⟩)) | (go_at_call 13; (refine (refpart_any x f n _).mono ?_; rintro e w' ⟨rfl, rfl⟩)) | (go_at_call 14; (refine (rotl_any x n _).mono ?_; rintro e w' ⟨rfl, rfl⟩)) | (go_at_call 15; (refine (refrot_any x n _).mono ?_; rintro e w' ⟨rfl, rfl⟩)) | (go_at_call 16; (refine (turn_any x _).mono ?_; rintro e w1 ⟨rfl, hb⟩)) | (go_at_call 17; (refine (refturn_any x _).mono ?_; rintro e w' ⟨rfl, rfl⟩)) | (go_at_call 9; (refine (alive_any _).mono ?_; rintro e w' ⟨rfl, rfl⟩)))
  go_ret
  exact ⟨rfl, hb⟩
end Go.Proofs.Ytfajoaodipoojaa
