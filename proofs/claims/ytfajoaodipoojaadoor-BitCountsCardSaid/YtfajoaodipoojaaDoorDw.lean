/- The walks of layer 2's functions (bit) and of the document's answer for it (handcartref02): what each computes, as a function of 64-bit numbers. No conditions but that a number fits its kind. -/
import Derived.Test.YtfajoaodipoojaaDoorRows
import Derived.Test.YtfajoaodipoojaaDoorPl
import Derived.WalkKit
import Derived.WalkLawsBesides
import Derived.WalkSpells
import Derived.Handy
import Derived.Lib.Hide
namespace Go.Proofs.YtfajoaodipoojaaDoor
open Go.RowKit
set_option linter.unusedVariables false
set_option linter.unusedSimpArgs false

theorem ret_int {k : IntKind} {a b : Int} (h : a = b) : Ending.returned (.int k a) = .returned (.int k b) := by rw [h]

theorem zig_any (n : Int) (h0 : -9223372036854775808 ≤ n) (h1 : n ≤ 9223372036854775807) (w : World) :
    Calls Tryd.prog 21 #[.int .i64 n] w fun e w' => e = .returned (.int .u64 (Pl.zig n)) ∧ w = w' := by
  go_enter Tryd.func21, Tryd.ntmps21
  go_wp2
  go_ret
  exact ⟨ret_int (Pl.zig_form n h0 h1), rfl⟩

theorem zag_any (x : BitVec 64) (w : World) :
    Calls Tryd.prog 22 #[.int .u64 x.toNat] w fun e w' => e = .returned (.int .i64 (Pl.zag x.toNat)) ∧ w = w' := by
  go_enter Tryd.func22, Tryd.ntmps22
  go_wp2
  go_ret
  exact ⟨ret_int (Pl.zag_form x), rfl⟩

theorem low_any (x : BitVec 64) (n : Int) (w : World) :
    Calls Tryd.prog 16 #[.int .u64 x.toNat, .int .i64 n] w fun e w' => e = .returned (.int .u64 (Pl.low x n).toNat) ∧ w = w' := by
  by_cases h0 : n ≤ 0
  · go_enter Tryd.func16, Tryd.ntmps16
    go_wp2
    go_ret
    exact ⟨ret_int (Pl.low_zero x n h0), rfl⟩
  · by_cases h1 : 64 ≤ n
    · go_enter Tryd.func16, Tryd.ntmps16
      go_wp2
      go_ret
      exact ⟨ret_int (Pl.low_all x n h1), rfl⟩
    · go_enter Tryd.func16, Tryd.ntmps16
      go_wp2
      go_ret
      exact ⟨ret_int (Pl.low_mask x n (by omega) (by omega)), rfl⟩

theorem bit_any (x : BitVec 64) (i : Nat) (hi : i < 64) (w : World) :
    Calls Tryd.prog 19 #[.int .u64 x.toNat, .int .i64 i] w fun e w' => e = .returned (.int .u64 (Pl.bit x i).toNat) ∧ w = w' := by
  go_enter Tryd.func19, Tryd.ntmps19
  go_wp2
  go_loop [0, 5] (fun p v => ∃ k : Nat, k ≤ i ∧ v = .int .i64 k ∧ p = .int .u64 (Pl.shr x k).toNat) (fun _ v => i - (intOf v).toNat)
  case atStart => exact ⟨0, by omega, rfl, by rw [← Pl.shr_zero]⟩
  case round =>
    obtain ⟨k, hk, rfl, rfl⟩ := hrel
    by_cases hlt : k < i
    · go_wp2
      go_round
      case rel => exact ⟨k + 1, by omega, by go_num, by rw [Pl.shr_succ]⟩
      case measure => simp [intOf]; omega
    · go_wp2
      go_ret
      exact ⟨ret_int (by rw [show k = i by omega]; exact Pl.bit_form x i), rfl⟩

theorem rotl_any (x : BitVec 64) (n : Int) (w : World) :
    Calls Tryd.prog 14 #[.int .u64 x.toNat, .int .i64 n] w fun e w' => e = .returned (.int .u64 (Pl.rotv x (n % 64).toNat).toNat) ∧ w = w' := by
  have h1 : -64 < n.tmod 64 := by have := Int.lt_tmod_of_pos n (b := 64) (by decide); omega
  have h2 : n.tmod 64 < 64 := Int.tmod_lt_of_pos n (by decide)
  have hs := Pl.rot_by n
  have hn : 0 ≤ n % 64 := by omega
  have hn2 : n % 64 < 64 := by omega
  go_enter Tryd.func14, Tryd.ntmps14
  go_wp2
  go_ret
  exact ⟨ret_int (Pl.rot_form x n), rfl⟩

theorem shr_any (x : BitVec 64) (n : Int) (h0 : 0 ≤ n) (h1 : n ≤ 9223372036854775807) (w : World) :
    Calls Tryd.prog 26 #[.int .u64 x.toNat, .int .i64 n] w fun e w' => e = .returned (.int .u64 (Pl.shr x n.toNat).toNat) ∧ w = w' := by
  go_enter Tryd.func26, Tryd.ntmps26
  go_wp2
  go_ret
  exact ⟨ret_int (Pl.shr_form x n), rfl⟩
theorem shl_any (x : BitVec 64) (n : Int) (h0 : 0 ≤ n) (h1 : n ≤ 9223372036854775807) (w : World) :
    Calls Tryd.prog 25 #[.int .u64 x.toNat, .int .i64 n] w fun e w' => e = .returned (.int .u64 (Pl.shl x n.toNat).toNat) ∧ w = w' := by
  go_enter Tryd.func25, Tryd.ntmps25
  go_wp2
  go_ret
  exact ⟨ret_int (Pl.shl_form x n), rfl⟩
theorem up_any (w : World) :
    Calls Tryd.prog 24 #[.bool true] w fun e w' => e = .returned (.func (.func 25) #[] #[]) ∧ w = w' := by
  go_enter Tryd.func24, Tryd.ntmps24
  go_wp2
  go_ret
  exact ⟨rfl, rfl⟩
theorem down_any (w : World) :
    Calls Tryd.prog 24 #[.bool false] w fun e w' => e = .returned (.func (.func 26) #[] #[]) ∧ w = w' := by
  go_enter Tryd.func24, Tryd.ntmps24
  go_wp2
  go_ret
  exact ⟨rfl, rfl⟩

theorem part_any (x : BitVec 64) (f n : Int) (h0 : -9223372036854775808 ≤ f) (h1 : f ≤ 9223372036854775807) (w : World) :
    Calls Tryd.prog 17 #[.int .u64 x.toNat, .int .i64 f, .int .i64 n] w fun e w' => e = .returned (.int .u64 (Pl.part x f n).toNat) ∧ w = w' := by
  by_cases hf : f < 0
  · go_enter Tryd.func17, Tryd.ntmps17
    go_wp2_with (first | (go_at_call 24; refine (down_any _).mono ?_; rintro e w' ⟨rfl, rfl⟩) | (go_at_call 26; refine (shr_any x _ (by omega) (by omega) _).mono ?_; rintro e w' ⟨rfl, rfl⟩) | (go_at_call 16; refine (low_any _ _ _).mono ?_; rintro e w' ⟨rfl, rfl⟩))
    go_ret
    exact ⟨ret_int (by first | rfl | rw [Pl.part_neg x f n (by assumption)] | rw [Pl.part_pos x f n (by omega)]), rfl⟩
  · go_enter Tryd.func17, Tryd.ntmps17
    go_wp2_with (first | (go_at_call 24; refine (down_any _).mono ?_; rintro e w' ⟨rfl, rfl⟩) | (go_at_call 26; refine (shr_any x _ (by omega) (by omega) _).mono ?_; rintro e w' ⟨rfl, rfl⟩) | (go_at_call 16; refine (low_any _ _ _).mono ?_; rintro e w' ⟨rfl, rfl⟩))
    go_ret
    exact ⟨ret_int (by first | rfl | rw [Pl.part_neg x f n (by assumption)] | rw [Pl.part_pos x f n (by omega)]), rfl⟩

theorem mask0 : ∀ w, (Instr.index 38 (.agg #[.int .u64 6148914691236517205, .int .u64 3689348814741910323, .int .u64 1085102592571150095, .int .u64 71777214294589695, .int .u64 281470681808895, .int .u64 4294967295]) (.int .i64 0)).run Tryd.prog w = .ok (.int .u64 6148914691236517205) w := fun _ => by kernel_rfl
theorem mask1 : ∀ w, (Instr.index 38 (.agg #[.int .u64 6148914691236517205, .int .u64 3689348814741910323, .int .u64 1085102592571150095, .int .u64 71777214294589695, .int .u64 281470681808895, .int .u64 4294967295]) (.int .i64 1)).run Tryd.prog w = .ok (.int .u64 3689348814741910323) w := fun _ => by kernel_rfl
theorem mask2 : ∀ w, (Instr.index 38 (.agg #[.int .u64 6148914691236517205, .int .u64 3689348814741910323, .int .u64 1085102592571150095, .int .u64 71777214294589695, .int .u64 281470681808895, .int .u64 4294967295]) (.int .i64 2)).run Tryd.prog w = .ok (.int .u64 1085102592571150095) w := fun _ => by kernel_rfl
theorem mask3 : ∀ w, (Instr.index 38 (.agg #[.int .u64 6148914691236517205, .int .u64 3689348814741910323, .int .u64 1085102592571150095, .int .u64 71777214294589695, .int .u64 281470681808895, .int .u64 4294967295]) (.int .i64 3)).run Tryd.prog w = .ok (.int .u64 71777214294589695) w := fun _ => by kernel_rfl
theorem mask4 : ∀ w, (Instr.index 38 (.agg #[.int .u64 6148914691236517205, .int .u64 3689348814741910323, .int .u64 1085102592571150095, .int .u64 71777214294589695, .int .u64 281470681808895, .int .u64 4294967295]) (.int .i64 4)).run Tryd.prog w = .ok (.int .u64 281470681808895) w := fun _ => by kernel_rfl
theorem mask5 : ∀ w, (Instr.index 38 (.agg #[.int .u64 6148914691236517205, .int .u64 3689348814741910323, .int .u64 1085102592571150095, .int .u64 71777214294589695, .int .u64 281470681808895, .int .u64 4294967295]) (.int .i64 5)).run Tryd.prog w = .ok (.int .u64 4294967295) w := fun _ => by kernel_rfl
set_option maxHeartbeats 400000 in
theorem turn_any (x : BitVec 64) (w : World) :
    Calls Tryd.prog 15 #[.int .u64 x.toNat] w fun e w' => e = .returned (.int .u64 (Pl.turnv x).toNat) ∧ Grown w w' ∧ Below w.heap.size w w' := by
  have hand := Pl.land_form
  have hor := Pl.lor_form
  have i0 := mask0
  have s0 := fun y => Pl.step_form y 6148914691236517205#64 6148914691236517205 1 (by decide)
  have i1 := mask1
  have s1 := fun y => Pl.step_form y 3689348814741910323#64 3689348814741910323 2 (by decide)
  have i2 := mask2
  have s2 := fun y => Pl.step_form y 1085102592571150095#64 1085102592571150095 4 (by decide)
  have i3 := mask3
  have s3 := fun y => Pl.step_form y 71777214294589695#64 71777214294589695 8 (by decide)
  have i4 := mask4
  have s4 := fun y => Pl.step_form y 281470681808895#64 281470681808895 16 (by decide)
  have i5 := mask5
  have s5 := fun y => Pl.step_form y 4294967295#64 4294967295 32 (by decide)
  go_enter Tryd.func15, Tryd.ntmps15
  go_wp2_with (first | (go_at_call 24; refine (up_any _).mono ?_; rintro e w' ⟨rfl, rfl⟩) | (go_at_call 24; refine (down_any _).mono ?_; rintro e w' ⟨rfl, rfl⟩))
  refine wp_loop_rounds 7 ?_
  iterate 7
    rw [rounds_succ]
    go_wp2_with (first | (go_at_call 26; refine (shr_any _ _ (by omega) (by omega) _).mono ?_; rintro e w' ⟨rfl, rfl⟩) | (go_at_call 25; refine (shl_any _ _ (by omega) (by omega) _).mono ?_; rintro e w' ⟨rfl, rfl⟩))
  go_ret
  exact ⟨rfl, (Grown.refl _).alloc _ _, (Below.refl _ _).alloc (Nat.le_refl _) _⟩
end Go.Proofs.YtfajoaodipoojaaDoor
