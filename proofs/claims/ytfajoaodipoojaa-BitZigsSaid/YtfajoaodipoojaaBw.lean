/- The walks of layer 2's functions (bit) and of the document's answer for it (handcartref02): what each computes, as a function of 64-bit numbers. No conditions but that a number fits its kind. -/
import Derived.Test.YtfajoaodipoojaaRows
import Derived.Test.YtfajoaodipoojaaPl
import Derived.WalkKit
import Derived.WalkLawsBesides
import Derived.WalkSpells
import Derived.Handy
import Derived.Lib.Hide
namespace Go.Proofs.Ytfajoaodipoojaa
open Go.RowKit
set_option linter.unusedVariables false

theorem ret_int {k : IntKind} {a b : Int} (h : a = b) : Ending.returned (.int k a) = .returned (.int k b) := by rw [h]

theorem zig_any (n : Int) (h0 : -9223372036854775808 ≤ n) (h1 : n ≤ 9223372036854775807) (w : World) :
    Calls Try.prog 5 #[.int .i64 n] w fun e w' => e = .returned (.int .u64 (Pl.zig n)) ∧ w = w' := by
  go_enter Try.func5, Try.ntmps5
  go_wp2
  go_ret
  exact ⟨ret_int (Pl.zig_form n h0 h1), rfl⟩

theorem zag_any (x : BitVec 64) (w : World) :
    Calls Try.prog 7 #[.int .u64 x.toNat] w fun e w' => e = .returned (.int .i64 (Pl.zag x.toNat)) ∧ w = w' := by
  go_enter Try.func7, Try.ntmps7
  go_wp2
  go_ret
  exact ⟨ret_int (Pl.zag_form x), rfl⟩

theorem refzig_any (n : Int) (h0 : -9223372036854775808 ≤ n) (h1 : n ≤ 9223372036854775807) (w : World) :
    Calls Try.prog 6 #[.int .i64 n] w fun e w' => e = .returned (.int .u64 (Pl.zig n)) ∧ w = w' := by
  by_cases h : 0 ≤ n
  · go_enter Try.func6, Try.ntmps6
    go_wp2
    go_ret
    exact ⟨ret_int (by unfold Pl.zig; rw [if_pos h]), rfl⟩
  · go_enter Try.func6, Try.ntmps6
    go_wp2
    go_ret
    exact ⟨ret_int (by unfold Pl.zig; rw [if_neg (by omega)]; omega), rfl⟩

theorem refzag_any (x : BitVec 64) (w : World) :
    Calls Try.prog 8 #[.int .u64 x.toNat] w fun e w' => e = .returned (.int .i64 (Pl.zag x.toNat)) ∧ w = w' := by
  have hx := x.isLt
  rcases Nat.mod_two_eq_zero_or_one x.toNat with h | h
  · have h2 : (((x.toNat : Int) % 2) == 0) = true := by simp; omega
    go_enter Try.func8, Try.ntmps8
    go_wp2
    go_ret
    exact ⟨ret_int (by unfold Pl.zag; rw [if_pos (by omega)]; rfl), rfl⟩
  · have h2 : (((x.toNat : Int) % 2) == 0) = false := by simp; omega
    go_enter Try.func8, Try.ntmps8
    go_wp2
    go_ret
    exact ⟨ret_int (by unfold Pl.zag; rw [if_neg (by omega)]; rfl), rfl⟩

theorem low_any (x : BitVec 64) (n : Int) (w : World) :
    Calls Try.prog 10 #[.int .u64 x.toNat, .int .i64 n] w fun e w' => e = .returned (.int .u64 (Pl.low x n).toNat) ∧ w = w' := by
  by_cases h0 : n ≤ 0
  · go_enter Try.func10, Try.ntmps10
    go_wp2
    go_ret
    exact ⟨ret_int (Pl.low_zero x n h0), rfl⟩
  · by_cases h1 : 64 ≤ n
    · go_enter Try.func10, Try.ntmps10
      go_wp2
      go_ret
      exact ⟨ret_int (Pl.low_all x n h1), rfl⟩
    · go_enter Try.func10, Try.ntmps10
      go_wp2
      go_ret
      exact ⟨ret_int (Pl.low_mask x n (by omega) (by omega)), rfl⟩

theorem power_any (i : Nat) (hi : i < 64) (w : World) :
    Calls Try.prog 18 #[.int .i64 i] w fun e w' => e = .returned (.int .u64 (Pl.pw i).toNat) ∧ w = w' := by
  go_enter Try.func18, Try.ntmps18
  go_wp2
  go_loop [3, 4] (fun p v => ∃ k : Nat, k ≤ i ∧ v = .int .i64 k ∧ p = .int .u64 (Pl.pw k).toNat) (fun _ v => i - (intOf v).toNat)
  case atStart => exact ⟨0, by omega, rfl, by rw [← Pl.pw_zero]⟩
  case round =>
    obtain ⟨k, hk, rfl, rfl⟩ := hrel
    by_cases hlt : k < i
    · go_wp2
      go_round
      case rel => exact ⟨k + 1, by omega, by go_num, by rw [Pl.pw_succ]⟩
      case measure => simp [intOf]; omega
    · go_wp2
      go_ret
      exact ⟨ret_int (by rw [show k = i by omega]), rfl⟩

theorem bit_any (x : BitVec 64) (i : Nat) (hi : i < 64) (w : World) :
    Calls Try.prog 21 #[.int .u64 x.toNat, .int .i64 i] w fun e w' => e = .returned (.int .u64 (Pl.bit x i).toNat) ∧ w = w' := by
  go_enter Try.func21, Try.ntmps21
  go_wp2
  go_loop [0, 5] (fun p v => ∃ k : Nat, k ≤ i ∧ v = .int .i64 k ∧ p = .int .u64 (Pl.shr x k).toNat) (fun _ v => i - (intOf v).toNat)
  case atStart => exact ⟨0, by omega, rfl, by rw [← Pl.shr_zero]⟩
  case round =>
    obtain ⟨k, hk, rfl, rfl⟩ := hrel
    by_cases hlt : k < i
    · go_wp2
      go_round
      case rel => exact ⟨k + 1, by omega, by go_num, by rw [Pl.shr_succ]⟩
      case measure => simp [intOf]; omega
    · go_wp2
      go_ret
      exact ⟨ret_int (by rw [show k = i by omega]; exact Pl.bit_form x i), rfl⟩

theorem mod_any (n : Int) (w : World) :
    Calls Try.prog 22 #[.int .i64 n] w fun e w' => e = .returned (.int .i64 (n % 64)) ∧ w = w' := by
  go_enter Try.func22, Try.ntmps22
  go_wp2
  go_ret
  exact ⟨ret_int (Pl.mod_form n), rfl⟩

theorem reflow_any (x : BitVec 64) (n : Int) (w : World) :
    Calls Try.prog 11 #[.int .u64 x.toNat, .int .i64 n] w fun e w' => e = .returned (.int .u64 (Pl.low x n).toNat) ∧ w = w' := by
  by_cases h0 : n ≤ 0
  · go_enter Try.func11, Try.ntmps11
    go_wp2
    go_ret
    exact ⟨ret_int (Pl.low_zero x n h0), rfl⟩
  · by_cases h1 : 64 ≤ n
    · go_enter Try.func11, Try.ntmps11
      go_wp2
      go_ret
      exact ⟨ret_int (Pl.low_all x n h1), rfl⟩
    · obtain ⟨i, rfl⟩ : ∃ i : Nat, n = i := ⟨n.toNat, by omega⟩
      go_enter Try.func11, Try.ntmps11
      have hp : ¬ (Pl.pw i).toNat = 0 := by have := Pl.pw_pos i (by omega); omega
      go_wp2_with (go_at_call 18; refine (power_any i (by omega) _).mono ?_; rintro e w' ⟨rfl, rfl⟩)
      go_ret
      exact ⟨ret_int (Pl.low_mod x i h0 (by omega)), rfl⟩

theorem shr_any (x : BitVec 64) (n : Int) (h0 : 0 ≤ n) (h1 : n ≤ 9223372036854775807) (w : World) :
    Calls Try.prog 24 #[.int .u64 x.toNat, .int .i64 n] w fun e w' => e = .returned (.int .u64 (Pl.shr x n.toNat).toNat) ∧ w = w' := by
  go_enter Try.func24, Try.ntmps24
  go_wp2
  go_ret
  exact ⟨ret_int (Pl.shr_form x n), rfl⟩
theorem shl_any (x : BitVec 64) (n : Int) (h0 : 0 ≤ n) (h1 : n ≤ 9223372036854775807) (w : World) :
    Calls Try.prog 23 #[.int .u64 x.toNat, .int .i64 n] w fun e w' => e = .returned (.int .u64 (Pl.shl x n.toNat).toNat) ∧ w = w' := by
  go_enter Try.func23, Try.ntmps23
  go_wp2
  go_ret
  exact ⟨ret_int (Pl.shl_form x n), rfl⟩
theorem up_any (w : World) :
    Calls Try.prog 19 #[.bool true] w fun e w' => e = .returned (.func (.func 23) #[] #[]) ∧ w = w' := by
  go_enter Try.func19, Try.ntmps19
  go_wp2
  go_ret
  exact ⟨rfl, rfl⟩
theorem down_any (w : World) :
    Calls Try.prog 19 #[.bool false] w fun e w' => e = .returned (.func (.func 24) #[] #[]) ∧ w = w' := by
  go_enter Try.func19, Try.ntmps19
  go_wp2
  go_ret
  exact ⟨rfl, rfl⟩

theorem part_any (x : BitVec 64) (f n : Int) (h0 : -9223372036854775808 ≤ f) (h1 : f ≤ 9223372036854775807) (w : World) :
    Calls Try.prog 12 #[.int .u64 x.toNat, .int .i64 f, .int .i64 n] w fun e w' => e = .returned (.int .u64 (Pl.part x f n).toNat) ∧ w = w' := by
  by_cases hf : f < 0
  · rw [Pl.part_neg x f n hf]
    go_enter Try.func12, Try.ntmps12
    go_wp2_with (first | (go_at_call 19; refine (down_any _).mono ?_; rintro e w' ⟨rfl, rfl⟩) | (go_at_call 24; refine (shr_any x _ (by omega) (by omega) _).mono ?_; rintro e w' ⟨rfl, rfl⟩) | (go_at_call 10; refine (low_any _ _ _).mono ?_; rintro e w' ⟨rfl, rfl⟩))
    go_ret
    exact ⟨rfl, rfl⟩
  · rw [Pl.part_pos x f n (by omega)]
    go_enter Try.func12, Try.ntmps12
    go_wp2_with (first | (go_at_call 19; refine (down_any _).mono ?_; rintro e w' ⟨rfl, rfl⟩) | (go_at_call 24; refine (shr_any x _ (by omega) (by omega) _).mono ?_; rintro e w' ⟨rfl, rfl⟩) | (go_at_call 10; refine (low_any _ _ _).mono ?_; rintro e w' ⟨rfl, rfl⟩))
    go_ret
    exact ⟨rfl, rfl⟩

theorem refpart_any (x : BitVec 64) (f n : Int) (w : World) :
    Calls Try.prog 13 #[.int .u64 x.toNat, .int .i64 f, .int .i64 n] w fun e w' => e = .returned (.int .u64 (Pl.part x f n).toNat) ∧ w = w' := by
  by_cases h : 63 < f
  · go_enter Try.func13, Try.ntmps13
    go_wp2
    go_ret
    exact ⟨ret_int (Pl.part_big x f n h), rfl⟩
  · by_cases hf : f < 0
    · rw [Pl.part_neg x f n hf]
      have hp : ¬ (Pl.pw 0).toNat = 0 := by have := Pl.pw_pos 0 (by omega); omega
      have hs := Pl.shr_pw x 0 (by omega)
      go_enter Try.func13, Try.ntmps13
      go_wp2_with (first | (go_at_call 18; refine (power_any 0 (by omega) _).mono ?_; rintro e w' ⟨rfl, rfl⟩) | (go_at_call 11; refine (reflow_any (Pl.shr x 0) n _).mono ?_; rintro e w' ⟨rfl, rfl⟩))
      go_ret
      exact ⟨rfl, rfl⟩
    · obtain ⟨i, rfl⟩ : ∃ i : Nat, f = i := ⟨f.toNat, by omega⟩
      rw [Pl.part_pos x i n (by omega), Int.toNat_natCast]
      have hp : ¬ (Pl.pw i).toNat = 0 := by have := Pl.pw_pos i (by omega); omega
      have hs := Pl.shr_pw x i (by omega)
      go_enter Try.func13, Try.ntmps13
      go_wp2_with (first | (go_at_call 18; refine (power_any i (by omega) _).mono ?_; rintro e w' ⟨rfl, rfl⟩) | (go_at_call 11; refine (reflow_any (Pl.shr x i) n _).mono ?_; rintro e w' ⟨rfl, rfl⟩))
      go_ret
      exact ⟨rfl, rfl⟩
theorem rotl_any (x : BitVec 64) (n : Int) (w : World) :
    Calls Try.prog 14 #[.int .u64 x.toNat, .int .i64 n] w fun e w' => e = .returned (.int .u64 (Pl.rotv x (n % 64).toNat).toNat) ∧ w = w' := by
  have h1 : -64 < n.tmod 64 := by have := Int.lt_tmod_of_pos n (b := 64) (by decide); omega
  have h2 : n.tmod 64 < 64 := Int.tmod_lt_of_pos n (by decide)
  have hs := Pl.rot_by n
  have hn : 0 ≤ n % 64 := by omega
  have hn2 : n % 64 < 64 := by omega
  go_enter Try.func14, Try.ntmps14
  go_wp2
  go_ret
  exact ⟨ret_int (Pl.rot_form x n), rfl⟩

theorem mod_nat (n : Int) (s : Nat) (h : n % 64 = s) (w : World) :
    Calls Try.prog 22 #[.int .i64 n] w fun e w' => e = .returned (.int .i64 s) ∧ w = w' := by
  rw [← h]; exact mod_any n w

theorem refrot_any (x : BitVec 64) (n : Int) (w : World) :
    Calls Try.prog 15 #[.int .u64 x.toNat, .int .i64 n] w fun e w' => e = .returned (.int .u64 (Pl.rotv x (n % 64).toNat).toNat) ∧ w = w' := by
  obtain ⟨s, hs⟩ : ∃ s : Nat, n % 64 = s := ⟨(n % 64).toNat, by omega⟩
  have hs64 : s < 64 := by omega
  rw [show (n % 64).toNat = s by omega, ← Pl.rot_sum x s hs64]
  have HS := Lib.hid hs
  clear hs
  go_enter Try.func15, Try.ntmps15
  go_wp2
  go_loop [5, 6] (fun p v => ∃ k : Nat, k ≤ 64 ∧ v = .int .i64 k ∧ p = .int .u64 (Pl.sum x (fun i => (i + s) % 64) k).toNat) (fun _ v => 64 - (intOf v).toNat)
  case atStart => exact ⟨0, by omega, rfl, by rw [← Pl.sum_zero]⟩
  case round =>
    obtain ⟨k, hk, rfl, rfl⟩ := hrel
    by_cases hlt : k < 64
    · obtain ⟨j, hj⟩ : ∃ j, (k + s) % 64 = j := ⟨_, rfl⟩
      have hj64 : j < 64 := by omega
      have hm : ((k : Int) + (s : Int)) % 64 = (j : Int) := by omega
      have HM := Lib.hid hm
      have HJ := Lib.hid hj
      clear hm hj
      go_wp2_with (first | (go_at_call 21; refine (bit_any x k hlt _).mono ?_; rintro e w' ⟨rfl, rfl⟩) | (go_at_call 22; refine (mod_nat n s HS.out _).mono ?_; rintro e w' ⟨rfl, rfl⟩) | (go_at_call 22; refine (mod_nat _ j HM.out _).mono ?_; rintro e w' ⟨rfl, rfl⟩) | (go_at_call 18; refine (power_any j hj64 _).mono ?_; rintro e w' ⟨rfl, rfl⟩))
      go_round
      case rel => exact ⟨k + 1, by omega, by go_num, by rw [Pl.sum_step x (fun i => (i + s) % 64) k j HJ.out.symm]⟩
      case measure => simp [intOf]; omega
    · go_wp2
      go_ret
      exact ⟨ret_int (by rw [show k = 64 by omega]), rfl⟩

theorem mask0 : ∀ w, (Instr.index 35 (.agg #[.int .u64 6148914691236517205, .int .u64 3689348814741910323, .int .u64 1085102592571150095, .int .u64 71777214294589695, .int .u64 281470681808895, .int .u64 4294967295]) (.int .i64 0)).run Try.prog w = .ok (.int .u64 6148914691236517205) w := fun _ => by kernel_rfl
theorem mask1 : ∀ w, (Instr.index 35 (.agg #[.int .u64 6148914691236517205, .int .u64 3689348814741910323, .int .u64 1085102592571150095, .int .u64 71777214294589695, .int .u64 281470681808895, .int .u64 4294967295]) (.int .i64 1)).run Try.prog w = .ok (.int .u64 3689348814741910323) w := fun _ => by kernel_rfl
theorem mask2 : ∀ w, (Instr.index 35 (.agg #[.int .u64 6148914691236517205, .int .u64 3689348814741910323, .int .u64 1085102592571150095, .int .u64 71777214294589695, .int .u64 281470681808895, .int .u64 4294967295]) (.int .i64 2)).run Try.prog w = .ok (.int .u64 1085102592571150095) w := fun _ => by kernel_rfl
theorem mask3 : ∀ w, (Instr.index 35 (.agg #[.int .u64 6148914691236517205, .int .u64 3689348814741910323, .int .u64 1085102592571150095, .int .u64 71777214294589695, .int .u64 281470681808895, .int .u64 4294967295]) (.int .i64 3)).run Try.prog w = .ok (.int .u64 71777214294589695) w := fun _ => by kernel_rfl
theorem mask4 : ∀ w, (Instr.index 35 (.agg #[.int .u64 6148914691236517205, .int .u64 3689348814741910323, .int .u64 1085102592571150095, .int .u64 71777214294589695, .int .u64 281470681808895, .int .u64 4294967295]) (.int .i64 4)).run Try.prog w = .ok (.int .u64 281470681808895) w := fun _ => by kernel_rfl
theorem mask5 : ∀ w, (Instr.index 35 (.agg #[.int .u64 6148914691236517205, .int .u64 3689348814741910323, .int .u64 1085102592571150095, .int .u64 71777214294589695, .int .u64 281470681808895, .int .u64 4294967295]) (.int .i64 5)).run Try.prog w = .ok (.int .u64 4294967295) w := fun _ => by kernel_rfl
set_option maxHeartbeats 400000 in
theorem turn_any (x : BitVec 64) (w : World) :
    Calls Try.prog 16 #[.int .u64 x.toNat] w fun e w' => e = .returned (.int .u64 (Pl.turnv x).toNat) ∧ Grown w w' := by
  have hand := Pl.land_form
  have hor := Pl.lor_form
  have i0 := mask0
  have s0 := fun y => Pl.step_form y 6148914691236517205#64 6148914691236517205 1 (by decide)
  have i1 := mask1
  have s1 := fun y => Pl.step_form y 3689348814741910323#64 3689348814741910323 2 (by decide)
  have i2 := mask2
  have s2 := fun y => Pl.step_form y 1085102592571150095#64 1085102592571150095 4 (by decide)
  have i3 := mask3
  have s3 := fun y => Pl.step_form y 71777214294589695#64 71777214294589695 8 (by decide)
  have i4 := mask4
  have s4 := fun y => Pl.step_form y 281470681808895#64 281470681808895 16 (by decide)
  have i5 := mask5
  have s5 := fun y => Pl.step_form y 4294967295#64 4294967295 32 (by decide)
  go_enter Try.func16, Try.ntmps16
  go_wp2_with (first | (go_at_call 19; refine (up_any _).mono ?_; rintro e w' ⟨rfl, rfl⟩) | (go_at_call 19; refine (down_any _).mono ?_; rintro e w' ⟨rfl, rfl⟩))
  refine wp_loop_rounds 7 ?_
  iterate 7
    rw [rounds_succ]
    go_wp2_with (first | (go_at_call 24; refine (shr_any _ _ (by omega) (by omega) _).mono ?_; rintro e w' ⟨rfl, rfl⟩) | (go_at_call 23; refine (shl_any _ _ (by omega) (by omega) _).mono ?_; rintro e w' ⟨rfl, rfl⟩))
  go_ret
  exact ⟨rfl, (Grown.refl _).alloc _ _⟩
theorem refturn_any (x : BitVec 64) (w : World) :
    Calls Try.prog 17 #[.int .u64 x.toNat] w fun e w' => e = .returned (.int .u64 (Pl.turnv x).toNat) ∧ w = w' := by
  rw [← Pl.turn_sum x]
  go_enter Try.func17, Try.ntmps17
  go_wp2
  go_loop [3, 4] (fun p v => ∃ k : Nat, k ≤ 64 ∧ v = .int .i64 k ∧ p = .int .u64 (Pl.sum x (fun i => 63 - i) k).toNat) (fun _ v => 64 - (intOf v).toNat)
  case atStart => exact ⟨0, by omega, rfl, by rw [← Pl.sum_zero]⟩
  case round =>
    obtain ⟨k, hk, rfl, rfl⟩ := hrel
    by_cases hlt : k < 64
    · have e1 : (63 : Int) - k = ((63 - k : Nat) : Int) := by omega
      go_wp2_with (first | (go_at_call 21; refine (bit_any x k hlt _).mono ?_; rintro e w' ⟨rfl, rfl⟩) | (go_at_call 18; refine (power_any (63 - k) (by omega) _).mono ?_; rintro e w' ⟨rfl, rfl⟩))
      go_round
      case rel => exact ⟨k + 1, by omega, by go_num, by rw [Pl.sum_step _ _ _ _ rfl]⟩
      case measure => simp [intOf]; omega
    · go_wp2
      go_ret
      exact ⟨ret_int (by rw [show k = 64 by omega]), rfl⟩
end Go.Proofs.Ytfajoaodipoojaa
