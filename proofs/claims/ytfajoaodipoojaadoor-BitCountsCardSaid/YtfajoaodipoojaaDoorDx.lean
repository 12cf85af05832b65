/- The walks of layer 2's functions on halves and counts (bit), of Go's own bits.Len64 and bits.TrailingZeros64, and of the document's answers for them. -/
import Derived.Test.YtfajoaodipoojaaDoorDw
import Derived.Test.YtfajoaodipoojaaDoorShelf
import Derived.Shelf.Spec.TrailingZeros
namespace Go.Proofs.YtfajoaodipoojaaDoor
open Go.RowKit
set_option linter.unusedVariables false
set_option linter.unusedSimpArgs false

theorem halves_any (x : BitVec 64) (w : World) : Calls Tryd.prog 5 #[.int .u64 x.toNat] w fun e w' => e = .returned (.tuple #[.int .u32 ((x.toNat : Int) / 4294967296), .int .u32 ((x.toNat : Int) % 4294967296)]) ∧ w = w' := by
  have r0 := Pl.half_hi x
  go_enter Tryd.func5, Tryd.ntmps5
  go_wp2
  go_ret2
  exact ⟨rfl, rfl⟩
theorem whole_any (x : BitVec 64) (w : World) : Calls Tryd.prog 13 #[.int .u32 ((x.toNat : Int) / 4294967296), .int .u32 ((x.toNat : Int) % 4294967296)] w fun e w' => e = .returned (.int .u64 x.toNat) ∧ w = w' := by
  go_enter Tryd.func13, Tryd.ntmps13
  go_wp2
  go_ret
  exact ⟨ret_int (Pl.whole_form2 x), rfl⟩
theorem len64_any (x : BitVec 64) (w : World) : Calls Tryd.prog 20 #[.int .u64 x.toNat] w fun e w' => e = .returned (.int .i64 (Pl.len x.toNat)) ∧ w = w' := by
  refine (Tryd.bits_Len64 x.toNat w (by omega) (by have := x.isLt; omega)).mono ?_
  rintro e w' ⟨rfl, rfl⟩
  exact ⟨ret_int (by rw [Pl.len_bitLen]; rfl), rfl⟩
theorem len_any (x : BitVec 64) (w : World) : Calls Tryd.prog 8 #[.int .u64 x.toNat] w fun e w' => e = .returned (.int .i64 (Pl.len x.toNat)) ∧ w = w' := by
  go_enter Tryd.func8, Tryd.ntmps8
  go_wp2_with (go_at_call 20; refine (len64_any x _).mono ?_; rintro e w' ⟨rfl, rfl⟩)
  go_ret
  exact ⟨rfl, rfl⟩
theorem reflen_any (x : BitVec 64) (w : World) : Calls Tryd.prog 9 #[.int .u64 x.toNat] w fun e w' => e = .returned (.int .i64 (Pl.len x.toNat)) ∧ w = w' := by
  have hl := Pl.len_le x.toNat x.isLt
  go_enter Tryd.func9, Tryd.ntmps9
  go_wp2
  go_loop [0, 3] (fun p v => ∃ (y : BitVec 64) (k : Nat), v = .int .i64 k ∧ p = .int .u64 y.toNat ∧ k + Pl.len y.toNat = Pl.len x.toNat) (fun p _ => (intOf p).toNat)
  case atStart => exact ⟨x, 0, rfl, rfl, by omega⟩
  case round =>
    obtain ⟨y, k, rfl, rfl, hy⟩ := hrel
    have HY := Lib.hid hy
    have hk : k ≤ 64 := by omega
    clear hy
    by_cases h0 : y.toNat = 0
    · have h1 : ¬ 0 < y.toNat := by omega
      have H0 := Lib.hid h0
      clear h0
      go_wp2
      go_ret
      exact ⟨ret_int (by have := HY.out; rw [H0.out, Pl.len_zero] at this; rw [← this]; simp), rfl⟩
    · have h1 : 0 < y.toNat := by omega
      have hl := Pl.len_pos y.toNat h0
      have hk2 : k ≤ 63 := by have := HY.out; omega
      have HL := Lib.hid hl
      obtain ⟨z, hz⟩ : ∃ z : BitVec 64, (y.toNat : Int) / 2 = (z.toNat : Int) := ⟨y >>> 1, by rw [BitVec.toNat_ushiftRight, Nat.shiftRight_eq_div_pow]; omega⟩
      have hz2 : z.toNat = y.toNat / 2 := by omega
      have HZ := Lib.hid hz2
      clear hl hz2 h0
      go_wp2
      go_round
      case rel => exact ⟨z, k + 1, by go_num, rfl, by rw [← HY.out, HL.out, HZ.out]; omega⟩
      case measure => simp [intOf]; have := HZ.out; omega
theorem ones_any (x : BitVec 64) (w : World) : Calls Tryd.prog 10 #[.int .u64 x.toNat] w fun e w' => e = .returned (.int .i64 (Pl.cnt x.toNat)) ∧ w = w' := by
  go_enter Tryd.func10, Tryd.ntmps10
  go_wp2
  go_step3
  go_wp2
  go_step3
  go_wp2
  go_loop [0, 2] (fun p v => ∃ (y : BitVec 64) (k : Nat), v = .int .i64 k ∧ p = .int .u64 y.toNat ∧ k + Pl.cnt y.toNat = Pl.cnt x.toNat) (fun p _ => Pl.cnt (intOf p).toNat)
  case atStart => exact ⟨x, 0, rfl, rfl, by omega⟩
  case round =>
    obtain ⟨y, k, rfl, rfl, hy⟩ := hrel
    have HY := Lib.hid hy
    have hcx := Pl.cnt_le x.toNat x.isLt
    have hk : k ≤ 64 := by omega
    clear hy
    by_cases h0 : y.toNat = 0
    · have h1 : ((y.toNat : Int) == 0) = true := by simp; omega
      have H0 := Lib.hid h0
      clear h0
      go_wp2
      try rw [Exit.noGoto_ret]
      go_ret
      exact ⟨ret_int (by have := HY.out; rw [H0.out, Pl.cnt_zero] at this; rw [← this]; simp), rfl⟩
    · have h1 : ((y.toNat : Int) == 0) = false := by simp; omega
      have hc := Pl.cnt_clr y h0
      have hk2 : k ≤ 63 := by have := HY.out; omega
      have hf := Pl.clr_form y h0
      have HC := Lib.hid hc
      clear hc h0
      go_wp2
      go_round
      case rel => exact ⟨Pl.clr y, k + 1, by go_num, rfl, by rw [← HY.out, ← HC.out]; omega⟩
      case measure => simp [intOf]; have := HC.out; omega
theorem refones_any (x : BitVec 64) (w : World) : Calls Tryd.prog 11 #[.int .u64 x.toNat] w fun e w' => e = .returned (.int .i64 (Pl.cnt x.toNat)) ∧ w = w' := by
  rw [← Pl.pc_all x.toNat x.isLt]
  go_enter Tryd.func11, Tryd.ntmps11
  go_wp2
  go_loop [3, 4] (fun p v => ∃ k : Nat, k ≤ 64 ∧ v = .int .i64 k ∧ p = .int .i64 (Pl.pc x.toNat k)) (fun _ v => 64 - (intOf v).toNat)
  case atStart => exact ⟨0, by omega, rfl, rfl⟩
  case round =>
    obtain ⟨k, hk, rfl, rfl⟩ := hrel
    have hp := Pl.pc_le x.toNat k
    by_cases hlt : k < 64
    · have hb : (Pl.bit x k).toNat ≤ 1 := by rw [Pl.bit_nat]; omega
      have HB := Lib.hid (Pl.bit_nat x k)
      go_wp2_with (go_at_call 19; refine (bit_any x k hlt _).mono ?_; rintro e w' ⟨rfl, rfl⟩)
      go_round
      case rel => exact ⟨k + 1, by omega, by go_num, by rw [Pl.pc, ← HB.out]; simp⟩
      case measure => simp [intOf]; omega
    · go_wp2
      go_ret
      exact ⟨ret_int (by rw [show k = 64 by omega]), rfl⟩
theorem reftrail_any (x : BitVec 64) (w : World) : Calls Tryd.prog 7 #[.int .u64 x.toNat] w fun e w' => e = .returned (.int .i64 (Pl.trail x.toNat 64)) ∧ w = w' := by
  go_enter Tryd.func7, Tryd.ntmps7
  go_wp2
  go_loop [3] (fun v => ∃ k : Nat, k ≤ 64 ∧ v = .int .i64 k ∧ Pl.trail x.toNat (64 - k) = Pl.trail x.toNat 64) (fun v => 64 - (intOf v).toNat)
  case atStart => exact ⟨0, by omega, rfl, rfl⟩
  case round =>
    obtain ⟨k, hk, rfl, hr⟩ := hrel
    have HR := Lib.hid hr
    clear hr
    by_cases hlt : k < 64
    · have hbn := Pl.bit_nat x k
      by_cases hb : x.toNat / 2 ^ k % 2 = 1
      · have h1 : (((Pl.bit x k).toNat : Int) == 0) = false := by simp; omega
        have HS := Lib.hid (Pl.trail_stop x.toNat k hlt hb)
        clear hbn hb
        go_wp2_with (go_at_call 19; refine (bit_any x k hlt _).mono ?_; rintro e w' ⟨rfl, rfl⟩)
        go_ret
        exact ⟨ret_int (by rw [← HR.out, HS.out]), rfl⟩
      · have h1 : (((Pl.bit x k).toNat : Int) == 0) = true := by simp; omega
        have HS := Lib.hid (Pl.trail_step x.toNat k hlt hb)
        clear hbn hb
        go_wp2_with (go_at_call 19; refine (bit_any x k hlt _).mono ?_; rintro e w' ⟨rfl, rfl⟩)
        go_round
        case rel => exact ⟨k + 1, by omega, by go_num, by rw [← HS.out]; exact HR.out⟩
        case measure => simp [intOf]; omega
    · obtain rfl : k = 64 := by omega
      go_wp2
      go_ret
      exact ⟨ret_int (by rw [← HR.out]; rfl), rfl⟩
set_option maxHeartbeats 1000000 in
theorem tz64_core (x k idx : Nat) (w : World) (hx0 : ((x : Int) == 0) = false)
    (key : IntKind.u64.wrap (bits BinOp.and IntKind.u64 (x : Int) (IntKind.u64.wrap (-(x : Int))) * 285870213051353865) / 288230376151711744 = (idx : Int))
    (hi : idx < 64) (hk : k < 64) (hcell : w.cell? ⟨0, idx, none⟩ = some (.int .u8 k)) :
    Calls Tryd.prog 18 #[.int .u64 x] w fun e w' => e = .returned (.int .i64 k) ∧ w = w' := by
  go_enter Tryd.func18, Tryd.ntmps18
  go_wp2_with (simp only [key])
  go_ret
  exact ⟨rfl, rfl⟩
theorem tz64_zero (w : World) : Calls Tryd.prog 18 #[.int .u64 0] w fun e w' => e = .returned (.int .i64 64) ∧ w = w' := by
  go_enter Tryd.func18, Tryd.ntmps18
  go_wp2
  go_ret
  exact ⟨rfl, rfl⟩
theorem tz64_any (x : BitVec 64) (w : World) (hT : ∀ j, j < 64 → w.cell? ⟨0, j, none⟩ = some (.int .u8 (Lib.deBruijn64tab.getD j 0))) : Calls Tryd.prog 18 #[.int .u64 x.toNat] w fun e w' => e = .returned (.int .i64 (Pl.trail x.toNat 64)) ∧ w = w' := by
  rw [Pl.trail_ctz]
  by_cases hx0 : x.toNat = 0
  · rw [hx0]
    exact tz64_zero w
  · obtain ⟨hlow, hk⟩ := Lib.lowest_bit 64 x.toNat hx0 x.isLt
    obtain ⟨hi, htab⟩ := Lib.deBruijn64_at _ hk
    have hcell := hT _ hi
    rw [htab] at hcell
    exact tz64_core x.toNat _ _ w (by simp; omega) (tz64_key x.toNat _ x.isLt hx0 hlow) hi hk hcell
theorem trail_any (x : BitVec 64) (w : World) (hT : ∀ j, j < 64 → w.cell? ⟨0, j, none⟩ = some (.int .u8 (Lib.deBruijn64tab.getD j 0))) : Calls Tryd.prog 6 #[.int .u64 x.toNat] w fun e w' => e = .returned (.int .i64 (Pl.trail x.toNat 64)) ∧ w = w' := by
  have h := tz64_any x w hT
  clear hT
  go_enter Tryd.func6, Tryd.ntmps6
  go_wp2_with (go_at_call 18; refine h.mono ?_; rintro e w' ⟨rfl, rfl⟩)
  go_ret
  exact ⟨rfl, rfl⟩
end Go.Proofs.YtfajoaodipoojaaDoor
