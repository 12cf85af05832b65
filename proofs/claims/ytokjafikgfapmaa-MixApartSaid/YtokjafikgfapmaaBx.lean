/- The walks of layer 4's Unword (mix), and of the law MixWords. -/
import Derived.Test.YtokjafikgfapmaaBw
namespace Go.Proofs.Ytokjafikgfapmaa
open Go.RowKit
set_option linter.unusedVariables false
set_option linter.unusedSimpArgs false

theorem undo1_any (y : BitVec 64) (n : Nat) (hn : n < 64) (a : Addr) (w : World) (hc : w.cell? a = some (.int .i64 (n : Int))) :
    Calls Try.prog 25 #[.int .u64 y.toNat, .pointer (some a)] w fun e w' => e = .returned (.int .u64 (Pl.undo n y 6).toNat) ∧ w = w' := by
  go_enter Try.func25, Try.ntmps25
  go_wp2
  go_loop [4, 6] (fun p v => ∃ k : Nat, k ≤ 6 ∧ v = .int .i64 k ∧ p = .int .u64 (Pl.undo n y k).toNat) (fun _ v => 6 - (intOf v).toNat)
  case atStart => exact ⟨0, by omega, rfl, rfl⟩
  case round =>
    obtain ⟨k, hk, rfl, rfl⟩ := hrel
    by_cases hlt : k < 6
    · go_wp2
      go_round
      case rel => exact ⟨k + 1, by omega, by go_num, by rw [Pl.undo_form]⟩
      case measure => simp [intOf]; omega
    · go_wp2
      go_ret
      exact ⟨ret_int (by rw [show k = 6 by omega]), rfl⟩
theorem unword_any (s y : BitVec 64) (w : World) :
    Calls Try.prog 8 #[.int .u64 s.toNat, .int .u64 y.toNat] w fun e w' => e = .returned (.int .u64 (Pl.unword s y).toNat) ∧ Grown w w' := by
  have q1 : ∀ W, Calls Try.prog 17 #[.int .u64 10723151780598845931] W fun e w' => e = .returned (.int .u64 (Pl.inv Pl.C 6).toNat) ∧ W = w' := fun W => inverse_any Pl.C W
  have q2 : ∀ W, Calls Try.prog 17 #[.int .u64 13787848793156543929] W fun e w' => e = .returned (.int .u64 (Pl.inv Pl.B 6).toNat) ∧ W = w' := fun W => inverse_any Pl.B W
  have u1 : ∀ y W a, W.cell? a = some (.int .i64 31) → Calls Try.prog 25 #[.int .u64 (BitVec.toNat y), .pointer (some a)] W fun e w' => e = .returned (.int .u64 (Pl.undo 31 y 6).toNat) ∧ W = w' := fun y W a h => undo1_any y 31 (by omega) a W h
  have u2 : ∀ y W a, W.cell? a = some (.int .i64 27) → Calls Try.prog 25 #[.int .u64 (BitVec.toNat y), .pointer (some a)] W fun e w' => e = .returned (.int .u64 (Pl.undo 27 y 6).toNat) ∧ W = w' := fun y W a h => undo1_any y 27 (by omega) a W h
  have u3 : ∀ y W a, W.cell? a = some (.int .i64 30) → Calls Try.prog 25 #[.int .u64 (BitVec.toNat y), .pointer (some a)] W fun e w' => e = .returned (.int .u64 (Pl.undo 30 y 6).toNat) ∧ W = w' := fun y W a h => undo1_any y 30 (by omega) a W h
  have r0 := Pl.xor_form
  have r1 := Pl.mul_form
  have r2 := Pl.subA_form
  go_enter Try.func8, Try.ntmps8
  go_wp2_with (go_at_call 16; refine (undo_any _ _).mono ?_; rintro e w' ⟨rfl, rfl⟩)
  refine (u1 _ _ _ (by go_cell)).mono ?_
  rintro e w' ⟨rfl, rfl⟩
  go_wp2_with (first | (go_at_call 16; refine (undo_any _ _).mono ?_; rintro e w' ⟨rfl, rfl⟩) | (go_at_call 17; refine (q1 _).mono ?_; rintro e w' ⟨rfl, rfl⟩))
  refine (u2 _ _ _ (by go_cell)).mono ?_
  rintro e w' ⟨rfl, rfl⟩
  go_wp2_with (first | (go_at_call 16; refine (undo_any _ _).mono ?_; rintro e w' ⟨rfl, rfl⟩) | (go_at_call 17; refine (q2 _).mono ?_; rintro e w' ⟨rfl, rfl⟩))
  refine (u3 _ _ _ (by go_cell)).mono ?_
  rintro e w' ⟨rfl, rfl⟩
  go_wp2
  go_ret
  exact ⟨ret_int (by rw [← Pl.unword_shape]), (((Grown.refl _).alloc _ _).alloc _ _).alloc _ _⟩

theorem below_any (x : BitVec 64) (n : Int) (h0 : -9223372036854775808 ≤ n) (h1 : n ≤ 9223372036854775807) (w : World) :
    Calls Try.prog 12 #[.int .u64 x.toNat, .int .i64 n] w fun e w' => e = .returned (.int .i64 (if n < 1 then 0 else (x.toNat : Int) % n)) ∧ w = w' := by
  by_cases h : n < 1
  · rw [if_pos h]
    go_enter Try.func12, Try.ntmps12
    go_wp2
    go_ret
    exact ⟨rfl, rfl⟩
  · rw [if_neg h]
    go_enter Try.func12, Try.ntmps12
    go_wp2
    go_ret
    exact ⟨ret_int (by have a := Int.emod_nonneg (x.toNat : Int) (show n ≠ 0 by omega); have b := Int.emod_lt_of_pos (x.toNat : Int) (show 0 < n by omega); unfold wrap64; omega), rfl⟩
theorem alive_any (w : World) : Calls Try.prog 9 #[] w fun e w' => e = .returned (.bool true) ∧ Grown w w' := by
  have p0 : ∀ W, Calls Try.prog 6 #[.int .u64 0, .int .u64 0] W fun e w' => e = .returned (.int .u64 (Pl.stir Pl.A).toNat) ∧ Grown W w' := fun W => word_any 0#64 0#64 W
  have p1 : ∀ W, Calls Try.prog 14 #[.int .u64 11400714819323198485] W fun e w' => e = .returned (.int .u64 (Pl.stir Pl.A).toNat) ∧ W = w' := fun W => stir_any Pl.A W
  have p2 : ∀ W, Calls Try.prog 6 #[.int .u64 5, .int .u64 77] W fun e w' => e = .returned (.int .u64 (Pl.word 5#64 77#64).toNat) ∧ Grown W w' := fun W => word_any 5#64 77#64 W
  have p3 : ∀ W, Calls Try.prog 8 #[.int .u64 5, .int .u64 (Pl.word 5#64 77#64).toNat] W fun e w' => e = .returned (.int .u64 77) ∧ Grown W w' := fun W => by
    have h := unword_any 5#64 (Pl.word 5#64 77#64) W
    rw [Pl.unword_word] at h; exact h
  have p4 : ∀ W, Calls Try.prog 12 #[.int .u64 9, .int .i64 4] W fun e w' => e = .returned (.int .i64 1) ∧ W = w' := fun W => below_any 9#64 4 (by omega) (by omega) W
  go_enter Try.func9, Try.ntmps9
  go_wp2_with (first | (go_at_call 6; ((with_reducible refine (p0 _).mono ?_); rintro e w1 ⟨rfl, g1⟩)) | (go_at_call 6; ((with_reducible refine (p2 _).mono ?_); rintro e w2 ⟨rfl, g2⟩)) | (go_at_call 8; ((with_reducible refine (p3 _).mono ?_); rintro e w3 ⟨rfl, g3⟩)) | (go_at_call 14; ((with_reducible refine (p1 _).mono ?_); rintro e w' ⟨rfl, rfl⟩)) | (go_at_call 12; ((with_reducible refine (p4 _).mono ?_); rintro e w' ⟨rfl, rfl⟩)))
  go_ret
  exact ⟨rfl, grown_trans g1 (grown_trans g2 g3)⟩
theorem words_walk (s x : BitVec 64) (w : World) :
    Calls Try.prog 3 #[.int .u64 s.toNat, .int .u64 x.toNat] w fun e w' => e = .returned (.bool true) ∧ Grown w w' := by
  have p1 := fun W => word_any s x W
  have p2 := fun W => refword_any s x W
  have p3 : ∀ W, Calls Try.prog 8 #[.int .u64 s.toNat, .int .u64 (Pl.word s x).toNat] W fun e w' => e = .returned (.int .u64 x.toNat) ∧ Grown W w' := fun W => by
    have h := unword_any s (Pl.word s x) W
    rw [Pl.unword_word] at h; exact h
  have p4 := fun W => unword_any s x W
  have p5 : ∀ W, Calls Try.prog 6 #[.int .u64 s.toNat, .int .u64 (Pl.unword s x).toNat] W fun e w' => e = .returned (.int .u64 x.toNat) ∧ Grown W w' := fun W => by
    have h := word_any s (Pl.unword s x) W
    rw [Pl.word_unword] at h; exact h
  have p6 := fun W => alive_any W
  go_enter Try.func3, Try.ntmps3
  go_wp2_with fail
  refine (p1 _).mono ?_
  rintro e w1 ⟨rfl, g1⟩
  go_wp2_with fail
  refine (p2 _).mono ?_
  rintro e w' ⟨rfl, rfl⟩
  go_wp2_with fail
  refine (p1 _).mono ?_
  rintro e w2 ⟨rfl, g2⟩
  go_wp2_with fail
  refine (p3 _).mono ?_
  rintro e w3 ⟨rfl, g3⟩
  go_wp2_with fail
  refine (p4 _).mono ?_
  rintro e w4 ⟨rfl, g4⟩
  go_wp2_with fail
  refine (p5 _).mono ?_
  rintro e w5 ⟨rfl, g5⟩
  go_wp2_with fail
  refine (p6 _).mono ?_
  rintro e w6 ⟨rfl, g6⟩
  go_wp2
  go_ret
  exact ⟨rfl, grown_trans g1 (grown_trans g2 (grown_trans g3 (grown_trans g4 (grown_trans g5 g6))))⟩
end Go.Proofs.Ytokjafikgfapmaa
