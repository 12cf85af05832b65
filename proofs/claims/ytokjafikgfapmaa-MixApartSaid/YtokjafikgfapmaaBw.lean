/- The walks of layer 4's functions (mix) on 64-bit numbers, and of the document's answers (handcartref02, handcartref04): what each computes. No conditions but that a number fits its kind. -/
import Derived.Test.YtokjafikgfapmaaRows
import Derived.Test.YtokjafikgfapmaaPl
import Derived.WalkKit
import Derived.WalkLawsBesides
import Derived.WalkSpells
import Derived.Handy
import Derived.Lib.Hide
namespace Go.Proofs.Ytokjafikgfapmaa
open Go.RowKit
set_option linter.unusedVariables false
set_option linter.unusedSimpArgs false

theorem ret_int {k : IntKind} {a b : Int} (h : a = b) : Ending.returned (.int k a) = .returned (.int k b) := by rw [h]
theorem grown_trans {a b c : World} (h : Grown a b) (k : Grown b c) : Grown a c :=
  ⟨World.keptBut_trans h.1 k.1, fun x => (k.2.1 x).trans (h.2.1 x), Nat.le_trans h.2.2 k.2.2⟩

theorem power_any (i : Nat) (hi : i < 64) (w : World) :
    Calls Try.prog 24 #[.int .i64 i] w fun e w' => e = .returned (.int .u64 (Pl.pw i).toNat) ∧ w = w' := by
  go_enter Try.func24, Try.ntmps24
  go_wp2
  go_loop [3, 4] (fun p v => ∃ k : Nat, k ≤ i ∧ v = .int .i64 k ∧ p = .int .u64 (Pl.pw k).toNat) (fun _ v => i - (intOf v).toNat)
  case atStart => exact ⟨0, by omega, rfl, by rw [← Pl.pw_zero]⟩
  case round =>
    obtain ⟨k, hk, rfl, rfl⟩ := hrel
    by_cases hlt : k < i
    · go_wp2
      go_round
      case rel => exact ⟨k + 1, by omega, by go_num, by rw [Pl.pw_succ]⟩
      case measure => simp [intOf]; omega
    · go_wp2
      go_ret
      exact ⟨ret_int (by rw [show k = i by omega]), rfl⟩

theorem bit_any (x : BitVec 64) (i : Nat) (hi : i < 64) (w : World) :
    Calls Try.prog 23 #[.int .u64 x.toNat, .int .i64 i] w fun e w' => e = .returned (.int .u64 (Pl.bit x i).toNat) ∧ w = w' := by
  go_enter Try.func23, Try.ntmps23
  go_wp2
  go_loop [0, 5] (fun p v => ∃ k : Nat, k ≤ i ∧ v = .int .i64 k ∧ p = .int .u64 (Pl.shr x k).toNat) (fun _ v => i - (intOf v).toNat)
  case atStart => exact ⟨0, by omega, rfl, by rw [← Pl.shr_zero]⟩
  case round =>
    obtain ⟨k, hk, rfl, rfl⟩ := hrel
    by_cases hlt : k < i
    · go_wp2
      go_round
      case rel => exact ⟨k + 1, by omega, by go_num, by rw [Pl.shr_succ]⟩
      case measure => simp [intOf]; omega
    · go_wp2
      go_ret
      exact ⟨ret_int (by rw [show k = i by omega]; exact Pl.bit_form x i), rfl⟩

theorem mod_any (n : Int) (w : World) :
    Calls Try.prog 29 #[.int .i64 n] w fun e w' => e = .returned (.int .i64 (n % 64)) ∧ w = w' := by
  go_enter Try.func29, Try.ntmps29
  go_wp2
  go_ret
  exact ⟨ret_int (Pl.mod_form n), rfl⟩

theorem reflow_any (x : BitVec 64) (n : Int) (w : World) :
    Calls Try.prog 32 #[.int .u64 x.toNat, .int .i64 n] w fun e w' => e = .returned (.int .u64 (Pl.low x n).toNat) ∧ w = w' := by
  by_cases h0 : n ≤ 0
  · go_enter Try.func32, Try.ntmps32
    go_wp2
    go_ret
    exact ⟨ret_int (Pl.low_zero x n h0), rfl⟩
  · by_cases h1 : 64 ≤ n
    · go_enter Try.func32, Try.ntmps32
      go_wp2
      go_ret
      exact ⟨ret_int (Pl.low_all x n h1), rfl⟩
    · obtain ⟨i, rfl⟩ : ∃ i : Nat, n = i := ⟨n.toNat, by omega⟩
      go_enter Try.func32, Try.ntmps32
      have hp : ¬ (Pl.pw i).toNat = 0 := by have := Pl.pw_pos i (by omega); omega
      go_wp2_with (go_at_call 24; refine (power_any i (by omega) _).mono ?_; rintro e w' ⟨rfl, rfl⟩)
      go_ret
      exact ⟨ret_int (Pl.low_mod x i h0 (by omega)), rfl⟩

theorem refpart_any (x : BitVec 64) (f n : Int) (w : World) :
    Calls Try.prog 30 #[.int .u64 x.toNat, .int .i64 f, .int .i64 n] w fun e w' => e = .returned (.int .u64 (Pl.part x f n).toNat) ∧ w = w' := by
  by_cases h : 63 < f
  · go_enter Try.func30, Try.ntmps30
    go_wp2
    go_ret
    exact ⟨ret_int (Pl.part_big x f n h), rfl⟩
  · by_cases hf : f < 0
    · rw [Pl.part_neg x f n hf]
      have hp : ¬ (Pl.pw 0).toNat = 0 := by have := Pl.pw_pos 0 (by omega); omega
      have hs := Pl.shr_pw x 0 (by omega)
      go_enter Try.func30, Try.ntmps30
      go_wp2_with (first | (go_at_call 24; refine (power_any 0 (by omega) _).mono ?_; rintro e w' ⟨rfl, rfl⟩) | (go_at_call 32; refine (reflow_any (Pl.shr x 0) n _).mono ?_; rintro e w' ⟨rfl, rfl⟩))
      go_ret
      exact ⟨rfl, rfl⟩
    · obtain ⟨i, rfl⟩ : ∃ i : Nat, f = i := ⟨f.toNat, by omega⟩
      rw [Pl.part_pos x i n (by omega), Int.toNat_natCast]
      have hp : ¬ (Pl.pw i).toNat = 0 := by have := Pl.pw_pos i (by omega); omega
      have hs := Pl.shr_pw x i (by omega)
      go_enter Try.func30, Try.ntmps30
      go_wp2_with (first | (go_at_call 24; refine (power_any i (by omega) _).mono ?_; rintro e w' ⟨rfl, rfl⟩) | (go_at_call 32; refine (reflow_any (Pl.shr x i) n _).mono ?_; rintro e w' ⟨rfl, rfl⟩))
      go_ret
      exact ⟨rfl, rfl⟩
theorem rotl_any (x : BitVec 64) (n : Int) (w : World) :
    Calls Try.prog 19 #[.int .u64 x.toNat, .int .i64 n] w fun e w' => e = .returned (.int .u64 (Pl.rotv x (n % 64).toNat).toNat) ∧ w = w' := by
  have h1 : -64 < n.tmod 64 := by have := Int.lt_tmod_of_pos n (b := 64) (by decide); omega
  have h2 : n.tmod 64 < 64 := Int.tmod_lt_of_pos n (by decide)
  have hs := Pl.rot_by n
  have hn : 0 ≤ n % 64 := by omega
  have hn2 : n % 64 < 64 := by omega
  go_enter Try.func19, Try.ntmps19
  go_wp2
  go_ret
  exact ⟨ret_int (Pl.rot_form x n), rfl⟩

theorem mod_nat (n : Int) (s : Nat) (h : n % 64 = s) (w : World) :
    Calls Try.prog 29 #[.int .i64 n] w fun e w' => e = .returned (.int .i64 s) ∧ w = w' := by
  rw [← h]; exact mod_any n w

theorem refrot_any (x : BitVec 64) (n : Int) (w : World) :
    Calls Try.prog 21 #[.int .u64 x.toNat, .int .i64 n] w fun e w' => e = .returned (.int .u64 (Pl.rotv x (n % 64).toNat).toNat) ∧ w = w' := by
  obtain ⟨s, hs⟩ : ∃ s : Nat, n % 64 = s := ⟨(n % 64).toNat, by omega⟩
  have hs64 : s < 64 := by omega
  rw [show (n % 64).toNat = s by omega, ← Pl.rot_sum x s hs64]
  have HS := Lib.hid hs
  clear hs
  go_enter Try.func21, Try.ntmps21
  go_wp2
  go_loop [5, 6] (fun p v => ∃ k : Nat, k ≤ 64 ∧ v = .int .i64 k ∧ p = .int .u64 (Pl.sum x (fun i => (i + s) % 64) k).toNat) (fun _ v => 64 - (intOf v).toNat)
  case atStart => exact ⟨0, by omega, rfl, by rw [← Pl.sum_zero]⟩
  case round =>
    obtain ⟨k, hk, rfl, rfl⟩ := hrel
    by_cases hlt : k < 64
    · obtain ⟨j, hj⟩ : ∃ j, (k + s) % 64 = j := ⟨_, rfl⟩
      have hj64 : j < 64 := by omega
      have hm : ((k : Int) + (s : Int)) % 64 = (j : Int) := by omega
      have HM := Lib.hid hm
      have HJ := Lib.hid hj
      clear hm hj
      go_wp2_with (first | (go_at_call 23; refine (bit_any x k hlt _).mono ?_; rintro e w' ⟨rfl, rfl⟩) | (go_at_call 29; refine (mod_nat n s HS.out _).mono ?_; rintro e w' ⟨rfl, rfl⟩) | (go_at_call 29; refine (mod_nat _ j HM.out _).mono ?_; rintro e w' ⟨rfl, rfl⟩) | (go_at_call 24; refine (power_any j hj64 _).mono ?_; rintro e w' ⟨rfl, rfl⟩))
      go_round
      case rel => exact ⟨k + 1, by omega, by go_num, by rw [Pl.sum_step x (fun i => (i + s) % 64) k j HJ.out.symm]⟩
      case measure => simp [intOf]; omega
    · go_wp2
      go_ret
      exact ⟨ret_int (by rw [show k = 64 by omega]), rfl⟩

theorem step0 : ∀ w, (Instr.index 37 (.agg #[.int .u64 30, .int .u64 13787848793156543929, .int .u64 27, .int .u64 10723151780598845931, .int .u64 31, .int .u64 1]) (.int .i64 0)).run Try.prog w = .ok (.agg #[.int .u64 30, .int .u64 13787848793156543929]) w := fun _ => by kernel_rfl
theorem step1 : ∀ w, (Instr.index 37 (.agg #[.int .u64 30, .int .u64 13787848793156543929, .int .u64 27, .int .u64 10723151780598845931, .int .u64 31, .int .u64 1]) (.int .i64 1)).run Try.prog w = .ok (.agg #[.int .u64 27, .int .u64 10723151780598845931]) w := fun _ => by kernel_rfl
theorem step2 : ∀ w, (Instr.index 37 (.agg #[.int .u64 30, .int .u64 13787848793156543929, .int .u64 27, .int .u64 10723151780598845931, .int .u64 31, .int .u64 1]) (.int .i64 2)).run Try.prog w = .ok (.agg #[.int .u64 31, .int .u64 1]) w := fun _ => by kernel_rfl
theorem word_any (s x : BitVec 64) (w : World) :
    Calls Try.prog 6 #[.int .u64 s.toNat, .int .u64 x.toNat] w fun e w' => e = .returned (.int .u64 (Pl.word s x).toNat) ∧ Grown w w' := by
  have r0 := Pl.xor_form
  have r1 := Pl.shr30
  have r2 := Pl.shr27
  have r3 := Pl.shr31
  have r4 := Pl.mulB_form
  have r5 := Pl.mulC_form
  have r6 := Pl.addA_form
  have i0 := step0
  have i1 := step1
  have i2 := step2
  go_enter Try.func6, Try.ntmps6
  go_wp2
  refine wp_loop_rounds 4 ?_
  iterate 4
    rw [rounds_succ]
    go_wp2
  go_ret
  exact ⟨rfl, (((Grown.refl _).alloc _ _).alloc _ _).alloc _ _⟩
theorem undo_any (n : Int) (w : World) :
    Calls Try.prog 16 #[.int .i64 n] w fun e w' => e = .returned (.func (.func 25) #[] #[.pointer (some ⟨w.heap.size, 0, none⟩)]) ∧ w.alloc (.cells #[.int .i64 n] 3) = w' := by
  go_enter Try.func16, Try.ntmps16
  go_wp2
  go_ret
  exact ⟨rfl, rfl⟩
theorem inverse_any (o : BitVec 64) (w : World) :
    Calls Try.prog 17 #[.int .u64 o.toNat] w fun e w' => e = .returned (.int .u64 (Pl.inv o 6).toNat) ∧ w = w' := by
  go_enter Try.func17, Try.ntmps17
  go_wp2
  go_loop [3, 5] (fun p v => ∃ k : Nat, k ≤ 6 ∧ v = .int .i64 k ∧ p = .int .u64 (Pl.inv o k).toNat) (fun _ v => 6 - (intOf v).toNat)
  case atStart => exact ⟨0, by omega, rfl, rfl⟩
  case round =>
    obtain ⟨k, hk, rfl, rfl⟩ := hrel
    by_cases hlt : k < 6
    · have HF := Lib.hid (Pl.inv_form o k)
      go_wp2
      go_round
      case rel => exact ⟨k + 1, by omega, by go_num, by rw [HF.out]⟩
      case measure => simp [intOf]; omega
    · go_wp2
      go_ret
      exact ⟨ret_int (by rw [show k = 6 by omega]), rfl⟩
theorem bitc_any (x : BitVec 64) (i : Nat) (hi : i < 64) (c : Bool) (h : x.getLsbD i = c) (w : World) :
    Calls Try.prog 23 #[.int .u64 x.toNat, .int .i64 i] w fun e w' => e = .returned (.int .u64 (if c then 1 else 0)) ∧ w = w' := by
  rw [← Pl.bit_of x i c h]; exact bit_any x i hi w
theorem xor_any (a b : BitVec 64) (w : World) :
    Calls Try.prog 15 #[.int .u64 a.toNat, .int .u64 b.toNat] w fun e w' => e = .returned (.int .u64 (Pl.xor a b).toNat) ∧ w = w' := by
  rw [← Pl.xsum_all]
  go_enter Try.func15, Try.ntmps15
  go_wp2
  go_loop [5, 6] (fun p v => ∃ k : Nat, k ≤ 64 ∧ v = .int .i64 k ∧ p = .int .u64 (Pl.sum (a ^^^ b) id k).toNat) (fun _ v => 64 - (intOf v).toNat)
  case atStart => exact ⟨0, by omega, rfl, by rw [← Pl.sum_zero]⟩
  case round =>
    obtain ⟨k, hk, rfl, rfl⟩ := hrel
    by_cases hlt : k < 64
    · have hs : ∀ c, a.getLsbD k = c → b.getLsbD k = c → Hid (Pl.sum (a ^^^ b) id (k + 1) = Pl.sum (a ^^^ b) id k) := fun c h1 h2 => Pl.xsum_same a b k (h1.trans h2.symm)
      have ho : ∀ c, a.getLsbD k = c → b.getLsbD k = !c → Hid (IntKind.u64.wrap (((Pl.sum (a ^^^ b) id k).toNat : Int) + ((Pl.pw k).toNat : Int)) = ((Pl.sum (a ^^^ b) id (k + 1)).toNat : Int)) := fun c h1 h2 => Pl.xsum_other a b k (by rw [h1, h2]; simp)
      have pa := fun c h W => bitc_any a k hlt c h W
      have pb := fun c h W => bitc_any b k hlt c h W
      have pp := fun W => power_any k hlt W
      rcases ha : a.getLsbD k with _ | _ <;> rcases hb : b.getLsbD k with _ | _
      · have HS := hs _ ha hb
        have pa := pa _ ha
        have pb := pb _ hb
        clear hs ho ha hb
        go_wp2_with (first | (go_at_call 23; ((with_reducible refine (pa _).mono ?_); rintro e w' ⟨rfl, rfl⟩)) | (go_at_call 23; ((with_reducible refine (pb _).mono ?_); rintro e w' ⟨rfl, rfl⟩)) | (go_at_call 24; ((with_reducible refine (pp _).mono ?_); rintro e w' ⟨rfl, rfl⟩)))
        go_round
        case rel => exact ⟨k + 1, by omega, by go_num, by rw [HS.out]⟩
        case measure => simp [intOf]; omega
      · have HO := ho _ ha hb
        have pa := pa _ ha
        have pb := pb _ hb
        clear hs ho ha hb
        go_wp2_with (first | (go_at_call 23; ((with_reducible refine (pa _).mono ?_); rintro e w' ⟨rfl, rfl⟩)) | (go_at_call 23; ((with_reducible refine (pb _).mono ?_); rintro e w' ⟨rfl, rfl⟩)) | (go_at_call 24; ((with_reducible refine (pp _).mono ?_); rintro e w' ⟨rfl, rfl⟩)))
        go_round
        case rel => exact ⟨k + 1, by omega, by go_num, by rw [HO.out]⟩
        case measure => simp [intOf]; omega
      · have HO := ho _ ha hb
        have pa := pa _ ha
        have pb := pb _ hb
        clear hs ho ha hb
        go_wp2_with (first | (go_at_call 23; ((with_reducible refine (pa _).mono ?_); rintro e w' ⟨rfl, rfl⟩)) | (go_at_call 23; ((with_reducible refine (pb _).mono ?_); rintro e w' ⟨rfl, rfl⟩)) | (go_at_call 24; ((with_reducible refine (pp _).mono ?_); rintro e w' ⟨rfl, rfl⟩)))
        go_round
        case rel => exact ⟨k + 1, by omega, by go_num, by rw [HO.out]⟩
        case measure => simp [intOf]; omega
      · have HS := hs _ ha hb
        have pa := pa _ ha
        have pb := pb _ hb
        clear hs ho ha hb
        go_wp2_with (first | (go_at_call 23; ((with_reducible refine (pa _).mono ?_); rintro e w' ⟨rfl, rfl⟩)) | (go_at_call 23; ((with_reducible refine (pb _).mono ?_); rintro e w' ⟨rfl, rfl⟩)) | (go_at_call 24; ((with_reducible refine (pp _).mono ?_); rintro e w' ⟨rfl, rfl⟩)))
        go_round
        case rel => exact ⟨k + 1, by omega, by go_num, by rw [HS.out]⟩
        case measure => simp [intOf]; omega
    · go_wp2
      go_ret
      exact ⟨ret_int (by rw [show k = 64 by omega]), rfl⟩
theorem down_any (x : BitVec 64) (n : Nat) (hn : n < 64) (w : World) :
    Calls Try.prog 22 #[.int .u64 x.toNat, .int .i64 n] w fun e w' => e = .returned (.int .u64 (Pl.down x n).toNat) ∧ w = w' := by
  have hp := refpart_any x n 64 w
  rw [Pl.part_all] at hp
  have hx := xor_any x (Pl.shr x n) w
  rw [Pl.down_form] at hx
  go_enter Try.func22, Try.ntmps22
  go_wp2_with (first | (go_at_call 30; ((with_reducible refine hp.mono ?_); rintro e w' ⟨rfl, rfl⟩)) | (go_at_call 15; ((with_reducible refine hx.mono ?_); rintro e w' ⟨rfl, rfl⟩)))
  go_ret
  exact ⟨rfl, rfl⟩
theorem stir_any (h : BitVec 64) (w : World) :
    Calls Try.prog 14 #[.int .u64 h.toNat] w fun e w' => e = .returned (.int .u64 (Pl.stir h).toNat) ∧ w = w' := by
  have r4 := Pl.mulB_form
  have r5 := Pl.mulC_form
  have d1 : ∀ x : BitVec 64, Calls Try.prog 22 #[.int .u64 x.toNat, .int .i64 30] w fun e w' => e = .returned (.int .u64 (Pl.down x 30).toNat) ∧ w = w' := fun x => down_any x 30 (by omega) w
  have d2 : ∀ x : BitVec 64, Calls Try.prog 22 #[.int .u64 x.toNat, .int .i64 27] w fun e w' => e = .returned (.int .u64 (Pl.down x 27).toNat) ∧ w = w' := fun x => down_any x 27 (by omega) w
  have d3 : ∀ x : BitVec 64, Calls Try.prog 22 #[.int .u64 x.toNat, .int .i64 31] w fun e w' => e = .returned (.int .u64 (Pl.down x 31).toNat) ∧ w = w' := fun x => down_any x 31 (by omega) w
  go_enter Try.func14, Try.ntmps14
  go_wp2_with (first | (go_at_call 22; ((with_reducible refine (d1 _).mono ?_); rintro e w' ⟨rfl, rfl⟩)) | (go_at_call 22; ((with_reducible refine (d2 _).mono ?_); rintro e w' ⟨rfl, rfl⟩)) | (go_at_call 22; ((with_reducible refine (d3 _).mono ?_); rintro e w' ⟨rfl, rfl⟩)))
  go_ret
  exact ⟨rfl, rfl⟩
theorem refword_any (s x : BitVec 64) (w : World) :
    Calls Try.prog 7 #[.int .u64 s.toNat, .int .u64 x.toNat] w fun e w' => e = .returned (.int .u64 (Pl.word s x).toNat) ∧ w = w' := by
  have r6 := Pl.addA_form
  rw [Pl.word_ref]
  go_enter Try.func7, Try.ntmps7
  go_wp2_with (first | (go_at_call 15; (refine (xor_any s x _).mono ?_; rintro e w' ⟨rfl, rfl⟩)) | (go_at_call 14; (refine (stir_any _ _).mono ?_; rintro e w' ⟨rfl, rfl⟩)))
  go_ret
  exact ⟨rfl, rfl⟩
end Go.Proofs.Ytokjafikgfapmaa
