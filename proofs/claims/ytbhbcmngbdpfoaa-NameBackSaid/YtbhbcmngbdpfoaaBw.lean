/- The walks of layer 6's functions (name) and of the document's answers (handcartref06): what each computes, for every array and text. -/
import Derived.Test.YtbhbcmngbdpfoaaRows
import Derived.Test.YtbhbcmngbdpfoaaPl
import Derived.WalkKit
import Derived.WalkLawsBesides
import Derived.WalkSpells
import Derived.Handy
import Derived.Lib.Hide
namespace Go.Proofs.Ytbhbcmngbdpfoaa
open Go.RowKit
set_option linter.unusedVariables false
set_option linter.unusedSimpArgs false

theorem ret_bool {a b : Bool} (h : a = b) : Ending.returned (.bool a) = .returned (.bool b) := by rw [h]
theorem ret_int {k : IntKind} {a b : Int} (h : a = b) : Ending.returned (.int k a) = .returned (.int k b) := by rw [h]

theorem letter_any (c : UInt8) (w : World) : Calls Try.prog 23 #[.int .u8 c.toNat] w fun e w' => e = .returned (.bool (Pl.letterB c)) ∧ w = w' := by
  go_enter Try.func23, Try.ntmps23
  go_wp2
  all_goals
    go_ret
    refine ⟨ret_bool ?_, rfl⟩
    unfold Pl.letterB; rw [Bool.eq_iff_iff]; simp <;> omega
theorem refletter_any (c : UInt8) (w : World) : Calls Try.prog 27 #[.int .u8 c.toNat] w fun e w' => e = .returned (.bool (Pl.letterB c)) ∧ w = w' := by
  go_enter Try.func27, Try.ntmps27
  go_wp2
  all_goals
    go_ret
    refine ⟨ret_bool ?_, rfl⟩
    unfold Pl.letterB; rw [Bool.eq_iff_iff]; simp <;> omega
theorem zero_any (c : UInt8) (w : World) : Calls Try.prog 26 #[.int .u8 c.toNat] w fun e w' => e = .returned (.bool (Pl.zeroB c)) ∧ w = w' := by
  go_enter Try.func26, Try.ntmps26
  go_wp2
  all_goals
    go_ret
    refine ⟨ret_bool ?_, rfl⟩
    unfold Pl.zeroB; rw [Bool.eq_iff_iff]; simp <;> omega
theorem other_any (c : UInt8) (w : World) : Calls Try.prog 25 #[.int .u8 c.toNat] w fun e w' => e = .returned (.bool (Pl.otherB c)) ∧ w = w' := by
  have hle := letter_any c w
  have hu : Pl.otherB c = (Pl.letterB c || (decide (48 ≤ c.toNat) && decide (c.toNat ≤ 57)) || decide (c.toNat = 45)) := rfl
  have HU := Lib.hid hu
  clear hu
  rcases hl : Pl.letterB c with _ | _ <;> rw [hl] at hle <;> have HL := Lib.hid hl <;> clear hl
  all_goals
    go_enter Try.func25, Try.ntmps25
    go_wp2_with (go_at_call 23; ((with_reducible refine hle.mono ?_); rintro e w' ⟨rfl, rfl⟩))
    all_goals
      go_ret
      refine ⟨ret_bool ?_, rfl⟩
      rw [HU.out, HL.out, Bool.eq_iff_iff]
      (try simp only [beq_iff_eq, beq_eq_false_iff_ne] at *)
      simp <;> omega
theorem refother_any (c : UInt8) (w : World) : Calls Try.prog 28 #[.int .u8 c.toNat] w fun e w' => e = .returned (.bool (Pl.otherB c)) ∧ w = w' := by
  have hle := refletter_any c w
  have hu : Pl.otherB c = (Pl.letterB c || (decide (48 ≤ c.toNat) && decide (c.toNat ≤ 57)) || decide (c.toNat = 45)) := rfl
  have HU := Lib.hid hu
  clear hu
  rcases hl : Pl.letterB c with _ | _ <;> rw [hl] at hle <;> have HL := Lib.hid hl <;> clear hl
  all_goals
    go_enter Try.func28, Try.ntmps28
    go_wp2_with (go_at_call 27; ((with_reducible refine hle.mono ?_); rintro e w' ⟨rfl, rfl⟩))
    all_goals
      go_ret
      refine ⟨ret_bool ?_, rfl⟩
      rw [HU.out, HL.out, Bool.eq_iff_iff]
      (try simp only [beq_iff_eq, beq_eq_false_iff_ne] at *)
      simp <;> omega
end Go.Proofs.Ytbhbcmngbdpfoaa
