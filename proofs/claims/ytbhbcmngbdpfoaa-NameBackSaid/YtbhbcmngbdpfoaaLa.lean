/- The walk of the chapter's example for names, and of the law NameNumbers. -/
import Derived.Test.YtbhbcmngbdpfoaaCa
namespace Go.Proofs.Ytbhbcmngbdpfoaa
open Go.RowKit
set_option linter.unusedVariables false
set_option linter.unusedSimpArgs false
set_option maxHeartbeats 1000000 in
theorem alive_any (w : World) : Calls Try.prog 6 #[] w fun e w' => e = .returned (.bool true) ∧ Below w.heap.size w w' := by
  have c1 : ∀ W, Calls Try.prog 7 #[.string ⟨#[97]⟩] W fun e w' => e = .returned (.tuple #[.agg #[.int .u8 97, .int .u8 0, .int .u8 0, .int .u8 0, .int .u8 0, .int .u8 0, .int .u8 0, .int .u8 0], .int .i64 0]) ∧ Below W.heap.size W w' := fun W => of_any [97] (by decide) 97 0 0 0 0 0 0 0 rfl W
  have c2 : ∀ W, Calls Try.prog 16 #[.agg #[.int .u8 97, .int .u8 0, .int .u8 0, .int .u8 0, .int .u8 0, .int .u8 0, .int .u8 0, .int .u8 0]] W fun e w' => e = .returned (.int .u64 6989586621679009792) ∧ W.alloc (.cells #[.int .u8 97, .int .u8 0, .int .u8 0, .int .u8 0, .int .u8 0, .int .u8 0, .int .u8 0, .int .u8 0] 23) = w' := fun W => number_any 97 0 0 0 0 0 0 0 W
  have c3 : ∀ W, Calls Try.prog 9 #[.agg #[.int .u8 97, .int .u8 0, .int .u8 0, .int .u8 0, .int .u8 0, .int .u8 0, .int .u8 0, .int .u8 0]] W fun e w' => e = .returned (.string ⟨#[97]⟩) ∧ (W.alloc (.cells #[.int .u8 97, .int .u8 0, .int .u8 0, .int .u8 0, .int .u8 0, .int .u8 0, .int .u8 0, .int .u8 0] 23)).alloc (.cells #[.int .u8 97, .int .u8 0, .int .u8 0, .int .u8 0, .int .u8 0, .int .u8 0, .int .u8 0, .int .u8 0] 23) = w' := fun W => text_any 97 0 0 0 0 0 0 0 W
  have c4 : ∀ W, Calls Try.prog 11 #[.agg #[.int .u8 97, .int .u8 0, .int .u8 0, .int .u8 0, .int .u8 0, .int .u8 0, .int .u8 0, .int .u8 0]] W fun e w' => e = .returned (.bool true) ∧ (W.alloc (.cells #[.int .u8 97, .int .u8 0, .int .u8 0, .int .u8 0, .int .u8 0, .int .u8 0, .int .u8 0, .int .u8 0] 23)).alloc (.cells #[.int .u8 97, .int .u8 0, .int .u8 0, .int .u8 0, .int .u8 0, .int .u8 0, .int .u8 0, .int .u8 0] 23) = w' := fun W => right_any 97 0 0 0 0 0 0 0 W
  go_enter Try.func6, Try.ntmps6
  go_wp2_with (first | (go_at_call 7; ((with_reducible refine (c1 _).mono ?_); rintro e w1 ⟨rfl, hb1⟩; obtain ⟨hc1, hf1, hs1⟩ := bcell hb1; have hu1 := up (w := w) (by go_grown) hb1; clear hb1)) | (go_at_call 16; ((with_reducible refine (c2 _).mono ?_); rintro e w' ⟨rfl, rfl⟩)) | (go_at_call 9; ((with_reducible refine (c3 _).mono ?_); rintro e w' ⟨rfl, rfl⟩)) | (go_at_call 11; ((with_reducible refine (c4 _).mono ?_); rintro e w' ⟨rfl, rfl⟩)))
  go_ret
  exact ⟨rfl, by go_grown⟩
end Go.Proofs.Ytbhbcmngbdpfoaa
