/- A group of fewer than 8 bytes is the group with zeros behind it; Get on the group's slice. -/
import Derived.Test.YtokjafikgfapmaaRs
namespace Go.Proofs.Ytokjafikgfapmaa
open Go.RowKit
set_option linter.unusedVariables false
set_option linter.unusedSimpArgs false
theorem le_zeros (z : Nat → Nat) (n : Nat) (hz : ∀ j, n ≤ j → z j = 0) : ∀ m, le z (n + m) = le z n
  | 0 => rfl
  | m + 1 => by
    rw [← Nat.add_assoc]
    simp only [le]
    rw [le_zeros z n hz m, hz _ (by omega)]
    omega
theorem le_congr (z y : Nat → Nat) : ∀ n, (∀ j, j < n → z j = y j) → le z n = le y n
  | 0, _ => rfl
  | n + 1, h => by
    simp only [le]
    rw [le_congr z y n (fun j hj => h j (by omega)), h n (by omega)]
theorem grp_le (z : Nat → Nat) (len p n : Nat) (hn : n ≤ 8) (hp : p + n ≤ len) (hend : n = 8 ∨ p + n = len) : le (fun j => z (p + j)) n = grp z len p := by
  have e : grp z len p = le (fun j => if p + j < len then z (p + j) else 0) n := by
    unfold grp
    rcases hend with rfl | h
    · rfl
    · have h8 : 8 = n + (8 - n) := by omega
      rw [h8]
      exact le_zeros _ n (fun j hj => by rw [if_neg (by omega)]) (8 - n)
  rw [e]
  exact le_congr _ _ n (fun j hj => by rw [if_pos (by omega)])
theorem refsum_nil (s : BitVec 64) (w : World) :
    Calls Try.prog 11 #[.int .u64 s.toNat, .slice none 0 0] w fun e w' => e = .returned (.int .u64 (Pl.word s 0#64).toNat) ∧ w = w' := by
  have c0 : Calls Try.prog 7 #[.int .u64 s.toNat, .int .u64 0] w fun e w' => e = .returned (.int .u64 (Pl.word s 0#64).toNat) ∧ w = w' := refword_any s 0#64 w
  generalize Pl.word s 0#64 = h0 at *
  go_enter Try.func11, Try.ntmps11
  go_wp2_with (go_at_call 7; ((with_reducible refine c0.mono ?_); rintro e w' ⟨rfl, rfl⟩))
  go_loop [5, 6] (fun hv av => hv = .int .u64 h0.toNat ∧ av = .int .i64 0) (fun hv av => 0)
  case atStart => exact ⟨rfl, rfl⟩
  case round =>
    obtain ⟨rfl, rfl⟩ := hrel
    go_wp2
    go_ret
    exact ⟨rfl, rfl⟩
end Go.Proofs.Ytokjafikgfapmaa
