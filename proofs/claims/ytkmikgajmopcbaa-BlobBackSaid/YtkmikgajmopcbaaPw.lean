/- The walk of the law BlobPieces. -/
import Derived.Test.YtkmikgajmopcbaaPi
namespace Go.Proofs.Ytkmikgajmopcbaa
open Go.RowKit
set_option linter.unusedVariables false
set_option linter.unusedSimpArgs false
theorem add_twice (x : Addr) (j i : Nat) : (x.add j).add i = x.add (j + i) := by
  by_cases hi : i = 0 <;> by_cases hj : j = 0 <;> simp [Addr.add, hi, hj, Nat.add_assoc]
theorem pieces_core (a0 : Option Addr) (len0 cap0 : Nat) (hl : len0 ≤ 300) (a1 a2 : Int) (w : World) (l : Bool) (er : Int) (V : Value → Prop)
    (c1 : Calls Try.prog 15 #[.slice a0 len0 cap0, .int .i64 a1, .int .i64 a2] w fun e w' => ∃ v, e = .returned (.tuple #[v, .bool l, .int .i64 er]) ∧ V v ∧ w = w')
    (c2 : Calls Try.prog 16 #[.slice a0 len0 cap0, .int .i64 a1, .int .i64 a2] w fun e w' => ∃ v, e = .returned (.tuple #[v, .bool l, .int .i64 er]) ∧ V v ∧ w = w')
    (c3 : ∀ v u, V v → V u → Calls Try.prog 13 #[v, u] w fun e w' => e = .returned (.bool true) ∧ Below w.heap.size w w')
    (k : Int) (c4 : ∀ W, Calls Try.prog 17 #[.int .i64 a1, .int .i64 a2] W fun e w' => e = .returned (.int .i64 k) ∧ W = w')
    (c5 : ∀ W, Calls Try.prog 18 #[.int .i64 a1, .int .i64 a2] W fun e w' => e = .returned (.int .i64 k) ∧ W = w') :
    Calls Try.prog 4 #[.slice a0 len0 cap0, .int .i64 a1, .int .i64 a2] w fun e w' => e = .returned (.bool true) ∧ Below w.heap.size w w' := by
  have ca := fun W => alive_any W
  go_enter Try.func4, Try.ntmps4
  go_wp2_with (first | (go_at_call 15; ((with_reducible refine c1.mono ?_); rintro e w' ⟨v, rfl, hv, rfl⟩)) | (go_at_call 16; ((with_reducible refine c2.mono ?_); rintro e w' ⟨u, rfl, hu, rfl⟩; have cs := c3 _ _ hv hu)) | (go_at_call 13; ((with_reducible refine cs.mono ?_); rintro e w3 ⟨rfl, hb3⟩)) | (go_at_call 17; ((with_reducible refine (c4 _).mono ?_); rintro e w' ⟨rfl, rfl⟩)) | (go_at_call 18; ((with_reducible refine (c5 _).mono ?_); rintro e w' ⟨rfl, rfl⟩)) | (go_at_call 6; ((with_reducible refine (ca _).mono ?_); rintro e w4 ⟨rfl, hb4⟩)))
  go_ret
  exact ⟨rfl, hb3.trans (hb4.mono hb3.size)⟩
theorem pieces_walk (a0 : Option Addr) (len0 cap0 : Nat) (z0 : List Int) (a1 a2 : Int) (w : World)
    (h : (a0 = none ∧ len0 = 0 ∧ cap0 = 0) ∨ ∃ x, a0 = some x ∧ len0 ≤ cap0 ∧ cap0 ≤ maxLen ∧ z0.length = cap0 ∧ ∀ i, i < z0.length → w.cell? (x.add i) = some (.int .u8 (z0.getD i 0)))
    (h1 : -9223372036854775808 ≤ a1) (h1' : a1 ≤ 9223372036854775807) (h2 : a2 ≤ 9223372036854775807) :
    Calls Try.prog 4 #[.slice a0 len0 cap0, .int .i64 a1, .int .i64 a2] w fun e w' => e = .returned (.bool true) ∧ Below w.heap.size w w' := by
  have ca := fun W => alive_any W
  have hm : (len0 : Int) ≤ 9223372036854775807 := by
    rcases h with ⟨_, h, _⟩ | ⟨x, _, h, h', _⟩
    · omega
    · unfold maxLen at h'; omega
  by_cases hl : 300 < len0
  · clear h
    go_enter Try.func4, Try.ntmps4
    go_wp2_with (go_at_call 6; ((with_reducible refine (ca _).mono ?_); rintro e w4 ⟨rfl, hb4⟩))
    go_ret
    exact ⟨rfl, hb4⟩
  · obtain ⟨k, c4, c5⟩ := pieces_any a1 a2 h1 h1' h2 w
    have hnil : At ⟨0, 0, none⟩ 0 0 (.slice none 0 0) := ⟨none, 0, rfl, .inl rfl⟩
    have c3 : ∀ v u, v = Value.slice none 0 0 → u = Value.slice none 0 0 → Calls Try.prog 13 #[v, u] w fun e w' => e = .returned (.bool true) ∧ Below w.heap.size w w' := by
      rintro v u rfl rfl
      exact same_x ⟨0, 0, none⟩ 0 0 _ _ hnil hnil (by omega) (fun _ => 0) w (fun i hi => by omega)
    by_cases hr : a2 < 1
    · exact pieces_core a0 len0 cap0 (by omega) a1 a2 w false 11 (fun v => v = .slice none 0 0) ((piece_low (.bool true) a1 a2 len0 cap0 a0 hr w).mono fun e w' ⟨h, h'⟩ => ⟨_, h, rfl, h'⟩) ((refpiece_low (.bool true) a1 a2 len0 cap0 a0 hr w).mono fun e w' ⟨h, h'⟩ => ⟨_, h, rfl, h'⟩) c3 k c4 c5
    · have hr' : 1 ≤ a2 := by omega
      by_cases ho : a1 < 0 ∨ (len0 : Int) < a1
      · exact pieces_core a0 len0 cap0 (by omega) a1 a2 w false 2 (fun v => v = .slice none 0 0) ((piece_out a1 a2 len0 cap0 a0 hr' ho w).mono fun e w' ⟨h, h'⟩ => ⟨_, h, rfl, h'⟩) ((refpiece_out a1 a2 len0 cap0 a0 hr' ho w).mono fun e w' ⟨h, h'⟩ => ⟨_, h, rfl, h'⟩) c3 k c4 c5
      · rcases h with ⟨rfl, rfl, rfl⟩ | ⟨x, rfl, hlc, hc, hzl, hz⟩
        · obtain rfl : a1 = 0 := by omega
          exact pieces_core none 0 0 (by omega) 0 a2 w true 0 (fun v => v = .slice none 0 0) ((piece_nil a2 hr' w).mono fun e w' ⟨h, h'⟩ => ⟨_, h, rfl, h'⟩) ((refpiece_nil a2 hr' w).mono fun e w' ⟨h, h'⟩ => ⟨_, h, rfl, h'⟩) c3 k c4 c5
        · obtain ⟨j, rfl⟩ := Int.eq_ofNat_of_zero_le (show 0 ≤ a1 by omega)
          have hj : j ≤ len0 := by omega
          obtain ⟨n, hn⟩ : ∃ n : Nat, (n : Int) = a2 ∧ a2 ≤ (len0 : Int) - j ∨ n = len0 - j ∧ (len0 : Int) - j ≤ a2 := by
            by_cases hle : a2 ≤ (len0 : Int) - j
            · exact ⟨a2.toNat, .inl ⟨by omega, hle⟩⟩
            · exact ⟨len0 - j, .inr ⟨rfl, by omega⟩⟩
          exact pieces_core (some x) len0 cap0 (by omega) j a2 w (decide (j + n = len0)) 0 (At x j n) (piece_x x len0 cap0 a2 hlc hc hr' j hj n hn w) (refpiece_x x len0 cap0 a2 hlc hc hr' j hj n hn w)
            (fun v u hv hu => same_x x j n v u hv hu (by omega) (fun i => z0.getD (j + i) 0) w (fun i hi => by
              have e := hz (j + i) (by omega)
              rw [add_twice]; exact e)) k c4 c5
end Go.Proofs.Ytkmikgajmopcbaa
