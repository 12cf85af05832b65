/- The walks of Piece, of the document's answer. -/
import Derived.Test.YtkmikgajmopcbaaAl
namespace Go.Proofs.Ytkmikgajmopcbaa
open Go.RowKit
set_option linter.unusedVariables false
set_option linter.unusedSimpArgs false
/-- What a piece's value is: n bytes at x's k-th. -/
def At (x : Addr) (k n : Nat) (v : Value) : Prop := ∃ a c, v = .slice a n c ∧ (n = 0 ∨ a = some (x.add k))
theorem At.x (x : Addr) (k c n' n : Nat) (h : n' = n) (hx : n = 0 ∨ k = 0) : At x k n (.slice (some x) n' c) := by
  subst h
  refine ⟨_, _, rfl, ?_⟩
  rcases hx with h | rfl
  · exact .inl h
  · exact .inr (by simp [Addr.add])
theorem At.add (x : Addr) (k c n' n : Nat) (h : n' = n) : At x k n (.slice (some (x.add k)) n' c) := by
  subst h
  exact ⟨_, _, rfl, .inr rfl⟩
theorem tup (v : Value) (l l' : Bool) (h : l' = l) : Ending.returned (.tuple #[v, .bool l', .int .i64 0]) = .returned (.tuple #[v, .bool l, .int .i64 0]) := by rw [h]
theorem piece_x (x : Addr) (len cap : Nat) (room : Int) (hlc : len ≤ cap) (hc : cap ≤ maxLen) (h1 : 1 ≤ room) (k : Nat) (hk : k ≤ len) (n : Nat) (hn : (n : Int) = room ∧ room ≤ (len : Int) - k ∨ n = len - k ∧ (len : Int) - k ≤ room) (w : World) :
    Calls Try.prog 15 #[.slice (some x) len cap, .int .i64 k, .int .i64 room] w fun e w' => ∃ v, e = .returned (.tuple #[v, .bool (decide (k + n = len)), .int .i64 0]) ∧ At x k n v ∧ w = w' := by
  unfold maxLen at hc
  have ho : (0 : Int) ≤ (k : Int) := by omega
  have hol : (k : Int) ≤ (len : Int) := by omega
  go_enter Try.func15, Try.ntmps15
  go_wp2
  · exact bodyPost_ret (v := .tuple #[.slice (some (x.add k)) ((↑k + room).toNat - k) ((↑k + room).toNat - k), .bool (↑k + room == ↑len), .int .i64 0]) (by simp [results, Try.results15, go_sem]) rfl ⟨_, tup _ _ _ (by first | (symm; apply decide_eq_true; omega) | (rw [Bool.eq_iff_iff]; simp only [beq_iff_eq, decide_eq_true_eq]; omega)), At.add _ _ _ _ _ (by omega), rfl⟩
  · exact bodyPost_ret (v := .tuple #[.slice (some x) 0 0, .bool true, .int .i64 0]) (by simp [results, Try.results15, go_sem]) rfl ⟨_, tup _ _ _ (by first | (symm; apply decide_eq_true; omega) | (rw [Bool.eq_iff_iff]; simp only [beq_iff_eq, decide_eq_true_eq]; omega)), At.x _ _ _ _ _ (by omega) (by omega), rfl⟩
  · exact bodyPost_ret (v := .tuple #[.slice (some (x.add k)) (len - k) (len - k), .bool true, .int .i64 0]) (by simp [results, Try.results15, go_sem]) rfl ⟨_, tup _ _ _ (by first | (symm; apply decide_eq_true; omega) | (rw [Bool.eq_iff_iff]; simp only [beq_iff_eq, decide_eq_true_eq]; omega)), At.add _ _ _ _ _ (by omega), rfl⟩
theorem refpiece_x (x : Addr) (len cap : Nat) (room : Int) (hlc : len ≤ cap) (hc : cap ≤ maxLen) (h1 : 1 ≤ room) (k : Nat) (hk : k ≤ len) (n : Nat) (hn : (n : Int) = room ∧ room ≤ (len : Int) - k ∨ n = len - k ∧ (len : Int) - k ≤ room) (w : World) :
    Calls Try.prog 16 #[.slice (some x) len cap, .int .i64 k, .int .i64 room] w fun e w' => ∃ v, e = .returned (.tuple #[v, .bool (decide (k + n = len)), .int .i64 0]) ∧ At x k n v ∧ w = w' := by
  unfold maxLen at hc
  have ho : (0 : Int) ≤ (k : Int) := by omega
  have hol : (k : Int) ≤ (len : Int) := by omega
  have hmin : min room ((len : Int) - k) = (n : Int) := by omega
  go_enter Try.func16, Try.ntmps16
  go_wp2
  · exact bodyPost_ret (v := .tuple #[.slice (some x) (((k : Int) + ((len : Int) - (k : Int))).toNat - k) 0, .bool ((k : Int) + ((len : Int) - (k : Int)) == (len : Int)), .int .i64 0]) (by simp [results, Try.results16, go_sem]) rfl ⟨_, tup _ _ _ (by first | (symm; apply decide_eq_true; omega) | (rw [Bool.eq_iff_iff]; simp only [beq_iff_eq, decide_eq_true_eq]; omega)), At.x _ _ _ _ _ (by omega) (by omega), rfl⟩
  all_goals first
    | exact bodyPost_ret (v := .tuple #[.slice (some (x.add k)) (((k : Int) + ((len : Int) - (k : Int))).toNat - k) (cap - k), .bool ((k : Int) + ((len : Int) - (k : Int)) == (len : Int)), .int .i64 0]) (by simp [results, Try.results16, go_sem]) rfl ⟨_, tup _ _ _ (by first | (symm; apply decide_eq_true; omega) | (rw [Bool.eq_iff_iff]; simp only [beq_iff_eq, decide_eq_true_eq]; omega)), At.add _ _ _ _ _ (by omega), rfl⟩
    | exact bodyPost_ret (v := .tuple #[.slice (some x) (((k : Int) + ((len : Int) - (k : Int))).toNat - k) 0, .bool ((k : Int) + ((len : Int) - (k : Int)) == (len : Int)), .int .i64 0]) (by simp [results, Try.results16, go_sem]) rfl ⟨_, tup _ _ _ (by first | (symm; apply decide_eq_true; omega) | (rw [Bool.eq_iff_iff]; simp only [beq_iff_eq, decide_eq_true_eq]; omega)), At.x _ _ _ _ _ (by omega) (by omega), rfl⟩
    | exact bodyPost_ret (v := .tuple #[.slice (some (x.add k)) ((↑k + room).toNat - k) (cap - k), .bool (↑k + room == ↑len), .int .i64 0]) (by simp [results, Try.results16, go_sem]) rfl ⟨_, tup _ _ _ (by first | (symm; apply decide_eq_true; omega) | (rw [Bool.eq_iff_iff]; simp only [beq_iff_eq, decide_eq_true_eq]; omega)), At.add _ _ _ _ _ (by omega), rfl⟩
    | exact bodyPost_ret (v := .tuple #[.slice (some x) ((↑k + room).toNat - k) 0, .bool (↑k + room == ↑len), .int .i64 0]) (by simp [results, Try.results16, go_sem]) rfl ⟨_, tup _ _ _ (by first | (symm; apply decide_eq_true; omega) | (rw [Bool.eq_iff_iff]; simp only [beq_iff_eq, decide_eq_true_eq]; omega)), At.x _ _ _ _ _ (by omega) (by omega), rfl⟩

theorem keepB {W w1 : World} (hb : Below W.heap.size W w1) {a : Addr} {v : Value} (h : W.cell? a = some v) : w1.cell? a = some v := by
  rw [hb.cell (World.block_lt_of_cell? W _ h)]; exact h
/-- Two slices of the same bytes are the same to Same. -/
theorem same_x (x : Addr) (k n : Nat) (v u : Value) (hv : At x k n v) (hu : At x k n u) (hn : n ≤ 9223372036854775807) (z : Nat → Int) (w : World) (hz : ∀ i, i < n → w.cell? ((x.add k).add i) = some (.int .u8 (z i))) :
    Calls Try.prog 13 #[v, u] w fun e w' => e = .returned (.bool true) ∧ Below w.heap.size w w' := by
  obtain ⟨a, c, rfl, ha⟩ := hv
  obtain ⟨a', c', rfl, ha'⟩ := hu
  generalize x.add k = y at *
  go_enter Try.func13, Try.ntmps13
  go_wp2
  go_loopw [5] (fun v wr => ∃ j : Nat, j ≤ n ∧ v = .int .i64 j ∧ Below w.heap.size w wr) (fun v wr => n - (intOf v).toNat)
  case atStart => exact ⟨0, by omega, rfl, Below.refl _ _⟩
  case round =>
    obtain ⟨j, hj, rfl, hb⟩ := hrel
    by_cases hlt : j < n
    · obtain rfl : a = some y := ha.resolve_left (by omega)
      obtain rfl : a' = some y := ha'.resolve_left (by omega)
      have hcell := keepB hb (hz j hlt)
      obtain ⟨b, hbe⟩ : ∃ b, z j = b := ⟨_, rfl⟩
      rw [hbe] at hcell
      have hi : (0 : Int) ≤ (j : Int) := by omega
      have hi' : (j : Int) < (n : Int) := by omega
      clear hz hbe
      go_wp2_with (go_quiet (fail))
      refine ⟨⟨j + 1, by omega, by simp, below_drewN hb nq⟩, ?_⟩
      simp only [intOf]
      omega
    · obtain rfl : j = n := by omega
      go_wp2
      go_ret
      exact ⟨rfl, hb⟩
theorem piece_low (v : Value) (off room : Int) (len cap : Nat) (a : Option Addr) (h : room < 1) (w : World) :
    Calls Try.prog 15 #[.slice a len cap, .int .i64 off, .int .i64 room] w fun e w' => e = .returned (.tuple #[.slice none 0 0, .bool false, .int .i64 11]) ∧ w = w' := by
  go_enter Try.func15, Try.ntmps15
  go_wp2
  go_ret3
  exact ⟨rfl, rfl⟩
theorem refpiece_low (v : Value) (off room : Int) (len cap : Nat) (a : Option Addr) (h : room < 1) (w : World) :
    Calls Try.prog 16 #[.slice a len cap, .int .i64 off, .int .i64 room] w fun e w' => e = .returned (.tuple #[.slice none 0 0, .bool false, .int .i64 11]) ∧ w = w' := by
  go_enter Try.func16, Try.ntmps16
  go_wp2
  go_ret3
  exact ⟨rfl, rfl⟩
theorem piece_out (off room : Int) (len cap : Nat) (a : Option Addr) (h : 1 ≤ room) (ho : off < 0 ∨ (len : Int) < off) (w : World) :
    Calls Try.prog 15 #[.slice a len cap, .int .i64 off, .int .i64 room] w fun e w' => e = .returned (.tuple #[.slice none 0 0, .bool false, .int .i64 2]) ∧ w = w' := by
  go_enter Try.func15, Try.ntmps15
  go_wp2
  all_goals first | (exfalso; omega) | (go_ret3; exact ⟨rfl, rfl⟩)
theorem refpiece_out (off room : Int) (len cap : Nat) (a : Option Addr) (h : 1 ≤ room) (ho : off < 0 ∨ (len : Int) < off) (w : World) :
    Calls Try.prog 16 #[.slice a len cap, .int .i64 off, .int .i64 room] w fun e w' => e = .returned (.tuple #[.slice none 0 0, .bool false, .int .i64 2]) ∧ w = w' := by
  go_enter Try.func16, Try.ntmps16
  go_wp2
  all_goals first | (exfalso; omega) | (go_ret3; exact ⟨rfl, rfl⟩)
theorem piece_nil (room : Int) (h : 1 ≤ room) (w : World) :
    Calls Try.prog 15 #[.slice none 0 0, .int .i64 0, .int .i64 room] w fun e w' => e = .returned (.tuple #[.slice none 0 0, .bool true, .int .i64 0]) ∧ w = w' := by
  go_enter Try.func15, Try.ntmps15
  go_wp2
  all_goals first | (exfalso; omega) | (go_ret3; exact ⟨rfl, rfl⟩)
theorem refpiece_nil (room : Int) (h : 1 ≤ room) (w : World) :
    Calls Try.prog 16 #[.slice none 0 0, .int .i64 0, .int .i64 room] w fun e w' => e = .returned (.tuple #[.slice none 0 0, .bool true, .int .i64 0]) ∧ w = w' := by
  have hm : min room 0 = 0 := by omega
  go_enter Try.func16, Try.ntmps16
  go_wp2
  all_goals first | (exfalso; omega) | (go_ret3; exact ⟨rfl, rfl⟩) | go_show
end Go.Proofs.Ytkmikgajmopcbaa
