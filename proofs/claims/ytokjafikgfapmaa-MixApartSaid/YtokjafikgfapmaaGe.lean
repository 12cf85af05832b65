/- The walks of Get: a number out of up to 8 bytes. -/
import Derived.Test.YtokjafikgfapmaaBx
import Derived.Below
import Derived.Laws.Bits64b
namespace Go.Proofs.Ytokjafikgfapmaa
open Go.RowKit
set_option linter.unusedVariables false
set_option linter.unusedSimpArgs false
theorem keepB {W w1 : World} (hb : Below W.heap.size W w1) {a : Addr} {v : Value} (h : W.cell? a = some v) : w1.cell? a = some v := by
  rw [hb.cell (World.block_lt_of_cell? W _ h)]; exact h
/-- The number of n bytes, the first the least. -/
def le (z : Nat → Nat) : Nat → Nat
  | 0 => 0
  | n + 1 => le z n + z n * 256 ^ n
theorem le_lt (z : Nat → Nat) (hz : ∀ i, z i < 256) : ∀ n, le z n < 256 ^ n
  | 0 => by simp [le]
  | n + 1 => by
    have h := le_lt z hz n
    have h2 := hz n
    have h3 : z n * 256 ^ n ≤ 255 * 256 ^ n := Nat.mul_le_mul_right _ (by omega)
    simp only [le, Nat.pow_succ]
    omega
theorem le_or (z : Nat → Nat) (hz : ∀ i, z i < 256) (i : Nat) (hi : i < 8) : bits BinOp.or IntKind.u64 (le z i : Nat) (IntKind.u64.wrap (IntKind.u64.wrap (z i : Nat) * 2 ^ (8 * i))) = (le z (i + 1) : Nat) := by
  have h1 := le_lt z hz i
  have h2 := hz i
  have hp : (256 : Nat) ^ i = 2 ^ (8 * i) := by rw [Nat.pow_mul]
  have h8 : (256 : Nat) ^ (i + 1) ≤ 256 ^ 8 := Nat.pow_le_pow_right (by omega) (by omega)
  have h3 : z i * 256 ^ i ≤ 255 * 256 ^ i := Nat.mul_le_mul_right _ (by omega)
  have h4 : z i * 2 ^ (8 * i) < 18446744073709551616 := by
    rw [← hp]
    rw [Nat.pow_succ] at h8
    have : (256 : Nat) ^ 8 = 18446744073709551616 := by decide
    have hpos : 0 < 256 ^ i := Nat.pow_pos (by omega)
    omega
  have h5 : le z i < 18446744073709551616 := by
    have h9 : (256 : Nat) ^ i ≤ 256 ^ 8 := Nat.pow_le_pow_right (by omega) (by omega)
    have : (256 : Nat) ^ 8 = 18446744073709551616 := by decide
    omega
  have e1 : IntKind.u64.wrap ((z i : Nat) : Int) = ((z i : Nat) : Int) := by
    unfold IntKind.wrap; simp [IntKind.bits, IntKind.signed]; omega
  have e2 : IntKind.u64.wrap (((z i : Nat) : Int) * 2 ^ (8 * i)) = ((z i * 2 ^ (8 * i) : Nat) : Int) := by
    have : ((z i : Nat) : Int) * 2 ^ (8 * i) = ((z i * 2 ^ (8 * i) : Nat) : Int) := by push_cast; rfl
    rw [this]
    generalize z i * 2 ^ (8 * i) = q at *
    unfold IntKind.wrap; simp [IntKind.bits, IntKind.signed]; omega
  rw [e1, e2, bits_or_u64_nat _ _ h5 h4]
  have e3 := Nat.two_pow_add_eq_or_of_lt (i := 8 * i) (b := le z i) (by rw [← hp]; exact h1) (z i)
  simp only [le]
  rw [hp, Nat.or_comm, Nat.mul_comm (z i), ← e3]
  congr 1; omega
theorem get_any (x : Addr) (n c : Nat) (hn : 1 ≤ n) (hn8 : n ≤ 8) (z : Nat → Nat) (hzl : ∀ i, z i < 256) (w : World) (hz : ∀ i, i < n → w.cell? (x.add i) = some (.int .u8 (z i))) :
    Calls Try.prog 27 #[.slice (some x) n c] w fun e w' => e = .returned (.tuple #[.int .u64 (le z n), .int .i64 0]) ∧ w = w' := by
  have h1 : (1 : Int) ≤ (n : Int) := by omega
  have h8 : (n : Int) ≤ 8 := by omega
  go_enter Try.func27, Try.ntmps27
  go_wp2
  go_loop [2, 12] (fun xv iv => ∃ i : Nat, i ≤ n ∧ iv = .int .i64 i ∧ xv = .int .u64 (le z i)) (fun xv iv => n - (intOf iv).toNat)
  case atStart => exact ⟨0, by omega, rfl, rfl⟩
  case round =>
    obtain ⟨i, hi, rfl, rfl⟩ := hrel
    by_cases hlt : i < n
    · have hcell := hz i hlt
      have hi0 : (0 : Int) ≤ (i : Int) := by omega
      have hi1 : (i : Int) < (n : Int) := by omega
      clear hz
      go_wp2
      rw [le_or z hzl i (by omega)]
      refine ⟨⟨i + 1, by omega, by simp, rfl⟩, ?_⟩
      simp only [intOf]
      omega
    · obtain rfl : i = n := by omega
      go_wp2
      go_ret2
      exact ⟨rfl, rfl⟩
/-- The number of the m bytes from the k-th on. -/
def up (z : Nat → Nat) : Nat → Nat → Nat
  | _, 0 => 0
  | k, m + 1 => z k + 256 * up z (k + 1) m
theorem le_up (z : Nat → Nat) : ∀ m k, le z (k + m) = le z k + 256 ^ k * up z k m
  | 0, k => by simp [up]
  | m + 1, k => by
    have h := le_up z m (k + 1)
    rw [show k + (m + 1) = k + 1 + m by omega, h]
    simp only [le, up, Nat.pow_succ]
    rw [Nat.mul_add, Nat.mul_assoc, Nat.mul_comm (z k)]
    omega
theorem up_lt (z : Nat → Nat) (hz : ∀ i, z i < 256) : ∀ m k, up z k m < 256 ^ m
  | 0, k => by simp [up]
  | m + 1, k => by
    have h := up_lt z hz m (k + 1)
    have h2 := hz k
    simp only [up, Nat.pow_succ]
    omega
theorem refget_any (x : Addr) (n c : Nat) (hn : 1 ≤ n) (hn8 : n ≤ 8) (z : Nat → Nat) (hzl : ∀ i, z i < 256) (w : World) (hz : ∀ i, i < n → w.cell? (x.add i) = some (.int .u8 (z i))) :
    Calls Try.prog 20 #[.slice (some x) n c] w fun e w' => e = .returned (.tuple #[.int .u64 (le z n), .int .i64 0]) ∧ w = w' := by
  have h1 : (1 : Int) ≤ (n : Int) := by omega
  have h8 : (n : Int) ≤ 8 := by omega
  have hfin : le z n = up z 0 n := by
    have h := le_up z n 0
    simpa [le] using h
  rw [hfin]
  clear hfin
  go_enter Try.func20, Try.ntmps20
  go_wp2
  go_loop [4, 5] (fun xv iv => ∃ (t : Nat) (d : Int), t ≤ n ∧ d = (t : Int) - 1 ∧ iv = .int .i64 d ∧ xv = .int .u64 (up z t (n - t))) (fun xv iv => (intOf iv + 1).toNat)
  case atStart => exact ⟨n, _, Nat.le_refl _, rfl, rfl, by simp [up]⟩
  case round =>
    obtain ⟨t, d, ht, hd, rfl, rfl⟩ := hrel
    rcases t with _ | s
    · obtain rfl : d = -1 := by simpa using hd
      clear hd hz hzl
      rw [Nat.sub_zero]
      go_wp2
      go_ret2
      exact ⟨rfl, rfl⟩
    · obtain rfl : d = (s : Int) := by omega
      have hcell := hz s (by omega)
      have hi0 : (0 : Int) ≤ (s : Int) := by omega
      have hi1 : (s : Int) < (n : Int) := by omega
      have hu : up z s (n - s) = z s + 256 * up z (s + 1) (n - (s + 1)) := by
        rw [show n - s = n - (s + 1) + 1 by omega]; rfl
      have hlt : up z s (n - s) < 18446744073709551616 := by
        have h := up_lt z hzl (n - s) s
        have h9 : (256 : Nat) ^ (n - s) ≤ 256 ^ 8 := Nat.pow_le_pow_right (by omega) (by omega)
        have : (256 : Nat) ^ 8 = 18446744073709551616 := by decide
        omega
      have hzs := hzl s
      have HA := Lib.hid hu
      have HB := Lib.hid hlt
      have HC := Lib.hid hzs
      clear hz hu hlt hzl hzs hd
      generalize up z (s + 1) (n - (s + 1)) = q at *
      go_wp2
      have hu := HA.out
      have hlt := HB.out
      have hzs := HC.out
      have e : IntKind.u64.wrap (IntKind.u64.wrap (256 * (q : Int)) + IntKind.u64.wrap ((z s : Nat) : Int)) = ((up z s (n - s) : Nat) : Int) := by
        simp only [IntKind.wrap_u64]
        omega
      rw [e]
      refine ⟨⟨s, (s : Int) - 1, by omega, rfl, rfl, rfl⟩, ?_⟩
      simp only [intOf]
      omega
end Go.Proofs.Ytokjafikgfapmaa
