/- The walk of the law MixSums; the walks of layer 4 once more, each saying that nothing below has changed. -/
import Derived.Test.YtokjafikgfapmaaSm
namespace Go.Proofs.Ytokjafikgfapmaa
open Go.RowKit
set_option linter.unusedVariables false
set_option linter.unusedSimpArgs false
theorem word_b (s x : BitVec 64) (w : World) :
    Calls Try.prog 6 #[.int .u64 s.toNat, .int .u64 x.toNat] w fun e w' => e = .returned (.int .u64 (Pl.word s x).toNat) ∧ Below w.heap.size w w' := by
  refine (word_ex s x w).mono ?_
  rintro e w' ⟨rfl, y1, q1, y2, q2, y3, q3, rfl⟩
  exact ⟨rfl, (((Below.refl _ w).alloc (Nat.le_refl _) _).alloc (by simp) _).alloc (by simp; omega) _⟩
theorem unword_b (s y : BitVec 64) (w : World) :
    Calls Try.prog 8 #[.int .u64 s.toNat, .int .u64 y.toNat] w fun e w' => e = .returned (.int .u64 (Pl.unword s y).toNat) ∧ Below w.heap.size w w' := by
  have q1 : ∀ W, Calls Try.prog 17 #[.int .u64 10723151780598845931] W fun e w' => e = .returned (.int .u64 (Pl.inv Pl.C 6).toNat) ∧ W = w' := fun W => inverse_any Pl.C W
  have q2 : ∀ W, Calls Try.prog 17 #[.int .u64 13787848793156543929] W fun e w' => e = .returned (.int .u64 (Pl.inv Pl.B 6).toNat) ∧ W = w' := fun W => inverse_any Pl.B W
  have u1 : ∀ y W a, W.cell? a = some (.int .i64 31) → Calls Try.prog 25 #[.int .u64 (BitVec.toNat y), .pointer (some a)] W fun e w' => e = .returned (.int .u64 (Pl.undo 31 y 6).toNat) ∧ W = w' := fun y W a h => undo1_any y 31 (by omega) a W h
  have u2 : ∀ y W a, W.cell? a = some (.int .i64 27) → Calls Try.prog 25 #[.int .u64 (BitVec.toNat y), .pointer (some a)] W fun e w' => e = .returned (.int .u64 (Pl.undo 27 y 6).toNat) ∧ W = w' := fun y W a h => undo1_any y 27 (by omega) a W h
  have u3 : ∀ y W a, W.cell? a = some (.int .i64 30) → Calls Try.prog 25 #[.int .u64 (BitVec.toNat y), .pointer (some a)] W fun e w' => e = .returned (.int .u64 (Pl.undo 30 y 6).toNat) ∧ W = w' := fun y W a h => undo1_any y 30 (by omega) a W h
  have r0 := Pl.xor_form
  have r1 := Pl.mul_form
  have r2 := Pl.subA_form
  go_enter Try.func8, Try.ntmps8
  go_wp2_with (go_at_call 16; refine (undo_any _ _).mono ?_; rintro e w' ⟨rfl, rfl⟩)
  refine (u1 _ _ _ (by go_cell)).mono ?_
  rintro e w' ⟨rfl, rfl⟩
  go_wp2_with (first | (go_at_call 16; refine (undo_any _ _).mono ?_; rintro e w' ⟨rfl, rfl⟩) | (go_at_call 17; refine (q1 _).mono ?_; rintro e w' ⟨rfl, rfl⟩))
  refine (u2 _ _ _ (by go_cell)).mono ?_
  rintro e w' ⟨rfl, rfl⟩
  go_wp2_with (first | (go_at_call 16; refine (undo_any _ _).mono ?_; rintro e w' ⟨rfl, rfl⟩) | (go_at_call 17; refine (q2 _).mono ?_; rintro e w' ⟨rfl, rfl⟩))
  refine (u3 _ _ _ (by go_cell)).mono ?_
  rintro e w' ⟨rfl, rfl⟩
  go_wp2
  go_ret
  exact ⟨ret_int (by rw [← Pl.unword_shape]), (((Below.refl _ w).alloc (Nat.le_refl _) _).alloc (by simp) _).alloc (by simp; omega) _⟩
theorem alive_b (w : World) : Calls Try.prog 9 #[] w fun e w' => e = .returned (.bool true) ∧ Below w.heap.size w w' := by
  have p0 : ∀ W, Calls Try.prog 6 #[.int .u64 0, .int .u64 0] W fun e w' => e = .returned (.int .u64 (Pl.stir Pl.A).toNat) ∧ Below W.heap.size W w' := fun W => word_b 0#64 0#64 W
  have p1 : ∀ W, Calls Try.prog 14 #[.int .u64 11400714819323198485] W fun e w' => e = .returned (.int .u64 (Pl.stir Pl.A).toNat) ∧ W = w' := fun W => stir_any Pl.A W
  have p2 : ∀ W, Calls Try.prog 6 #[.int .u64 5, .int .u64 77] W fun e w' => e = .returned (.int .u64 (Pl.word 5#64 77#64).toNat) ∧ Below W.heap.size W w' := fun W => word_b 5#64 77#64 W
  have p3 : ∀ W, Calls Try.prog 8 #[.int .u64 5, .int .u64 (Pl.word 5#64 77#64).toNat] W fun e w' => e = .returned (.int .u64 77) ∧ Below W.heap.size W w' := fun W => by
    have h := unword_b 5#64 (Pl.word 5#64 77#64) W
    rw [Pl.unword_word] at h; exact h
  have p4 : ∀ W, Calls Try.prog 12 #[.int .u64 9, .int .i64 4] W fun e w' => e = .returned (.int .i64 1) ∧ W = w' := fun W => below_any 9#64 4 (by omega) (by omega) W
  go_enter Try.func9, Try.ntmps9
  go_wp2_with (first | (go_at_call 6; ((with_reducible refine (p0 _).mono ?_); rintro e w1 ⟨rfl, g1⟩)) | (go_at_call 6; ((with_reducible refine (p2 _).mono ?_); rintro e w2 ⟨rfl, g2⟩)) | (go_at_call 8; ((with_reducible refine (p3 _).mono ?_); rintro e w3 ⟨rfl, g3⟩)) | (go_at_call 14; ((with_reducible refine (p1 _).mono ?_); rintro e w' ⟨rfl, rfl⟩)) | (go_at_call 12; ((with_reducible refine (p4 _).mono ?_); rintro e w' ⟨rfl, rfl⟩)))
  go_ret
  exact ⟨rfl, g1.trans ((g2.mono g1.size).trans (g3.mono (Nat.le_trans g1.size g2.size)))⟩
theorem refbelow_any (x : BitVec 64) (n : Int) (h0 : -9223372036854775808 ≤ n) (h1 : n ≤ 9223372036854775807) (w : World) :
    Calls Try.prog 13 #[.int .u64 x.toNat, .int .i64 n] w fun e w' => e = .returned (.int .i64 (if n < 1 then 0 else (x.toNat : Int) % n)) ∧ w = w' := by
  by_cases h : n < 1
  · rw [if_pos h]
    go_enter Try.func13, Try.ntmps13
    go_wp2
    go_ret
    exact ⟨rfl, rfl⟩
  · rw [if_neg h]
    go_enter Try.func13, Try.ntmps13
    go_wp2
    go_ret
    exact ⟨ret_int (by have a := Int.emod_nonneg (x.toNat : Int) (show n ≠ 0 by omega); have b := Int.emod_lt_of_pos (x.toNat : Int) (show 0 < n by omega); unfold wrap64; omega), rfl⟩
/-- Sum of the document, nil or not. -/
theorem refsum_bys (s : BitVec 64) (ao : Option Addr) (len c : Nat) (hl : len ≤ 200) (z : Nat → Nat) (hzl : ∀ i, z i < 256) (S : Nat → Prop) (w : World) (hB : Bys S w (.slice ao len c) len z) :
    Calls Try.prog 11 #[.int .u64 s.toNat, .slice ao len c] w fun e w' => e = .returned (.int .u64 (sumv z len (Pl.word s (BitVec.ofNat 64 len)) ((len + 7) / 8)).toNat) ∧ Below w.heap.size w w' := by
  rcases hB with ⟨h, rfl⟩ | ⟨x, cc, h, hlc, _, hz⟩
  · simp only [Value.slice.injEq] at h
    obtain ⟨rfl, _, rfl⟩ := h
    exact (refsum_nil s w).mono fun e w' ⟨he, hw⟩ => ⟨he, by rw [← hw]; exact Below.refl _ _⟩
  · simp only [Value.slice.injEq] at h
    obtain ⟨rfl, _, rfl⟩ := h
    exact refsum_any s x len c hlc hl z hzl w hz
theorem bys_of {w : World} {a : Option Addr} {len cap : Nat} {zs : List Int} (h : (a = none ∧ len = 0 ∧ cap = 0 ∧ zs = []) ∨ ∃ x, a = some x ∧ len ≤ cap ∧ cap ≤ maxLen ∧ zs.length = cap ∧ (∀ i, i < zs.length → w.cell? (x.add i) = some (.int .u8 (zs.getD i 0))) ∧ ∀ n ∈ zs, (Lit.int .u8 n).wf = true) :
    ∃ z : Nat → Nat, (∀ i, z i < 256) ∧ len ≤ maxLen ∧ Bys (fun b => b < w.heap.size) w (.slice a len cap) len z := by
  rcases h with ⟨rfl, rfl, rfl, _⟩ | ⟨x, rfl, hlc, hm, hzl, hz, hwf⟩
  · exact ⟨fun _ => 0, fun _ => Nat.zero_lt_succ _, Nat.zero_le _, .inl ⟨rfl, rfl⟩⟩
  · have hb : ∀ i, i < zs.length → 0 ≤ zs.getD i 0 ∧ zs.getD i 0 < 256 := fun i hi => by
      have h := bounds_u8 (hwf (zs.getD i 0) (by rw [List.getD, List.getElem?_eq_getElem hi]; exact List.getElem_mem hi))
      omega
    refine ⟨fun i => if i < zs.length then (zs.getD i 0).toNat else 0, fun i => ?_, by omega, .inr ⟨x, cap, rfl, hlc, fun h0 => ?_, fun i hi => ?_⟩⟩
    · show (if i < zs.length then (zs.getD i 0).toNat else 0) < 256
      split
      · have := hb i (by omega)
        omega
      · omega
    · have h := World.block_lt_of_cell? w _ (hz 0 (by omega))
      rwa [add_block] at h
    · have h := hb i (by omega)
      show _ = some (Value.int .u8 ((if i < zs.length then (zs.getD i 0).toNat else 0 : Nat) : Int))
      rw [hz i (by omega), if_pos (by omega), Int.toNat_of_nonneg h.1]
theorem sums_walk (s : BitVec 64) (ao : Option Addr) (len c : Nat) (hlm : len ≤ maxLen) (n : Int) (h0 : -9223372036854775808 ≤ n) (h1 : n ≤ 9223372036854775807) (z : Nat → Nat) (hzl : ∀ i, z i < 256) (w : World) (hB : Bys (fun b => b < w.heap.size) w (.slice ao len c) len z) :
    Calls Try.prog 4 #[.int .u64 s.toNat, .slice ao len c, .int .i64 n] w fun e w' => e = .returned (.bool true) ∧ Below w.heap.size w w' := by
  have ca := fun W => alive_b W
  unfold maxLen at hlm
  by_cases hl : len ≤ 200
  · have hl1 : (len : Int) ≤ 200 := by omega
    have p1 := sum_any s ao len c hl z hzl w hB
    have p2 : ∀ W, Below w.heap.size w W → Calls Try.prog 11 #[.int .u64 s.toNat, .slice ao len c] W fun e w' => e = .returned (.int .u64 (sumv z len (Pl.word s (BitVec.ofNat 64 len)) ((len + 7) / 8)).toNat) ∧ Below W.heap.size W w' := fun W hb => refsum_bys s ao len c hl z hzl _ W (hB.keep (Keep.of_below (fun b hb => hb) hb))
    have p3 := fun W => below_any s n h0 h1 W
    have p4 := fun W => refbelow_any s n h0 h1 W
    generalize sumv z len (Pl.word s (BitVec.ofNat 64 len)) ((len + 7) / 8) = r at *
    generalize (if n < 1 then 0 else (s.toNat : Int) % n) = q at *
    go_enter Try.func4, Try.ntmps4
    go_wp2_with (first | (go_at_call 10; ((with_reducible refine p1.mono ?_); rintro e w1 ⟨rfl, g1⟩)) | (go_at_call 11; ((with_reducible refine (p2 _ g1).mono ?_); rintro e w2 ⟨rfl, g2⟩)) | (go_at_call 12; ((with_reducible refine (p3 _).mono ?_); rintro e w' ⟨rfl, rfl⟩)) | (go_at_call 13; ((with_reducible refine (p4 _).mono ?_); rintro e w' ⟨rfl, rfl⟩)) | (go_at_call 9; ((with_reducible refine (ca _).mono ?_); rintro e w3 ⟨rfl, g3⟩)))
    go_ret
    exact ⟨rfl, g1.trans ((g2.mono g1.size).trans (g3.mono (Nat.le_trans g1.size g2.size)))⟩
  · have hl1 : ¬ (len : Int) ≤ 200 := by omega
    clear hB
    go_enter Try.func4, Try.ntmps4
    go_wp2_with (go_at_call 9; ((with_reducible refine (ca _).mono ?_); rintro e w3 ⟨rfl, g3⟩))
    go_ret
    exact ⟨rfl, g3⟩
end Go.Proofs.Ytokjafikgfapmaa
