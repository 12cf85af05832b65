/- The walks of layer 2's laws BitCounts and BitBack: each returns true. The table math/bits.deBruijn64tab holds what the program's text lays (hT). -/
import Derived.Test.YtfajoaodipoojaaDoorDx
namespace Go.Proofs.YtfajoaodipoojaaDoor
open Go.RowKit
set_option linter.unusedVariables false
set_option linter.unusedSimpArgs false

theorem alive_any (w : World) : Calls Tryd.prog 12 #[] w fun e w' => e = .returned (.bool true) ∧ w = w' := by
  have p0 : Calls Tryd.prog 17 #[.int .u64 43981, .int .i64 4, .int .i64 8] w fun e w' => e = .returned (.int .u64 188) ∧ w = w' :=
    (part_any 43981#64 4 8 (by omega) (by omega) w)
  have p1 : Calls Tryd.prog 14 #[.int .u64 1, .int .i64 (-1)] w fun e w' => e = .returned (.int .u64 9223372036854775808) ∧ w = w' :=
    (rotl_any 1#64 (-1) w)
  have p2 : Calls Tryd.prog 21 #[.int .i64 (-3)] w fun e w' => e = .returned (.int .u64 5) ∧ w = w' :=
    (zig_any (-3) (by omega) (by omega) w)
  have p3 : Calls Tryd.prog 22 #[.int .u64 5] w fun e w' => e = .returned (.int .i64 (-3)) ∧ w = w' :=
    (zag_any 5#64 w)
  go_enter Tryd.func12, Tryd.ntmps12
  go_wp2_with (first | (go_at_call 17; refine p0.mono ?_; rintro e w' ⟨rfl, rfl⟩) | (go_at_call 14; refine p1.mono ?_; rintro e w' ⟨rfl, rfl⟩) | (go_at_call 21; refine p2.mono ?_; rintro e w' ⟨rfl, rfl⟩) | (go_at_call 22; refine p3.mono ?_; rintro e w' ⟨rfl, rfl⟩))
  go_ret
  exact ⟨rfl, rfl⟩

theorem counts_walk (x : BitVec 64) (w : World) (hT : ∀ j, j < 64 → w.cell? ⟨0, j, none⟩ = some (.int .u8 (Lib.deBruijn64tab.getD j 0))) :
    Calls Tryd.prog 3 #[.int .u64 x.toNat] w fun e w' => e = .returned (.bool true) ∧ Grown w w' := by
  have c1 := halves_any x w
  have c2 := trail_any x w hT
  have c3 := reftrail_any x w
  have c4 := len_any x w
  have c5 := reflen_any x w
  have c6 := ones_any x w
  have c7 := refones_any x w
  have c8 := alive_any w
  clear hT
  go_enter Tryd.func3, Tryd.ntmps3
  go_wp2_with (first | (go_at_call 5; ((with_reducible refine c1.mono ?_); rintro e w' ⟨rfl, rfl⟩)) | (go_at_call 6; ((with_reducible refine c2.mono ?_); rintro e w' ⟨rfl, rfl⟩)) | (go_at_call 7; ((with_reducible refine c3.mono ?_); rintro e w' ⟨rfl, rfl⟩)) | (go_at_call 8; ((with_reducible refine c4.mono ?_); rintro e w' ⟨rfl, rfl⟩)) | (go_at_call 9; ((with_reducible refine c5.mono ?_); rintro e w' ⟨rfl, rfl⟩)) | (go_at_call 10; ((with_reducible refine c6.mono ?_); rintro e w' ⟨rfl, rfl⟩)) | (go_at_call 11; ((with_reducible refine c7.mono ?_); rintro e w' ⟨rfl, rfl⟩)) | (go_at_call 12; ((with_reducible refine c8.mono ?_); rintro e w' ⟨rfl, rfl⟩)))
  all_goals
    go_ret
    exact ⟨rfl, by repeat (first | exact Grown.refl _ | apply Grown.drew | apply Grown.alloc)⟩
theorem grown_trans {a b c : World} (h : Grown a b) (k : Grown b c) : Grown a c :=
  ⟨World.keptBut_trans h.1 k.1, fun x => (k.2.1 x).trans (h.2.1 x), Nat.le_trans h.2.2 k.2.2⟩
theorem tab_below {w w' : World} (hT : ∀ j, j < 64 → w.cell? ⟨0, j, none⟩ = some (.int .u8 (Lib.deBruijn64tab.getD j 0))) (hb : Below w.heap.size w w') : ∀ j, j < 64 → w'.cell? ⟨0, j, none⟩ = some (.int .u8 (Lib.deBruijn64tab.getD j 0)) := fun j hj => by
  rw [hb.cell (World.block_lt_of_cell? w _ (hT j hj))]; exact hT j hj
set_option maxHeartbeats 1000000 in
theorem back_walk (x : BitVec 64) (n : Int) (h0 : -9223372036854775808 ≤ n) (h1 : n ≤ 9223372036854775807) (w : World) (hT : ∀ j, j < 64 → w.cell? ⟨0, j, none⟩ = some (.int .u8 (Lib.deBruijn64tab.getD j 0))) :
    Calls Tryd.prog 4 #[.int .u64 x.toNat, .int .i64 n] w fun e w' => e = .returned (.bool true) ∧ Grown w w' := by
  have a1 : -64 < n.tmod 64 := by have := Int.lt_tmod_of_pos n (b := 64) (by decide); omega
  have a2 : n.tmod 64 < 64 := Int.tmod_lt_of_pos n (by decide)
  have c1 := fun W => halves_any x W
  have c2 := fun W => whole_any x W
  have c3 := fun W => rotl_any x n W
  have hs : (n % 64).toNat < 64 := by omega
  have c4 : ∀ W, Calls Tryd.prog 14 #[.int .u64 (Pl.rotv x (n % 64).toNat).toNat, .int .i64 (-(n.tmod 64))] W fun e w' => e = .returned (.int .u64 x.toNat) ∧ W = w' := fun W => by
    have h := rotl_any (Pl.rotv x (n % 64).toNat) (-(n.tmod 64)) W
    rw [Pl.neg_rem, show ((64 - n % 64) % 64).toNat = (64 - (n % 64).toNat) % 64 by omega, Pl.rot_back x _ hs] at h
    exact h
  have c4b : ∀ W, Calls Tryd.prog 14 #[.int .u64 (Pl.rotv x (n % 64).toNat).toNat, .int .i64 (-(n % 64))] W fun e w' => e = .returned (.int .u64 x.toNat) ∧ W = w' := fun W => by
    have h := rotl_any (Pl.rotv x (n % 64).toNat) (-(n % 64)) W
    rw [show ((-(n % 64)) % 64).toNat = (64 - (n % 64).toNat) % 64 by omega, Pl.rot_back x _ hs] at h
    exact h
  have c5 := fun W => turn_any x W
  have c6 : ∀ W, Calls Tryd.prog 15 #[.int .u64 (Pl.turnv x).toNat] W fun e w' => e = .returned (.int .u64 x.toNat) ∧ Grown W w' ∧ Below W.heap.size W w' := fun W => by
    have h := turn_any (Pl.turnv x) W
    rw [Pl.turn_back] at h; exact h
  have c7 := fun W => low_any x n W
  have c8 := fun W => part_any x n 64 h0 h1 W
  have c9 := fun W => len_any x W
  have c10 := fun W h => trail_any (Pl.turnv x) W h
  have c11 := fun W => ones_any x W
  have c12 : ∀ W, Calls Tryd.prog 10 #[.int .u64 (Pl.rotv x (n % 64).toNat).toNat] W fun e w' => e = .returned (.int .i64 (Pl.cnt x.toNat)) ∧ W = w' := fun W => by
    have h := ones_any (Pl.rotv x (n % 64).toNat) W
    rw [Pl.cnt_rot x _ hs] at h; exact h
  have c13 := fun W => alive_any W
  have hlt := Pl.len_turn x
  have hle := Pl.len_le x.toNat x.isLt
  have htr : Pl.trail (Pl.turnv x).toNat 64 ≤ 64 := (Pl.trail_spec _ 64 (Nat.le_refl _)).2.1
  have hte : ((Pl.len x.toNat : Int) == 64 - (Pl.trail (Pl.turnv x).toNat 64 : Int)) = true := by rw [beq_iff_eq]; exact hlt
  clear hlt
  by_cases hn : 0 ≤ n ∧ n < 64
  · obtain ⟨n0, n1⟩ := hn
    have r1 : IntKind.u64.wrap (((Pl.part x n 64).toNat : Int) * 2 ^ n.toNat) = ((Pl.shl (Pl.part x n 64) n.toNat).toNat : Int) := by rw [Pl.shl_bv]; rfl
    have r2 : IntKind.u64.wrap (((Pl.low x n).toNat : Int) + ((Pl.shl (Pl.part x n 64) n.toNat).toNat : Int)) = (x.toNat : Int) := by rw [Pl.add_bv, Pl.low_part x n n0 n1]
    go_enter Tryd.func4, Tryd.ntmps4
    go_wp2_with fail
    refine (c1 _).mono ?_
    rintro e w' ⟨rfl, rfl⟩
    go_wp2_with fail
    refine (c2 _).mono ?_
    rintro e w' ⟨rfl, rfl⟩
    go_wp2_with fail
    refine (c3 _).mono ?_
    rintro e w' ⟨rfl, rfl⟩
    go_wp2_with fail
    first | refine (c4 _).mono ?_ | refine (c4b _).mono ?_
    rintro e w' ⟨rfl, rfl⟩
    go_wp2_with fail
    refine (c5 _).mono ?_
    rintro e w1 ⟨rfl, g1, b1⟩
    go_wp2_with fail
    refine (c6 _).mono ?_
    rintro e w2 ⟨rfl, g2, b2⟩
    go_wp2_with fail
    refine (c7 _).mono ?_
    rintro e w' ⟨rfl, rfl⟩
    go_wp2_with fail
    refine (c8 _).mono ?_
    rintro e w' ⟨rfl, rfl⟩
    go_wp2_with fail
    refine (c9 _).mono ?_
    rintro e w' ⟨rfl, rfl⟩
    go_wp2_with fail
    refine (c5 _).mono ?_
    rintro e w3 ⟨rfl, g3, b3⟩
    have t1 := tab_below hT b1
    have t2 := tab_below t1 b2
    have t3 := tab_below t2 b3
    have c10 := c10 _ t3
    clear t1 t2 t3
    go_wp2_with fail
    refine c10.mono ?_
    rintro e w' ⟨rfl, rfl⟩
    go_wp2_with fail
    refine (c3 _).mono ?_
    rintro e w' ⟨rfl, rfl⟩
    go_wp2_with fail
    refine (c12 _).mono ?_
    rintro e w' ⟨rfl, rfl⟩
    go_wp2_with fail
    refine (c11 _).mono ?_
    rintro e w' ⟨rfl, rfl⟩
    go_wp2_with fail
    refine (c13 _).mono ?_
    rintro e w' ⟨rfl, rfl⟩
    go_wp2
    go_ret
    exact ⟨rfl, grown_trans g1 (grown_trans g2 g3)⟩
  · have hg : (0 ≤ n → ¬ n < 64) := fun a b => hn ⟨a, b⟩
    rcases (by omega : n < 0 ∨ 64 ≤ n) with hn0 | hn0
    all_goals
      clear hn hg
      go_enter Tryd.func4, Tryd.ntmps4
      go_wp2_with fail
      refine (c1 _).mono ?_
      rintro e w' ⟨rfl, rfl⟩
      go_wp2_with fail
      refine (c2 _).mono ?_
      rintro e w' ⟨rfl, rfl⟩
      go_wp2_with fail
      refine (c3 _).mono ?_
      rintro e w' ⟨rfl, rfl⟩
      go_wp2_with fail
      first | refine (c4 _).mono ?_ | refine (c4b _).mono ?_
      rintro e w' ⟨rfl, rfl⟩
      go_wp2_with fail
      refine (c5 _).mono ?_
      rintro e w1 ⟨rfl, g1, b1⟩
      go_wp2_with fail
      refine (c6 _).mono ?_
      rintro e w2 ⟨rfl, g2, b2⟩
      go_wp2_with fail
      refine (c9 _).mono ?_
      rintro e w' ⟨rfl, rfl⟩
      go_wp2_with fail
      refine (c5 _).mono ?_
      rintro e w3 ⟨rfl, g3, b3⟩
      have t1 := tab_below hT b1
      have t2 := tab_below t1 b2
      have t3 := tab_below t2 b3
      have c10 := c10 _ t3
      clear t1 t2 t3
      go_wp2_with fail
      refine c10.mono ?_
      rintro e w' ⟨rfl, rfl⟩
      go_wp2_with fail
      refine (c3 _).mono ?_
      rintro e w' ⟨rfl, rfl⟩
      go_wp2_with fail
      refine (c12 _).mono ?_
      rintro e w' ⟨rfl, rfl⟩
      go_wp2_with fail
      refine (c11 _).mono ?_
      rintro e w' ⟨rfl, rfl⟩
      go_wp2_with fail
      refine (c13 _).mono ?_
      rintro e w' ⟨rfl, rfl⟩
      go_wp2
      go_ret
      exact ⟨rfl, grown_trans g1 (grown_trans g2 g3)⟩
end Go.Proofs.YtfajoaodipoojaaDoor
