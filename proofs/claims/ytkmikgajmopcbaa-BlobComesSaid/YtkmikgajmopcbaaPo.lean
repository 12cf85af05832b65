/- The walk of Put, of Bytes, at any state of the receiver. -/
import Derived.Test.YtkmikgajmopcbaaPi
import Derived.Deep.AppendLies
namespace Go.Proofs.Ytkmikgajmopcbaa
open Go.RowKit
set_option linter.unusedVariables false
set_option linter.unusedSimpArgs false
/-- The receiver at block B: its slice v owns the n bytes xs, in a block of base or beyond. -/
structure St (W : World) (B base : Nat) (v : Value) (n : Nat) (xs : List Value) (all : Bool) (most : Int) : Prop where
  c0 : W.cell? ⟨B, 0, none⟩ = some v
  c1 : W.cell? ⟨B, 1, none⟩ = some (.bool all)
  c2 : W.cell? ⟨B, 2, none⟩ = some (.int .i64 most)
  f0 : W.frozen? ⟨B, 0, none⟩ = false
  f1 : W.frozen? ⟨B, 1, none⟩ = false
  own : W.ownsRow base 5 1 v n xs
  lt : B < base
  le : base ≤ W.heap.size
theorem form {W : World} {base n : Nat} {v : Value} {xs : List Value} (h : W.ownsRow base 5 1 v n xs) : ∃ ao cap, v = .slice ao n cap := by
  rcases h.2 with ⟨h', rfl⟩ | ⟨g, cap, _, h', _⟩
  · exact ⟨_, _, h'⟩
  · exact ⟨_, _, h'⟩
set_option maxHeartbeats 1000000 in
theorem put_ok (w : World) (B base n m c : Nat) (most : Int) (v : Value) (xs news : List Value) (a : Addr) (last : Bool) (hst : St w B base v n xs false most) (hm : (n : Int) + m ≤ most) (hmost : most ≤ 300) (hl : news.length = m)
    (hnews : ∀ j u, news[j]? = some u → w.cell? (a.add j) = some u) (h1c : ∀ u ∈ news, u.oneCell' = true) :
    Calls Try.prog 9 #[.pointer (some ⟨B, 0, none⟩), .int .u32 n, .bool last, .slice (some a) m c] w fun e w' => e = .returned (.int .i64 0) ∧ ∃ v', St w' B base v' (n + m) (xs ++ news) last most ∧ Below B w w' := by
  obtain ⟨i0, hi, hz0, hz1, hz2⟩ := info_parts info5
  obtain ⟨h0, h1, h2, f0, f1, hown, hlt, hle⟩ := hst
  obtain ⟨ao, cap, rfl⟩ := form hown
  have hn0 : (0 : Int) ≤ (n : Int) := by omega
  have hn1 : (n : Int) ≤ 300 := by omega
  have hm0 : (0 : Int) ≤ (m : Int) := by omega
  have hm1 : (m : Int) ≤ 300 := by omega
  have hms : (m : Int) ≤ most - (n : Int) := by omega
  have hB : B < w.heap.size := by omega
  go_enter Try.func9, Try.ntmps9
  go_wp2_with (first | (at_builtin; refine wpList_append_own _ rfl (.tmp 50) (.tmp 51) 27 rfl base 5 i0 (.int .u8 0) 1 1 Try.underlying27 hi hz0 hz1 hz2 rfl (by decide) (.slice ao n cap) n xs rfl hown a m c news rfl (by omega) hnews h1c (by unfold maxLen; omega) (by omega) hle ?_; intro v' W2 hown2 hgrow _; obtain ⟨ao', cap', rfl⟩ := form hown2; have hb := (below_drewN (Below.refl base w) _).grown hgrow hle (fun k hk => (hown.lt k hk).1); have e0 := (hb.cell (p := ⟨B, 0, none⟩) hlt).trans h0; have e1 := (hb.cell (p := ⟨B, 1, none⟩) hlt).trans h1; have e2 := (hb.cell (p := ⟨B, 2, none⟩) hlt).trans h2; have e3 := (hb.frozen (p := ⟨B, 0, none⟩) hlt).trans f0; have e4 := (hb.frozen (p := ⟨B, 1, none⟩) hlt).trans f1) | go_quiet (fail))
  go_ret
  refine ⟨rfl, .slice ao' (n + m) cap', ⟨?_, ?_, ?_, ?_, ?_, ?_, hlt, ?_⟩, ((hb.mono (Nat.le_of_lt hlt)).setCell (p := ⟨B, 0, none⟩) (Nat.le_refl _) _).setCell (p := ⟨B, 1, none⟩) (Nat.le_refl _) _⟩
  · simp [World.cell?_setCell_other, World.cell?_setCell_same', e0, e1, e2]
  · simp [World.cell?_setCell_other, World.cell?_setCell_same', e0, e1, e2]
  · simp [World.cell?_setCell_other, World.cell?_setCell_same', e0, e1, e2]
  · simp [e3]
  · simp [e4]
  · exact ownsRow_setCell_below (ownsRow_setCell_below hown2 hlt _) hlt _
  · have := hb.size
    simp; omega
theorem put_all (w : World) (B : Nat) (n : Int) (last : Bool) (u : Value) (h1 : w.cell? ⟨B, 1, none⟩ = some (.bool true)) : Calls Try.prog 9 #[.pointer (some ⟨B, 0, none⟩), .int .u32 n, .bool last, u] w fun e w' => e = .returned (.int .i64 13) ∧ w = w' := by
  go_enter Try.func9, Try.ntmps9
  go_wp2
  go_ret
  exact ⟨rfl, rfl⟩
theorem put_off (w : World) (B : Nat) (n k : Nat) (ao : Option Addr) (cap : Nat) (last : Bool) (u : Value) (hn : n ≤ 300) (hk : k ≤ 300) (hne : ¬ k = n) (h0 : w.cell? ⟨B, 0, none⟩ = some (.slice ao n cap)) (h1 : w.cell? ⟨B, 1, none⟩ = some (.bool false)) :
    Calls Try.prog 9 #[.pointer (some ⟨B, 0, none⟩), .int .u32 k, .bool last, u] w fun e w' => e = .returned (.int .i64 2) ∧ w = w' := by
  have hn0 : (0 : Int) ≤ (n : Int) := by omega
  have hn1 : (n : Int) ≤ 300 := by omega
  have hk0 : (0 : Int) ≤ (k : Int) := by omega
  have hk1 : (k : Int) ≤ 300 := by omega
  have hne' : ¬ (k : Int) = (n : Int) := by omega
  go_enter Try.func9, Try.ntmps9
  go_wp2
  go_ret
  exact ⟨rfl, rfl⟩
theorem nil_put (w : World) : Calls Try.prog 9 #[.pointer none, .int .u32 0, .bool true, .slice none 0 0] w fun e w' => e = .returned (.int .i64 1) ∧ w = w' := by
  go_enter Try.func9, Try.ntmps9
  go_wp2
  go_ret
  exact ⟨rfl, rfl⟩
theorem nil_len (w : World) : Calls Try.prog 11 #[.pointer none] w fun e w' => e = .returned (.int .i64 0) ∧ w = w' := by
  go_enter Try.func11, Try.ntmps11
  go_wp2
  go_ret
  exact ⟨rfl, rfl⟩
theorem nil_whole (w : World) : Calls Try.prog 12 #[.pointer none] w fun e w' => e = .returned (.bool false) ∧ w = w' := by
  go_enter Try.func12, Try.ntmps12
  go_wp2
  go_ret
  exact ⟨rfl, rfl⟩
theorem nil_bytes (w : World) : Calls Try.prog 14 #[.pointer none] w fun e w' => e = .returned (.slice none 0 0) ∧ w = w' := by
  go_enter Try.func14, Try.ntmps14
  go_wp2
  go_ret
  exact ⟨rfl, rfl⟩
theorem nil_clear (w : World) : Calls Try.prog 8 #[.pointer none] w fun e w' => e = .returned (.tuple #[]) ∧ w = w' := by
  go_enter Try.func8, Try.ntmps8
  go_wp2
  go_end0
  exact ⟨rfl, rfl⟩
theorem put_nil (w : World) (B base : Nat) (most : Int) (hmost : 0 ≤ most) (hmost' : most ≤ 300) (last : Bool) (hst : St w B base (.slice none 0 0) 0 [] false most) :
    Calls Try.prog 9 #[.pointer (some ⟨B, 0, none⟩), .int .u32 0, .bool last, .slice none 0 0] w fun e w' => e = .returned (.int .i64 0) ∧ St w' B base (.slice none 0 0) 0 [] last most ∧ Below B w w' := by
  obtain ⟨h0, h1, h2, f0, f1, hown, hlt, hle⟩ := hst
  go_enter Try.func9, Try.ntmps9
  go_wp2_with (go_quiet (fail))
  go_ret
  refine ⟨rfl, ⟨?_, ?_, ?_, ?_, ?_, ?_, hlt, ?_⟩, ((below_drewN (Below.refl B w) _).setCell (p := ⟨B, 0, none⟩) (Nat.le_refl _) _).setCell (p := ⟨B, 1, none⟩) (Nat.le_refl _) _⟩
  · simp [World.cell?_setCell_other, World.cell?_setCell_same', h0, h1, h2]
  · simp [World.cell?_setCell_other, World.cell?_setCell_same', h0, h1, h2]
  · simp [World.cell?_setCell_other, World.cell?_setCell_same', h0, h1, h2]
  · simp [f0]
  · simp [f1]
  · exact World.ownsRow_nil _ _ _ _
  · simp; omega
theorem bytes_ok (w : World) (B base n : Nat) (most : Int) (v : Value) (xs : List Value) (all : Bool) (hst : St w B base v n xs all most) (hn : n ≤ 300) (h1c : ∀ u ∈ xs, u.oneCell' = true) :
    Calls Try.prog 14 #[.pointer (some ⟨B, 0, none⟩)] w fun e w' => ∃ u, e = .returned u ∧ w'.ownsRow w.heap.size 5 1 u n xs ∧ Below w.heap.size w w' := by
  obtain ⟨i0, hi, hz0, hz1, hz2⟩ := info_parts info5
  obtain ⟨h0, h1, h2, f0, f1, hown, hlt, hle⟩ := hst
  have hB : B < w.heap.size := by omega
  have hmade : (w.alloc (.cells #[] 5)).ownsRow w.heap.size 5 1 (.slice (some ⟨w.heap.size, 0, none⟩) 0 0) 0 [] := World.ownsRow_made w #[] 0 (Nat.le_refl _) (by unfold maxLen; omega) (by simp)
  have hb0 : Below w.heap.size w (w.alloc (.cells #[] 5)) := Below.alloc (Below.refl _ w) (Nat.le_refl _) _
  rcases hown.2 with ⟨rfl, rfl⟩ | ⟨g, cap, cur, rfl, hg, hcur, hnc, _, _, _⟩
  · obtain rfl : xs = [] := List.eq_nil_of_length_eq_zero (by simpa using hown.1)
    go_enter Try.func14, Try.ntmps14
    go_wp2
    go_ret
    exact ⟨_, rfl, hmade, hb0⟩
  · have hcells := hown.cells (g := g) rfl
    have hl := hown.1
    go_enter Try.func14, Try.ntmps14
    go_wp2_with (first | (at_builtin; refine wpList_append_own _ rfl (.tmp 3) (.tmp 7) 27 rfl w.heap.size 5 i0 (.int .u8 0) 1 1 Try.underlying27 hi hz0 hz1 hz2 rfl (by decide) _ 0 [] rfl hmade ⟨g, 0, none⟩ n cap xs rfl hl (fun j u hj => keep1 (hcells j u hj)) h1c (by unfold maxLen; omega) (by omega) (by simp) ?_; intro v' W2 hown2 hgrow _; obtain ⟨ao', cap', rfl⟩ := form hown2) | go_in)
    go_ret
    refine ⟨_, rfl, by simpa using hown2, hb0.grown hgrow (by simp) (fun k hk => ?_)⟩
    cases hk; exact Nat.le_refl _
/-- Two slices with the same bytes are the same to Same. -/
theorem same_g (a a' : Option Addr) (n c c' : Nat) (hn : n ≤ 9223372036854775807) (z : Nat → Int) (w : World) (hz : ∀ i, i < n → ∃ x y, a = some x ∧ a' = some y ∧ w.cell? (x.add i) = some (.int .u8 (z i)) ∧ w.cell? (y.add i) = some (.int .u8 (z i))) :
    Calls Try.prog 13 #[.slice a n c, .slice a' n c'] w fun e w' => e = .returned (.bool true) ∧ Below w.heap.size w w' := by
  go_enter Try.func13, Try.ntmps13
  go_wp2
  go_loopw [5] (fun v wr => ∃ j : Nat, j ≤ n ∧ v = .int .i64 j ∧ Below w.heap.size w wr) (fun v wr => n - (intOf v).toNat)
  case atStart => exact ⟨0, by omega, rfl, Below.refl _ _⟩
  case round =>
    obtain ⟨j, hj, rfl, hb⟩ := hrel
    by_cases hlt : j < n
    · obtain ⟨x, y, rfl, rfl, hx, hy⟩ := hz j hlt
      have hcell := keepB hb hx
      have hcell' := keepB hb hy
      obtain ⟨b, hbe⟩ : ∃ b, z j = b := ⟨_, rfl⟩
      rw [hbe] at hcell hcell'
      have hi : (0 : Int) ≤ (j : Int) := by omega
      have hi' : (j : Int) < (n : Int) := by omega
      clear hz hbe hx hy
      go_wp2_with (go_quiet (fail))
      refine ⟨⟨j + 1, by omega, by simp, below_drewN hb _⟩, ?_⟩
      simp only [intOf]
      omega
    · obtain rfl : j = n := by omega
      go_wp2
      go_ret
      exact ⟨rfl, hb⟩
end Go.Proofs.Ytkmikgajmopcbaa
