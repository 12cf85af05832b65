/- The walks of Clear, of Len, of Bytes, at any state. -/
import Derived.Test.YtkmikgajmopcbaaSm
namespace Go.Proofs.Ytkmikgajmopcbaa
open Go.RowKit
set_option linter.unusedVariables false
set_option linter.unusedSimpArgs false
theorem len_at (w : World) (B n cap : Nat) (ao : Option Addr) (all : Bool) (most : Int) (hM : Mt w B 47 (.slice ao n cap) all most) : Calls Try.prog 11 #[.pointer (some ⟨B, 0, none⟩)] w fun e w' => e = .returned (.int .i64 n) ∧ w = w' := by
  obtain ⟨h0, h1, h2, f0, f1⟩ := hM.cell
  clear hM
  go_enter Try.func11, Try.ntmps11
  go_wp2_with go_in
  go_ret
  exact ⟨rfl, rfl⟩
theorem clear_at (w : World) (B : Nat) (v : Value) (all : Bool) (most : Int) (hM : Mt w B 47 v all most) : Calls Try.prog 8 #[.pointer (some ⟨B, 0, none⟩)] w fun e w' => e = .returned (.tuple #[]) ∧ Mt w' B 47 (.slice none 0 0) false most ∧ Kept (fun k => k = B) w w' := by
  obtain ⟨h0, h1, h2, f0, f1⟩ := hM.cell
  have HM := Lib.hid hM
  clear hM
  go_enter Try.func8, Try.ntmps8
  go_wp2_with go_in
  go_end0
  exact ⟨rfl, (HM.out.set0 _).set1 _, ((Kept.refl (fun k => k = B) w).setCell (p := ⟨B, 0, none⟩) rfl _).setCell (p := ⟨B, 1, none⟩) rfl _⟩
theorem bytes_at (w : World) (B base : Nat) (most : Int) (v : Value) (xs : List Int) (all : Bool) (hM : Mt w B 47 v all most) (hown : w.ownsRow base 5 1 v xs.length (vals xs)) (hn : xs.length ≤ 6000) :
    Calls Try.prog 14 #[.pointer (some ⟨B, 0, none⟩)] w fun e w' => ∃ u, e = .returned u ∧ w'.ownsRow w.heap.size 5 1 u xs.length (vals xs) ∧ Below w.heap.size w w' := by
  obtain ⟨i0, hi, hz0, hz1, hz2⟩ := info_parts info5
  obtain ⟨h0, h1, h2, f0, f1⟩ := hM.cell
  have hB : B < w.heap.size := hM.lt
  have hmade : (w.alloc (.cells #[] 5)).ownsRow w.heap.size 5 1 (.slice (some ⟨w.heap.size, 0, none⟩) 0 0) 0 [] := World.ownsRow_made w #[] 0 (Nat.le_refl _) (by unfold maxLen; omega) (by simp)
  have hb0 : Below w.heap.size w (w.alloc (.cells #[] 5)) := Below.alloc (Below.refl _ w) (Nat.le_refl _) _
  rcases hown.2 with ⟨rfl, hx0⟩ | ⟨g, cap, cur, rfl, hg, hcur, hnc, _, _, _⟩
  · obtain rfl : xs = [] := List.eq_nil_of_length_eq_zero hx0
    clear hown hM hn hx0
    go_enter Try.func14, Try.ntmps14
    go_wp2
    go_ret
    exact ⟨_, rfl, hmade, hb0⟩
  · have hcells : ∀ j u, (vals xs)[j]? = some u → (w.alloc (.cells #[] 5)).cell? ((⟨g, 0, none⟩ : Addr).add j) = some u := fun j u hj => keep1 (hown.cells (g := g) rfl j u hj)
    have hl1 : (vals xs).length = xs.length * 1 := by rw [vals_len, Nat.mul_one]
    have HC := Lib.hid hcells
    clear hcells hcur hown hM
    go_enter Try.func14, Try.ntmps14
    go_wp2_with (first | (at_builtin; refine wpList_append_own _ rfl (.tmp 3) (.tmp 7) 27 rfl w.heap.size 5 i0 (.int .u8 0) 1 1 Try.underlying27 hi hz0 hz1 hz2 rfl (by decide) _ 0 [] rfl hmade ⟨g, 0, none⟩ xs.length cap (vals xs) rfl hl1 HC.out (vals_one _) (by unfold maxLen; omega) (by omega) (by simp) ?_; intro v' W2 hown2 hgrow _; obtain ⟨ao', cap', rfl⟩ := form hown2) | go_in)
    go_ret
    refine ⟨_, rfl, by simpa using hown2, hb0.grown hgrow (by simp) (fun k hk => ?_)⟩
    cases hk; exact Nat.le_refl _
theorem row_cellx {W : World} {base n cu : Nat} {au : Option Addr} {xs : List Value} (h : W.ownsRow base 5 1 (.slice au n cu) n xs) (i : Nat) (hi : i < n) (u : Value) (hx : xs[i]? = some u) : ∃ g, au = some g ∧ W.cell? (g.add i) = some u := by
  rcases h.2 with ⟨he, hn⟩ | ⟨g, cap, cur, he, _⟩
  · omega
  · cases he
    exact ⟨_, rfl, h.cells rfl i u hx⟩
/-- Two rows of the call's own with the same bytes are the same to Same. -/
theorem same_own (w : World) (b1 b2 n c c' : Nat) (a a' : Option Addr) (xs : List Int) (hn : xs.length ≤ 6000) (h : w.ownsRow b1 5 1 (.slice a xs.length c) xs.length (vals xs)) (h' : w.ownsRow b2 5 1 (.slice a' xs.length c') xs.length (vals xs)) :
    Calls Try.prog 13 #[.slice a xs.length c, .slice a' xs.length c'] w fun e w' => e = .returned (.bool true) ∧ Below w.heap.size w w' :=
  same_g a a' xs.length c c' (by omega) (fun i => xs.getD i 0) w fun i hi => by
    have hx : (vals xs)[i]? = some (.int .u8 (xs.getD i 0)) := by simp [vals, List.getD, List.getElem?_eq_getElem hi]
    obtain ⟨g, e1, h1⟩ := row_cellx h i hi _ hx
    obtain ⟨g', e2, h2⟩ := row_cellx h' i hi _ hx
    exact ⟨g, g', e1, e2, h1, h2⟩
end Go.Proofs.Ytkmikgajmopcbaa
