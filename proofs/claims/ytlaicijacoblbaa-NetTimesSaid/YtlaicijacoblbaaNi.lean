/- The methods of nobody. -/
import Derived.RangeFuncNested
import Derived.RangeFuncBound
import Derived.RangeFuncCalls
import Derived.RangeFuncLeaves
import Derived.RangeFuncFrom
import Derived.Shelf.Abstract
import Derived.Shelf.RegionOpen
import Derived.OwnWalkIn
import Derived.TacticsInMore
import Derived.LoopNIn
import Derived.LoopIn
import Derived.Test.YtlaicijacoblbaaCq
import Derived.Outline
namespace Go.Proofs.Ytlaicijacoblbaa
open Go.RowKit Go.Shelf
attribute [local go_sem] Oper.semAt_some
set_option linter.unusedVariables false
set_option linter.unusedSimpArgs false
theorem len_nil (w : World) : Calls Try.prog 13 #[.pointer none] w fun e w' => e = .returned (.int .i64 0) ∧ w = w' := by
  go_enter Try.func13, Try.ntmps13
  go_wp2
  go_ret
  exact ⟨rfl, rfl⟩
theorem put_nil (w : World) : Calls Try.prog 8 #[.pointer none, .int .u8 1, .slice none 0 0] w fun e w' => e = .returned (.int .i64 (-1)) ∧ w = w' := by
  go_enter Try.func8, Try.ntmps8
  go_wp2
  go_ret
  exact ⟨rfl, rfl⟩
theorem twice_nil (w : World) : Calls Try.prog 10 #[.pointer none, .int .i64 0] w fun e w' => e = .returned (.int .i64 1) ∧ w = w' :=
  twice_of w _ _ 1 _ (with_nil w 0 _)
theorem spoil_nil (w : World) : Calls Try.prog 11 #[.pointer none, .int .i64 0, .int .i64 0, .int .u8 1] w fun e w' => e = .returned (.int .i64 1) ∧ Below w.heap.size w w' := by
  have c := fun W f => with_nil W 0 f
  go_enter Try.func11, Try.ntmps11
  go_wp2_with (go_at_call 16; refine (c _ _).mono ?_; rintro e w' ⟨rfl, rfl⟩)
  go_ret
  exact ⟨rfl, by go_grown⟩
theorem get_nil (w : World) : Calls Try.prog 7 #[.pointer none, .int .i64 0] w fun e w' => e = .returned (.tuple #[.agg #[.int .u8 0, .int .i64 0, .slice none 0 0], .bool false]) ∧ Below w.heap.size w w' := by
  have c := fun W => len_nil W
  go_enter Try.func7, Try.ntmps7
  go_wp2_with (go_at_call 13; refine (c _).mono ?_; rintro e w' ⟨rfl, rfl⟩)
  exact bodyPost_ret (v := .tuple #[.agg #[.int .u8 0, .int .i64 0, .slice none 0 0], .bool false]) (by simp [results, Try.results7, go_sem]) rfl ⟨rfl, by go_grown⟩
theorem waitsf_nil (l Bn : Nat) (F : Fence) (n : Nat) (h22 : F.fn 22) (h13 : F.fn 13) (hro : F.round = none) (hn : 2 ≤ n) (W : World) (hBn : W.cell? ⟨Bn, 0, none⟩ = some (.pointer none)) (c13 : CallsIn F (n - 1) Try.prog 13 #[.pointer none] W fun e w' => e = .returned (.int .i64 0) ∧ W = w') :
    CallsIn F n Try.prog 22 #[.func (.yield l) #[] #[], .pointer (some ⟨Bn, 0, none⟩)] W fun e W' => (∃ v, e = .returned v) ∧ W = W' := by
  have h1 : 1 ≤ n := by omega
  refine callsIn_of_wp Try.func22 rfl h22 ?_ hro
  simp only [Try.ntmps22, List.size_toArray, List.length_cons, List.length_nil, Nat.reduceAdd, Nat.reduceSub, Array.replicate_succ, Array.replicate_zero, List.push_toArray, List.append_toArray, List.nil_append, List.cons_append]
  gi_wp2_with (gi_at_call 13; refine c13.mono ?_; rintro e w' ⟨rfl, rfl⟩)
  gi_loopw [7] (fun p wr => p = .int .i64 0 ∧ wr = W) (fun p wr => 0)
  case atStart => exact ⟨rfl, rfl⟩
  case round =>
    obtain ⟨rfl, rfl⟩ := hrel
    gi_wp2
    go_end0
    exact ⟨⟨_, rfl⟩, rfl⟩
theorem waits_fn (v : Option Addr) (w : World) : Calls Try.prog 20 #[.pointer v] w fun e w' => e = .returned (.func (.func 22) #[] #[.pointer (some ⟨w.heap.size, 0, none⟩)]) ∧ w.alloc (.cells #[.pointer v] 25) = w' := by
  go_enter Try.func20, Try.ntmps20
  go_wp2
  go_ret
  exact ⟨rfl, rfl⟩
theorem waits_nil (w : World) : Calls Try.prog 12 #[.pointer none] w fun e w' => e = .returned (.slice none 0 0) ∧ Below w.heap.size w w' := by
  refine (callsIn_wide (n := 3)).1 ?_
  have h1 : 1 ≤ 3 := by omega
  refine callsIn_of_wp_marks Try.func12 rfl trivial ?_ rfl
  simp only [Try.ntmps12, List.size_toArray, List.length_cons, List.length_nil, Nat.reduceAdd, Nat.reduceSub, Array.replicate_succ, Array.replicate_zero, List.push_toArray, List.append_toArray, List.nil_append, List.cons_append]
  gi_wp2_with (refine ⟨trivial, ?_⟩; gi_at_call 20; refine (callsIn_wide.2 (waits_fn _ _)).mono ?_; rintro e w' ⟨rfl, rfl⟩)
  obtain ⟨W0, hW0⟩ : ∃ W0, (w.alloc (.cells #[.slice none 0 0] 37)).alloc (.cells #[.pointer none] 25) = W0 := ⟨_, rfl⟩
  have hz : W0.heap.size = w.heap.size + 1 + 1 := by rw [← hW0]; simp
  have hB0 : Below w.heap.size w W0 := by rw [← hW0]; exact ((Below.refl _ w).alloc (Nat.le_refl _) _).alloc (by simp) _
  have l1 : Lies W0 w.heap.size 37 #[.slice none 0 0] := by rw [← hW0]; exact (Below.heap_alloc _ _ _ (by simp)).trans (Lies.new w 37 _)
  have l2 : Lies W0 (w.heap.size + 1) 25 #[.pointer none] := by
    have k := Lies.new (w.alloc (.cells #[.slice none 0 0] 37)) 25 #[.pointer none]
    rw [World.size_alloc] at k
    rw [← hW0]; exact k
  have c1 : W0.cell? ⟨w.heap.size, 0, none⟩ = some (.slice none 0 0) := l1.cell 0
  have f1 := l1.free 0
  rw [hW0]
  refine wpIn_rangeFunc_ownF (α := Empty) (F := Fence.wide) (n := 3) rfl h1 (gf := 22) (lb := #[.pointer (some ⟨w.heap.size + 1, 0, none⟩)]) rfl trivial (enters_of Try.func22 (by kernel_rfl) rfl) (encs := fun x => nomatch x) (Kp := Below 0) (S := fun _ => True) (Sp := fun _ => True) (N := 0) (w0 := W0)
    (fun l J Jx W hW _ _ _ h0 => ?stops) belowK_t (belowK_b (Nat.zero_le _)) (Below.refl _ _) (fun x => nomatch x)
    (fun pre W => (W.cell? ⟨w.heap.size, 0, none⟩ = some (.slice none 0 0) ∧ W.frozen? ⟨w.heap.size, 0, none⟩ = false) ∧ Below w.heap.size W0 W)
    (fun _ _ _ => False)
    (OwnFrom.and (Own.from (fun s A B row hs hg hr => ⟨cell_kept hs.1 hg hr, (frozen_kept hs.1 hg hr).trans hs.2⟩) _) (ownFrom_below (by rw [hz]; omega) (by rw [hz]; omega)))
    (fun _ _ _ _ _ hs _ _ => hs)
    ⟨⟨c1, f1⟩, Below.refl _ _⟩
    (fun x => nomatch x) ?assign ?body ?done ?stop
  case stops =>
    have h2 : W.cell? ⟨w.heap.size + 1, 0, none⟩ = some (.pointer none) := (hW.cell (p := ⟨w.heap.size + 1, 0, none⟩) (show w.heap.size + 1 < _ by rw [hz]; omega)).trans (l2.cell 0)
    exact (waitsf_nil l _ Fence.wide 2 trivial trivial rfl (by omega) W h2 (callsIn_wide.2 (len_nil W))).mono fun e W' ⟨he, hw⟩ => ⟨he, .inl ⟨[], trivial, by rw [← hw]; exact h0⟩⟩
  case assign => exact fun l x => nomatch x
  case body => exact fun l pre x => nomatch x
  case done =>
    rintro D ys W hD _ ⟨⟨hcr, hfr⟩, hB⟩ hK
    gi_wp2
    have hK' := (KeepsOthers.setCell W ⟨w.heap.size, 0, none⟩ (.slice none 0 0)).same D _ hK rfl
    refine ⟨by simp, .inl ⟨_, _, rfl, run_takeDeferred hK', ?_⟩⟩
    have hc5 := cell_kept (World.cell?_setCell_same' W ⟨w.heap.size, 0, none⟩ (.slice none 0 0) (by rw [hcr]; rfl)) (grownBy_putObj' _ D (.deferred none)) (fun r e => by cases e; exact ⟨_, hK', rfl⟩)
    refine ⟨.slice none 0 0, ?_, rfl, ((hB0.trans hB).setCell (p := ⟨w.heap.size, 0, none⟩) (Nat.le_refl _) _).trans (belowK_b (w := w) (Nat.le_refl _) _ D _ _ (by rw [hz] at hD; omega) hK' rfl rfl)⟩
    simp [results, Try.f12, go_sem, hc5]
  case stop =>
    rintro D c pre W _ _ h _
    exact h.elim
end Go.Proofs.Ytlaicijacoblbaa
