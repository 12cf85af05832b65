/- The walk of the chapter's example for blobs. -/
import Derived.Test.YtkmikgajmopcbaaPu
import Derived.Lib.SmallJoins
import Derived.Laws.BytesArg
namespace Go.Proofs.Ytkmikgajmopcbaa
open Go.RowKit
set_option linter.unusedVariables false
set_option linter.unusedSimpArgs false
theorem new_any (n : Int) (w : World) : Calls Try.prog 7 #[.int .i64 n] w fun e w' => e = .returned (.pointer (some ⟨w.heap.size, 0, none⟩)) ∧ w.alloc (.cells #[.slice none 0 0, .bool false, .int .i64 (max n 0)] 47) = w' := by
  go_enter Try.func7, Try.ntmps7
  go_wp2
  · have e : max n 0 = 0 := by omega
    go_ret
    exact ⟨rfl, by rw [e]⟩
  · have e : max n 0 = n := by omega
    go_ret
    exact ⟨rfl, by rw [e]⟩
theorem whole_at (w : World) (B : Nat) (v : Bool) (h1 : w.cell? ⟨B, 1, none⟩ = some (.bool v)) : Calls Try.prog 12 #[.pointer (some ⟨B, 0, none⟩)] w fun e w' => e = .returned (.bool v) ∧ w = w' := by
  go_enter Try.func12, Try.ntmps12
  go_wp2
  go_ret
  exact ⟨rfl, rfl⟩
theorem bytes_ab (w : World) (B G C : Nat) (h0 : w.cell? ⟨B, 0, none⟩ = some (.slice (some ⟨G, 0, none⟩) 2 C)) (g0 : w.cell? ⟨G, 0, none⟩ = some (.int .u8 97)) (g1 : w.cell? ⟨G, 1, none⟩ = some (.int .u8 98)) :
    Calls Try.prog 14 #[.pointer (some ⟨B, 0, none⟩)] w fun e w' => ∃ H c, e = .returned (.slice (some ⟨H, 0, none⟩) 2 c) ∧ w'.cell? ⟨H, 0, none⟩ = some (.int .u8 97) ∧ w'.cell? ⟨H, 1, none⟩ = some (.int .u8 98) ∧ Below w.heap.size w w' := by
  have hB : B < w.heap.size := World.block_lt_of_cell? w _ h0
  go_enter Try.func14, Try.ntmps14
  go_wp2_with (first | (at_builtin; refine wpList_app_ab rfl (.tmp 3) (.tmp 7) rfl rfl _ G C rfl rfl (by first | exact g0 | exact keep1 g0) (by first | exact g1 | exact keep1 g1) ?_; intro gc W2 hk hf c0 c1 hs hb) | go_in)
  go_ret
  have c0 : W2.cell? ⟨w.heap.size + 1, 0, none⟩ = some (.int .u8 97) := by simpa using c0
  have c1 : W2.cell? ⟨w.heap.size + 1, 1, none⟩ = some (.int .u8 98) := by simpa using c1
  exact ⟨_, _, rfl, c0, c1, (Below.alloc (Below.refl _ w) (Nat.le_refl _) _).trans (hb.mono (by simp))⟩
theorem pieces_any (n m : Int) (hn : -9223372036854775808 ≤ n) (hn' : n ≤ 9223372036854775807) (hm' : m ≤ 9223372036854775807) (w : World) : ∃ k : Int, (∀ w, Calls Try.prog 17 #[.int .i64 n, .int .i64 m] w fun e w' => e = .returned (.int .i64 k) ∧ w = w') ∧ (∀ w, Calls Try.prog 18 #[.int .i64 n, .int .i64 m] w fun e w' => e = .returned (.int .i64 k) ∧ w = w') := by
  refine ⟨if m < 1 then 0 else if n < 1 then 1 else wrap64 (1 + (n - 1) / m), fun w => ?_, fun w => ?_⟩
  · go_enter Try.func17, Try.ntmps17
    go_wp2
    all_goals (go_ret; exact ⟨rfl, rfl⟩)
  · have e := Int.add_comm 1 ((n - 1) / m)
    rw [e]
    go_enter Try.func18, Try.ntmps18
    go_wp2
    all_goals (go_ret; exact ⟨rfl, rfl⟩)
theorem pieces_104 (w : World) : Calls Try.prog 17 #[.int .i64 10, .int .i64 4] w fun e w' => e = .returned (.int .i64 3) ∧ w = w' := by
  go_enter Try.func17, Try.ntmps17
  go_wp2
  go_ret
  exact ⟨rfl, rfl⟩
theorem str_ab (W : World) (H c : Nat) (g0 : W.cell? ⟨H, 0, none⟩ = some (.int .u8 97)) (g1 : W.cell? ⟨H, 1, none⟩ = some (.int .u8 98)) : (convert 27 9 (.slice (some ⟨H, 0, none⟩) 2 c)).run Try.prog W = .ok (.string ⟨#[97, 98]⟩) W :=
  run_convert_bytes_arg W 27 5 Try.underlying27 Try.underlying5 H 0 2 c [97, 98] rfl (fun i hi => by
    match i, hi with
    | 0, _ => exact g0
    | 1, _ => exact g1) 9 Try.underlying9
set_option maxHeartbeats 1000000 in
theorem alive_any (w : World) : Calls Try.prog 6 #[] w fun e w' => e = .returned (.bool true) ∧ Below w.heap.size w w' := by
  have c1 : ∀ W : World, Calls Try.prog 7 #[.int .i64 9] W fun e w' => e = .returned (.pointer (some ⟨W.heap.size, 0, none⟩)) ∧ W.alloc (.cells #[.slice none 0 0, .bool false, .int .i64 9] 47) = w' := fun W => new_any 9 W
  have c2 := fun W => pieces_104 W
  obtain ⟨W3, hW3⟩ : ∃ W3, (w.alloc (.cells #[.slice none 0 0, .bool false, .int .i64 9] 47)).alloc (.cells #[.int .u8 97, .int .u8 98] 5 (2, 3)) = W3 := ⟨_, rfl⟩
  have hcv : (convert 27 27 (.slice (some ⟨w.heap.size + 1, 0, none⟩) 2 2)).run Try.prog ((w.alloc (.cells #[.slice none 0 0, .bool false, .int .i64 9] 47)).alloc (.cells #[.int .u8 97, .int .u8 98] 5)) = .ok (.slice (some ⟨w.heap.size + 1, 0, none⟩) 2 2) W3 := by
    rw [← hW3]
    exact Go.Joins.run_convert_bytes_const_at (w.alloc _) 27 5 #[.int .u8 97, .int .u8 98] 2 2 (w.heap.size + 1) (by simp) Try.underlying27 Try.underlying5
  have k0 : W3.cell? ⟨w.heap.size, 0, none⟩ = some (.slice none 0 0) := by rw [← hW3]; exact keep1 (by rw [World.cell?_alloc_new]; rfl)
  have k1 : W3.cell? ⟨w.heap.size, 1, none⟩ = some (.bool false) := by rw [← hW3]; exact keep1 (by rw [World.cell?_alloc_new]; rfl)
  have k2 : W3.cell? ⟨w.heap.size, 2, none⟩ = some (.int .i64 9) := by rw [← hW3]; exact keep1 (by rw [World.cell?_alloc_new]; rfl)
  have f0 : W3.frozen? ⟨w.heap.size, 0, none⟩ = false := by rw [← hW3]; exact (World.frozen?_alloc_past (hn := by simp) ..).trans (World.frozen?_alloc_new ..)
  have f1 : W3.frozen? ⟨w.heap.size, 1, none⟩ = false := by rw [← hW3]; exact (World.frozen?_alloc_past (hn := by simp) ..).trans (World.frozen?_alloc_new ..)
  have d0 : W3.cell? ⟨w.heap.size + 1, 0, none⟩ = some (.int .u8 97) := by rw [← hW3]; exact Go.Joins.cell_alloc_mark_at _ _ _ _ _ _ (by simp)
  have d1 : W3.cell? ⟨w.heap.size + 1, 1, none⟩ = some (.int .u8 98) := by rw [← hW3]; exact Go.Joins.cell_alloc_mark_at _ _ _ _ _ _ (by simp)
  have hz3 : W3.heap.size = w.heap.size + 2 := by rw [← hW3]; simp
  have hb3 : Below w.heap.size w W3 := by rw [← hW3]; exact Below.alloc (Below.alloc (Below.refl _ w) (Nat.le_refl _) _) (by simp) _
  clear hW3
  go_enter Try.func6, Try.ntmps6
  go_wp2_with (first | (go_at_call 7; ((with_reducible refine (c1 _).mono ?_); rintro e w' ⟨rfl, rfl⟩)) | (go_at_call 17; ((with_reducible refine (c2 _).mono ?_); rintro e w' ⟨rfl, rfl⟩)) | (go_at_call 9; ((refine (put_ab W3 w.heap.size (w.heap.size + 1) 2 k0 k1 k2 f0 f1 d0 d1).mono ?_); rintro e w1 ⟨rfl, gc, e0, e1, e2, e3, hs1, hb1⟩; have cw := whole_at w1 _ true e1; have cb := bytes_ab w1 _ _ gc e0 e2 e3)) | (go_at_call 12; ((with_reducible refine cw.mono ?_); rintro e w' ⟨rfl, rfl⟩)) | (go_at_call 14; ((with_reducible refine cb.mono ?_); rintro e w2 ⟨H, c, rfl, g0, g1, hb2⟩; have hst := str_ab w2 H c g0 g1)))
  go_ret
  exact ⟨rfl, hb3.trans (hb1.trans (hb2.mono (by omega)))⟩
end Go.Proofs.Ytkmikgajmopcbaa
