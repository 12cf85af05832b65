/- The walk of the chapter's example for nets. -/
import Derived.Test.YtlaicijacoblbaaLi
namespace Go.Proofs.Ytlaicijacoblbaa
open Go.RowKit
set_option linter.unusedVariables false
set_option linter.unusedSimpArgs false
/-- The flight at its place, behind what has changed its times alone. -/
theorem At.kept {W W' : World} {NB base : Nat} {v : Value} {l : List Nat} {j P to : Nat} {t t' : Int} {sl : Value} {ns : List Int} (h : At W NB base v l j P to t sl ns) (hk : Kept (fun k => k = P) W W') (hl : Lies W' P 48 #[.int .u8 to, .int .i64 t', sl]) : At W' NB base v l j P to t' sl ns :=
  ⟨h.n.kept hk (h.n.ne h.lies (by decide)), own_keptX h.own hk fun g hg e => own_ne h.own h.lies (by decide) (by rw [hg, e]), h.lt, h.p, hl, own_keptX h.osl hk fun g hg e => own_ne h.osl h.lies (by decide) (by rw [hg, e]), Nat.le_trans h.le hk.size⟩
theorem str_ab (W : World) (H c : Nat) (g0 : W.cell? ⟨H, 0, none⟩ = some (.int .u8 97)) (g1 : W.cell? ⟨H, 1, none⟩ = some (.int .u8 98)) : (convert 26 9 (.slice (some ⟨H, 0, none⟩) 2 c)).run Try.prog W = .ok (.string ⟨#[97, 98]⟩) W :=
  run_convert_bytes_arg W 26 5 Try.underlying26 Try.underlying5 H 0 2 c [97, 98] rfl (fun i hi => by
    match i, hi with
    | 0, _ => exact g0
    | 1, _ => exact g1) 9 Try.underlying9
set_option maxHeartbeats 2000000 in
theorem alive_any (w : World) : Calls Try.prog 5 #[] w fun e w' => e = .returned (.bool true) ∧ Below w.heap.size w w' := by
  have c1 := fun W => new_any W
  obtain ⟨W3, hW3⟩ : ∃ W3, (w.alloc (.cells #[.slice none 0 0] 52)).alloc (.cells #[.int .u8 97, .int .u8 98] 5 (2, 3)) = W3 := ⟨_, rfl⟩
  have hcv : (convert 26 26 (.slice (some ⟨w.heap.size + 1, 0, none⟩) 2 2)).run Try.prog ((w.alloc (.cells #[.slice none 0 0] 52)).alloc (.cells #[.int .u8 97, .int .u8 98] 5)) = .ok (.slice (some ⟨w.heap.size + 1, 0, none⟩) 2 2) W3 := by
    rw [← hW3]
    exact Go.Joins.run_convert_bytes_const_at (w.alloc _) 26 5 #[.int .u8 97, .int .u8 98] 2 2 (w.heap.size + 1) (by simp) Try.underlying26 Try.underlying5
  have hb3 : Below w.heap.size w W3 := by rw [← hW3]; exact Below.alloc (Below.alloc (Below.refl _ w) (Nat.le_refl _) _) (by simp) _
  have hN : Lies W3 w.heap.size 52 #[.slice none 0 0] := by rw [← hW3]; exact (Below.heap_alloc _ _ _ (by simp)).trans (Lies.new w 52 _)
  have d0 : W3.cell? ⟨w.heap.size + 1, 0, none⟩ = some (.int .u8 97) := by rw [← hW3]; exact Go.Joins.cell_alloc_mark_at _ _ _ _ _ _ (by simp)
  have d1 : W3.cell? ⟨w.heap.size + 1, 1, none⟩ = some (.int .u8 98) := by rw [← hW3]; exact Go.Joins.cell_alloc_mark_at _ _ _ _ _ _ (by simp)
  have hsrc : Src W3 (some ⟨w.heap.size + 1, 0, none⟩) 2 2 [97, 98] := .inr ⟨_, rfl, rfl, fun j hj => by
    match j, hj with
    | 0, _ => exact d0
    | 1, _ => exact d1⟩
  have c8 : Calls Try.prog 8 #[.pointer (some ⟨w.heap.size, 0, none⟩), .int .u8 3, .slice (some ⟨w.heap.size + 1, 0, none⟩) 2 2] W3 fun e w' => e = .returned (.int .i64 0) ∧ PutP w.heap.size w.heap.size 3 (.slice none 0 0) [] [97, 98] W3 w' := put_at W3 w.heap.size w.heap.size 2 2 3 (.slice none 0 0) [] [97, 98] _ hN (World.ownsRow_nil _ _ _ _) hb3.size (by simp) (by omega) hsrc
  clear hW3 hN d0 d1 hsrc
  go_enter Try.func5, Try.ntmps5
  go_wp2_with (first | (go_at_call 14; ((with_reducible refine (c1 _).mono ?_); rintro e w' ⟨rfl, rfl⟩)) | (go_at_call 8; refine c8.mono ?_; rintro e W4 ⟨rfl, hp4⟩))
  clear hcv c8
  obtain ⟨v', P, sl, hn4, ho4, hl4, hs4, hp4, hk4⟩ := hp4
  have hb4 : Below w.heap.size w W4 := hb3.trans (hk4.below hb3.size fun k hk => by
    rcases hk with h | h
    · omega
    · cases h)
  have a4 : At W4 w.heap.size w.heap.size v' [P] 0 P 3 1 sl [97, 98] := ⟨hn4, ho4, by simp, rfl, hl4, hs4, hb4.size⟩
  have hwP : w.heap.size ≤ P := Nat.le_trans hb3.size hp4
  have c10 : Calls Try.prog 10 #[.pointer (some ⟨w.heap.size, 0, none⟩), .int .i64 0] W4 fun e w' => e = .returned (.int .i64 0) ∧ Lies w' P 48 #[.int .u8 (3 : Nat), .int .i64 (1 + 1), sl] ∧ Kept (fun k => k = P) W4 w' :=
    twice_of W4 _ 0 0 _ (with18 W4 _ _ _ _ 0 P 3 1 sl _ a4 (by omega) (by simp) 0 _ (twicef W4 P 3 1 sl a4.lies (by omega) (by omega)))
  clear hn4 ho4 hl4 hs4 hk4 hb3 hp4
  refine c10.mono ?_
  rintro e W5 ⟨rfl, hl5, hk5⟩
  have a5 := a4.kept hk5 hl5
  have hb5 : Below w.heap.size w W5 := hb4.trans (hk5.below hb4.size fun k hk => by omega)
  have c6 : Calls Try.prog 6 #[.pointer (some ⟨w.heap.size, 0, none⟩), .int .i64 0] W5 fun e w' => ∃ ao c, e = .returned (.tuple #[.int .u8 3, .slice ao 2 c, .int .i64 0]) ∧ w'.ownsRow W5.heap.size 5 1 (.slice ao 2 c) 2 (vals [97, 98]) ∧ Lies w' P 48 #[.int .u8 (3 : Nat), .int .i64 (1 + 1 - 1), sl] ∧ Kept (fun k => k = P) W5 w' :=
    come_ok W5 _ _ _ _ 0 P 3 (1 + 1) sl [97, 98] a5 (by omega) (by omega) (by simp) (by simp)
  clear a4 c10 hl5 hk5 hb4
  go_wp2_with fail
  refine c6.mono ?_
  rintro e W6 ⟨ao, c, rfl, hu6, hl6, hk6⟩
  have a6 := a5.kept hk6 hl6
  have hb6 : Below w.heap.size w W6 := hb5.trans (hk6.below hb5.size fun k hk => by omega)
  have c9 : Calls Try.prog 9 #[.pointer (some ⟨w.heap.size, 0, none⟩), .int .i64 0] W6 fun e w' => e = .returned (.int .i64 0) ∧ Lies w' P 48 #[.int .u8 (3 : Nat), .int .i64 (1 + 1 - 1 - 1), sl] ∧ Kept (fun k => k = P) W6 w' :=
    lose_ok W6 _ _ _ _ 0 P 3 (1 + 1 - 1) sl [97, 98] a6 (by omega) (by omega) (by simp) (by simp)
  clear a5 c6 hl6 hk6 hb5
  go_wp2_with fail
  refine c9.mono ?_
  rintro e W7 ⟨rfl, hl7, hk7⟩
  have a7 := a6.kept hk7 hl7
  have hb7 : Below w.heap.size w W7 := hb6.trans (hk7.below hb6.size fun k hk => by omega)
  have hu7 : W7.ownsRow W5.heap.size 5 1 (.slice ao 2 c) 2 (vals [97, 98]) := own_keptX hu6 hk7 fun g hg e => own_ne hu6 a6.lies (by decide) (by rw [hg, e])
  have c6' : Calls Try.prog 6 #[.pointer (some ⟨w.heap.size, 0, none⟩), .int .i64 0] W7 fun e w' => e = .returned (.tuple #[.int .u8 0, .slice none 0 0, .int .i64 6]) ∧ Below W7.heap.size W7 w' :=
    come_spent W7 _ _ _ _ 0 P 3 (1 + 1 - 1 - 1) sl [97, 98] a7 (by omega) (by simp)
  clear a6 c9 hl7 hk7 hb6 hu6
  go_wp2_with fail
  refine c6'.mono ?_
  rintro e W8 ⟨rfl, hb8⟩
  have hu8 : W8.ownsRow W5.heap.size 5 1 (.slice ao 2 c) 2 (vals [97, 98]) := own_kept hu7 fun g hg => hb8.block g (hu7.lt g hg).2
  obtain ⟨g, cap, hv, _, _⟩ := hu8.form (by omega)
  simp only [Value.slice.injEq] at hv
  obtain ⟨rfl, _, rfl⟩ := hv
  have hst := str_ab W8 g c (hu8.cellAt 0 (by omega)) (hu8.cellAt 1 (by omega))
  have HB := Lib.hid (hb7.trans (hb8.mono hb7.size))
  clear a7 c6' hb7 hb8 hu7 hu8
  go_wp2
  go_ret
  exact ⟨rfl, HB.out⟩
end Go.Proofs.Ytlaicijacoblbaa
