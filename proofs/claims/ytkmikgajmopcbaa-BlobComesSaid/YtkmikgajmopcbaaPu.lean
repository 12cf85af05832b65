/- The walk of the chapter's example for blobs. -/
import Derived.Test.YtkmikgajmopcbaaProg
import Derived.WalkKit
import Derived.WalkLawsBesides
import Derived.WalkSpells
import Derived.Handy
import Derived.Laws.Append
import Derived.Deep.AppendSrc
import Derived.BigQuiet
import Derived.OwnWalk
namespace Go.Proofs.Ytkmikgajmopcbaa
open Go.RowKit
set_option linter.unusedVariables false
set_option linter.unusedSimpArgs false
theorem keep1 {W : World} {o : Obj} {a : Addr} {v : Value} (h : W.cell? a = some v) : (W.alloc o).cell? a = some v := by
  rw [World.cell?_alloc_lt _ _ _ (World.block_lt_of_cell? W _ h)]; exact h
theorem info5 : (Try.prog.info? 5).map (fun i => (i.zero, i.size, i.bytes)) = some (some (.int .u8 0), 1, 1) := by kernel_rfl
theorem app_ab (W : World) (ao : Option Addr) (D C : Nat) (d0 : W.cell? ⟨D, 0, none⟩ = some (.int .u8 97)) (d1 : W.cell? ⟨D, 1, none⟩ = some (.int .u8 98)) :
    (Builtin.append_ #[27, 27] 27 #[.slice ao 0 0, .slice (some ⟨D, 0, none⟩) 2 C]).run Try.prog W =
      .ok (.slice (some ⟨W.heap.size, 0, none⟩) 2 (grownCap W 2 0 5)) (W.drew.alloc (.cells (#[.int .u8 97, .int .u8 98] ++ Builtin.zeroCells #[.int .u8 0] (grownCap W 2 0 5 - 2)) 5)) := by
  obtain ⟨i0, hi, hz0, hz1, hz2⟩ := info_parts info5
  have hn : ∀ j v, ([.int .u8 97, .int .u8 98] : List Value)[j]? = some v → W.cell? ((⟨D, 0, none⟩ : Addr).add j) = some v := by
    intro j v hj
    match j, hj with
    | 0, hj => cases hj; exact d0
    | 1, hj => cases hj; exact d1
  have hu : ∀ u ∈ ([.int .u8 97, .int .u8 98] : List Value), u.oneCell' = true := by
    intro u hu
    simp at hu
    rcases hu with rfl | rfl <;> rfl
  have hs : Src Try.prog i0.size 27 (.slice (some ⟨D, 0, none⟩) 2 C) 2 [.int .u8 97, .int .u8 98] W := Src.ofSlice W Try.underlying27 _ 2 C _ (by simp [hz1]) hn hu
  have hold : (Builtin.firstCells i0.size 0 (.slice ao 0 0)).run Try.prog W.drew = .ok ([] : List Value).toArray W.drew := by
    cases ao with
    | none => exact run_firstCells_none W.drew _ _ _ _
    | some b => exact run_firstCells_some W.drew _ 0 b 0 0 [] (by simp) (by simp)
  exact run_append_grow_src W 27 27 27 5 i0 (.int .u8 0) Try.underlying27 hi hz0 ao 0 0 [] hold _ 2 _ hs (by omega) (by omega) (by rw [nextslicecap_zero (by omega), hz2]; omega)
theorem wpList_app_ab {W : World} {ops : Array Oper} {rest : List Oper} {o : Oper} {a : Act} {Q : Exit → Act → World → Prop} (hgd : o.guard = none) (s x : Operand)
    (ho : o.op = .call { callee := .builtin .append, args := #[s, x], argTypes := #[27, 27] }) (hty : o.type = 27) (ao : Option Addr) (D C : Nat) (hs : a.eval s = .slice ao 0 0) (hx : a.eval x = .slice (some ⟨D, 0, none⟩) 2 C)
    (d0 : W.cell? ⟨D, 0, none⟩ = some (.int .u8 97)) (d1 : W.cell? ⟨D, 1, none⟩ = some (.int .u8 98))
    (h : ∀ gc W2, (∀ ad v, W.cell? ad = some v → W2.cell? ad = some v) → (∀ ad : Addr, ad.block < W.heap.size → W2.frozen? ad = W.frozen? ad) → W2.cell? ⟨W.heap.size, 0, none⟩ = some (.int .u8 97) → W2.cell? ⟨W.heap.size, 1, none⟩ = some (.int .u8 98) → W2.heap.size = W.heap.size + 1 → Below W.heap.size W W2 → wpList Try.prog ops Q rest (a.put o.dst (.slice (some ⟨W.heap.size, 0, none⟩) 2 gc)) W2) :
    wpList Try.prog ops Q (o :: rest) a W :=
  wpList_plain hgd fun K hK => by
    unfold Oper.wp execOp
    simp only [ho, hty, resolve, invoke, builtin, Sem.run_bind, Sem.run_pure, Result.andThen_ok, List.map_toArray, List.map_cons, List.map_nil, hs, hx, app_ab W ao D C d0 d1]
    have hz : ∀ c : Array Value, ∀ k v, c[k]? = some v → (W.drew.alloc (.cells c 5)).cell? ⟨W.heap.size, k, none⟩ = some v := fun c k v hv => by
      have e := World.cell?_alloc_new W.drew c 5 k
      exact e.trans hv
    exact hK _ _ (h _ _ (fun ad v hv => keep1 (W := W.drew) hv) (fun ad hlt => World.frozen?_alloc_old (h := Nat.ne_of_lt hlt) ..) (hz _ 0 _ (by rw [Array.getElem?_append_left (by simp)]; rfl)) (hz _ 1 _ (by rw [Array.getElem?_append_left (by simp)]; rfl)) (by simp) (by go_grown))
set_option maxHeartbeats 1000000 in
theorem put_ab (w : World) (B D C : Nat) (h0 : w.cell? ⟨B, 0, none⟩ = some (.slice none 0 0)) (h1 : w.cell? ⟨B, 1, none⟩ = some (.bool false)) (h2 : w.cell? ⟨B, 2, none⟩ = some (.int .i64 9))
    (f0 : w.frozen? ⟨B, 0, none⟩ = false) (f1 : w.frozen? ⟨B, 1, none⟩ = false) (d0 : w.cell? ⟨D, 0, none⟩ = some (.int .u8 97)) (d1 : w.cell? ⟨D, 1, none⟩ = some (.int .u8 98)) :
    Calls Try.prog 9 #[.pointer (some ⟨B, 0, none⟩), .int .u32 0, .bool true, .slice (some ⟨D, 0, none⟩) 2 C] w fun e w' => e = .returned (.int .i64 0) ∧
      ∃ gc, w'.cell? ⟨B, 0, none⟩ = some (.slice (some ⟨w.heap.size, 0, none⟩) 2 gc) ∧ w'.cell? ⟨B, 1, none⟩ = some (.bool true) ∧ w'.cell? ⟨w.heap.size, 0, none⟩ = some (.int .u8 97) ∧ w'.cell? ⟨w.heap.size, 1, none⟩ = some (.int .u8 98) ∧ w'.heap.size = w.heap.size + 1 ∧ Below B w w' := by
  have hB : B < w.heap.size := World.block_lt_of_cell? w _ h0
  go_enter Try.func9, Try.ntmps9
  go_wp2_with (first | (at_builtin; refine wpList_app_ab rfl (.tmp 50) (.tmp 51) rfl rfl none D C rfl rfl d0 d1 ?_; intro gc W2 hk hf c0 c1 hs hb; have e0 := hk _ _ h0; have e1 := hk _ _ h1; have e2 := (hf ⟨B, 0, none⟩ hB).trans f0; have e3 := (hf ⟨B, 1, none⟩ hB).trans f1) | go_quiet (fail))
  go_ret
  have c0 : W2.cell? ⟨w.heap.size, 0, none⟩ = some (.int .u8 97) := c0
  have c1 : W2.cell? ⟨w.heap.size, 1, none⟩ = some (.int .u8 98) := c1
  have hs : W2.heap.size = w.heap.size + 1 := hs
  have hb : Below w.heap.size w W2 := (below_drewN (Below.refl _ w) nq).trans hb
  have hne : ¬ B = w.heap.size := by omega
  have hne' : ¬ w.heap.size = B := by omega
  refine ⟨rfl, gc, ?_, ?_, ?_, ?_, ?_, ?_⟩
  · simp [World.cell?_setCell_other, World.cell?_setCell_same', e0, e1, c0, c1]
  · simp [World.cell?_setCell_other, World.cell?_setCell_same', e0, e1, c0, c1]
  · simp [World.cell?_setCell_other, World.cell?_setCell_same', e0, e1, c0, c1, hne, hne']
  · simp [World.cell?_setCell_other, World.cell?_setCell_same', e0, e1, c0, c1, hne, hne']
  · simp [hs]
  · exact ((hb.mono (Nat.le_of_lt hB)).setCell (p := ⟨B, 0, none⟩) (Nat.le_refl _) _).setCell (p := ⟨B, 1, none⟩) (Nat.le_refl _) _
end Go.Proofs.Ytkmikgajmopcbaa
