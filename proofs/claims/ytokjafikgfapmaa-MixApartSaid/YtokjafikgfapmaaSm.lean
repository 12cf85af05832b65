/- The walk of the program's own Sum: it ranges over the groups. -/
import Derived.Test.YtokjafikgfapmaaSw
namespace Go.Proofs.Ytokjafikgfapmaa
open Go.RowKit Go.Shelf
attribute [local go_sem] Oper.semAt_some
set_option linter.unusedVariables false
set_option linter.unusedSimpArgs false
theorem cell_new_l (W : World) (v : Value) (t : TypeId) : (W.alloc (.cells #[v] t)).cell? ⟨W.heap.size, 0, none⟩ = some v ∧ (W.alloc (.cells #[v] t)).frozen? ⟨W.heap.size, 0, none⟩ = false :=
  ⟨by rw [World.cell?_alloc_new]; rfl, World.frozen?_alloc_new ..⟩
theorem cell_alloc_l {W : World} {a : Addr} {v : Value} (o : Obj) (h : W.cell? a = some v) : (W.alloc o).cell? a = some v := cell_kept h (World.grownBy_alloc W o none) (fun r e => by cases e)
theorem frozen_alloc_l {W : World} {a : Addr} {v : Value} (o : Obj) (h : W.cell? a = some v) (hf : W.frozen? a = false) : (W.alloc o).frozen? a = false := (frozen_kept h (World.grownBy_alloc W o none) (fun r e => by cases e)).trans hf
theorem word_ex (s x : BitVec 64) (w : World) :
    Calls Try.prog 6 #[.int .u64 s.toNat, .int .u64 x.toNat] w fun e w' => e = .returned (.int .u64 (Pl.word s x).toNat) ∧ ∃ c1 t1 c2 t2 c3 t3, w' = ((w.alloc (.cells c1 t1)).alloc (.cells c2 t2)).alloc (.cells c3 t3) := by
  have r0 := Pl.xor_form
  have r1 := Pl.shr30
  have r2 := Pl.shr27
  have r3 := Pl.shr31
  have r4 := Pl.mulB_form
  have r5 := Pl.mulC_form
  have r6 := Pl.addA_form
  have i0 := step0
  have i1 := step1
  have i2 := step2
  go_enter Try.func6, Try.ntmps6
  go_wp2
  refine wp_loop_rounds 4 ?_
  iterate 4
    rw [rounds_succ]
    go_wp2
  go_ret
  exact ⟨rfl, _, _, _, _, _, _, rfl⟩
def fold (h : BitVec 64) (l : List (BitVec 64)) : BitVec 64 := l.foldl (fun h v => Pl.word (Pl.rotv h 23) v) h
theorem fold_snoc (h : BitVec 64) (l : List (BitVec 64)) (v : BitVec 64) : fold h (l ++ [v]) = Pl.word (Pl.rotv (fold h l) 23) v := by simp [fold]
theorem fold_items (z : Nat → Nat) (len : Nat) (h : BitVec 64) : ∀ g, fold h (itemsv z len g) = sumv z len h g
  | 0 => rfl
  | g + 1 => by
    have e : itemsv z len (g + 1) = itemsv z len g ++ [BitVec.ofNat 64 (grp z len (8 * g))] := by simp [itemsv, items, List.range_succ]
    rw [e, fold_snoc, fold_items z len h g]
    rfl
set_option maxRecDepth 100000 in
set_option maxHeartbeats 2000000 in
theorem sum_any (s : BitVec 64) (ao : Option Addr) (len c : Nat) (hl : len ≤ 200) (z : Nat → Nat) (hzl : ∀ i, z i < 256) (w : World) (hB : Bys (fun b => b < w.heap.size) w (.slice ao len c) len z) :
    Calls Try.prog 10 #[.int .u64 s.toNat, .slice ao len c] w fun e w' => e = .returned (.int .u64 (sumv z len (Pl.word s (BitVec.ofNat 64 len)) ((len + 7) / 8)).toNat) ∧ Below w.heap.size w w' := by
  refine (callsIn_wide (n := 3)).1 ?_
  have hl1 : (len : Int) ≤ 200 := by omega
  have hl0 : (0 : Int) ≤ (len : Int) := by omega
  have e0 : (BitVec.ofNat 64 len).toNat = len := by rw [BitVec.toNat_ofNat]; exact Nat.mod_eq_of_lt (by omega)
  have c0 := word_ex s (BitVec.ofNat 64 len) w
  rw [e0] at c0
  rw [← fold_items]
  generalize Pl.word s (BitVec.ofNat 64 len) = h0 at *
  clear e0
  have h1 : 1 ≤ 3 := by omega
  refine callsIn_of_wp_marks Try.func10 rfl trivial ?_ rfl
  simp only [Try.ntmps10, List.size_toArray, List.length_cons, List.length_nil, Nat.reduceAdd, Nat.reduceSub, Array.replicate_succ, Array.replicate_zero, List.push_toArray, List.append_toArray, List.nil_append, List.cons_append]
  gi_wp2_with (first | (refine ⟨trivial, ?_⟩; gi_at_call 6; refine (callsIn_wide.2 c0).mono ?_; rintro e w1 ⟨rfl, x1, t1, x2, t2, x3, t3, rfl⟩) | (refine ⟨trivial, ?_⟩; gi_at_call 18; refine (callsIn_wide.2 (words_fn _ _ _ _)).mono ?_; rintro e w' ⟨rfl, rfl⟩))
  obtain ⟨V, hV⟩ : ∃ V, ((w.alloc (.cells x1 t1)).alloc (.cells x2 t2)).alloc (.cells x3 t3) = V := ⟨_, rfl⟩
  have hVz : V.heap.size = w.heap.size + 1 + 1 + 1 := by rw [← hV]; simp
  have hVb : Below w.heap.size w V := by rw [← hV]; exact (((Below.refl _ w).alloc (Nat.le_refl _) _).alloc (by simp) _).alloc (by simp; omega) _
  rw [hV]
  have hb1 := cell_new_l V (.int .u64 h0.toNat) 22
  have hb2 := cell_new_l (V.alloc (.cells #[.int .u64 h0.toNat] 22)) (.slice ao len c) 26
  rw [World.size_alloc, hVz] at hb2
  rw [hVz] at hb1
  have hB0 : Below w.heap.size w ((V.alloc (.cells #[.int .u64 h0.toNat] 22)).alloc (.cells #[.slice ao len c] 26)) := (hVb.alloc hVb.size _).alloc (by simp; omega) _
  have hz5 : ((V.alloc (.cells #[.int .u64 h0.toNat] 22)).alloc (.cells #[.slice ao len c] 26)).heap.size = w.heap.size + 1 + 1 + 1 + 1 + 1 := by simp [hVz]
  have hBy : Bys (fun b => b < w.heap.size + 1 + 1 + 1 + 1 + 1 ∧ b ≠ w.heap.size + 1 + 1 + 1) ((V.alloc (.cells #[.int .u64 h0.toNat] 22)).alloc (.cells #[.slice ao len c] 26)) (.slice ao len c) len z := by
    rcases hB with h | ⟨x, cc, e, hc, hx, hz⟩
    · exact .inl h
    · exact .inr ⟨x, cc, e, hc, fun h0 => ⟨by have : x.block < w.heap.size := hx h0; omega, by have : x.block < w.heap.size := hx h0; omega⟩, fun i hi => (hB0.cell (by rw [add_block]; exact hx (by omega))).trans (hz i hi)⟩
  obtain ⟨W0, hW0⟩ : ∃ W0, (V.alloc (.cells #[.int .u64 h0.toNat] 22)).alloc (.cells #[.slice ao len c] 26) = W0 := ⟨_, rfl⟩
  have hI0 : W0.cell? ⟨w.heap.size + 1 + 1 + 1, 0, none⟩ = some (.int .u64 h0.toNat) ∧ W0.frozen? ⟨w.heap.size + 1 + 1 + 1, 0, none⟩ = false := by rw [← hW0]; exact ⟨cell_alloc_l _ hb1.1, frozen_alloc_l _ hb1.1 hb1.2⟩
  rw [hW0] at hB0 hz5 hBy hb2 ⊢
  refine wpIn_rangeFunc_ownF (F := Fence.wide) (n := 3) rfl h1 (gf := 26) (lb := #[.pointer (some ⟨w.heap.size + 1 + 1 + 1 + 1, 0, none⟩)]) rfl trivial (enters_of Try.func26 (by kernel_rfl) rfl)
    (words_stops (w.heap.size + 1 + 1 + 1 + 1) (fun b => b < w.heap.size + 1 + 1 + 1 + 1 + 1 ∧ b ≠ w.heap.size + 1 + 1 + 1) (.slice ao len c) len hl z hzl _ (by omega) ⟨by omega, by omega⟩ (fun b hb => by omega) hb2.1 hBy)
    Keep.trans (fun W k o o' hk h hc hw => Keep.of_below (n := w.heap.size + 1 + 1 + 1 + 1 + 1) (fun b hb => hb.1) (belowK_b (Nat.le_of_eq hz5.symm) W k o o' hk h hc hw)) (Below.refl _ _) (fun _ => rfl)
    (fun pre W => (W.cell? ⟨w.heap.size + 1 + 1 + 1, 0, none⟩ = some (.int .u64 (fold h0 pre).toNat) ∧ W.frozen? ⟨w.heap.size + 1 + 1 + 1, 0, none⟩ = false) ∧ Below w.heap.size W0 W)
    (fun _ _ _ => False)
    (OwnFrom.and (Own.from (fun s A B row hs hg hr => ⟨cell_kept hs.1 hg hr, (frozen_kept hs.1 hg hr).trans hs.2⟩) _) (ownFrom_below (by rw [hz5]; omega) (by rw [hz5]; omega)))
    (fun _ _ _ _ _ hs _ _ => hs)
    ⟨hI0, Below.refl _ _⟩
    (fun x => { tmps := #[.int .u64 s.toNat, .slice ao len c, undef, undef, .int .u64 0, .pointer (some ⟨w.heap.size + 1 + 1 + 1, 0, none⟩), .int .u64 x.toNat, .int .u64 s.toNat, .slice ao len c, .int .i64 len, .int .u64 len, .int .u64 h0.toNat, .slice ao len c, .func (.func 26) #[] #[.pointer (some ⟨w.heap.size + 1 + 1 + 1 + 1, 0, none⟩)], .int .u64 x.toNat, undef, undef, undef, undef, undef], defers := [] }) ?assign ?body ?done ?stop
  case assign =>
    intro l x W K hK
    gi_wp2
    exact hK
  case body =>
    rintro l pre x W ⟨⟨hc, hf⟩, hB⟩ _
    have cr := rotl_any (fold h0 pre) 23 W
    have er : Pl.rotv (fold h0 pre) ((23 : Int) % 64).toNat = Pl.rotv (fold h0 pre) 23 := rfl
    rw [er] at cr
    have cw := word_ex (Pl.rotv (fold h0 pre) 23) x W
    rw [← fold_snoc] at cw
    clear er
    have h11 : 1 ≤ 3 - 1 - 1 := by omega
    have hbz := hB.size
    rw [hz5] at hbz
    have hcb : w.heap.size + 1 + 1 + 1 < W.heap.size := World.block_lt_of_cell? W _ hc
    gi_wp2_with (first | (refine ⟨trivial, ?_⟩; gi_at_call 19; refine (CallsIn.inRound l (callsIn_wide.2 cr)).mono ?_; rintro e w' ⟨rfl, rfl⟩) | (refine ⟨trivial, ?_⟩; gi_at_call 6; refine (CallsIn.inRound l (callsIn_wide.2 cw)).mono ?_; rintro e W3 ⟨rfl, y1, q1, y2, q2, y3, q3, hW3⟩; have hc3 : W3.cell? ⟨w.heap.size + 1 + 1 + 1, 0, none⟩ = some (.int .u64 (fold h0 pre).toNat) := (by rw [hW3]; exact cell_alloc_l _ (cell_alloc_l _ (cell_alloc_l _ hc))); have hf3 : W3.frozen? ⟨w.heap.size + 1 + 1 + 1, 0, none⟩ = false := (by rw [hW3]; exact frozen_alloc_l _ (cell_alloc_l _ (cell_alloc_l _ hc)) (frozen_alloc_l _ (cell_alloc_l _ hc) (frozen_alloc_l _ hc hf))); have HW := Lib.hid hW3; clear hW3))
    have hW3 := HW.out
    have hk3 : KeepsOthers W W3 := by rw [hW3]; exact ((KeepsOthers.alloc _ _).trans (KeepsOthers.alloc _ _)).trans (KeepsOthers.alloc _ _)
    have hB3 : Below W.heap.size W W3 := by rw [hW3]; exact (((Below.refl _ W).alloc (Nat.le_refl _) _).alloc (by simp) _).alloc (by simp; omega) _
    refine ⟨hk3.trans (KeepsOthers.setCell _ _ _), ?_, ⟨World.cell?_setCell_same' _ _ _ (by rw [hc3]; rfl), by rw [World.frozen?_setCell]; exact hf3⟩, (hB.trans (hB3.mono (by omega))).setCell (p := ⟨w.heap.size + 1 + 1 + 1, 0, none⟩) (by simp; omega) _⟩
    intro a ha
    rw [World.cell?_setCell_other _ _ _ _ (fun e => ha.2 (by rw [← e]))]
    have ha1 : a.block < w.heap.size + 1 + 1 + 1 + 1 + 1 := ha.1
    exact hB3.cell (by omega)
  case done =>
    rintro D ys W hD rfl ⟨⟨hc, _⟩, hB⟩ hK
    gi_wp2
    refine ⟨by simp, .inl ⟨_, _, rfl, run_takeDeferred hK, ?_⟩⟩
    exact ⟨_, results_tmp rfl _ _ _, rfl, (hB0.trans hB).trans (belowK_b (w := w) (Nat.le_refl _) W D _ _ (by rw [hz5] at hD; omega) hK rfl rfl)⟩
  case stop =>
    rintro D c pre W _ _ h _
    exact h.elim
end Go.Proofs.Ytokjafikgfapmaa
