/- The walks of Come, of Lose, of Twice. -/
import Derived.Test.YtlaicijacoblbaaMe
import Derived.Outline
namespace Go.Proofs.Ytlaicijacoblbaa
open Go.RowKit
set_option linter.unusedVariables false
set_option linter.unusedSimpArgs false
theorem Lies.far {W : World} {k t : Nat} {cs : Array Value} (h : Lies W k t cs) {p : Addr} (hp : k ≠ p.block) (u : Value) : Lies (W.setCell p u) k t cs := (Below.heap_setCell W p u k hp).trans h
theorem there_at (w : World) (P : Nat) (to : Nat) (t : Int) (sl : Value) (hP : Lies w P 48 #[.int .u8 to, .int .i64 t, sl]) : Calls Try.prog 21 #[.pointer (some ⟨P, 0, none⟩)] w fun e w' => e = .returned (.bool (decide (0 < t))) ∧ w = w' := by
  have h1 : w.cell? ⟨P, 1, none⟩ = some (.int .i64 t) := hP.cell 1
  clear hP
  go_enter Try.func21, Try.ntmps21
  go_wp2
  go_ret
  exact ⟨rfl, rfl⟩
set_option maxHeartbeats 2000000 in
theorem comef (w : World) (P b4 b5 to : Nat) (t : Int) (sl x4 x5 : Value) (ns : List Int) (base : Nat) (hP : Lies w P 48 #[.int .u8 to, .int .i64 t, sl]) (h4 : Lies w b4 5 #[x4]) (h5 : Lies w b5 26 #[x5]) (ht0 : 0 < t) (ht1 : t ≤ 1000) (hsl : w.ownsRow base 5 1 sl ns.length (vals ns)) (hns : sl.ownBlock ≠ some b4) (hn : ns.length ≤ 60) :
    Calls Try.prog 17 #[.pointer (some ⟨P, 0, none⟩), .pointer (some ⟨b4, 0, none⟩), .pointer (some ⟨b5, 0, none⟩)] w fun e w' => e = .returned (.int .i64 0) ∧ ∃ u, Lies w' b4 5 #[.int .u8 to] ∧ Lies w' b5 26 #[u] ∧ w'.ownsRow w.heap.size 5 1 u ns.length (vals ns) ∧ Lies w' P 48 #[.int .u8 to, .int .i64 (t - 1), sl] ∧ Kept (fun k => k = P ∨ k = b4 ∨ k = b5) w w' := by
  obtain ⟨i0, hi, hz0, hz1, hz2⟩ := info_parts info5
  have p1 : w.cell? ⟨P, 1, none⟩ = some (.int .i64 t) := hP.cell 1
  have pf : w.frozen? ⟨P, 1, none⟩ = false := hP.free 1
  have n45 : b4 ≠ b5 := h4.ne h5 (by decide)
  have nP4 : P ≠ b4 := hP.ne h4 (by decide)
  have nP5 : P ≠ b5 := hP.ne h5 (by decide)
  obtain ⟨sa, sc, rfl⟩ := formE hsl
  obtain ⟨W0, hW0⟩ : ∃ W0, w.setCell ⟨P, 1, none⟩ (.int .i64 (t - 1)) = W0 := ⟨_, rfl⟩
  have hP0 : Lies W0 P 48 #[.int .u8 to, .int .i64 (t - 1), .slice sa ns.length sc] := by rw [← hW0]; exact hP.set 1 _
  have hk0 : Kept (fun k => k = P) w W0 := by rw [← hW0]; exact (Kept.refl (fun k => k = P) w).setCell (p := ⟨P, 1, none⟩) rfl _
  have h40 : Lies W0 b4 5 #[x4] := h4.kept hk0 (Ne.symm nP4)
  have h50 : Lies W0 b5 26 #[x5] := h5.kept hk0 (Ne.symm nP5)
  have hsl0 : W0.ownsRow base 5 1 (.slice sa ns.length sc) ns.length (vals ns) := own_keptX hsl hk0 fun g hg e => own_ne hsl hP (by decide) (by rw [hg, e])
  have hz0s : W0.heap.size = w.heap.size := by rw [← hW0]; simp
  have c0 : W0.cell? ⟨P, 0, none⟩ = some (.int .u8 to) := hP0.cell 0
  have c2 : W0.cell? ⟨P, 2, none⟩ = some (.slice sa ns.length sc) := hP0.cell 2
  have hmade : (W0.drew.alloc (.cells #[] 5)).ownsRow W0.heap.size 5 1 (.slice (some ⟨W0.heap.size, 0, none⟩) 0 0) 0 [] := World.ownsRow_made W0.drew #[] 0 (Nat.le_refl _) (by unfold maxLen; omega) (by simp)
  have hb1 : Below W0.heap.size W0 (W0.drew.alloc (.cells #[] 5)) := (Below.refl _ W0).drew.alloc (Nat.le_refl _) _
  have hsr : ((sa = none ∧ ns.length = 0 ∧ sc = 0 ∧ vals ns = []) ∨ ∃ ad, sa = some ad ∧ (vals ns).length = ns.length * 1 ∧ ∀ j u, (vals ns)[j]? = some u → (W0.drew.alloc (.cells #[] 5)).cell? (ad.add j) = some u) := by
    rcases hsl0.2 with ⟨hv, hx0⟩ | ⟨g, cap', cur, hv, _⟩
    · simp only [Value.slice.injEq] at hv
      obtain ⟨rfl, _, rfl⟩ := hv
      obtain rfl : ns = [] := List.eq_nil_of_length_eq_zero hx0
      exact .inl ⟨rfl, rfl, rfl, rfl⟩
    · simp only [Value.slice.injEq] at hv
      obtain ⟨rfl, _, rfl⟩ := hv
      exact .inr ⟨_, rfl, by rw [vals_len, Nat.mul_one], fun j u hj => keepB hb1 (hsl0.cells (g := g) rfl j u hj)⟩
  have HR := Lib.hid hsr
  have H4 := Lib.hid h40
  have H5 := Lib.hid h50
  have HP := Lib.hid hP0
  have HK := Lib.hid hk0
  have HZ := Lib.hid hz0s
  have HS1 : Hid (∀ o, (W0.alloc o).cell? ⟨P, 0, none⟩ = some (.int .u8 to) ∧ (W0.alloc o).cell? ⟨P, 2, none⟩ = some (.slice sa ns.length sc)) := fun o => ⟨keep1 c0, keep1 c2⟩
  clear hsr h40 h50 hP0 hk0 hsl0 hsl hP h4 h5 hz0s
  go_enter Try.func17, Try.ntmps17
  go_wp2
  clear hW0
  go_region_held3 (fun w' => w'.cell? ⟨P, 0, none⟩ = some (.int .u8 to) ∧ w'.cell? ⟨P, 2, none⟩ = some (.slice sa ns.length sc)) (first | exact ⟨c0, c2⟩ | exact HS1.out _ | exact HS2.out | exact HS3.out _ | exact HS4.out _ _)
    (first | (refine step_app rfl (.tmp 19) (.tmp 24) 26 rfl W0.heap.size 5 i0 (.int .u8 0) 1 1 Try.underlying26 hi hz0 hz1 hz2 rfl (by decide) (.slice (some ⟨W0.heap.size, 0, none⟩) 0 0) 0 [] rfl hmade sa ns.length sc (vals ns) rfl HR.out (vals_one _) (by unfold maxLen; omega) (by omega) (by simp) ?_; intro u W2 hown2 hg2 _; rw [Nat.zero_add, List.nil_append] at hown2; obtain ⟨au, cu, rfl⟩ := formE hown2; have hb2 := hb1.grown hg2 hb1.size (fun k hk => by cases hk; exact Nat.le_refl _); have hP2 := HP.out.below hb2; have h42 := H4.out.below hb2; have h52 := H5.out.below hb2; have e0 : W2.cell? ⟨P, 0, none⟩ = some (.int .u8 to) := hP2.cell 0; have e2 : W2.cell? ⟨P, 2, none⟩ = some (.slice sa ns.length sc) := hP2.cell 2; have HS2 := Lib.hid (And.intro e0 e2); have e4 : W2.cell? ⟨b4, 0, none⟩ = some x4 := h42.cell 0; have f4 := h42.free 0; have e5 : W2.cell? ⟨b5, 0, none⟩ = some x5 := h52.cell 0; have f5 := h52.free 0; have HS3 : Hid (∀ u, (W2.setCell ⟨b4, 0, none⟩ u).cell? ⟨P, 0, none⟩ = some (.int .u8 to) ∧ (W2.setCell ⟨b4, 0, none⟩ u).cell? ⟨P, 2, none⟩ = some (.slice sa ns.length sc)) := (fun u => ⟨(World.cell?_setCell_other _ _ _ _ (fun e => by cases e; first | exact nP4 rfl | done)).trans e0, (World.cell?_setCell_other _ _ _ _ (fun e => by cases e; first | exact nP4 rfl | done)).trans e2⟩); have HS4 : Hid (∀ u u', ((W2.setCell ⟨b4, 0, none⟩ u).setCell ⟨b5, 0, none⟩ u').cell? ⟨P, 0, none⟩ = some (.int .u8 to) ∧ ((W2.setCell ⟨b4, 0, none⟩ u).setCell ⟨b5, 0, none⟩ u').cell? ⟨P, 2, none⟩ = some (.slice sa ns.length sc)) := (fun u u' => ⟨(World.cell?_setCell_other _ _ _ _ (fun e => by cases e; first | exact nP5 rfl | done)).trans (HS3.out u).1, (World.cell?_setCell_other _ _ _ _ (fun e => by cases e; first | exact nP5 rfl | done)).trans (HS3.out u).2⟩)))
  go_wp2
  go_ret
  have hz := HZ.out
  have hlt4 : b4 < W0.heap.size := H4.out.lt
  have hlt5 : b5 < W0.heap.size := H5.out.lt
  have hfr : ∀ k, k < W0.heap.size → (Value.slice au ns.length cu).ownBlock ≠ some k := fun k hk e => by
    have := (hown2.lt k e).1
    omega
  refine ⟨rfl, _, ((h42.set 0 _).far (p := ⟨b5, 0, none⟩) n45 _), (h52.far (p := ⟨b4, 0, none⟩) (Ne.symm n45) _).set 0 _, ?_, (hP2.far (p := ⟨b4, 0, none⟩) nP4 _).far (p := ⟨b5, 0, none⟩) nP5 _, ?_⟩
  · rw [← hz]
    exact ownsRow_setCell_other (ownsRow_setCell_other hown2 (hfr _ hlt4) _) (hfr _ hlt5) _
  · exact (((HK.out.mono fun k _ h => .inl h).trans (Kept.of_below hb2)).setCell (p := ⟨b4, 0, none⟩) (.inr (.inl rfl)) _).setCell (p := ⟨b5, 0, none⟩) (.inr (.inr rfl)) _
end Go.Proofs.Ytlaicijacoblbaa
