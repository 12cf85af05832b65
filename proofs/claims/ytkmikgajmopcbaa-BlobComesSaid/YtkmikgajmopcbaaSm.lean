/- The walk of the document's Put, at any state. -/
import Derived.Test.YtkmikgajmopcbaaSx
import Derived.RegionTactic
namespace Go.Proofs.Ytkmikgajmopcbaa
open Go.RowKit
set_option linter.unusedVariables false
set_option linter.unusedSimpArgs false
theorem wpList_none_gen {P : Program} {w : World} {ops : Array Oper} {rest : List Oper} {o : Oper} {a : Act} {Q : Exit → Act → World → Prop} (hgd : o.guard = none) (s x : Operand) (t : TypeId)
    (ho : o.op = .call { callee := .builtin .append, args := #[s, x], argTypes := #[t, t] })
    (base : Nat) (e : TypeId) (i : TypeInfo) (size : Nat) (ht : P.underlying t = some (.slice e)) (hi : P.info? e = some i)
    (v : Value) (n : Nat) (xs : List Value) (hs : a.eval s = v) (hown : w.ownsRow base e size v n xs) (hx : a.eval x = .slice none 0 0) (R : World → Prop) (hR : R w)
    (h : ∀ W, R W → wpList P ops Q rest (a.put o.dst v) W) : wpList P ops Q (o :: rest) a w := wpList_append_own_none hgd s x t ho base e i size ht hi v n xs hs hown hx (h w hR)
set_option maxRecDepth 100000 in
set_option maxHeartbeats 2000000 in
theorem mput (w : World) (B base m c : Nat) (most : Int) (v : Value) (xs ns : List Int) (A : Option Addr) (all last : Bool) (off : Nat) (hM : Mt w B 29 v all most) (hown : w.ownsRow base 5 1 v xs.length (vals xs)) (hle : base ≤ w.heap.size)
    (hn : xs.length ≤ 6000) (hm : m ≤ 100) (hmost : -9223372036854775808 ≤ most) (hmost2 : most ≤ 9223372036854775807) (hoff : off < 4294967296) (hs : Src w A m c ns) :
    Calls Try.prog 10 #[.pointer (some ⟨B, 0, none⟩), .int .u32 off, .bool last, .slice A m c] w (PutPost (fun k => k = B) w B 29 base v most (putf xs all (max most 0) off last ns)) := by
  obtain ⟨i0, hi, hz0, hz1, hz2⟩ := info_parts info5
  obtain ⟨h0, h1, h2, f0, f1⟩ := hM.cell
  obtain ⟨ao, cap, rfl⟩ := form hown
  have hnl := hs.len
  cases all
  · by_cases ho : off = xs.length
    · subst ho
      have j0 : (0 : Int) ≤ (xs.length : Int) := by omega
      have j1 : (xs.length : Int) ≤ 6000 := by omega
      have j2 : (0 : Int) ≤ (m : Int) := by omega
      have j3 : (m : Int) ≤ 100 := by omega
      by_cases hb : max most 0 - xs.length < ns.length
      · rw [putf_big _ _ _ _ _ rfl hb]
        rw [hnl] at hb
        have HL := Lib.hid hnl
        have HO := Lib.hid hown
        have j4 : max most 0 < (xs.length : Int) + (m : Int) := by omega
        clear hnl hs hown hb hoff
        go_enter Try.func10, Try.ntmps10
        go_wp2
        go_region
        go_wp2
        all_goals
          go_ret
          exact ⟨rfl, _, hM, HO.out, (Kept.refl _ _).drew, .inl rfl⟩
      · rw [putf_ok _ _ _ _ _ rfl hb]
        rw [hnl] at hb
        have hB : B < w.heap.size := hM.lt
        have hno := hM.not_own hown (by decide)
        have j4 : (0 ≤ most ∧ ¬ most < (xs.length : Int) + (m : Int)) ∨ (most < 0 ∧ ¬ (0 : Int) < (xs.length : Int) + (m : Int)) := by omega
        have hmade : ((w.drew).alloc (.cells #[] 5)).ownsRow w.heap.size 5 1 (.slice (some ⟨w.heap.size, 0, none⟩) 0 0) 0 [] := World.ownsRow_made w.drew #[] 0 (Nat.le_refl _) (by unfold maxLen; omega) (by simp)
        have hb0 : Below w.heap.size w (w.drew.alloc (.cells #[] 5)) := (Below.refl _ w).drew.alloc (Nat.le_refl _) _
        have hsrc : ∀ W, Below w.heap.size w W → ∀ ad, A = some ad → ∀ j u, (vals ns)[j]? = some u → W.cell? (ad.add j) = some u := fun W hW ad hA j u hj => by
          obtain ⟨h1, rfl⟩ := vals_get _ _ _ hj
          rcases hs with ⟨rfl, _⟩ | ⟨ad', hA', _, hc⟩
          · cases hA
          · obtain rfl : ad' = ad := by rw [hA'] at hA; exact Option.some.inj hA
            exact keepB hW (hc j (by omega))
        have hfin : ∀ (W : World) (v' : Value), W.ownsRow w.heap.size 5 1 v' (xs.length + m) (vals xs ++ vals ns) → Below w.heap.size w W → PutPost (fun k => k = B) w B 29 base (.slice ao xs.length cap) most (0, xs ++ ns, last) (.returned (.int .i64 0)) ((W.setCell ⟨B, 0, none⟩ v').setCell ⟨B, 1, none⟩ (.bool last)) := fun W v' ho hbw =>
          put_fin (hM.kept (Kept.of_below (X := fun k => False) hbw) id) (own_base ho hle) hnl (Kept.of_below hbw) rfl (.inr fun g hg => (ho.lt g hg).1) hno hB
        have HF := Lib.hid hfin
        have HSRC := Lib.hid hsrc
        have HL := Lib.hid hnl
        have hlv : (vals ns).length = m * 1 := by rw [vals_len, hnl, Nat.mul_one]
        clear hfin hsrc hb hoff hmost hmost2 hnl
        rcases hs with ⟨rfl, rfl, rfl, rfl⟩ | ⟨ad, rfl, _, hc⟩
        · rcases hown.2 with ⟨hv, hx0⟩ | ⟨g, cap', cur, hv, hg, hcur, hnc, hcm, _, _⟩
          · simp only [Value.slice.injEq] at hv
            obtain ⟨rfl, _, rfl⟩ := hv
            obtain rfl : xs = [] := List.eq_nil_of_length_eq_zero hx0
            clear hx0
            go_enter Try.func10, Try.ntmps10
            go_wp2
            go_region
            go_wp2_with (at_builtin; first | (refine wpList_append_own_none rfl (.tmp 39) (.tmp 43) 27 rfl w.heap.size 5 i0 1 Try.underlying27 hi (.slice (some ⟨w.heap.size, 0, none⟩) 0 0) 0 [] rfl hmade rfl ?_) | (refine wpList_none_gen rfl (.tmp 44) (.tmp 45) 27 rfl w.heap.size 5 i0 1 Try.underlying27 hi (.slice (some ⟨w.heap.size, 0, none⟩) 0 0) 0 [] rfl hmade rfl (fun W => W.ownsRow w.heap.size 5 1 (.slice (some ⟨w.heap.size, 0, none⟩) 0 0) 0 [] ∧ Below w.heap.size w W) ⟨hmade, hb0⟩ ?_; intro W3 hW3; have hM3 := hM.kept (Kept.of_below (X := fun k => False) hW3.2) id; obtain ⟨e0, e1, e2, e3, e4⟩ := hM3.cell; have HW := Lib.hid hW3; clear hW3))
            all_goals
              go_ret
              exact HF.out _ _ HW.out.1 HW.out.2
          · simp only [Value.slice.injEq] at hv
            obtain ⟨rfl, _, rfl⟩ := hv
            have hcells : ∀ j u, (vals xs)[j]? = some u → (w.drew.alloc (.cells #[] 5)).cell? ((⟨g, 0, none⟩ : Addr).add j) = some u := fun j u hj => keepB hb0 (hown.cells (g := g) rfl j u hj)
            have HC := Lib.hid hcells
            have hl1 : (vals xs).length = xs.length * 1 := by rw [vals_len, Nat.mul_one]
            clear hcells hcur
            go_enter Try.func10, Try.ntmps10
            go_wp2
            go_region
            go_wp2_with (at_builtin; first | (refine wpList_append_own _ rfl (.tmp 39) (.tmp 43) 27 rfl w.heap.size 5 i0 (.int .u8 0) 1 1 Try.underlying27 hi hz0 hz1 hz2 rfl (by decide) _ 0 [] rfl hmade ⟨g, 0, none⟩ xs.length cap (vals xs) rfl hl1 HC.out (vals_one _) (by unfold maxLen; omega) (by omega) (by simp) ?_; intro v1 W2 hown1 hgrow1 _; have hb1 := hb0.grown hgrow1 (by simp) (fun k hk => by cases hk; exact Nat.le_refl _); rw [Nat.zero_add, List.nil_append] at hown1; obtain ⟨ao1, cap1, rfl⟩ := form hown1) | (refine wpList_append_own_none rfl (.tmp 44) (.tmp 45) 27 rfl w.heap.size 5 i0 1 Try.underlying27 hi _ xs.length (vals xs) rfl hown1 rfl ?_; have hM3 := hM.kept (Kept.of_below (X := fun k => False) hb1) id; obtain ⟨e0, e1, e2, e3, e4⟩ := hM3.cell))
            all_goals
              go_ret
              have hf := HF.out _ _ (by simpa [vals] using hown1) hb1
              rw [List.append_nil] at hf
              exact hf
        · clear hc
          rcases hown.2 with ⟨hv, hx0⟩ | ⟨g, cap', cur, hv, hg, hcur, hnc, hcm, _, _⟩
          · simp only [Value.slice.injEq] at hv
            obtain ⟨rfl, _, rfl⟩ := hv
            obtain rfl : xs = [] := List.eq_nil_of_length_eq_zero hx0
            clear hx0
            go_enter Try.func10, Try.ntmps10
            go_wp2
            go_region
            go_wp2_with (at_builtin; first | (refine wpList_append_own_none rfl (.tmp 39) (.tmp 43) 27 rfl w.heap.size 5 i0 1 Try.underlying27 hi (.slice (some ⟨w.heap.size, 0, none⟩) 0 0) 0 [] rfl hmade rfl ?_) | (refine wpList_append_own _ rfl (.tmp 44) (.tmp 45) 27 rfl w.heap.size 5 i0 (.int .u8 0) 1 1 Try.underlying27 hi hz0 hz1 hz2 rfl (by decide) (.slice (some ⟨w.heap.size, 0, none⟩) 0 0) 0 [] rfl hmade ad m c (vals ns) rfl hlv (HSRC.out _ hb0 ad rfl) (vals_one _) (by unfold maxLen; omega) (by omega) (by simp) ?_; intro v2 W3 hown2 hgrow2 _; have hb2 := hb0.grown hgrow2 (by simp) (fun k hk => by cases hk; exact Nat.le_refl _); obtain ⟨ao2, cap2, rfl⟩ := form hown2; have hM3 := hM.kept (Kept.of_below (X := fun k => False) hb2) id; obtain ⟨e0, e1, e2, e3, e4⟩ := hM3.cell))
            all_goals
              go_ret
              exact HF.out _ _ (by simpa [vals] using hown2) hb2
          · simp only [Value.slice.injEq] at hv
            obtain ⟨rfl, _, rfl⟩ := hv
            have hcells : ∀ j u, (vals xs)[j]? = some u → (w.drew.alloc (.cells #[] 5)).cell? ((⟨g, 0, none⟩ : Addr).add j) = some u := fun j u hj => keepB hb0 (hown.cells (g := g) rfl j u hj)
            have HC := Lib.hid hcells
            have hl1 : (vals xs).length = xs.length * 1 := by rw [vals_len, Nat.mul_one]
            clear hcells hcur
            go_enter Try.func10, Try.ntmps10
            go_wp2
            go_region
            go_wp2_with (at_builtin; first | (refine wpList_append_own _ rfl (.tmp 39) (.tmp 43) 27 rfl w.heap.size 5 i0 (.int .u8 0) 1 1 Try.underlying27 hi hz0 hz1 hz2 rfl (by decide) _ 0 [] rfl hmade ⟨g, 0, none⟩ xs.length cap (vals xs) rfl hl1 HC.out (vals_one _) (by unfold maxLen; omega) (by omega) (by simp) ?_; intro v1 W2 hown1 hgrow1 _; have hb1 := hb0.grown hgrow1 (by simp) (fun k hk => by cases hk; exact Nat.le_refl _); rw [Nat.zero_add, List.nil_append] at hown1; obtain ⟨ao1, cap1, rfl⟩ := form hown1) | (refine wpList_append_own _ rfl (.tmp 44) (.tmp 45) 27 rfl w.heap.size 5 i0 (.int .u8 0) 1 1 Try.underlying27 hi hz0 hz1 hz2 rfl (by decide) _ xs.length (vals xs) rfl hown1 ad m c (vals ns) rfl hlv (HSRC.out _ hb1 ad rfl) (vals_one _) (by unfold maxLen; omega) (by omega) hb1.size ?_; intro v2 W3 hown2 hgrow2 _; have hb2 := hb1.grown hgrow2 hb1.size (fun k hk => (hown1.lt k hk).1); obtain ⟨ao2, cap2, rfl⟩ := form hown2; have hM3 := hM.kept (Kept.of_below (X := fun k => False) hb2) id; obtain ⟨e0, e1, e2, e3, e4⟩ := hM3.cell))
            all_goals
              go_ret
              exact HF.out _ _ hown2 hb2
    · rw [putf_off _ _ _ _ _ (by omega)]
      have HO := Lib.hid hown
      clear hs hown hnl
      have j0 : (0 : Int) ≤ (xs.length : Int) := by omega
      have j1 : (xs.length : Int) ≤ 6000 := by omega
      have j2 : (0 : Int) ≤ (off : Int) := by omega
      have j3 : IntKind.i64.wrap (off : Int) = (off : Int) := by simp only [IntKind.wrap_i64]; omega
      have hne : ¬ (off : Int) = (xs.length : Int) := by omega
      clear hoff
      go_enter Try.func10, Try.ntmps10
      go_wp2
      go_ret
      exact ⟨rfl, _, hM, HO.out, Kept.refl _ _, .inl rfl⟩
  · rw [putf_all]
    clear hs hnl
    have HO := Lib.hid hown
    clear hown
    go_enter Try.func10, Try.ntmps10
    go_wp2
    go_ret
    exact ⟨rfl, _, hM, HO.out, Kept.refl _ _, .inl rfl⟩
end Go.Proofs.Ytkmikgajmopcbaa
