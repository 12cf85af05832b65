/- The walks of the document's answers for names (handcartref06): Text, Is, Pad. -/
import Derived.Test.YtbhbcmngbdpfoaaBz
namespace Go.Proofs.Ytbhbcmngbdpfoaa
open Go.RowKit
set_option linter.unusedVariables false
set_option linter.unusedSimpArgs false
section
variable (n0 n1 n2 n3 n4 n5 n6 n7 : UInt8)
theorem box_at (w : World) (t : TypeId) (W : World) (hb : Below (w.heap.size + 1) (w.alloc (.cells #[.int .u8 (n0.toNat : Int), .int .u8 (n1.toNat : Int), .int .u8 (n2.toNat : Int), .int .u8 (n3.toNat : Int), .int .u8 (n4.toNat : Int), .int .u8 (n5.toNat : Int), .int .u8 (n6.toNat : Int), .int .u8 (n7.toNat : Int)] t)) W) (i : Nat) (hi : i < 8) : W.cell? ⟨w.heap.size, i, none⟩ = some (.int .u8 ((([n0, n1, n2, n3, n4, n5, n6, n7] : List UInt8).getD i 0).toNat : Int)) := by
  rw [hb.cell (p := ⟨w.heap.size, i, none⟩) (Nat.lt_succ_self _)]
  obtain rfl | rfl | rfl | rfl | rfl | rfl | rfl | rfl : i = 0 ∨ i = 1 ∨ i = 2 ∨ i = 3 ∨ i = 4 ∨ i = 5 ∨ i = 6 ∨ i = 7 := by omega
  all_goals first | go_cell | (simp [go_sem]; done)
theorem reftext_any (w : World) : Calls Try.prog 10 #[.agg #[.int .u8 (n0.toNat : Int), .int .u8 (n1.toNat : Int), .int .u8 (n2.toNat : Int), .int .u8 (n3.toNat : Int), .int .u8 (n4.toNat : Int), .int .u8 (n5.toNat : Int), .int .u8 (n6.toNat : Int), .int .u8 (n7.toNat : Int)]] w fun e w' => e = .returned (.string (Pl.str (Pl.text [n0, n1, n2, n3, n4, n5, n6, n7]))) ∧ Below w.heap.size w w' := by
  obtain ⟨z, hz⟩ : ∃ z, Pl.sz [n0, n1, n2, n3, n4, n5, n6, n7] = z := ⟨_, rfl⟩
  have hz8 : z ≤ 8 := by rw [← hz]; exact Pl.sz_le _
  have ht := Pl.text_take [n0, n1, n2, n3, n4, n5, n6, n7]
  rw [hz] at ht
  rw [ht]
  have hlt0 : ∀ k, k < z → Hid (Pl.zeroB (([n0, n1, n2, n3, n4, n5, n6, n7] : List UInt8).getD k 0) = false) := fun k h => Pl.sz_lt _ k (by rw [hz]; exact h)
  have hat : z < 8 → Hid (Pl.zeroB (([n0, n1, n2, n3, n4, n5, n6, n7] : List UInt8).getD z 0) = true) := fun h => by have := Pl.sz_at [n0, n1, n2, n3, n4, n5, n6, n7] (by rw [hz]; exact h); rw [hz] at this; exact this
  have HT := Lib.hid hlt0
  have HA := Lib.hid hat
  have hbc := box_at n0 n1 n2 n3 n4 n5 n6 n7 w 23
  have HB := Lib.hid hbc
  have hcv := fun W b c cap (h : W.cell? ⟨b, 0, none⟩ = some (.int .u8 (UInt8.toNat c : Int))) => conv_any [c] b 0 cap 1 rfl W (fun i hi => by obtain rfl : i = 0 := (by omega); exact h)
  have HC := Lib.hid hcv
  clear hz ht hlt0 hat hbc hcv
  go_enter Try.func10, Try.ntmps10
  go_wp2
  go_loopw [3, 4] (fun s v wr => ∃ k : Nat, k ≤ z ∧ v = .int .i64 k ∧ s = .string (Pl.str (([n0, n1, n2, n3, n4, n5, n6, n7] : List UInt8).take k)) ∧ Below (w.heap.size + 1) (w.alloc (.cells #[.int .u8 (n0.toNat : Int), .int .u8 (n1.toNat : Int), .int .u8 (n2.toNat : Int), .int .u8 (n3.toNat : Int), .int .u8 (n4.toNat : Int), .int .u8 (n5.toNat : Int), .int .u8 (n6.toNat : Int), .int .u8 (n7.toNat : Int)] 23)) wr) (fun _ v _ => 8 - (intOf v).toNat)
  case atStart => exact ⟨0, by omega, rfl, rfl, Below.refl _ _⟩
  case round =>
    obtain ⟨k, hk, rfl, rfl, hb⟩ := hrel
    by_cases hlt : k < z
    · have hx := HB.out wr hb k (by omega)
      have hz := HT.out k hlt
      obtain ⟨c, hce⟩ : ∃ c, ([n0, n1, n2, n3, n4, n5, n6, n7] : List UInt8).getD k 0 = c := ⟨_, rfl⟩
      rw [hce] at hx hz
      have hc0 := Pl.zero_no c hz.out
      have hk8 : k < 8 := by omega
      have HE := Lib.hid hce
      clear hce hz
      have hcw := HC.out (wr.alloc (.cells #[.int .u8 (c.toNat : Int)] 5)) wr.heap.size c 1 (by go_cell)
      have hsa := Pl.str_app
      have HK := Lib.hid (Pl.take_step [n0, n1, n2, n3, n4, n5, n6, n7] k c hk8 HE.out)
      have hs1 : (Pl.str (([n0, n1, n2, n3, n4, n5, n6, n7] : List UInt8).take k)).size ≤ 8 := by rw [Pl.str_size]; simp; omega
      have hs2 : (Pl.str [c]).size ≤ 1 := by rw [Pl.str_size]; simp
      go_wp2
      go_roundw
      case rel => exact ⟨k + 1, by omega, by go_num, by rw [HK.out], hb.alloc (by have := hb.size; rw [World.size_alloc] at this; omega) _⟩
      case measure => simp [intOf]; omega
    · obtain rfl : k = z := by omega
      by_cases h8 : k < 8
      · have hx := HB.out wr hb k h8
        have hz := HA.out h8
        obtain ⟨c, hce⟩ : ∃ c, ([n0, n1, n2, n3, n4, n5, n6, n7] : List UInt8).getD k 0 = c := ⟨_, rfl⟩
        rw [hce] at hx hz
        have hc0 := Pl.zero_yes c hz.out
        clear hce hz
        go_wp2
        go_ret
        exact ⟨rfl, (((Below.refl w.heap.size w).alloc (Nat.le_refl _) _).trans (hb.mono (by omega)))⟩
      · have h8' : ¬ k < 8 := h8
        go_wp2
        go_ret
        exact ⟨rfl, (((Below.refl w.heap.size w).alloc (Nat.le_refl _) _).trans (hb.mono (by omega)))⟩
end
theorem is_any (s : ByteArray) (hs : s.size ≤ 100) (w : World) : Calls Try.prog 20 #[.string s] w fun e w' => e = .returned (.bool (Pl.isName s.data.toList)) ∧ w = w' := by
  by_cases h1 : s.size < 1
  · go_enter Try.func20, Try.ntmps20
    go_wp2
    go_ret
    exact ⟨ret_bool (Pl.is_empty s h1), rfl⟩
  · by_cases h8 : 8 < s.size
    · go_enter Try.func20, Try.ntmps20
      go_wp2
      go_ret
      exact ⟨ret_bool (Pl.is_long s h8), rfl⟩
    · have hp0 : 0 < s.size := by omega
      have hd1 : decide ((s.size : Int) < 1) = false := by simp; omega
      have hd8 : decide ((8 : Int) < (s.size : Int)) = false := by simp; omega
      have hl := refletter_any s[0] w
      have hn := Pl.is_form s hp0 (by omega)
      rcases hlb : Pl.letterB s[0] with _ | _
      · rw [hlb] at hl
        rw [hlb] at hn
        have HN := Lib.hid hn
        clear hn hlb
        go_enter Try.func20, Try.ntmps20
        go_wp2_with (go_at_call 27; (refine hl.mono ?_; rintro e w' ⟨rfl, rfl⟩))
        go_ret
        exact ⟨ret_bool HN.out.symm, rfl⟩
      · rw [hlb] at hl
        rw [hlb, Bool.true_and] at hn
        rw [hn]
        clear hn hlb
        go_enter Try.func20, Try.ntmps20
        go_wp2_with (go_at_call 27; (refine hl.mono ?_; rintro e w' ⟨rfl, rfl⟩))
        go_loop [3] (fun v => ∃ k : Nat, k ≤ s.size ∧ v = .int .i64 k ∧ (s.data.toList.take k).all Pl.otherB = true) (fun v => s.size - (intOf v).toNat)
        case atStart => exact ⟨0, by omega, rfl, rfl⟩
        case round =>
          obtain ⟨k, hk, rfl, hpre⟩ := hrel
          have HP := Lib.hid hpre
          clear hpre
          by_cases hlt : k < s.size
          · have hp := refother_any s[k] w
            have HS := Lib.hid (Pl.all_step s.data.toList Pl.otherB k (by rw [Pl.size_list]; exact hlt))
            have HG := Lib.hid (Pl.list_get s k hlt)
            rcases hv : Pl.otherB s[k] with _ | _
            · rw [hv] at hp
              have HV := Lib.hid hv
              clear hv
              go_wp2_with (go_at_call 28; ((refine hp.mono ?_); rintro e w' ⟨rfl, rfl⟩))
              go_ret
              refine ⟨ret_bool ?_, rfl⟩
              rcases ha : s.data.toList.all Pl.otherB with _ | _
              · rfl
              · exfalso; exact Pl.all_no s.data.toList Pl.otherB k (by rw [Pl.size_list]; exact hlt) (by rw [HG.out]; exact HV.out) ha
            · rw [hv] at hp
              have HV := Lib.hid hv
              clear hv
              go_wp2_with (go_at_call 28; ((refine hp.mono ?_); rintro e w' ⟨rfl, rfl⟩))
              go_round
              case rel => exact ⟨k + 1, by omega, by go_num, by rw [HS.out, HP.out, HG.out, HV.out]; rfl⟩
              case measure => simp [intOf]; omega
          · go_wp2
            go_ret
            refine ⟨ret_bool ?_, rfl⟩
            have e : (s.data.toList.take k).all Pl.otherB = s.data.toList.all Pl.otherB := by rw [List.take_of_length_le (by rw [Pl.size_list]; omega)]
            have e2 := HP.out.symm.trans e
            simpa using e2
theorem pad_0 (w : World) : Calls Try.prog 21 #[.string (Pl.str ([] : List UInt8))] w fun e w' => e = .returned (.agg #[.int .u8 0, .int .u8 0, .int .u8 0, .int .u8 0, .int .u8 0, .int .u8 0, .int .u8 0, .int .u8 0]) ∧ Below w.heap.size w w' := by
  have hsz : (Pl.str ([] : List UInt8)).size = 0 := rfl
  go_enter Try.func21, Try.ntmps21
  go_wp2
  refine wp_loop_rounds 1 ?_
  iterate 1
    rw [rounds_succ]
    go_wp2
  go_returns
  exact ⟨rfl, by go_grown⟩
theorem pad_1 (c0 : UInt8) (w : World) : Calls Try.prog 21 #[.string (Pl.str ([c0] : List UInt8))] w fun e w' => e = .returned (.agg #[.int .u8 (c0.toNat : Int), .int .u8 0, .int .u8 0, .int .u8 0, .int .u8 0, .int .u8 0, .int .u8 0, .int .u8 0]) ∧ Below w.heap.size w w' := by
  have hsz : (Pl.str ([c0] : List UInt8)).size = 1 := rfl
  have x0 : ∀ h, (Pl.str [c0])[0]'h = c0 := fun h => rfl
  go_enter Try.func21, Try.ntmps21
  go_wp2
  refine wp_loop_rounds 2 ?_
  iterate 2
    rw [rounds_succ]
    go_wp2
  go_returns
  exact ⟨rfl, by go_grown⟩
theorem pad_2 (c0 c1 : UInt8) (w : World) : Calls Try.prog 21 #[.string (Pl.str ([c0, c1] : List UInt8))] w fun e w' => e = .returned (.agg #[.int .u8 (c0.toNat : Int), .int .u8 (c1.toNat : Int), .int .u8 0, .int .u8 0, .int .u8 0, .int .u8 0, .int .u8 0, .int .u8 0]) ∧ Below w.heap.size w w' := by
  have hsz : (Pl.str ([c0, c1] : List UInt8)).size = 2 := rfl
  have x0 : ∀ h, (Pl.str [c0, c1])[0]'h = c0 := fun h => rfl
  have x1 : ∀ h, (Pl.str [c0, c1])[1]'h = c1 := fun h => rfl
  go_enter Try.func21, Try.ntmps21
  go_wp2
  refine wp_loop_rounds 3 ?_
  iterate 3
    rw [rounds_succ]
    go_wp2
  go_returns
  exact ⟨rfl, by go_grown⟩
theorem pad_3 (c0 c1 c2 : UInt8) (w : World) : Calls Try.prog 21 #[.string (Pl.str ([c0, c1, c2] : List UInt8))] w fun e w' => e = .returned (.agg #[.int .u8 (c0.toNat : Int), .int .u8 (c1.toNat : Int), .int .u8 (c2.toNat : Int), .int .u8 0, .int .u8 0, .int .u8 0, .int .u8 0, .int .u8 0]) ∧ Below w.heap.size w w' := by
  have hsz : (Pl.str ([c0, c1, c2] : List UInt8)).size = 3 := rfl
  have x0 : ∀ h, (Pl.str [c0, c1, c2])[0]'h = c0 := fun h => rfl
  have x1 : ∀ h, (Pl.str [c0, c1, c2])[1]'h = c1 := fun h => rfl
  have x2 : ∀ h, (Pl.str [c0, c1, c2])[2]'h = c2 := fun h => rfl
  go_enter Try.func21, Try.ntmps21
  go_wp2
  refine wp_loop_rounds 4 ?_
  iterate 4
    rw [rounds_succ]
    go_wp2
  go_returns
  exact ⟨rfl, by go_grown⟩
theorem pad_4 (c0 c1 c2 c3 : UInt8) (w : World) : Calls Try.prog 21 #[.string (Pl.str ([c0, c1, c2, c3] : List UInt8))] w fun e w' => e = .returned (.agg #[.int .u8 (c0.toNat : Int), .int .u8 (c1.toNat : Int), .int .u8 (c2.toNat : Int), .int .u8 (c3.toNat : Int), .int .u8 0, .int .u8 0, .int .u8 0, .int .u8 0]) ∧ Below w.heap.size w w' := by
  have hsz : (Pl.str ([c0, c1, c2, c3] : List UInt8)).size = 4 := rfl
  have x0 : ∀ h, (Pl.str [c0, c1, c2, c3])[0]'h = c0 := fun h => rfl
  have x1 : ∀ h, (Pl.str [c0, c1, c2, c3])[1]'h = c1 := fun h => rfl
  have x2 : ∀ h, (Pl.str [c0, c1, c2, c3])[2]'h = c2 := fun h => rfl
  have x3 : ∀ h, (Pl.str [c0, c1, c2, c3])[3]'h = c3 := fun h => rfl
  go_enter Try.func21, Try.ntmps21
  go_wp2
  refine wp_loop_rounds 5 ?_
  iterate 5
    rw [rounds_succ]
    go_wp2
  go_returns
  exact ⟨rfl, by go_grown⟩
theorem pad_5 (c0 c1 c2 c3 c4 : UInt8) (w : World) : Calls Try.prog 21 #[.string (Pl.str ([c0, c1, c2, c3, c4] : List UInt8))] w fun e w' => e = .returned (.agg #[.int .u8 (c0.toNat : Int), .int .u8 (c1.toNat : Int), .int .u8 (c2.toNat : Int), .int .u8 (c3.toNat : Int), .int .u8 (c4.toNat : Int), .int .u8 0, .int .u8 0, .int .u8 0]) ∧ Below w.heap.size w w' := by
  have hsz : (Pl.str ([c0, c1, c2, c3, c4] : List UInt8)).size = 5 := rfl
  have x0 : ∀ h, (Pl.str [c0, c1, c2, c3, c4])[0]'h = c0 := fun h => rfl
  have x1 : ∀ h, (Pl.str [c0, c1, c2, c3, c4])[1]'h = c1 := fun h => rfl
  have x2 : ∀ h, (Pl.str [c0, c1, c2, c3, c4])[2]'h = c2 := fun h => rfl
  have x3 : ∀ h, (Pl.str [c0, c1, c2, c3, c4])[3]'h = c3 := fun h => rfl
  have x4 : ∀ h, (Pl.str [c0, c1, c2, c3, c4])[4]'h = c4 := fun h => rfl
  go_enter Try.func21, Try.ntmps21
  go_wp2
  refine wp_loop_rounds 6 ?_
  iterate 6
    rw [rounds_succ]
    go_wp2
  go_returns
  exact ⟨rfl, by go_grown⟩
theorem pad_6 (c0 c1 c2 c3 c4 c5 : UInt8) (w : World) : Calls Try.prog 21 #[.string (Pl.str ([c0, c1, c2, c3, c4, c5] : List UInt8))] w fun e w' => e = .returned (.agg #[.int .u8 (c0.toNat : Int), .int .u8 (c1.toNat : Int), .int .u8 (c2.toNat : Int), .int .u8 (c3.toNat : Int), .int .u8 (c4.toNat : Int), .int .u8 (c5.toNat : Int), .int .u8 0, .int .u8 0]) ∧ Below w.heap.size w w' := by
  have hsz : (Pl.str ([c0, c1, c2, c3, c4, c5] : List UInt8)).size = 6 := rfl
  have x0 : ∀ h, (Pl.str [c0, c1, c2, c3, c4, c5])[0]'h = c0 := fun h => rfl
  have x1 : ∀ h, (Pl.str [c0, c1, c2, c3, c4, c5])[1]'h = c1 := fun h => rfl
  have x2 : ∀ h, (Pl.str [c0, c1, c2, c3, c4, c5])[2]'h = c2 := fun h => rfl
  have x3 : ∀ h, (Pl.str [c0, c1, c2, c3, c4, c5])[3]'h = c3 := fun h => rfl
  have x4 : ∀ h, (Pl.str [c0, c1, c2, c3, c4, c5])[4]'h = c4 := fun h => rfl
  have x5 : ∀ h, (Pl.str [c0, c1, c2, c3, c4, c5])[5]'h = c5 := fun h => rfl
  go_enter Try.func21, Try.ntmps21
  go_wp2
  refine wp_loop_rounds 7 ?_
  iterate 7
    rw [rounds_succ]
    go_wp2
  go_returns
  exact ⟨rfl, by go_grown⟩
theorem pad_7 (c0 c1 c2 c3 c4 c5 c6 : UInt8) (w : World) : Calls Try.prog 21 #[.string (Pl.str ([c0, c1, c2, c3, c4, c5, c6] : List UInt8))] w fun e w' => e = .returned (.agg #[.int .u8 (c0.toNat : Int), .int .u8 (c1.toNat : Int), .int .u8 (c2.toNat : Int), .int .u8 (c3.toNat : Int), .int .u8 (c4.toNat : Int), .int .u8 (c5.toNat : Int), .int .u8 (c6.toNat : Int), .int .u8 0]) ∧ Below w.heap.size w w' := by
  have hsz : (Pl.str ([c0, c1, c2, c3, c4, c5, c6] : List UInt8)).size = 7 := rfl
  have x0 : ∀ h, (Pl.str [c0, c1, c2, c3, c4, c5, c6])[0]'h = c0 := fun h => rfl
  have x1 : ∀ h, (Pl.str [c0, c1, c2, c3, c4, c5, c6])[1]'h = c1 := fun h => rfl
  have x2 : ∀ h, (Pl.str [c0, c1, c2, c3, c4, c5, c6])[2]'h = c2 := fun h => rfl
  have x3 : ∀ h, (Pl.str [c0, c1, c2, c3, c4, c5, c6])[3]'h = c3 := fun h => rfl
  have x4 : ∀ h, (Pl.str [c0, c1, c2, c3, c4, c5, c6])[4]'h = c4 := fun h => rfl
  have x5 : ∀ h, (Pl.str [c0, c1, c2, c3, c4, c5, c6])[5]'h = c5 := fun h => rfl
  have x6 : ∀ h, (Pl.str [c0, c1, c2, c3, c4, c5, c6])[6]'h = c6 := fun h => rfl
  go_enter Try.func21, Try.ntmps21
  go_wp2
  refine wp_loop_rounds 8 ?_
  iterate 8
    rw [rounds_succ]
    go_wp2
  go_returns
  exact ⟨rfl, by go_grown⟩
theorem pad_8 (c0 c1 c2 c3 c4 c5 c6 c7 : UInt8) (w : World) : Calls Try.prog 21 #[.string (Pl.str ([c0, c1, c2, c3, c4, c5, c6, c7] : List UInt8))] w fun e w' => e = .returned (.agg #[.int .u8 (c0.toNat : Int), .int .u8 (c1.toNat : Int), .int .u8 (c2.toNat : Int), .int .u8 (c3.toNat : Int), .int .u8 (c4.toNat : Int), .int .u8 (c5.toNat : Int), .int .u8 (c6.toNat : Int), .int .u8 (c7.toNat : Int)]) ∧ Below w.heap.size w w' := by
  have hsz : (Pl.str ([c0, c1, c2, c3, c4, c5, c6, c7] : List UInt8)).size = 8 := rfl
  have x0 : ∀ h, (Pl.str [c0, c1, c2, c3, c4, c5, c6, c7])[0]'h = c0 := fun h => rfl
  have x1 : ∀ h, (Pl.str [c0, c1, c2, c3, c4, c5, c6, c7])[1]'h = c1 := fun h => rfl
  have x2 : ∀ h, (Pl.str [c0, c1, c2, c3, c4, c5, c6, c7])[2]'h = c2 := fun h => rfl
  have x3 : ∀ h, (Pl.str [c0, c1, c2, c3, c4, c5, c6, c7])[3]'h = c3 := fun h => rfl
  have x4 : ∀ h, (Pl.str [c0, c1, c2, c3, c4, c5, c6, c7])[4]'h = c4 := fun h => rfl
  have x5 : ∀ h, (Pl.str [c0, c1, c2, c3, c4, c5, c6, c7])[5]'h = c5 := fun h => rfl
  have x6 : ∀ h, (Pl.str [c0, c1, c2, c3, c4, c5, c6, c7])[6]'h = c6 := fun h => rfl
  have x7 : ∀ h, (Pl.str [c0, c1, c2, c3, c4, c5, c6, c7])[7]'h = c7 := fun h => rfl
  go_enter Try.func21, Try.ntmps21
  go_wp2
  refine wp_loop_rounds 9 ?_
  iterate 9
    rw [rounds_succ]
    go_wp2
  go_returns
  exact ⟨rfl, by go_grown⟩
end Go.Proofs.Ytbhbcmngbdpfoaa
