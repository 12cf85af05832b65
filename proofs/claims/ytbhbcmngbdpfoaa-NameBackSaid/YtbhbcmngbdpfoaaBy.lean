/- The walks of Right, Text and Some (name) and of the document's answers (handcartref06). -/
import Derived.Test.YtbhbcmngbdpfoaaBx
namespace Go.Proofs.Ytbhbcmngbdpfoaa
open Go.RowKit
set_option linter.unusedVariables false
set_option linter.unusedSimpArgs false

section
variable (n0 n1 n2 n3 n4 n5 n6 n7 : UInt8)

theorem box_cell (w : World) (t : TypeId) (o : Obj) (i : Nat) (hi : i < 8) : ((w.alloc (.cells #[.int .u8 (n0.toNat : Int), .int .u8 (n1.toNat : Int), .int .u8 (n2.toNat : Int), .int .u8 (n3.toNat : Int), .int .u8 (n4.toNat : Int), .int .u8 (n5.toNat : Int), .int .u8 (n6.toNat : Int), .int .u8 (n7.toNat : Int)] t)).alloc o).cell? ⟨w.heap.size, i, none⟩ = some (.int .u8 ((([n0, n1, n2, n3, n4, n5, n6, n7] : List UInt8).getD i 0).toNat : Int)) := by
  obtain rfl | rfl | rfl | rfl | rfl | rfl | rfl | rfl : i = 0 ∨ i = 1 ∨ i = 2 ∨ i = 3 ∨ i = 4 ∨ i = 5 ∨ i = 6 ∨ i = 7 := by omega
  all_goals first | go_cell | (simp [go_sem]; done)

theorem slice_to (k : Nat) (hk : k ≤ 8) (b : Nat) (W : World) : (Instr.sliceAt 23 (.pointer (some ⟨b, 0, none⟩)) none (some (.int .i64 k)) none).run Try.prog W = .ok (.slice (some ⟨b, 0, none⟩) k 8) W := by
  have hal : Try.prog.arrayLen 23 = 8 := by kernel_rfl
  have hsz : ∀ W, (sizeOf (Try.prog.elem 23)).run Try.prog W = .ok 1 W := fun W => by kernel_rfl
  rw [run_sliceAt_array_h W _ ⟨b, 0, none⟩ (by kernel_rfl) .i64 k (by omega) (by rw [hal]; omega), hsz]
  simp [Result.andThen, slicedAt, hal, Addr.add]
theorem slice_from (k : Nat) (hk : k < 8) (b : Nat) (W : World) : (Instr.sliceAt 23 (.pointer (some ⟨b, 0, none⟩)) (some (.int .i64 k)) none none).run Try.prog W = .ok (.slice (some ⟨b, k, none⟩) (8 - k) (8 - k)) W := by
  have hal : Try.prog.arrayLen 23 = 8 := by kernel_rfl
  have hsz : ∀ W, (sizeOf (Try.prog.elem 23)).run Try.prog W = .ok 1 W := fun W => by kernel_rfl
  rw [run_sliceAt_array_l W _ ⟨b, 0, none⟩ (by kernel_rfl) .i64 k (by omega) (by rw [hal]; omega), hsz]
  have : ¬ 8 = k := by omega
  simp [Result.andThen, slicedAt, hal, Addr.add, this]
  omega
theorem slice_end (k : Nat) (hk : k = 8) (b : Nat) (W : World) : (Instr.sliceAt 23 (.pointer (some ⟨b, 0, none⟩)) (some (.int .i64 k)) none none).run Try.prog W = .ok (.slice (some ⟨b, 0, none⟩) 0 0) W := by
  subst hk; kernel_rfl

theorem right_any (w : World) : Calls Try.prog 11 #[.agg #[.int .u8 (n0.toNat : Int), .int .u8 (n1.toNat : Int), .int .u8 (n2.toNat : Int), .int .u8 (n3.toNat : Int), .int .u8 (n4.toNat : Int), .int .u8 (n5.toNat : Int), .int .u8 (n6.toNat : Int), .int .u8 (n7.toNat : Int)]] w fun e w' => e = .returned (.bool (Pl.right [n0, n1, n2, n3, n4, n5, n6, n7])) ∧ (w.alloc (.cells #[.int .u8 (n0.toNat : Int), .int .u8 (n1.toNat : Int), .int .u8 (n2.toNat : Int), .int .u8 (n3.toNat : Int), .int .u8 (n4.toNat : Int), .int .u8 (n5.toNat : Int), .int .u8 (n6.toNat : Int), .int .u8 (n7.toNat : Int)] 23)).alloc (.cells #[.int .u8 (n0.toNat : Int), .int .u8 (n1.toNat : Int), .int .u8 (n2.toNat : Int), .int .u8 (n3.toNat : Int), .int .u8 (n4.toNat : Int), .int .u8 (n5.toNat : Int), .int .u8 (n6.toNat : Int), .int .u8 (n7.toNat : Int)] 23) = w' := by
  have hform := Pl.right_form [n0, n1, n2, n3, n4, n5, n6, n7] rfl
  obtain ⟨k, hk⟩ : ∃ z, Pl.sz [n0, n1, n2, n3, n4, n5, n6, n7] = z := ⟨_, rfl⟩
  have hk8 : k ≤ 8 := by rw [← hk]; exact Pl.sz_le _
  have hsz := size_any n0 n1 n2 n3 n4 n5 n6 n7 (w.alloc (.cells #[.int .u8 (n0.toNat : Int), .int .u8 (n1.toNat : Int), .int .u8 (n2.toNat : Int), .int .u8 (n3.toNat : Int), .int .u8 (n4.toNat : Int), .int .u8 (n5.toNat : Int), .int .u8 (n6.toNat : Int), .int .u8 (n7.toNat : Int)] 23))
  have hlet := letter_any n0 ((w.alloc (.cells #[.int .u8 (n0.toNat : Int), .int .u8 (n1.toNat : Int), .int .u8 (n2.toNat : Int), .int .u8 (n3.toNat : Int), .int .u8 (n4.toNat : Int), .int .u8 (n5.toNat : Int), .int .u8 (n6.toNat : Int), .int .u8 (n7.toNat : Int)] 23)).alloc (.cells #[.int .u8 (n0.toNat : Int), .int .u8 (n1.toNat : Int), .int .u8 (n2.toNat : Int), .int .u8 (n3.toNat : Int), .int .u8 (n4.toNat : Int), .int .u8 (n5.toNat : Int), .int .u8 (n6.toNat : Int), .int .u8 (n7.toNat : Int)] 23))
  have hbox := box_cell n0 n1 n2 n3 n4 n5 n6 n7 w 23 (.cells #[.int .u8 (n0.toNat : Int), .int .u8 (n1.toNat : Int), .int .u8 (n2.toNat : Int), .int .u8 (n3.toNat : Int), .int .u8 (n4.toNat : Int), .int .u8 (n5.toNat : Int), .int .u8 (n6.toNat : Int), .int .u8 (n7.toNat : Int)] 23)
  have ha := all_other' (([n0, n1, n2, n3, n4, n5, n6, n7] : List UInt8).take k) k (by simp; omega) w.heap.size 0 8 hk8 (by omega) ((w.alloc (.cells #[.int .u8 (n0.toNat : Int), .int .u8 (n1.toNat : Int), .int .u8 (n2.toNat : Int), .int .u8 (n3.toNat : Int), .int .u8 (n4.toNat : Int), .int .u8 (n5.toNat : Int), .int .u8 (n6.toNat : Int), .int .u8 (n7.toNat : Int)] 23)).alloc (.cells #[.int .u8 (n0.toNat : Int), .int .u8 (n1.toNat : Int), .int .u8 (n2.toNat : Int), .int .u8 (n3.toNat : Int), .int .u8 (n4.toNat : Int), .int .u8 (n5.toNat : Int), .int .u8 (n6.toNat : Int), .int .u8 (n7.toNat : Int)] 23)) (fun i hi => by rw [Nat.zero_add, hbox i (by omega), Pl.getD_take _ _ _ hi])
  have hz := fun off (h : ∀ i, i < 8 - k → ((w.alloc (.cells #[.int .u8 (n0.toNat : Int), .int .u8 (n1.toNat : Int), .int .u8 (n2.toNat : Int), .int .u8 (n3.toNat : Int), .int .u8 (n4.toNat : Int), .int .u8 (n5.toNat : Int), .int .u8 (n6.toNat : Int), .int .u8 (n7.toNat : Int)] 23)).alloc (.cells #[.int .u8 (n0.toNat : Int), .int .u8 (n1.toNat : Int), .int .u8 (n2.toNat : Int), .int .u8 (n3.toNat : Int), .int .u8 (n4.toNat : Int), .int .u8 (n5.toNat : Int), .int .u8 (n6.toNat : Int), .int .u8 (n7.toNat : Int)] 23)).cell? ⟨w.heap.size, off + i, none⟩ = some (.int .u8 (((([n0, n1, n2, n3, n4, n5, n6, n7] : List UInt8).drop k).getD i 0).toNat : Int))) => all_zero' (([n0, n1, n2, n3, n4, n5, n6, n7] : List UInt8).drop k) (8 - k) (by simp) w.heap.size off (8 - k) (by omega) (by omega) ((w.alloc (.cells #[.int .u8 (n0.toNat : Int), .int .u8 (n1.toNat : Int), .int .u8 (n2.toNat : Int), .int .u8 (n3.toNat : Int), .int .u8 (n4.toNat : Int), .int .u8 (n5.toNat : Int), .int .u8 (n6.toNat : Int), .int .u8 (n7.toNat : Int)] 23)).alloc (.cells #[.int .u8 (n0.toNat : Int), .int .u8 (n1.toNat : Int), .int .u8 (n2.toNat : Int), .int .u8 (n3.toNat : Int), .int .u8 (n4.toNat : Int), .int .u8 (n5.toNat : Int), .int .u8 (n6.toNat : Int), .int .u8 (n7.toNat : Int)] 23)) h
  have hz := hz k (fun i hi => by rw [hbox (k + i) (by omega), Pl.getD_drop])
  have hz8 : k = 8 → Calls Try.prog 24 #[.slice (some ⟨w.heap.size, 0, none⟩) 0 0, .func (.func 26) #[] #[]] ((w.alloc (.cells #[.int .u8 (n0.toNat : Int), .int .u8 (n1.toNat : Int), .int .u8 (n2.toNat : Int), .int .u8 (n3.toNat : Int), .int .u8 (n4.toNat : Int), .int .u8 (n5.toNat : Int), .int .u8 (n6.toNat : Int), .int .u8 (n7.toNat : Int)] 23)).alloc (.cells #[.int .u8 (n0.toNat : Int), .int .u8 (n1.toNat : Int), .int .u8 (n2.toNat : Int), .int .u8 (n3.toNat : Int), .int .u8 (n4.toNat : Int), .int .u8 (n5.toNat : Int), .int .u8 (n6.toNat : Int), .int .u8 (n7.toNat : Int)] 23)) fun e w' => e = .returned (.bool (([n0, n1, n2, n3, n4, n5, n6, n7] : List UInt8).drop k |>.all Pl.zeroB)) ∧ ((w.alloc (.cells #[.int .u8 (n0.toNat : Int), .int .u8 (n1.toNat : Int), .int .u8 (n2.toNat : Int), .int .u8 (n3.toNat : Int), .int .u8 (n4.toNat : Int), .int .u8 (n5.toNat : Int), .int .u8 (n6.toNat : Int), .int .u8 (n7.toNat : Int)] 23)).alloc (.cells #[.int .u8 (n0.toNat : Int), .int .u8 (n1.toNat : Int), .int .u8 (n2.toNat : Int), .int .u8 (n3.toNat : Int), .int .u8 (n4.toNat : Int), .int .u8 (n5.toNat : Int), .int .u8 (n6.toNat : Int), .int .u8 (n7.toNat : Int)] 23)) = w' := fun e => by
    subst e
    exact all_zero' [] 0 rfl w.heap.size 0 0 (by omega) (by omega) ((w.alloc (.cells #[.int .u8 (n0.toNat : Int), .int .u8 (n1.toNat : Int), .int .u8 (n2.toNat : Int), .int .u8 (n3.toNat : Int), .int .u8 (n4.toNat : Int), .int .u8 (n5.toNat : Int), .int .u8 (n6.toNat : Int), .int .u8 (n7.toNat : Int)] 23)).alloc (.cells #[.int .u8 (n0.toNat : Int), .int .u8 (n1.toNat : Int), .int .u8 (n2.toNat : Int), .int .u8 (n3.toNat : Int), .int .u8 (n4.toNat : Int), .int .u8 (n5.toNat : Int), .int .u8 (n6.toNat : Int), .int .u8 (n7.toNat : Int)] 23)) (fun i hi => absurd hi (Nat.not_lt_zero i))
  have hst := slice_to k hk8
  rw [hk] at hform hsz
  have HF := Lib.hid hform
  have H8 := Lib.hid hz8
  clear hk hbox hform hz8
  have h0 : ([n0, n1, n2, n3, n4, n5, n6, n7] : List UInt8).getD 0 0 = n0 := rfl
  rw [h0] at HF
  clear h0
  rcases hl : Pl.letterB n0 with _ | _
  · rw [hl] at hlet
    have HV : Hid (false = Pl.right [n0, n1, n2, n3, n4, n5, n6, n7]) := by have := HF.out; rw [hl] at this; exact this
    clear hl HF
    go_enter Try.func11, Try.ntmps11
    go_wp2_with (first | (go_at_call 22; ((with_reducible refine hsz.mono ?_); rintro e w' ⟨rfl, rfl⟩)) | (go_at_call 23; ((with_reducible refine hlet.mono ?_); rintro e w' ⟨rfl, rfl⟩)))
    go_ret
    exact ⟨ret_bool HV.out, rfl⟩
  · rcases ho : ((([n0, n1, n2, n3, n4, n5, n6, n7] : List UInt8).take k).all Pl.otherB) with _ | _
    · rw [hl] at hlet
      rw [ho] at ha
      have HV : Hid (false = Pl.right [n0, n1, n2, n3, n4, n5, n6, n7]) := by have := HF.out; rw [hl, ho] at this; exact this
      clear hl ho HF
      go_enter Try.func11, Try.ntmps11
      go_wp2_with (first | (go_at_call 22; ((with_reducible refine hsz.mono ?_); rintro e w' ⟨rfl, rfl⟩)) | (go_at_call 23; ((with_reducible refine hlet.mono ?_); rintro e w' ⟨rfl, rfl⟩)) | (go_at_call 24; ((with_reducible refine ha.mono ?_); rintro e w' ⟨rfl, rfl⟩)))
      go_ret
      exact ⟨ret_bool HV.out, rfl⟩
    · rw [hl] at hlet
      rw [ho] at ha
      have HV : Hid ((([n0, n1, n2, n3, n4, n5, n6, n7] : List UInt8).drop k).all Pl.zeroB = Pl.right [n0, n1, n2, n3, n4, n5, n6, n7]) := by have := HF.out; rw [hl, ho] at this; exact this
      clear hl ho HF
      obtain ⟨v, hv⟩ : ∃ v, (([n0, n1, n2, n3, n4, n5, n6, n7] : List UInt8).drop k).all Pl.zeroB = v := ⟨_, rfl⟩
      rw [hv] at hz HV
      by_cases h8 : k = 8
      · have hz := H8.out h8
        rw [hv] at hz
        have hse := slice_end k h8
        clear hv H8 h8
        go_enter Try.func11, Try.ntmps11
        go_wp2_with (first | (go_at_call 22; ((with_reducible refine hsz.mono ?_); rintro e w' ⟨rfl, rfl⟩)) | (go_at_call 23; ((with_reducible refine hlet.mono ?_); rintro e w' ⟨rfl, rfl⟩)) | (go_at_call 24; ((with_reducible refine ha.mono ?_); rintro e w' ⟨rfl, rfl⟩)) | (go_at_call 24; ((with_reducible refine hz.mono ?_); rintro e w' ⟨rfl, rfl⟩)))

        go_ret
        exact ⟨ret_bool HV.out, rfl⟩
      · have hk7 : k < 8 := by omega
        have hsf := slice_from k hk7
        clear hv H8 h8
        go_enter Try.func11, Try.ntmps11
        go_wp2_with (first | (go_at_call 22; ((with_reducible refine hsz.mono ?_); rintro e w' ⟨rfl, rfl⟩)) | (go_at_call 23; ((with_reducible refine hlet.mono ?_); rintro e w' ⟨rfl, rfl⟩)) | (go_at_call 24; ((with_reducible refine ha.mono ?_); rintro e w' ⟨rfl, rfl⟩)) | (go_at_call 24; ((with_reducible refine hz.mono ?_); rintro e w' ⟨rfl, rfl⟩)))

        go_ret
        exact ⟨ret_bool HV.out, rfl⟩
end
end Go.Proofs.Ytbhbcmngbdpfoaa
