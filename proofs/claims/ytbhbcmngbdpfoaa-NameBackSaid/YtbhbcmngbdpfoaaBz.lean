/- The walks of Text, Some, Number, Less (name) and of the document's answers (handcartref06) for them. -/
import Derived.Test.YtbhbcmngbdpfoaaBe
import Derived.Laws.BytesArg
import Derived.Deep.RegionHeld3
namespace Go.Proofs.Ytbhbcmngbdpfoaa
open Go.RowKit
set_option linter.unusedVariables false
set_option linter.unusedSimpArgs false

theorem strOf (l : List UInt8) : strOfNums (l.map fun c => (c.toNat : Int)) = Pl.str l := by
  unfold strOfNums Pl.str
  congr 2
  rw [List.map_map]
  conv => rhs; rw [← List.map_id l]
  apply List.map_congr_left
  intro c _
  simp
section
variable (n0 n1 n2 n3 n4 n5 n6 n7 : UInt8)
theorem conv_any (l : List UInt8) (b off cap : Nat) (len : Nat) (hl : l.length = len) (W : World) (hc : ∀ i, i < len → W.cell? ⟨b, off + i, none⟩ = some (.int .u8 ((l.getD i 0).toNat : Int))) :
    (convert 36 9 (.slice (some ⟨b, off, none⟩) len cap)).run Try.prog W = .ok (.string (Pl.str l)) W := by
  have h := run_convert_bytes_arg (P := Try.prog) W 36 5 (by kernel_rfl) (by kernel_rfl) b off len cap (l.map fun c => (c.toNat : Int)) (by simpa using hl) (fun i hi => by
    rw [hc i hi, List.getD_eq_getElem?_getD, List.getD_eq_getElem?_getD, List.getElem?_map, List.getElem?_eq_getElem (by omega)]; rfl) 9 (by kernel_rfl)
  rw [strOf] at h
  exact h
theorem text_any (w : World) : Calls Try.prog 9 #[.agg #[.int .u8 (n0.toNat : Int), .int .u8 (n1.toNat : Int), .int .u8 (n2.toNat : Int), .int .u8 (n3.toNat : Int), .int .u8 (n4.toNat : Int), .int .u8 (n5.toNat : Int), .int .u8 (n6.toNat : Int), .int .u8 (n7.toNat : Int)]] w fun e w' => e = .returned (.string (Pl.str (Pl.text [n0, n1, n2, n3, n4, n5, n6, n7]))) ∧ (w.alloc (.cells #[.int .u8 (n0.toNat : Int), .int .u8 (n1.toNat : Int), .int .u8 (n2.toNat : Int), .int .u8 (n3.toNat : Int), .int .u8 (n4.toNat : Int), .int .u8 (n5.toNat : Int), .int .u8 (n6.toNat : Int), .int .u8 (n7.toNat : Int)] 23)).alloc (.cells #[.int .u8 (n0.toNat : Int), .int .u8 (n1.toNat : Int), .int .u8 (n2.toNat : Int), .int .u8 (n3.toNat : Int), .int .u8 (n4.toNat : Int), .int .u8 (n5.toNat : Int), .int .u8 (n6.toNat : Int), .int .u8 (n7.toNat : Int)] 23) = w' := by
  obtain ⟨k, hk⟩ : ∃ z, Pl.sz [n0, n1, n2, n3, n4, n5, n6, n7] = z := ⟨_, rfl⟩
  have hk8 : k ≤ 8 := by rw [← hk]; exact Pl.sz_le _
  have ht := Pl.text_take [n0, n1, n2, n3, n4, n5, n6, n7]
  have hsz := size_any n0 n1 n2 n3 n4 n5 n6 n7 (w.alloc (.cells #[.int .u8 (n0.toNat : Int), .int .u8 (n1.toNat : Int), .int .u8 (n2.toNat : Int), .int .u8 (n3.toNat : Int), .int .u8 (n4.toNat : Int), .int .u8 (n5.toNat : Int), .int .u8 (n6.toNat : Int), .int .u8 (n7.toNat : Int)] 23))
  have hbox := box_cell n0 n1 n2 n3 n4 n5 n6 n7 w 23 (.cells #[.int .u8 (n0.toNat : Int), .int .u8 (n1.toNat : Int), .int .u8 (n2.toNat : Int), .int .u8 (n3.toNat : Int), .int .u8 (n4.toNat : Int), .int .u8 (n5.toNat : Int), .int .u8 (n6.toNat : Int), .int .u8 (n7.toNat : Int)] 23)
  have hcv := conv_any (([n0, n1, n2, n3, n4, n5, n6, n7] : List UInt8).take k) w.heap.size 0 8 k (by simp; omega) ((w.alloc (.cells #[.int .u8 (n0.toNat : Int), .int .u8 (n1.toNat : Int), .int .u8 (n2.toNat : Int), .int .u8 (n3.toNat : Int), .int .u8 (n4.toNat : Int), .int .u8 (n5.toNat : Int), .int .u8 (n6.toNat : Int), .int .u8 (n7.toNat : Int)] 23)).alloc (.cells #[.int .u8 (n0.toNat : Int), .int .u8 (n1.toNat : Int), .int .u8 (n2.toNat : Int), .int .u8 (n3.toNat : Int), .int .u8 (n4.toNat : Int), .int .u8 (n5.toNat : Int), .int .u8 (n6.toNat : Int), .int .u8 (n7.toNat : Int)] 23)) (fun i hi => by rw [Nat.zero_add, hbox i (by omega), Pl.getD_take _ _ _ hi])
  have hst := slice_to k hk8
  rw [hk] at hsz ht
  rw [ht]
  clear hk ht hbox
  go_enter Try.func9, Try.ntmps9
  go_wp2_with (go_at_call 22; ((with_reducible refine hsz.mono ?_); rintro e w' ⟨rfl, rfl⟩))
  go_ret
  exact ⟨rfl, rfl⟩
theorem some_any (w : World) : Calls Try.prog 13 #[.agg #[.int .u8 (n0.toNat : Int), .int .u8 (n1.toNat : Int), .int .u8 (n2.toNat : Int), .int .u8 (n3.toNat : Int), .int .u8 (n4.toNat : Int), .int .u8 (n5.toNat : Int), .int .u8 (n6.toNat : Int), .int .u8 (n7.toNat : Int)]] w fun e w' => e = .returned (.bool (!decide (([n0, n1, n2, n3, n4, n5, n6, n7] : List UInt8) = [0, 0, 0, 0, 0, 0, 0, 0]))) ∧ w.alloc (.cells #[.int .u8 (n0.toNat : Int), .int .u8 (n1.toNat : Int), .int .u8 (n2.toNat : Int), .int .u8 (n3.toNat : Int), .int .u8 (n4.toNat : Int), .int .u8 (n5.toNat : Int), .int .u8 (n6.toNat : Int), .int .u8 (n7.toNat : Int)] 23) = w' := by
  have hn := neq_name n0 n1 n2 n3 n4 n5 n6 n7 0 0 0 0 0 0 0 0
  have hn : ∀ W, (binOp .neq 23 (.agg #[.int .u8 (n0.toNat : Int), .int .u8 (n1.toNat : Int), .int .u8 (n2.toNat : Int), .int .u8 (n3.toNat : Int), .int .u8 (n4.toNat : Int), .int .u8 (n5.toNat : Int), .int .u8 (n6.toNat : Int), .int .u8 (n7.toNat : Int)]) (.agg #[.int .u8 0, .int .u8 0, .int .u8 0, .int .u8 0, .int .u8 0, .int .u8 0, .int .u8 0, .int .u8 0])).run Try.prog W = .ok (.bool (!decide (([n0, n1, n2, n3, n4, n5, n6, n7] : List UInt8) = [0, 0, 0, 0, 0, 0, 0, 0]))) W := hn
  generalize (!decide (([n0, n1, n2, n3, n4, n5, n6, n7] : List UInt8) = [0, 0, 0, 0, 0, 0, 0, 0])) = v at hn ⊢
  go_enter Try.func13, Try.ntmps13
  go_wp2
  go_ret
  exact ⟨rfl, rfl⟩
theorem number_any (w : World) : Calls Try.prog 16 #[.agg #[.int .u8 (n0.toNat : Int), .int .u8 (n1.toNat : Int), .int .u8 (n2.toNat : Int), .int .u8 (n3.toNat : Int), .int .u8 (n4.toNat : Int), .int .u8 (n5.toNat : Int), .int .u8 (n6.toNat : Int), .int .u8 (n7.toNat : Int)]] w fun e w' => e = .returned (.int .u64 (Pl.num [n0, n1, n2, n3, n4, n5, n6, n7]).toNat) ∧ w.alloc (.cells #[.int .u8 (n0.toNat : Int), .int .u8 (n1.toNat : Int), .int .u8 (n2.toNat : Int), .int .u8 (n3.toNat : Int), .int .u8 (n4.toNat : Int), .int .u8 (n5.toNat : Int), .int .u8 (n6.toNat : Int), .int .u8 (n7.toNat : Int)] 23) = w' := by
  have hso := Pl.step_or
  have hwb := Pl.wrap_byte
  have hs0 : bits .or .u64 0 (n0.toNat : Int) = ((Pl.step 0#64 n0).toNat : Int) := Pl.step_or 0#64 n0
  have i0 : ∀ W, (Instr.index 23 (.agg #[.int .u8 (n0.toNat : Int), .int .u8 (n1.toNat : Int), .int .u8 (n2.toNat : Int), .int .u8 (n3.toNat : Int), .int .u8 (n4.toNat : Int), .int .u8 (n5.toNat : Int), .int .u8 (n6.toNat : Int), .int .u8 (n7.toNat : Int)]) (.int .i64 0)).run Try.prog W = .ok (.int .u8 (n0.toNat : Int)) W := fun W => by kernel_rfl
  have i1 : ∀ W, (Instr.index 23 (.agg #[.int .u8 (n0.toNat : Int), .int .u8 (n1.toNat : Int), .int .u8 (n2.toNat : Int), .int .u8 (n3.toNat : Int), .int .u8 (n4.toNat : Int), .int .u8 (n5.toNat : Int), .int .u8 (n6.toNat : Int), .int .u8 (n7.toNat : Int)]) (.int .i64 1)).run Try.prog W = .ok (.int .u8 (n1.toNat : Int)) W := fun W => by kernel_rfl
  have i2 : ∀ W, (Instr.index 23 (.agg #[.int .u8 (n0.toNat : Int), .int .u8 (n1.toNat : Int), .int .u8 (n2.toNat : Int), .int .u8 (n3.toNat : Int), .int .u8 (n4.toNat : Int), .int .u8 (n5.toNat : Int), .int .u8 (n6.toNat : Int), .int .u8 (n7.toNat : Int)]) (.int .i64 2)).run Try.prog W = .ok (.int .u8 (n2.toNat : Int)) W := fun W => by kernel_rfl
  have i3 : ∀ W, (Instr.index 23 (.agg #[.int .u8 (n0.toNat : Int), .int .u8 (n1.toNat : Int), .int .u8 (n2.toNat : Int), .int .u8 (n3.toNat : Int), .int .u8 (n4.toNat : Int), .int .u8 (n5.toNat : Int), .int .u8 (n6.toNat : Int), .int .u8 (n7.toNat : Int)]) (.int .i64 3)).run Try.prog W = .ok (.int .u8 (n3.toNat : Int)) W := fun W => by kernel_rfl
  have i4 : ∀ W, (Instr.index 23 (.agg #[.int .u8 (n0.toNat : Int), .int .u8 (n1.toNat : Int), .int .u8 (n2.toNat : Int), .int .u8 (n3.toNat : Int), .int .u8 (n4.toNat : Int), .int .u8 (n5.toNat : Int), .int .u8 (n6.toNat : Int), .int .u8 (n7.toNat : Int)]) (.int .i64 4)).run Try.prog W = .ok (.int .u8 (n4.toNat : Int)) W := fun W => by kernel_rfl
  have i5 : ∀ W, (Instr.index 23 (.agg #[.int .u8 (n0.toNat : Int), .int .u8 (n1.toNat : Int), .int .u8 (n2.toNat : Int), .int .u8 (n3.toNat : Int), .int .u8 (n4.toNat : Int), .int .u8 (n5.toNat : Int), .int .u8 (n6.toNat : Int), .int .u8 (n7.toNat : Int)]) (.int .i64 5)).run Try.prog W = .ok (.int .u8 (n5.toNat : Int)) W := fun W => by kernel_rfl
  have i6 : ∀ W, (Instr.index 23 (.agg #[.int .u8 (n0.toNat : Int), .int .u8 (n1.toNat : Int), .int .u8 (n2.toNat : Int), .int .u8 (n3.toNat : Int), .int .u8 (n4.toNat : Int), .int .u8 (n5.toNat : Int), .int .u8 (n6.toNat : Int), .int .u8 (n7.toNat : Int)]) (.int .i64 6)).run Try.prog W = .ok (.int .u8 (n6.toNat : Int)) W := fun W => by kernel_rfl
  have i7 : ∀ W, (Instr.index 23 (.agg #[.int .u8 (n0.toNat : Int), .int .u8 (n1.toNat : Int), .int .u8 (n2.toNat : Int), .int .u8 (n3.toNat : Int), .int .u8 (n4.toNat : Int), .int .u8 (n5.toNat : Int), .int .u8 (n6.toNat : Int), .int .u8 (n7.toNat : Int)]) (.int .i64 7)).run Try.prog W = .ok (.int .u8 (n7.toNat : Int)) W := fun W => by kernel_rfl
  go_enter Try.func16, Try.ntmps16
  go_wp2
  refine wp_loop_rounds 9 ?_
  iterate 9
    rw [rounds_succ]
    go_wp2
  go_ret
  exact ⟨rfl, rfl⟩
theorem refnumber_any (w : World) : Calls Try.prog 17 #[.agg #[.int .u8 (n0.toNat : Int), .int .u8 (n1.toNat : Int), .int .u8 (n2.toNat : Int), .int .u8 (n3.toNat : Int), .int .u8 (n4.toNat : Int), .int .u8 (n5.toNat : Int), .int .u8 (n6.toNat : Int), .int .u8 (n7.toNat : Int)]] w fun e w' => e = .returned (.int .u64 (Pl.num [n0, n1, n2, n3, n4, n5, n6, n7]).toNat) ∧ w.alloc (.cells #[.int .u8 (n0.toNat : Int), .int .u8 (n1.toNat : Int), .int .u8 (n2.toNat : Int), .int .u8 (n3.toNat : Int), .int .u8 (n4.toNat : Int), .int .u8 (n5.toNat : Int), .int .u8 (n6.toNat : Int), .int .u8 (n7.toNat : Int)] 23) = w' := by
  have hso := Pl.step_add
  have hwb := Pl.wrap_byte
  have hs0 : (n0.toNat : Int) = ((Pl.step 0#64 n0).toNat : Int) := by rw [Pl.step_toNat _ _ (by decide)]; simp
  have HS := Lib.hid hs0
  clear hs0
  go_enter Try.func17, Try.ntmps17
  go_wp2
  refine wp_loop_rounds 9 ?_
  rw [rounds_succ]
  go_wp2
  have hs1 : IntKind.u64.wrap (IntKind.u64.wrap (256 * (n0.toNat : Int)) + (n1.toNat : Int)) = ((Pl.step (Pl.step 0#64 n0) n1).toNat : Int) := by
    have h := Pl.step_add (Pl.step 0#64 n0) n1
    rw [← HS.out] at h; exact h
  iterate 8
    rw [rounds_succ]
    go_wp2
  go_ret
  exact ⟨rfl, rfl⟩
set_option maxHeartbeats 1000000 in
theorem less_any (m0 m1 m2 m3 m4 m5 m6 m7 : UInt8) (w : World) : Calls Try.prog 18 #[.agg #[.int .u8 (n0.toNat : Int), .int .u8 (n1.toNat : Int), .int .u8 (n2.toNat : Int), .int .u8 (n3.toNat : Int), .int .u8 (n4.toNat : Int), .int .u8 (n5.toNat : Int), .int .u8 (n6.toNat : Int), .int .u8 (n7.toNat : Int)], .agg #[.int .u8 (m0.toNat : Int), .int .u8 (m1.toNat : Int), .int .u8 (m2.toNat : Int), .int .u8 (m3.toNat : Int), .int .u8 (m4.toNat : Int), .int .u8 (m5.toNat : Int), .int .u8 (m6.toNat : Int), .int .u8 (m7.toNat : Int)]] w fun e w' => e = .returned (.bool (decide ((Pl.num [n0, n1, n2, n3, n4, n5, n6, n7]).toNat < (Pl.num [m0, m1, m2, m3, m4, m5, m6, m7]).toNat))) ∧ Below w.heap.size w w' := by
  have c1 := fun W => number_any n0 n1 n2 n3 n4 n5 n6 n7 W
  have c2 := fun W => number_any m0 m1 m2 m3 m4 m5 m6 m7 W
  go_enter Try.func18, Try.ntmps18
  go_wp2
  go_region_held3 (fun w' => w'.cell? ⟨w.heap.size, 0, none⟩ = some (.int .u8 (n0.toNat : Int)) ∧ w'.cell? ⟨w.heap.size, 1, none⟩ = some (.int .u8 (n1.toNat : Int)) ∧ w'.cell? ⟨w.heap.size, 2, none⟩ = some (.int .u8 (n2.toNat : Int)) ∧ w'.cell? ⟨w.heap.size, 3, none⟩ = some (.int .u8 (n3.toNat : Int)) ∧ w'.cell? ⟨w.heap.size, 4, none⟩ = some (.int .u8 (n4.toNat : Int)) ∧ w'.cell? ⟨w.heap.size, 5, none⟩ = some (.int .u8 (n5.toNat : Int)) ∧ w'.cell? ⟨w.heap.size, 6, none⟩ = some (.int .u8 (n6.toNat : Int)) ∧ w'.cell? ⟨w.heap.size, 7, none⟩ = some (.int .u8 (n7.toNat : Int)) ∧ w'.cell? ⟨w.heap.size + 1, 0, none⟩ = some (.int .u8 (m0.toNat : Int)) ∧ w'.cell? ⟨w.heap.size + 1, 1, none⟩ = some (.int .u8 (m1.toNat : Int)) ∧ w'.cell? ⟨w.heap.size + 1, 2, none⟩ = some (.int .u8 (m2.toNat : Int)) ∧ w'.cell? ⟨w.heap.size + 1, 3, none⟩ = some (.int .u8 (m3.toNat : Int)) ∧ w'.cell? ⟨w.heap.size + 1, 4, none⟩ = some (.int .u8 (m4.toNat : Int)) ∧ w'.cell? ⟨w.heap.size + 1, 5, none⟩ = some (.int .u8 (m5.toNat : Int)) ∧ w'.cell? ⟨w.heap.size + 1, 6, none⟩ = some (.int .u8 (m6.toNat : Int)) ∧ w'.cell? ⟨w.heap.size + 1, 7, none⟩ = some (.int .u8 (m7.toNat : Int))) (go_keep)
    (first | (go_at_call 16; ((with_reducible refine (c1 _).mono ?_); rintro e w' ⟨rfl, rfl⟩)) | (go_at_call 16; ((with_reducible refine (c2 _).mono ?_); rintro e w' ⟨rfl, rfl⟩)))
  go_wp2
  go_ret
  refine ⟨ret_bool ?_, ?_⟩
  · rfl
  · go_grown
set_option maxHeartbeats 1000000 in
theorem refless_any (m0 m1 m2 m3 m4 m5 m6 m7 : UInt8) (w : World) : Calls Try.prog 19 #[.agg #[.int .u8 (n0.toNat : Int), .int .u8 (n1.toNat : Int), .int .u8 (n2.toNat : Int), .int .u8 (n3.toNat : Int), .int .u8 (n4.toNat : Int), .int .u8 (n5.toNat : Int), .int .u8 (n6.toNat : Int), .int .u8 (n7.toNat : Int)], .agg #[.int .u8 (m0.toNat : Int), .int .u8 (m1.toNat : Int), .int .u8 (m2.toNat : Int), .int .u8 (m3.toNat : Int), .int .u8 (m4.toNat : Int), .int .u8 (m5.toNat : Int), .int .u8 (m6.toNat : Int), .int .u8 (m7.toNat : Int)]] w fun e w' => e = .returned (.bool (decide ((Pl.num [n0, n1, n2, n3, n4, n5, n6, n7]).toNat < (Pl.num [m0, m1, m2, m3, m4, m5, m6, m7]).toNat))) ∧ Below w.heap.size w w' := by
  have c1 := fun W => refnumber_any n0 n1 n2 n3 n4 n5 n6 n7 W
  have c2 := fun W => refnumber_any m0 m1 m2 m3 m4 m5 m6 m7 W
  go_enter Try.func19, Try.ntmps19
  go_wp2
  go_region_held3 (fun w' => w'.cell? ⟨w.heap.size, 0, none⟩ = some (.int .u8 (n0.toNat : Int)) ∧ w'.cell? ⟨w.heap.size, 1, none⟩ = some (.int .u8 (n1.toNat : Int)) ∧ w'.cell? ⟨w.heap.size, 2, none⟩ = some (.int .u8 (n2.toNat : Int)) ∧ w'.cell? ⟨w.heap.size, 3, none⟩ = some (.int .u8 (n3.toNat : Int)) ∧ w'.cell? ⟨w.heap.size, 4, none⟩ = some (.int .u8 (n4.toNat : Int)) ∧ w'.cell? ⟨w.heap.size, 5, none⟩ = some (.int .u8 (n5.toNat : Int)) ∧ w'.cell? ⟨w.heap.size, 6, none⟩ = some (.int .u8 (n6.toNat : Int)) ∧ w'.cell? ⟨w.heap.size, 7, none⟩ = some (.int .u8 (n7.toNat : Int)) ∧ w'.cell? ⟨w.heap.size + 1, 0, none⟩ = some (.int .u8 (m0.toNat : Int)) ∧ w'.cell? ⟨w.heap.size + 1, 1, none⟩ = some (.int .u8 (m1.toNat : Int)) ∧ w'.cell? ⟨w.heap.size + 1, 2, none⟩ = some (.int .u8 (m2.toNat : Int)) ∧ w'.cell? ⟨w.heap.size + 1, 3, none⟩ = some (.int .u8 (m3.toNat : Int)) ∧ w'.cell? ⟨w.heap.size + 1, 4, none⟩ = some (.int .u8 (m4.toNat : Int)) ∧ w'.cell? ⟨w.heap.size + 1, 5, none⟩ = some (.int .u8 (m5.toNat : Int)) ∧ w'.cell? ⟨w.heap.size + 1, 6, none⟩ = some (.int .u8 (m6.toNat : Int)) ∧ w'.cell? ⟨w.heap.size + 1, 7, none⟩ = some (.int .u8 (m7.toNat : Int))) (go_keep)
    (first | (go_at_call 17; ((with_reducible refine (c1 _).mono ?_); rintro e w' ⟨rfl, rfl⟩)) | (go_at_call 17; ((with_reducible refine (c2 _).mono ?_); rintro e w' ⟨rfl, rfl⟩)))
  go_wp2
  go_ret
  refine ⟨ret_bool ?_, ?_⟩
  · rfl
  · go_grown
end
end Go.Proofs.Ytbhbcmngbdpfoaa
