/- The walk of Of (name) and of the document's answer (handcartref06). -/
import Derived.Test.YtbhbcmngbdpfoaaCc
import Derived.Lib.LazyBuf
namespace Go.Proofs.Ytbhbcmngbdpfoaa
open Go.RowKit
set_option linter.unusedVariables false
set_option linter.unusedSimpArgs false
def upd (cs : Array Value) : Nat → List Value → Array Value
  | _, [] => cs
  | o, v :: r => upd (cs.setIfInBounds o v) (o + 1) r
theorem setCells_alloc (w : World) (t : TypeId) : ∀ (vs : List Value) (o : Nat) (cs : Array Value), (w.alloc (.cells cs t)).setCells w.heap.size o vs = w.alloc (.cells (upd cs o vs) t)
  | [], _, _ => rfl
  | v :: r, o, cs => by
    show ((w.alloc (.cells cs t)).setCell ⟨w.heap.size, o, none⟩ v).setCells w.heap.size (o + 1) r = _
    rw [World.setCell_alloc_new, setCells_alloc w t r (o + 1)]
    rfl
theorem cell_zero (w : World) (t : TypeId) (j : Nat) (hj : j < 8) : ((w.alloc (.cells #[.int .u8 0, .int .u8 0, .int .u8 0, .int .u8 0, .int .u8 0, .int .u8 0, .int .u8 0, .int .u8 0] t)).cell? ⟨w.heap.size, 0 + j, none⟩).isSome = true := by
  obtain rfl | rfl | rfl | rfl | rfl | rfl | rfl | rfl : j = 0 ∨ j = 1 ∨ j = 2 ∨ j = 3 ∨ j = 4 ∨ j = 5 ∨ j = 6 ∨ j = 7 := by omega
  all_goals simp
theorem copy_0 (ty : TypeId) (w : World) : (Builtin.copy_ #[36, 9] ty #[.slice (some ⟨w.heap.size, 0, none⟩) 8 8, .string (Pl.str ([] : List UInt8))]).run Try.prog (w.alloc (.cells #[.int .u8 0, .int .u8 0, .int .u8 0, .int .u8 0, .int .u8 0, .int .u8 0, .int .u8 0, .int .u8 0] 23)) = .ok (.int .i64 0) (w.alloc (.cells #[.int .u8 0, .int .u8 0, .int .u8 0, .int .u8 0, .int .u8 0, .int .u8 0, .int .u8 0, .int .u8 0] 23)) := by
  have h := run_copy_string (P := Try.prog) (w.alloc (.cells #[.int .u8 0, .int .u8 0, .int .u8 0, .int .u8 0, .int .u8 0, .int .u8 0, .int .u8 0, .int .u8 0] 23)) 36 9 ty 5 w.heap.size 0 8 8 (Pl.str ([] : List UInt8)) (by kernel_rfl) (fun w => by kernel_rfl) (by rw [Pl.str_size]; simp) (fun j hj => cell_zero w _ j (by have h0 : (Pl.str ([] : List UInt8)).size ≤ 8 := (by rw [Pl.str_size]; simp); omega)) (fun j hj => by simp)
  refine h.trans ?_
  refine congrArg (Result.ok _) ?_
  exact (setCells_alloc w _ _ _ _).trans (by kernel_rfl)
theorem copy_1 (c0 : UInt8) (ty : TypeId) (w : World) : (Builtin.copy_ #[36, 9] ty #[.slice (some ⟨w.heap.size, 0, none⟩) 8 8, .string (Pl.str ([c0] : List UInt8))]).run Try.prog (w.alloc (.cells #[.int .u8 0, .int .u8 0, .int .u8 0, .int .u8 0, .int .u8 0, .int .u8 0, .int .u8 0, .int .u8 0] 23)) = .ok (.int .i64 1) (w.alloc (.cells #[.int .u8 (c0.toNat : Int), .int .u8 0, .int .u8 0, .int .u8 0, .int .u8 0, .int .u8 0, .int .u8 0, .int .u8 0] 23)) := by
  have h := run_copy_string (P := Try.prog) (w.alloc (.cells #[.int .u8 0, .int .u8 0, .int .u8 0, .int .u8 0, .int .u8 0, .int .u8 0, .int .u8 0, .int .u8 0] 23)) 36 9 ty 5 w.heap.size 0 8 8 (Pl.str ([c0] : List UInt8)) (by kernel_rfl) (fun w => by kernel_rfl) (by rw [Pl.str_size]; simp) (fun j hj => cell_zero w _ j (by have h0 : (Pl.str ([c0] : List UInt8)).size ≤ 8 := (by rw [Pl.str_size]; simp); omega)) (fun j hj => by simp)
  refine h.trans ?_
  refine congrArg (Result.ok _) ?_
  exact (setCells_alloc w _ _ _ _).trans (by kernel_rfl)
theorem copy_2 (c0 c1 : UInt8) (ty : TypeId) (w : World) : (Builtin.copy_ #[36, 9] ty #[.slice (some ⟨w.heap.size, 0, none⟩) 8 8, .string (Pl.str ([c0, c1] : List UInt8))]).run Try.prog (w.alloc (.cells #[.int .u8 0, .int .u8 0, .int .u8 0, .int .u8 0, .int .u8 0, .int .u8 0, .int .u8 0, .int .u8 0] 23)) = .ok (.int .i64 2) (w.alloc (.cells #[.int .u8 (c0.toNat : Int), .int .u8 (c1.toNat : Int), .int .u8 0, .int .u8 0, .int .u8 0, .int .u8 0, .int .u8 0, .int .u8 0] 23)) := by
  have h := run_copy_string (P := Try.prog) (w.alloc (.cells #[.int .u8 0, .int .u8 0, .int .u8 0, .int .u8 0, .int .u8 0, .int .u8 0, .int .u8 0, .int .u8 0] 23)) 36 9 ty 5 w.heap.size 0 8 8 (Pl.str ([c0, c1] : List UInt8)) (by kernel_rfl) (fun w => by kernel_rfl) (by rw [Pl.str_size]; simp) (fun j hj => cell_zero w _ j (by have h0 : (Pl.str ([c0, c1] : List UInt8)).size ≤ 8 := (by rw [Pl.str_size]; simp); omega)) (fun j hj => by simp)
  refine h.trans ?_
  refine congrArg (Result.ok _) ?_
  exact (setCells_alloc w _ _ _ _).trans (by kernel_rfl)
theorem copy_3 (c0 c1 c2 : UInt8) (ty : TypeId) (w : World) : (Builtin.copy_ #[36, 9] ty #[.slice (some ⟨w.heap.size, 0, none⟩) 8 8, .string (Pl.str ([c0, c1, c2] : List UInt8))]).run Try.prog (w.alloc (.cells #[.int .u8 0, .int .u8 0, .int .u8 0, .int .u8 0, .int .u8 0, .int .u8 0, .int .u8 0, .int .u8 0] 23)) = .ok (.int .i64 3) (w.alloc (.cells #[.int .u8 (c0.toNat : Int), .int .u8 (c1.toNat : Int), .int .u8 (c2.toNat : Int), .int .u8 0, .int .u8 0, .int .u8 0, .int .u8 0, .int .u8 0] 23)) := by
  have h := run_copy_string (P := Try.prog) (w.alloc (.cells #[.int .u8 0, .int .u8 0, .int .u8 0, .int .u8 0, .int .u8 0, .int .u8 0, .int .u8 0, .int .u8 0] 23)) 36 9 ty 5 w.heap.size 0 8 8 (Pl.str ([c0, c1, c2] : List UInt8)) (by kernel_rfl) (fun w => by kernel_rfl) (by rw [Pl.str_size]; simp) (fun j hj => cell_zero w _ j (by have h0 : (Pl.str ([c0, c1, c2] : List UInt8)).size ≤ 8 := (by rw [Pl.str_size]; simp); omega)) (fun j hj => by simp)
  refine h.trans ?_
  refine congrArg (Result.ok _) ?_
  exact (setCells_alloc w _ _ _ _).trans (by kernel_rfl)
theorem copy_4 (c0 c1 c2 c3 : UInt8) (ty : TypeId) (w : World) : (Builtin.copy_ #[36, 9] ty #[.slice (some ⟨w.heap.size, 0, none⟩) 8 8, .string (Pl.str ([c0, c1, c2, c3] : List UInt8))]).run Try.prog (w.alloc (.cells #[.int .u8 0, .int .u8 0, .int .u8 0, .int .u8 0, .int .u8 0, .int .u8 0, .int .u8 0, .int .u8 0] 23)) = .ok (.int .i64 4) (w.alloc (.cells #[.int .u8 (c0.toNat : Int), .int .u8 (c1.toNat : Int), .int .u8 (c2.toNat : Int), .int .u8 (c3.toNat : Int), .int .u8 0, .int .u8 0, .int .u8 0, .int .u8 0] 23)) := by
  have h := run_copy_string (P := Try.prog) (w.alloc (.cells #[.int .u8 0, .int .u8 0, .int .u8 0, .int .u8 0, .int .u8 0, .int .u8 0, .int .u8 0, .int .u8 0] 23)) 36 9 ty 5 w.heap.size 0 8 8 (Pl.str ([c0, c1, c2, c3] : List UInt8)) (by kernel_rfl) (fun w => by kernel_rfl) (by rw [Pl.str_size]; simp) (fun j hj => cell_zero w _ j (by have h0 : (Pl.str ([c0, c1, c2, c3] : List UInt8)).size ≤ 8 := (by rw [Pl.str_size]; simp); omega)) (fun j hj => by simp)
  refine h.trans ?_
  refine congrArg (Result.ok _) ?_
  exact (setCells_alloc w _ _ _ _).trans (by kernel_rfl)
theorem copy_5 (c0 c1 c2 c3 c4 : UInt8) (ty : TypeId) (w : World) : (Builtin.copy_ #[36, 9] ty #[.slice (some ⟨w.heap.size, 0, none⟩) 8 8, .string (Pl.str ([c0, c1, c2, c3, c4] : List UInt8))]).run Try.prog (w.alloc (.cells #[.int .u8 0, .int .u8 0, .int .u8 0, .int .u8 0, .int .u8 0, .int .u8 0, .int .u8 0, .int .u8 0] 23)) = .ok (.int .i64 5) (w.alloc (.cells #[.int .u8 (c0.toNat : Int), .int .u8 (c1.toNat : Int), .int .u8 (c2.toNat : Int), .int .u8 (c3.toNat : Int), .int .u8 (c4.toNat : Int), .int .u8 0, .int .u8 0, .int .u8 0] 23)) := by
  have h := run_copy_string (P := Try.prog) (w.alloc (.cells #[.int .u8 0, .int .u8 0, .int .u8 0, .int .u8 0, .int .u8 0, .int .u8 0, .int .u8 0, .int .u8 0] 23)) 36 9 ty 5 w.heap.size 0 8 8 (Pl.str ([c0, c1, c2, c3, c4] : List UInt8)) (by kernel_rfl) (fun w => by kernel_rfl) (by rw [Pl.str_size]; simp) (fun j hj => cell_zero w _ j (by have h0 : (Pl.str ([c0, c1, c2, c3, c4] : List UInt8)).size ≤ 8 := (by rw [Pl.str_size]; simp); omega)) (fun j hj => by simp)
  refine h.trans ?_
  refine congrArg (Result.ok _) ?_
  exact (setCells_alloc w _ _ _ _).trans (by kernel_rfl)
theorem copy_6 (c0 c1 c2 c3 c4 c5 : UInt8) (ty : TypeId) (w : World) : (Builtin.copy_ #[36, 9] ty #[.slice (some ⟨w.heap.size, 0, none⟩) 8 8, .string (Pl.str ([c0, c1, c2, c3, c4, c5] : List UInt8))]).run Try.prog (w.alloc (.cells #[.int .u8 0, .int .u8 0, .int .u8 0, .int .u8 0, .int .u8 0, .int .u8 0, .int .u8 0, .int .u8 0] 23)) = .ok (.int .i64 6) (w.alloc (.cells #[.int .u8 (c0.toNat : Int), .int .u8 (c1.toNat : Int), .int .u8 (c2.toNat : Int), .int .u8 (c3.toNat : Int), .int .u8 (c4.toNat : Int), .int .u8 (c5.toNat : Int), .int .u8 0, .int .u8 0] 23)) := by
  have h := run_copy_string (P := Try.prog) (w.alloc (.cells #[.int .u8 0, .int .u8 0, .int .u8 0, .int .u8 0, .int .u8 0, .int .u8 0, .int .u8 0, .int .u8 0] 23)) 36 9 ty 5 w.heap.size 0 8 8 (Pl.str ([c0, c1, c2, c3, c4, c5] : List UInt8)) (by kernel_rfl) (fun w => by kernel_rfl) (by rw [Pl.str_size]; simp) (fun j hj => cell_zero w _ j (by have h0 : (Pl.str ([c0, c1, c2, c3, c4, c5] : List UInt8)).size ≤ 8 := (by rw [Pl.str_size]; simp); omega)) (fun j hj => by simp)
  refine h.trans ?_
  refine congrArg (Result.ok _) ?_
  exact (setCells_alloc w _ _ _ _).trans (by kernel_rfl)
theorem copy_7 (c0 c1 c2 c3 c4 c5 c6 : UInt8) (ty : TypeId) (w : World) : (Builtin.copy_ #[36, 9] ty #[.slice (some ⟨w.heap.size, 0, none⟩) 8 8, .string (Pl.str ([c0, c1, c2, c3, c4, c5, c6] : List UInt8))]).run Try.prog (w.alloc (.cells #[.int .u8 0, .int .u8 0, .int .u8 0, .int .u8 0, .int .u8 0, .int .u8 0, .int .u8 0, .int .u8 0] 23)) = .ok (.int .i64 7) (w.alloc (.cells #[.int .u8 (c0.toNat : Int), .int .u8 (c1.toNat : Int), .int .u8 (c2.toNat : Int), .int .u8 (c3.toNat : Int), .int .u8 (c4.toNat : Int), .int .u8 (c5.toNat : Int), .int .u8 (c6.toNat : Int), .int .u8 0] 23)) := by
  have h := run_copy_string (P := Try.prog) (w.alloc (.cells #[.int .u8 0, .int .u8 0, .int .u8 0, .int .u8 0, .int .u8 0, .int .u8 0, .int .u8 0, .int .u8 0] 23)) 36 9 ty 5 w.heap.size 0 8 8 (Pl.str ([c0, c1, c2, c3, c4, c5, c6] : List UInt8)) (by kernel_rfl) (fun w => by kernel_rfl) (by rw [Pl.str_size]; simp) (fun j hj => cell_zero w _ j (by have h0 : (Pl.str ([c0, c1, c2, c3, c4, c5, c6] : List UInt8)).size ≤ 8 := (by rw [Pl.str_size]; simp); omega)) (fun j hj => by simp)
  refine h.trans ?_
  refine congrArg (Result.ok _) ?_
  exact (setCells_alloc w _ _ _ _).trans (by kernel_rfl)
theorem copy_8 (c0 c1 c2 c3 c4 c5 c6 c7 : UInt8) (ty : TypeId) (w : World) : (Builtin.copy_ #[36, 9] ty #[.slice (some ⟨w.heap.size, 0, none⟩) 8 8, .string (Pl.str ([c0, c1, c2, c3, c4, c5, c6, c7] : List UInt8))]).run Try.prog (w.alloc (.cells #[.int .u8 0, .int .u8 0, .int .u8 0, .int .u8 0, .int .u8 0, .int .u8 0, .int .u8 0, .int .u8 0] 23)) = .ok (.int .i64 8) (w.alloc (.cells #[.int .u8 (c0.toNat : Int), .int .u8 (c1.toNat : Int), .int .u8 (c2.toNat : Int), .int .u8 (c3.toNat : Int), .int .u8 (c4.toNat : Int), .int .u8 (c5.toNat : Int), .int .u8 (c6.toNat : Int), .int .u8 (c7.toNat : Int)] 23)) := by
  have h := run_copy_string (P := Try.prog) (w.alloc (.cells #[.int .u8 0, .int .u8 0, .int .u8 0, .int .u8 0, .int .u8 0, .int .u8 0, .int .u8 0, .int .u8 0] 23)) 36 9 ty 5 w.heap.size 0 8 8 (Pl.str ([c0, c1, c2, c3, c4, c5, c6, c7] : List UInt8)) (by kernel_rfl) (fun w => by kernel_rfl) (by rw [Pl.str_size]; simp) (fun j hj => cell_zero w _ j (by have h0 : (Pl.str ([c0, c1, c2, c3, c4, c5, c6, c7] : List UInt8)).size ≤ 8 := (by rw [Pl.str_size]; simp); omega)) (fun j hj => by simp)
  refine h.trans ?_
  refine congrArg (Result.ok _) ?_
  exact (setCells_alloc w _ _ _ _).trans (by kernel_rfl)
end Go.Proofs.Ytbhbcmngbdpfoaa
