/- The walk of the law NameBack. -/
import Derived.Test.YtbhbcmngbdpfoaaLb
namespace Go.Proofs.Ytbhbcmngbdpfoaa
open Go.RowKit
set_option linter.unusedVariables false
set_option linter.unusedSimpArgs false
set_option maxHeartbeats 4000000 in
theorem back_lt (n0 n1 n2 n3 n4 n5 n6 n7 m0 m1 m2 m3 m4 m5 m6 m7 : UInt8) (xn xm : Int) (hx : xn < xm) (c1 : ∀ W, Calls Try.prog 18 #[.agg #[.int .u8 (n0.toNat : Int), .int .u8 (n1.toNat : Int), .int .u8 (n2.toNat : Int), .int .u8 (n3.toNat : Int), .int .u8 (n4.toNat : Int), .int .u8 (n5.toNat : Int), .int .u8 (n6.toNat : Int), .int .u8 (n7.toNat : Int)], .agg #[.int .u8 (m0.toNat : Int), .int .u8 (m1.toNat : Int), .int .u8 (m2.toNat : Int), .int .u8 (m3.toNat : Int), .int .u8 (m4.toNat : Int), .int .u8 (m5.toNat : Int), .int .u8 (m6.toNat : Int), .int .u8 (m7.toNat : Int)]] W fun e w' => e = .returned (.bool true) ∧ Below W.heap.size W w') (c2 : ∀ W, Calls Try.prog 18 #[.agg #[.int .u8 (m0.toNat : Int), .int .u8 (m1.toNat : Int), .int .u8 (m2.toNat : Int), .int .u8 (m3.toNat : Int), .int .u8 (m4.toNat : Int), .int .u8 (m5.toNat : Int), .int .u8 (m6.toNat : Int), .int .u8 (m7.toNat : Int)], .agg #[.int .u8 (n0.toNat : Int), .int .u8 (n1.toNat : Int), .int .u8 (n2.toNat : Int), .int .u8 (n3.toNat : Int), .int .u8 (n4.toNat : Int), .int .u8 (n5.toNat : Int), .int .u8 (n6.toNat : Int), .int .u8 (n7.toNat : Int)]] W fun e w' => e = .returned (.bool false) ∧ Below W.heap.size W w') (c3 : ∀ W, Calls Try.prog 16 #[.agg #[.int .u8 (n0.toNat : Int), .int .u8 (n1.toNat : Int), .int .u8 (n2.toNat : Int), .int .u8 (n3.toNat : Int), .int .u8 (n4.toNat : Int), .int .u8 (n5.toNat : Int), .int .u8 (n6.toNat : Int), .int .u8 (n7.toNat : Int)]] W fun e w' => e = .returned (.int .u64 xn) ∧ W.alloc (.cells #[.int .u8 (n0.toNat : Int), .int .u8 (n1.toNat : Int), .int .u8 (n2.toNat : Int), .int .u8 (n3.toNat : Int), .int .u8 (n4.toNat : Int), .int .u8 (n5.toNat : Int), .int .u8 (n6.toNat : Int), .int .u8 (n7.toNat : Int)] 23) = w') (c4 : ∀ W, Calls Try.prog 16 #[.agg #[.int .u8 (m0.toNat : Int), .int .u8 (m1.toNat : Int), .int .u8 (m2.toNat : Int), .int .u8 (m3.toNat : Int), .int .u8 (m4.toNat : Int), .int .u8 (m5.toNat : Int), .int .u8 (m6.toNat : Int), .int .u8 (m7.toNat : Int)]] W fun e w' => e = .returned (.int .u64 xm) ∧ W.alloc (.cells #[.int .u8 (m0.toNat : Int), .int .u8 (m1.toNat : Int), .int .u8 (m2.toNat : Int), .int .u8 (m3.toNat : Int), .int .u8 (m4.toNat : Int), .int .u8 (m5.toNat : Int), .int .u8 (m6.toNat : Int), .int .u8 (m7.toNat : Int)] 23) = w') (heq : ∀ W, (binOp .eql 23 (.agg #[.int .u8 (n0.toNat : Int), .int .u8 (n1.toNat : Int), .int .u8 (n2.toNat : Int), .int .u8 (n3.toNat : Int), .int .u8 (n4.toNat : Int), .int .u8 (n5.toNat : Int), .int .u8 (n6.toNat : Int), .int .u8 (n7.toNat : Int)]) (.agg #[.int .u8 (m0.toNat : Int), .int .u8 (m1.toNat : Int), .int .u8 (m2.toNat : Int), .int .u8 (m3.toNat : Int), .int .u8 (m4.toNat : Int), .int .u8 (m5.toNat : Int), .int .u8 (m6.toNat : Int), .int .u8 (m7.toNat : Int)])).run Try.prog W = .ok (.bool false) W) (r : Bool) (tx : ByteArray) (c5 : ∀ W, Calls Try.prog 11 #[.agg #[.int .u8 (n0.toNat : Int), .int .u8 (n1.toNat : Int), .int .u8 (n2.toNat : Int), .int .u8 (n3.toNat : Int), .int .u8 (n4.toNat : Int), .int .u8 (n5.toNat : Int), .int .u8 (n6.toNat : Int), .int .u8 (n7.toNat : Int)]] W fun e w' => e = .returned (.bool r) ∧ ((W.alloc (.cells #[.int .u8 (n0.toNat : Int), .int .u8 (n1.toNat : Int), .int .u8 (n2.toNat : Int), .int .u8 (n3.toNat : Int), .int .u8 (n4.toNat : Int), .int .u8 (n5.toNat : Int), .int .u8 (n6.toNat : Int), .int .u8 (n7.toNat : Int)] 23)).alloc (.cells #[.int .u8 (n0.toNat : Int), .int .u8 (n1.toNat : Int), .int .u8 (n2.toNat : Int), .int .u8 (n3.toNat : Int), .int .u8 (n4.toNat : Int), .int .u8 (n5.toNat : Int), .int .u8 (n6.toNat : Int), .int .u8 (n7.toNat : Int)] 23)) = w') (c6 : ∀ W, Calls Try.prog 9 #[.agg #[.int .u8 (n0.toNat : Int), .int .u8 (n1.toNat : Int), .int .u8 (n2.toNat : Int), .int .u8 (n3.toNat : Int), .int .u8 (n4.toNat : Int), .int .u8 (n5.toNat : Int), .int .u8 (n6.toNat : Int), .int .u8 (n7.toNat : Int)]] W fun e w' => e = .returned (.string tx) ∧ ((W.alloc (.cells #[.int .u8 (n0.toNat : Int), .int .u8 (n1.toNat : Int), .int .u8 (n2.toNat : Int), .int .u8 (n3.toNat : Int), .int .u8 (n4.toNat : Int), .int .u8 (n5.toNat : Int), .int .u8 (n6.toNat : Int), .int .u8 (n7.toNat : Int)] 23)).alloc (.cells #[.int .u8 (n0.toNat : Int), .int .u8 (n1.toNat : Int), .int .u8 (n2.toNat : Int), .int .u8 (n3.toNat : Int), .int .u8 (n4.toNat : Int), .int .u8 (n5.toNat : Int), .int .u8 (n6.toNat : Int), .int .u8 (n7.toNat : Int)] 23)) = w') (c7 : r = true → ∀ W, Calls Try.prog 7 #[.string tx] W fun e w' => e = .returned (.tuple #[.agg #[.int .u8 (n0.toNat : Int), .int .u8 (n1.toNat : Int), .int .u8 (n2.toNat : Int), .int .u8 (n3.toNat : Int), .int .u8 (n4.toNat : Int), .int .u8 (n5.toNat : Int), .int .u8 (n6.toNat : Int), .int .u8 (n7.toNat : Int)], .int .i64 0]) ∧ Below W.heap.size W w') (c8 : r = true → ∀ W, Calls Try.prog 14 #[.int .u64 xn] W fun e w' => e = .returned (.tuple #[.agg #[.int .u8 (n0.toNat : Int), .int .u8 (n1.toNat : Int), .int .u8 (n2.toNat : Int), .int .u8 (n3.toNat : Int), .int .u8 (n4.toNat : Int), .int .u8 (n5.toNat : Int), .int .u8 (n6.toNat : Int), .int .u8 (n7.toNat : Int)], .int .i64 0]) ∧ Below W.heap.size W w') (c9 : r = true → ∀ W, Calls Try.prog 13 #[.agg #[.int .u8 (n0.toNat : Int), .int .u8 (n1.toNat : Int), .int .u8 (n2.toNat : Int), .int .u8 (n3.toNat : Int), .int .u8 (n4.toNat : Int), .int .u8 (n5.toNat : Int), .int .u8 (n6.toNat : Int), .int .u8 (n7.toNat : Int)]] W fun e w' => e = .returned (.bool true) ∧ W.alloc (.cells #[.int .u8 (n0.toNat : Int), .int .u8 (n1.toNat : Int), .int .u8 (n2.toNat : Int), .int .u8 (n3.toNat : Int), .int .u8 (n4.toNat : Int), .int .u8 (n5.toNat : Int), .int .u8 (n6.toNat : Int), .int .u8 (n7.toNat : Int)] 23) = w') (w : World) : Calls Try.prog 5 #[.agg #[.int .u8 (n0.toNat : Int), .int .u8 (n1.toNat : Int), .int .u8 (n2.toNat : Int), .int .u8 (n3.toNat : Int), .int .u8 (n4.toNat : Int), .int .u8 (n5.toNat : Int), .int .u8 (n6.toNat : Int), .int .u8 (n7.toNat : Int)], .agg #[.int .u8 (m0.toNat : Int), .int .u8 (m1.toNat : Int), .int .u8 (m2.toNat : Int), .int .u8 (m3.toNat : Int), .int .u8 (m4.toNat : Int), .int .u8 (m5.toNat : Int), .int .u8 (m6.toNat : Int), .int .u8 (m7.toNat : Int)]] w fun e w' => e = .returned (.bool true) ∧ Below w.heap.size w w' := by
  have hd := (decide_eq_true hx : decide (xn < xm) = true)
  have ca := fun W => alive_any W
  have hnn : ∀ W, (binOp .eql 23 (.agg #[.int .u8 (n0.toNat : Int), .int .u8 (n1.toNat : Int), .int .u8 (n2.toNat : Int), .int .u8 (n3.toNat : Int), .int .u8 (n4.toNat : Int), .int .u8 (n5.toNat : Int), .int .u8 (n6.toNat : Int), .int .u8 (n7.toNat : Int)]) (.agg #[.int .u8 (n0.toNat : Int), .int .u8 (n1.toNat : Int), .int .u8 (n2.toNat : Int), .int .u8 (n3.toNat : Int), .int .u8 (n4.toNat : Int), .int .u8 (n5.toNat : Int), .int .u8 (n6.toNat : Int), .int .u8 (n7.toNat : Int)])).run Try.prog W = .ok (.bool true) W := fun W => by rw [eql_name]; simp
  go_enter Try.func5, Try.ntmps5
  go_wp2
  refine wp_region_held_drew (S := (fun w' => (w'.cell? ⟨w.heap.size, 0, none⟩ = some (.int .u8 (n0.toNat : Int)) ∧ w'.cell? ⟨w.heap.size, 1, none⟩ = some (.int .u8 (n1.toNat : Int)) ∧ w'.cell? ⟨w.heap.size, 2, none⟩ = some (.int .u8 (n2.toNat : Int)) ∧ w'.cell? ⟨w.heap.size, 3, none⟩ = some (.int .u8 (n3.toNat : Int)) ∧ w'.cell? ⟨w.heap.size, 4, none⟩ = some (.int .u8 (n4.toNat : Int)) ∧ w'.cell? ⟨w.heap.size, 5, none⟩ = some (.int .u8 (n5.toNat : Int)) ∧ w'.cell? ⟨w.heap.size, 6, none⟩ = some (.int .u8 (n6.toNat : Int)) ∧ w'.cell? ⟨w.heap.size, 7, none⟩ = some (.int .u8 (n7.toNat : Int))) ∧ (w'.cell? ⟨w.heap.size + 1, 0, none⟩ = some (.int .u8 (m0.toNat : Int)) ∧ w'.cell? ⟨w.heap.size + 1, 1, none⟩ = some (.int .u8 (m1.toNat : Int)) ∧ w'.cell? ⟨w.heap.size + 1, 2, none⟩ = some (.int .u8 (m2.toNat : Int)) ∧ w'.cell? ⟨w.heap.size + 1, 3, none⟩ = some (.int .u8 (m3.toNat : Int)) ∧ w'.cell? ⟨w.heap.size + 1, 4, none⟩ = some (.int .u8 (m4.toNat : Int)) ∧ w'.cell? ⟨w.heap.size + 1, 5, none⟩ = some (.int .u8 (m5.toNat : Int)) ∧ w'.cell? ⟨w.heap.size + 1, 6, none⟩ = some (.int .u8 (m6.toNat : Int)) ∧ w'.cell? ⟨w.heap.size + 1, 7, none⟩ = some (.int .u8 (m7.toNat : Int))))) (by kernel_rfl) ?_ (fun hHeld => ?_)
  · ((try go_split_ands); repeat' (first | (with_reducible assumption) | apply And.intro | (rw [World.cell?_drew]) | (rw [World.cell?_alloc_new]; rfl) | ((with_reducible refine cellAt ?_ ?_); (focus (simp; done)); rfl) | (with_reducible refine keep1 ?_) | ((with_reducible apply keepB); focus (with_reducible assumption))))
  refine wpAnyH_take (i := 0) (oi := { dst := some 9, op := Op.load 23 (Operand.tmp 2), type := 23, pos := "law.go:35", after := #[], guard := none }) (v := ?_) rfl (by kernel_rfl) (by kernel_rfl) (by kernel_rfl) (fun _ _ _ h => h) (Or.inl ⟨by rfl, ?_⟩) (by assumption) ?_
  rotate_left
  · (intro w hSw; (try dsimp only at hSw); go_simp; try with_reducible rfl)
  try simp only [Act.put, List.setIfInBounds_toArray, List.set_cons_zero, List.set_cons_succ]
  refine wpAnyH_take (i := 1) (oi := { dst := some 10, op := Op.load 23 (Operand.tmp 3), type := 23, pos := "law.go:35", after := #[], guard := none }) (v := ?_) rfl (by kernel_rfl) (by kernel_rfl) (by kernel_rfl) (fun _ _ _ h => h) (Or.inl ⟨by rfl, ?_⟩) (by assumption) ?_
  rotate_left
  · (intro w hSw; (try dsimp only at hSw); go_simp; try with_reducible rfl)
  try simp only [Act.put, List.setIfInBounds_toArray, List.set_cons_zero, List.set_cons_succ]
  refine wpAnyH_take (i := 3) (oi := { dst := some 12, op := Op.load 23 (Operand.tmp 2), type := 23, pos := "law.go:35", after := #[], guard := none }) (v := ?_) rfl (by kernel_rfl) (by kernel_rfl) (by kernel_rfl) (fun _ _ _ h => h) (Or.inl ⟨by rfl, ?_⟩) (by assumption) ?_
  rotate_left
  · (intro w hSw; (try dsimp only at hSw); go_simp; try with_reducible rfl)
  try simp only [Act.put, List.setIfInBounds_toArray, List.set_cons_zero, List.set_cons_succ]
  refine wpAnyH_take (i := 5) (oi := { dst := some 14, op := Op.load 23 (Operand.tmp 3), type := 23, pos := "law.go:35", after := #[], guard := none }) (v := ?_) rfl (by kernel_rfl) (by kernel_rfl) (by kernel_rfl) (fun _ _ _ h => h) (Or.inl ⟨by rfl, ?_⟩) (by assumption) ?_
  rotate_left
  · (intro w hSw; (try dsimp only at hSw); go_simp; try with_reducible rfl)
  try simp only [Act.put, List.setIfInBounds_toArray, List.set_cons_zero, List.set_cons_succ]
  refine wpAnyH_ready (rs := [2]) (by kernel_rfl) (by simp) ?_
  refine AllReadyH.cons (o := { dst := some 11, op := Op.call { callee := Callee.value (Operand.func 18), args := #[Operand.tmp 9, Operand.tmp 10], argTypes := #[23, 23] }, type := 4, pos := "law.go:35", after := #[{ on := 0, ground := Ground.data }, { on := 1, ground := Ground.data }], guard := none }) rfl (fun K hK => ?_) (by exact AllReadyH.nil)
  go_simp
  (first | (go_at_call 18; first | ((with_reducible refine (c1 _).mono ?_); rintro e w9 ⟨rfl, hb9⟩; have hu9 := up (w := w) (by go_grown) hb9; have hv9 := hu9.size; have hs9 := hb9.size; have hb9 := hb9) | ((with_reducible refine (c2 _).mono ?_); rintro e w9 ⟨rfl, hb9⟩; have hu9 := up (w := w) (by go_grown) hb9; have hv9 := hu9.size; have hs9 := hb9.size; have hb9 := hb9)) | (go_at_call 16; first | ((with_reducible refine (c3 _).mono ?_); rintro e w' ⟨rfl, rfl⟩) | ((with_reducible refine (c4 _).mono ?_); rintro e w' ⟨rfl, rfl⟩)))
  refine hK.out _ _ ?_ (fun hHeld2 => ?_)
  · ((try go_split_ands); repeat' (first | (with_reducible assumption) | apply And.intro | (rw [World.cell?_drew]) | (rw [World.cell?_alloc_new]; rfl) | ((with_reducible refine cellAt ?_ ?_); (focus (simp; done)); rfl) | (with_reducible refine keep1 ?_) | ((with_reducible apply keepB); focus (with_reducible assumption))))
  clear hK K hHeld
  have hHeld := hHeld2
  clear hHeld2
  try simp only [Act.put, List.setIfInBounds_toArray, List.set_cons_zero, List.set_cons_succ]
  refine wpAnyH_ready (rs := [4]) (by kernel_rfl) (by simp) ?_
  refine AllReadyH.cons (o := { dst := some 13, op := Op.call { callee := Callee.value (Operand.func 16), args := #[Operand.tmp 12], argTypes := #[23] }, type := 31, pos := "law.go:35", after := #[{ on := 3, ground := Ground.data }, { on := 2, ground := Ground.chain }], guard := none }) rfl (fun K hK => ?_) (by exact AllReadyH.nil)
  go_simp
  (first | (go_at_call 18; first | ((with_reducible refine (c1 _).mono ?_); rintro e w9 ⟨rfl, hb9⟩; have hu9 := up (w := w) (by go_grown) hb9; have hv9 := hu9.size; have hs9 := hb9.size; have hb9 := hb9) | ((with_reducible refine (c2 _).mono ?_); rintro e w9 ⟨rfl, hb9⟩; have hu9 := up (w := w) (by go_grown) hb9; have hv9 := hu9.size; have hs9 := hb9.size; have hb9 := hb9)) | (go_at_call 16; first | ((with_reducible refine (c3 _).mono ?_); rintro e w' ⟨rfl, rfl⟩) | ((with_reducible refine (c4 _).mono ?_); rintro e w' ⟨rfl, rfl⟩)))
  refine hK.out _ _ ?_ (fun hHeld2 => ?_)
  · ((try go_split_ands); repeat' (first | (with_reducible assumption) | apply And.intro | (rw [World.cell?_drew]) | (rw [World.cell?_alloc_new]; rfl) | ((with_reducible refine cellAt ?_ ?_); (focus (simp; done)); rfl) | (with_reducible refine keep1 ?_) | ((with_reducible apply keepB); focus (with_reducible assumption))))
  clear hK K hHeld
  have hHeld := hHeld2
  clear hHeld2
  try simp only [Act.put, List.setIfInBounds_toArray, List.set_cons_zero, List.set_cons_succ]
  refine wpAnyH_ready (rs := [6]) (by kernel_rfl) (by simp) ?_
  refine AllReadyH.cons (o := { dst := some 15, op := Op.call { callee := Callee.value (Operand.func 16), args := #[Operand.tmp 14], argTypes := #[23] }, type := 31, pos := "law.go:35", after := #[{ on := 5, ground := Ground.data }, { on := 4, ground := Ground.chain }], guard := none }) rfl (fun K hK => ?_) (by exact AllReadyH.nil)
  go_simp
  (first | (go_at_call 18; first | ((with_reducible refine (c1 _).mono ?_); rintro e w9 ⟨rfl, hb9⟩; have hu9 := up (w := w) (by go_grown) hb9; have hv9 := hu9.size; have hs9 := hb9.size; have hb9 := hb9) | ((with_reducible refine (c2 _).mono ?_); rintro e w9 ⟨rfl, hb9⟩; have hu9 := up (w := w) (by go_grown) hb9; have hv9 := hu9.size; have hs9 := hb9.size; have hb9 := hb9)) | (go_at_call 16; first | ((with_reducible refine (c3 _).mono ?_); rintro e w' ⟨rfl, rfl⟩) | ((with_reducible refine (c4 _).mono ?_); rintro e w' ⟨rfl, rfl⟩)))
  refine hK.out _ _ ?_ (fun hHeld2 => ?_)
  · ((try go_split_ands); repeat' (first | (with_reducible assumption) | apply And.intro | (rw [World.cell?_drew]) | (rw [World.cell?_alloc_new]; rfl) | ((with_reducible refine cellAt ?_ ?_); (focus (simp; done)); rfl) | (with_reducible refine keep1 ?_) | ((with_reducible apply keepB); focus (with_reducible assumption))))
  clear hK K hHeld
  have hHeld := hHeld2
  clear hHeld2
  try simp only [Act.put, List.setIfInBounds_toArray, List.set_cons_zero, List.set_cons_succ]
  refine wpAnyH_take (i := 7) (oi := { dst := some 16, op := Op.binOp BinOp.lss 31 (Operand.tmp 13) (Operand.tmp 15) 31, type := 4, pos := "law.go:35", after := #[{ on := 4, ground := Ground.data }, { on := 6, ground := Ground.data }], guard := none }) (v := ?_) rfl (by kernel_rfl) (by kernel_rfl) (by kernel_rfl) (fun _ _ _ h => h) (Or.inl ⟨by rfl, ?_⟩) (by assumption) ?_
  rotate_left
  · (intro w hSw; (try dsimp only at hSw); go_simp; try with_reducible rfl)
  try simp only [Act.put, List.setIfInBounds_toArray, List.set_cons_zero, List.set_cons_succ]
  refine wpAnyH_take (i := 8) (oi := { dst := some 17, op := Op.binOp BinOp.neq 4 (Operand.tmp 11) (Operand.tmp 16) 4, type := 4, pos := "law.go:35", after := #[{ on := 2, ground := Ground.data }, { on := 7, ground := Ground.data }], guard := none }) (v := ?_) rfl (by kernel_rfl) (by kernel_rfl) (by kernel_rfl) (fun _ _ _ h => h) (Or.inl ⟨by rfl, ?_⟩) (by assumption) ?_
  rotate_left
  · (intro w hSw; (try dsimp only at hSw); go_simp; try with_reducible rfl)
  try simp only [Act.put, List.setIfInBounds_toArray, List.set_cons_zero, List.set_cons_succ]
  refine wpAnyH_take (i := 9) (oi := { dst := some 18, op := Op.move (Operand.tmp 17), type := 4, pos := "law.go:35", after := #[{ on := 8, ground := Ground.data }, { on := 6, ground := Ground.chain }], guard := none }) (v := ?_) rfl (by kernel_rfl) (by kernel_rfl) (by kernel_rfl) (fun _ _ _ h => h) (Or.inl ⟨by rfl, ?_⟩) (by assumption) ?_
  rotate_left
  · (intro w hSw; (try dsimp only at hSw); go_simp; try with_reducible rfl)
  try simp only [Act.put, List.setIfInBounds_toArray, List.set_cons_zero, List.set_cons_succ]
  refine wpAnyH_take (i := 10) (oi := { dst := some 19, op := Op.load 23 (Operand.tmp 2), type := 23, pos := "law.go:35", after := #[{ on := 9, ground := Ground.guard }], guard := some (9, false) }) (v := ?_) rfl (by kernel_rfl) (by kernel_rfl) (by kernel_rfl) (fun _ _ _ h => h) (Or.inl ⟨by rfl, ?_⟩) (by assumption) ?_
  rotate_left
  · (intro w hSw; (try dsimp only at hSw); go_simp; try with_reducible rfl)
  try simp only [Act.put, List.setIfInBounds_toArray, List.set_cons_zero, List.set_cons_succ]
  refine wpAnyH_take (i := 11) (oi := { dst := some 20, op := Op.load 23 (Operand.tmp 3), type := 23, pos := "law.go:35", after := #[{ on := 9, ground := Ground.guard }], guard := some (9, false) }) (v := ?_) rfl (by kernel_rfl) (by kernel_rfl) (by kernel_rfl) (fun _ _ _ h => h) (Or.inl ⟨by rfl, ?_⟩) (by assumption) ?_
  rotate_left
  · (intro w hSw; (try dsimp only at hSw); go_simp; try with_reducible rfl)
  try simp only [Act.put, List.setIfInBounds_toArray, List.set_cons_zero, List.set_cons_succ]
  refine wpAnyH_ready (rs := [12]) (by kernel_rfl) (by simp) ?_
  refine AllReadyH.cons (o := { dst := some 21, op := Op.call { callee := Callee.value (Operand.func 18), args := #[Operand.tmp 19, Operand.tmp 20], argTypes := #[23, 23] }, type := 4, pos := "law.go:35", after := #[{ on := 10, ground := Ground.data }, { on := 11, ground := Ground.data }, { on := 9, ground := Ground.chain }, { on := 9, ground := Ground.guard }], guard := some (9, false) }) rfl (fun K hK => ?_) (by exact AllReadyH.nil)
  go_simp
  (first | (go_at_call 18; first | ((with_reducible refine (c1 _).mono ?_); rintro e w9 ⟨rfl, hb9⟩; have hu9 := up (w := w) (by go_grown) hb9; have hv9 := hu9.size; have hs9 := hb9.size; have hb9 := hb9) | ((with_reducible refine (c2 _).mono ?_); rintro e w9 ⟨rfl, hb9⟩; have hu9 := up (w := w) (by go_grown) hb9; have hv9 := hu9.size; have hs9 := hb9.size; have hb9 := hb9)) | (go_at_call 16; first | ((with_reducible refine (c3 _).mono ?_); rintro e w' ⟨rfl, rfl⟩) | ((with_reducible refine (c4 _).mono ?_); rintro e w' ⟨rfl, rfl⟩)))
  refine hK.out _ _ ?_ (fun hHeld2 => ?_)
  · ((try go_split_ands); repeat' (first | (with_reducible assumption) | apply And.intro | (rw [World.cell?_drew]) | (rw [World.cell?_alloc_new]; rfl) | ((with_reducible refine cellAt ?_ ?_); (focus (simp; done)); rfl) | (with_reducible refine keep1 ?_) | ((with_reducible apply keepB); focus (with_reducible assumption))))
  clear hK K hHeld
  have hHeld := hHeld2
  clear hHeld2
  try simp only [Act.put, List.setIfInBounds_toArray, List.set_cons_zero, List.set_cons_succ]
  refine wpAnyH_take (i := 13) (oi := { dst := some 22, op := Op.move (Operand.tmp 21), type := 4, pos := "law.go:35", after := #[{ on := 12, ground := Ground.data }, { on := 12, ground := Ground.chain }, { on := 9, ground := Ground.guard }], guard := some (9, false) }) (v := ?_) rfl (by kernel_rfl) (by kernel_rfl) (by kernel_rfl) (fun _ _ _ h => h) (Or.inl ⟨by rfl, ?_⟩) (by assumption) ?_
  rotate_left
  · (intro w hSw; (try dsimp only at hSw); go_simp; try with_reducible rfl)
  try simp only [Act.put, List.setIfInBounds_toArray, List.set_cons_zero, List.set_cons_succ]
  refine wpAnyH_take (i := 14) (oi := { dst := some 23, op := Op.load 23 (Operand.tmp 3), type := 23, pos := "law.go:35", after := #[{ on := 13, ground := Ground.guard }], guard := some (13, true) }) (v := ?_) rfl (by kernel_rfl) (by kernel_rfl) (by kernel_rfl) (fun _ _ _ h => h) (Or.inl ⟨by rfl, ?_⟩) (by assumption) ?_
  rotate_left
  · (intro w hSw; (try dsimp only at hSw); go_simp; try with_reducible rfl)
  try simp only [Act.put, List.setIfInBounds_toArray, List.set_cons_zero, List.set_cons_succ]
  refine wpAnyH_take (i := 15) (oi := { dst := some 24, op := Op.load 23 (Operand.tmp 2), type := 23, pos := "law.go:35", after := #[{ on := 13, ground := Ground.guard }], guard := some (13, true) }) (v := ?_) rfl (by kernel_rfl) (by kernel_rfl) (by kernel_rfl) (fun _ _ _ h => h) (Or.inl ⟨by rfl, ?_⟩) (by assumption) ?_
  rotate_left
  · (intro w hSw; (try dsimp only at hSw); go_simp; try with_reducible rfl)
  try simp only [Act.put, List.setIfInBounds_toArray, List.set_cons_zero, List.set_cons_succ]
  refine wpAnyH_ready (rs := [16]) (by kernel_rfl) (by simp) ?_
  refine AllReadyH.cons (o := { dst := some 25, op := Op.call { callee := Callee.value (Operand.func 18), args := #[Operand.tmp 23, Operand.tmp 24], argTypes := #[23, 23] }, type := 4, pos := "law.go:35", after := #[{ on := 14, ground := Ground.data }, { on := 15, ground := Ground.data }, { on := 13, ground := Ground.chain }, { on := 13, ground := Ground.guard }], guard := some (13, true) }) rfl (fun K hK => ?_) (by exact AllReadyH.nil)
  go_simp
  (first | (go_at_call 18; first | ((with_reducible refine (c1 _).mono ?_); rintro e w9 ⟨rfl, hb9⟩; have hu9 := up (w := w) (by go_grown) hb9; have hv9 := hu9.size; have hs9 := hb9.size; have hb9 := hb9) | ((with_reducible refine (c2 _).mono ?_); rintro e w9 ⟨rfl, hb9⟩; have hu9 := up (w := w) (by go_grown) hb9; have hv9 := hu9.size; have hs9 := hb9.size; have hb9 := hb9)) | (go_at_call 16; first | ((with_reducible refine (c3 _).mono ?_); rintro e w' ⟨rfl, rfl⟩) | ((with_reducible refine (c4 _).mono ?_); rintro e w' ⟨rfl, rfl⟩)))
  refine hK.out _ _ ?_ (fun hHeld2 => ?_)
  · ((try go_split_ands); repeat' (first | (with_reducible assumption) | apply And.intro | (rw [World.cell?_drew]) | (rw [World.cell?_alloc_new]; rfl) | ((with_reducible refine cellAt ?_ ?_); (focus (simp; done)); rfl) | (with_reducible refine keep1 ?_) | ((with_reducible apply keepB); focus (with_reducible assumption))))
  clear hK K hHeld
  have hHeld := hHeld2
  clear hHeld2
  try simp only [Act.put, List.setIfInBounds_toArray, List.set_cons_zero, List.set_cons_succ]
  refine wpAnyH_take (i := 17) (oi := { dst := some 26, op := Op.pick (Operand.tmp 22) (Operand.tmp 25) (Operand.const (Value.bool false)), type := 4, pos := "law.go:35", after := #[{ on := 13, ground := Ground.data }, { on := 16, ground := Ground.data }, { on := 9, ground := Ground.guard }], guard := some (9, false) }) (v := ?_) rfl (by kernel_rfl) (by kernel_rfl) (by kernel_rfl) (fun _ _ _ h => h) (Or.inl ⟨by rfl, ?_⟩) (by assumption) ?_
  rotate_left
  · (intro w hSw; (try dsimp only at hSw); go_simp; try with_reducible rfl)
  try simp only [Act.put, List.setIfInBounds_toArray, List.set_cons_zero, List.set_cons_succ]
  refine wpAnyH_take (i := 18) (oi := { dst := some 27, op := Op.pick (Operand.tmp 18) (Operand.const (Value.bool true)) (Operand.tmp 26), type := 4, pos := "law.go:35", after := #[{ on := 9, ground := Ground.data }, { on := 17, ground := Ground.data }], guard := none }) (v := ?_) rfl (by kernel_rfl) (by kernel_rfl) (by kernel_rfl) (fun _ _ _ h => h) (Or.inl ⟨by rfl, ?_⟩) (by assumption) ?_
  rotate_left
  · (intro w hSw; (try dsimp only at hSw); go_simp; try with_reducible rfl)
  try simp only [Act.put, List.setIfInBounds_toArray, List.set_cons_zero, List.set_cons_succ]
  refine wpAnyH_take (i := 19) (oi := { dst := some 28, op := Op.move (Operand.tmp 27), type := 4, pos := "law.go:35", after := #[{ on := 18, ground := Ground.data }, { on := 16, ground := Ground.chain }], guard := none }) (v := ?_) rfl (by kernel_rfl) (by kernel_rfl) (by kernel_rfl) (fun _ _ _ h => h) (Or.inl ⟨by rfl, ?_⟩) (by assumption) ?_
  rotate_left
  · (intro w hSw; (try dsimp only at hSw); go_simp; try with_reducible rfl)
  try simp only [Act.put, List.setIfInBounds_toArray, List.set_cons_zero, List.set_cons_succ]
  refine wpAnyH_take (i := 20) (oi := { dst := some 29, op := Op.load 23 (Operand.tmp 2), type := 23, pos := "law.go:35", after := #[{ on := 19, ground := Ground.guard }], guard := some (19, false) }) (v := ?_) rfl (by kernel_rfl) (by kernel_rfl) (by kernel_rfl) (fun _ _ _ h => h) (Or.inl ⟨by rfl, ?_⟩) (by assumption) ?_
  rotate_left
  · (intro w hSw; (try dsimp only at hSw); go_simp; try with_reducible rfl)
  try simp only [Act.put, List.setIfInBounds_toArray, List.set_cons_zero, List.set_cons_succ]
  refine wpAnyH_take (i := 21) (oi := { dst := some 30, op := Op.load 23 (Operand.tmp 3), type := 23, pos := "law.go:35", after := #[{ on := 19, ground := Ground.guard }], guard := some (19, false) }) (v := ?_) rfl (by kernel_rfl) (by kernel_rfl) (by kernel_rfl) (fun _ _ _ h => h) (Or.inl ⟨by rfl, ?_⟩) (by assumption) ?_
  rotate_left
  · (intro w hSw; (try dsimp only at hSw); go_simp; try with_reducible rfl)
  try simp only [Act.put, List.setIfInBounds_toArray, List.set_cons_zero, List.set_cons_succ]
  refine wpAnyH_take (i := 30) (oi := { dst := some 39, op := Op.load 23 (Operand.tmp 2), type := 23, pos := "law.go:35", after := #[{ on := 19, ground := Ground.guard }], guard := some (19, false) }) (v := ?_) rfl (by kernel_rfl) (by kernel_rfl) (by kernel_rfl) (fun _ _ _ h => h) (Or.inl ⟨by rfl, ?_⟩) (by assumption) ?_
  rotate_left
  · (intro w hSw; (try dsimp only at hSw); go_simp; try with_reducible rfl)
  try simp only [Act.put, List.setIfInBounds_toArray, List.set_cons_zero, List.set_cons_succ]
  refine wpAnyH_take (i := 31) (oi := { dst := some 40, op := Op.load 23 (Operand.tmp 3), type := 23, pos := "law.go:35", after := #[{ on := 19, ground := Ground.guard }], guard := some (19, false) }) (v := ?_) rfl (by kernel_rfl) (by kernel_rfl) (by kernel_rfl) (fun _ _ _ h => h) (Or.inl ⟨by rfl, ?_⟩) (by assumption) ?_
  rotate_left
  · (intro w hSw; (try dsimp only at hSw); go_simp; try with_reducible rfl)
  try simp only [Act.put, List.setIfInBounds_toArray, List.set_cons_zero, List.set_cons_succ]
  refine wpAnyH_take (i := 32) (oi := { dst := some 41, op := Op.binOp BinOp.eql 23 (Operand.tmp 39) (Operand.tmp 40) 23, type := 4, pos := "law.go:35", after := #[{ on := 30, ground := Ground.data }, { on := 31, ground := Ground.data }, { on := 19, ground := Ground.guard }], guard := some (19, false) }) (v := ?_) rfl (by kernel_rfl) (by kernel_rfl) (by kernel_rfl) (fun _ _ _ h => h) (Or.inl ⟨by rfl, ?_⟩) (by assumption) ?_
  rotate_left
  · (intro w hSw; (try dsimp only at hSw); go_simp; try with_reducible rfl)
  try simp only [Act.put, List.setIfInBounds_toArray, List.set_cons_zero, List.set_cons_succ]
  refine wpAnyH_ready (rs := [22]) (by kernel_rfl) (by simp) ?_
  refine AllReadyH.cons (o := { dst := some 31, op := Op.call { callee := Callee.value (Operand.func 18), args := #[Operand.tmp 29, Operand.tmp 30], argTypes := #[23, 23] }, type := 4, pos := "law.go:35", after := #[{ on := 20, ground := Ground.data }, { on := 21, ground := Ground.data }, { on := 19, ground := Ground.chain }, { on := 19, ground := Ground.guard }], guard := some (19, false) }) rfl (fun K hK => ?_) (by exact AllReadyH.nil)
  go_simp
  (first | (go_at_call 18; first | ((with_reducible refine (c1 _).mono ?_); rintro e w9 ⟨rfl, hb9⟩; have hu9 := up (w := w) (by go_grown) hb9; have hv9 := hu9.size; have hs9 := hb9.size; have hb9 := hb9) | ((with_reducible refine (c2 _).mono ?_); rintro e w9 ⟨rfl, hb9⟩; have hu9 := up (w := w) (by go_grown) hb9; have hv9 := hu9.size; have hs9 := hb9.size; have hb9 := hb9)) | (go_at_call 16; first | ((with_reducible refine (c3 _).mono ?_); rintro e w' ⟨rfl, rfl⟩) | ((with_reducible refine (c4 _).mono ?_); rintro e w' ⟨rfl, rfl⟩)))
  refine hK.out _ _ ?_ (fun hHeld2 => ?_)
  · ((try go_split_ands); repeat' (first | (with_reducible assumption) | apply And.intro | (rw [World.cell?_drew]) | (rw [World.cell?_alloc_new]; rfl) | ((with_reducible refine cellAt ?_ ?_); (focus (simp; done)); rfl) | (with_reducible refine keep1 ?_) | ((with_reducible apply keepB); focus (with_reducible assumption))))
  clear hK K hHeld
  have hHeld := hHeld2
  clear hHeld2
  try simp only [Act.put, List.setIfInBounds_toArray, List.set_cons_zero, List.set_cons_succ]
  refine wpAnyH_take (i := 23) (oi := { dst := some 32, op := Op.unOp UnOp.not 4 (Operand.tmp 31), type := 4, pos := "law.go:35", after := #[{ on := 22, ground := Ground.data }, { on := 19, ground := Ground.guard }], guard := some (19, false) }) (v := ?_) rfl (by kernel_rfl) (by kernel_rfl) (by kernel_rfl) (fun _ _ _ h => h) (Or.inl ⟨by rfl, ?_⟩) (by assumption) ?_
  rotate_left
  · (intro w hSw; (try dsimp only at hSw); go_simp; try with_reducible rfl)
  try simp only [Act.put, List.setIfInBounds_toArray, List.set_cons_zero, List.set_cons_succ]
  refine wpAnyH_take (i := 24) (oi := { dst := some 33, op := Op.move (Operand.tmp 32), type := 4, pos := "law.go:35", after := #[{ on := 23, ground := Ground.data }, { on := 22, ground := Ground.chain }, { on := 19, ground := Ground.guard }], guard := some (19, false) }) (v := ?_) rfl (by kernel_rfl) (by kernel_rfl) (by kernel_rfl) (fun _ _ _ h => h) (Or.inl ⟨by rfl, ?_⟩) (by assumption) ?_
  rotate_left
  · (intro w hSw; (try dsimp only at hSw); go_simp; try with_reducible rfl)
  try simp only [Act.put, List.setIfInBounds_toArray, List.set_cons_zero, List.set_cons_succ]
  refine wpAnyH_take (i := 25) (oi := { dst := some 34, op := Op.load 23 (Operand.tmp 3), type := 23, pos := "law.go:35", after := #[{ on := 24, ground := Ground.guard }], guard := some (24, true) }) (v := undef) rfl (by kernel_rfl) (by kernel_rfl) (by kernel_rfl) (fun _ _ _ h => h) (Or.inr ⟨by rfl, rfl⟩) (by assumption) ?_
  try simp only [Act.put, List.setIfInBounds_toArray, List.set_cons_zero, List.set_cons_succ]
  refine wpAnyH_take (i := 26) (oi := { dst := some 35, op := Op.load 23 (Operand.tmp 2), type := 23, pos := "law.go:35", after := #[{ on := 24, ground := Ground.guard }], guard := some (24, true) }) (v := undef) rfl (by kernel_rfl) (by kernel_rfl) (by kernel_rfl) (fun _ _ _ h => h) (Or.inr ⟨by rfl, rfl⟩) (by assumption) ?_
  try simp only [Act.put, List.setIfInBounds_toArray, List.set_cons_zero, List.set_cons_succ]
  refine wpAnyH_take (i := 27) (oi := { dst := some 36, op := Op.call { callee := Callee.value (Operand.func 18), args := #[Operand.tmp 34, Operand.tmp 35], argTypes := #[23, 23] }, type := 4, pos := "law.go:35", after := #[{ on := 25, ground := Ground.data }, { on := 26, ground := Ground.data }, { on := 24, ground := Ground.chain }, { on := 24, ground := Ground.guard }], guard := some (24, true) }) (v := undef) rfl (by kernel_rfl) (by kernel_rfl) (by kernel_rfl) (fun _ _ _ h => h) (Or.inr ⟨by rfl, rfl⟩) (by assumption) ?_
  try simp only [Act.put, List.setIfInBounds_toArray, List.set_cons_zero, List.set_cons_succ]
  refine wpAnyH_take (i := 28) (oi := { dst := some 37, op := Op.unOp UnOp.not 4 (Operand.tmp 36), type := 4, pos := "law.go:35", after := #[{ on := 27, ground := Ground.data }, { on := 24, ground := Ground.guard }], guard := some (24, true) }) (v := undef) rfl (by kernel_rfl) (by kernel_rfl) (by kernel_rfl) (fun _ _ _ h => h) (Or.inr ⟨by rfl, rfl⟩) (by assumption) ?_
  try simp only [Act.put, List.setIfInBounds_toArray, List.set_cons_zero, List.set_cons_succ]
  refine wpAnyH_take (i := 29) (oi := { dst := some 38, op := Op.pick (Operand.tmp 33) (Operand.tmp 37) (Operand.const (Value.bool false)), type := 4, pos := "law.go:35", after := #[{ on := 24, ground := Ground.data }, { on := 28, ground := Ground.data }, { on := 19, ground := Ground.guard }], guard := some (19, false) }) (v := ?_) rfl (by kernel_rfl) (by kernel_rfl) (by kernel_rfl) (fun _ _ _ h => h) (Or.inl ⟨by rfl, ?_⟩) (by assumption) ?_
  rotate_left
  · (intro w hSw; (try dsimp only at hSw); go_simp; try with_reducible rfl)
  try simp only [Act.put, List.setIfInBounds_toArray, List.set_cons_zero, List.set_cons_succ]
  refine wpAnyH_take (i := 33) (oi := { dst := some 42, op := Op.binOp BinOp.neq 4 (Operand.tmp 38) (Operand.tmp 41) 4, type := 4, pos := "law.go:35", after := #[{ on := 29, ground := Ground.data }, { on := 32, ground := Ground.data }, { on := 19, ground := Ground.guard }], guard := some (19, false) }) (v := ?_) rfl (by kernel_rfl) (by kernel_rfl) (by kernel_rfl) (fun _ _ _ h => h) (Or.inl ⟨by rfl, ?_⟩) (by assumption) ?_
  rotate_left
  · (intro w hSw; (try dsimp only at hSw); go_simp; try with_reducible rfl)
  try simp only [Act.put, List.setIfInBounds_toArray, List.set_cons_zero, List.set_cons_succ]
  refine wpAnyH_take (i := 34) (oi := { dst := some 43, op := Op.pick (Operand.tmp 28) (Operand.const (Value.bool true)) (Operand.tmp 42), type := 4, pos := "law.go:35", after := #[{ on := 19, ground := Ground.data }, { on := 33, ground := Ground.data }], guard := none }) (v := ?_) rfl (by kernel_rfl) (by kernel_rfl) (by kernel_rfl) (fun _ _ _ h => h) (Or.inl ⟨by rfl, ?_⟩) (by assumption) ?_
  rotate_left
  · (intro w hSw; (try dsimp only at hSw); go_simp; try with_reducible rfl)
  try simp only [Act.put, List.setIfInBounds_toArray, List.set_cons_zero, List.set_cons_succ]
  refine wpAnyH_done (by kernel_rfl) ?_ _
  obtain ⟨⟨a0, a1, a2, a3, a4, a5, a6, a7⟩, ⟨b0, b1, b2, b3, b4, b5, b6, b7⟩⟩ := hHeld
  have lt9 : w.heap.size < w9.heap.size := World.block_lt_of_cell? w9 _ a0
  cases r
  · clear c7 c8 c9
    go_wp2_with (first | (go_at_call 11; ((with_reducible refine (c5 _).mono ?_); rintro e w' ⟨rfl, rfl⟩)) | (go_at_call 6; ((with_reducible refine (ca _).mono ?_); rintro e w4 ⟨rfl, hb4⟩; have hu4 := up (w := w) (by go_grown) hb4; have hv4 := hu4.size; have hs4 := hb4.size; have hb4 := hb4)))
    go_ret
    exact ⟨rfl, by go_grown⟩
  · have d7 := c7 rfl
    have d8 := c8 rfl
    have d9 := c9 rfl
    clear c7 c8 c9
    go_wp2_with (first | (go_at_call 11; ((with_reducible refine (c5 _).mono ?_); rintro e w' ⟨rfl, rfl⟩)) | (go_at_call 9; ((with_reducible refine (c6 _).mono ?_); rintro e w' ⟨rfl, rfl⟩)) | (go_at_call 16; ((with_reducible refine (c3 _).mono ?_); rintro e w' ⟨rfl, rfl⟩)) | (go_at_call 7; ((with_reducible refine (d7 _).mono ?_); rintro e w7 ⟨rfl, hb7⟩; have hu7 := up (w := w) (by go_grown) hb7; have hv7 := hu7.size; have hs7 := hb7.size; have hz7a : w.heap.size < w7.heap.size := (by have hq := hs7; (try simp at hq); omega); have hz7b : w9.heap.size < w7.heap.size := (by have hq := hs7; (try simp at hq); omega); have g0 := keepB hb7 (keep1 (keep1 (keep1 (keep1 a0)))); have g1 := keepB hb7 (keep1 (keep1 (keep1 (keep1 a1)))); have g2 := keepB hb7 (keep1 (keep1 (keep1 (keep1 a2)))); have g3 := keepB hb7 (keep1 (keep1 (keep1 (keep1 a3)))); have g4 := keepB hb7 (keep1 (keep1 (keep1 (keep1 a4)))); have g5 := keepB hb7 (keep1 (keep1 (keep1 (keep1 a5)))); have g6 := keepB hb7 (keep1 (keep1 (keep1 (keep1 a6)))); have g7 := keepB hb7 (keep1 (keep1 (keep1 (keep1 a7)))); have hb7 := hb7)) | (go_at_call 14; ((with_reducible refine (d8 _).mono ?_); rintro e w8 ⟨rfl, hb8⟩; have hu8 := up (w := w) (by go_grown) hb8; have hv8 := hu8.size; have hs8 := hb8.size; have hz8a : w.heap.size < w8.heap.size := (by have hq := hs8; (try simp at hq); omega); have hz8b : w9.heap.size < w8.heap.size := (by have hq := hs8; (try simp at hq); omega); have hz8c : w7.heap.size < w8.heap.size := (by have hq := hs8; (try simp at hq); omega); have h0 := keepB hb8 (keep1 (keep1 g0)); have h1 := keepB hb8 (keep1 (keep1 g1)); have h2 := keepB hb8 (keep1 (keep1 g2)); have h3 := keepB hb8 (keep1 (keep1 g3)); have h4 := keepB hb8 (keep1 (keep1 g4)); have h5 := keepB hb8 (keep1 (keep1 g5)); have h6 := keepB hb8 (keep1 (keep1 g6)); have h7 := keepB hb8 (keep1 (keep1 g7)); have x0 : w8.cell? ⟨w7.heap.size, 0, none⟩ = some (.int .u8 (n0.toNat : Int)) := keepB hb8 (keep1 (cellAt rfl rfl)); have x1 : w8.cell? ⟨w7.heap.size, 1, none⟩ = some (.int .u8 (n1.toNat : Int)) := keepB hb8 (keep1 (cellAt rfl rfl)); have x2 : w8.cell? ⟨w7.heap.size, 2, none⟩ = some (.int .u8 (n2.toNat : Int)) := keepB hb8 (keep1 (cellAt rfl rfl)); have x3 : w8.cell? ⟨w7.heap.size, 3, none⟩ = some (.int .u8 (n3.toNat : Int)) := keepB hb8 (keep1 (cellAt rfl rfl)); have x4 : w8.cell? ⟨w7.heap.size, 4, none⟩ = some (.int .u8 (n4.toNat : Int)) := keepB hb8 (keep1 (cellAt rfl rfl)); have x5 : w8.cell? ⟨w7.heap.size, 5, none⟩ = some (.int .u8 (n5.toNat : Int)) := keepB hb8 (keep1 (cellAt rfl rfl)); have x6 : w8.cell? ⟨w7.heap.size, 6, none⟩ = some (.int .u8 (n6.toNat : Int)) := keepB hb8 (keep1 (cellAt rfl rfl)); have x7 : w8.cell? ⟨w7.heap.size, 7, none⟩ = some (.int .u8 (n7.toNat : Int)) := keepB hb8 (keep1 (cellAt rfl rfl)); have hb8 := hb8)) | (go_at_call 13; ((with_reducible refine (d9 _).mono ?_); rintro e w' ⟨rfl, rfl⟩)) | (go_at_call 6; ((with_reducible refine (ca _).mono ?_); rintro e w4 ⟨rfl, hb4⟩; have hu4 := up (w := w) (by go_grown) hb4; have hv4 := hu4.size; have hs4 := hb4.size; have hb4 := hb4)))
    all_goals (go_ret; exact ⟨rfl, by go_grown⟩)
set_option maxHeartbeats 4000000 in
theorem back_gt (n0 n1 n2 n3 n4 n5 n6 n7 m0 m1 m2 m3 m4 m5 m6 m7 : UInt8) (xn xm : Int) (hx : xm < xn) (c1 : ∀ W, Calls Try.prog 18 #[.agg #[.int .u8 (n0.toNat : Int), .int .u8 (n1.toNat : Int), .int .u8 (n2.toNat : Int), .int .u8 (n3.toNat : Int), .int .u8 (n4.toNat : Int), .int .u8 (n5.toNat : Int), .int .u8 (n6.toNat : Int), .int .u8 (n7.toNat : Int)], .agg #[.int .u8 (m0.toNat : Int), .int .u8 (m1.toNat : Int), .int .u8 (m2.toNat : Int), .int .u8 (m3.toNat : Int), .int .u8 (m4.toNat : Int), .int .u8 (m5.toNat : Int), .int .u8 (m6.toNat : Int), .int .u8 (m7.toNat : Int)]] W fun e w' => e = .returned (.bool false) ∧ Below W.heap.size W w') (c2 : ∀ W, Calls Try.prog 18 #[.agg #[.int .u8 (m0.toNat : Int), .int .u8 (m1.toNat : Int), .int .u8 (m2.toNat : Int), .int .u8 (m3.toNat : Int), .int .u8 (m4.toNat : Int), .int .u8 (m5.toNat : Int), .int .u8 (m6.toNat : Int), .int .u8 (m7.toNat : Int)], .agg #[.int .u8 (n0.toNat : Int), .int .u8 (n1.toNat : Int), .int .u8 (n2.toNat : Int), .int .u8 (n3.toNat : Int), .int .u8 (n4.toNat : Int), .int .u8 (n5.toNat : Int), .int .u8 (n6.toNat : Int), .int .u8 (n7.toNat : Int)]] W fun e w' => e = .returned (.bool true) ∧ Below W.heap.size W w') (c3 : ∀ W, Calls Try.prog 16 #[.agg #[.int .u8 (n0.toNat : Int), .int .u8 (n1.toNat : Int), .int .u8 (n2.toNat : Int), .int .u8 (n3.toNat : Int), .int .u8 (n4.toNat : Int), .int .u8 (n5.toNat : Int), .int .u8 (n6.toNat : Int), .int .u8 (n7.toNat : Int)]] W fun e w' => e = .returned (.int .u64 xn) ∧ W.alloc (.cells #[.int .u8 (n0.toNat : Int), .int .u8 (n1.toNat : Int), .int .u8 (n2.toNat : Int), .int .u8 (n3.toNat : Int), .int .u8 (n4.toNat : Int), .int .u8 (n5.toNat : Int), .int .u8 (n6.toNat : Int), .int .u8 (n7.toNat : Int)] 23) = w') (c4 : ∀ W, Calls Try.prog 16 #[.agg #[.int .u8 (m0.toNat : Int), .int .u8 (m1.toNat : Int), .int .u8 (m2.toNat : Int), .int .u8 (m3.toNat : Int), .int .u8 (m4.toNat : Int), .int .u8 (m5.toNat : Int), .int .u8 (m6.toNat : Int), .int .u8 (m7.toNat : Int)]] W fun e w' => e = .returned (.int .u64 xm) ∧ W.alloc (.cells #[.int .u8 (m0.toNat : Int), .int .u8 (m1.toNat : Int), .int .u8 (m2.toNat : Int), .int .u8 (m3.toNat : Int), .int .u8 (m4.toNat : Int), .int .u8 (m5.toNat : Int), .int .u8 (m6.toNat : Int), .int .u8 (m7.toNat : Int)] 23) = w') (heq : ∀ W, (binOp .eql 23 (.agg #[.int .u8 (n0.toNat : Int), .int .u8 (n1.toNat : Int), .int .u8 (n2.toNat : Int), .int .u8 (n3.toNat : Int), .int .u8 (n4.toNat : Int), .int .u8 (n5.toNat : Int), .int .u8 (n6.toNat : Int), .int .u8 (n7.toNat : Int)]) (.agg #[.int .u8 (m0.toNat : Int), .int .u8 (m1.toNat : Int), .int .u8 (m2.toNat : Int), .int .u8 (m3.toNat : Int), .int .u8 (m4.toNat : Int), .int .u8 (m5.toNat : Int), .int .u8 (m6.toNat : Int), .int .u8 (m7.toNat : Int)])).run Try.prog W = .ok (.bool false) W) (r : Bool) (tx : ByteArray) (c5 : ∀ W, Calls Try.prog 11 #[.agg #[.int .u8 (n0.toNat : Int), .int .u8 (n1.toNat : Int), .int .u8 (n2.toNat : Int), .int .u8 (n3.toNat : Int), .int .u8 (n4.toNat : Int), .int .u8 (n5.toNat : Int), .int .u8 (n6.toNat : Int), .int .u8 (n7.toNat : Int)]] W fun e w' => e = .returned (.bool r) ∧ ((W.alloc (.cells #[.int .u8 (n0.toNat : Int), .int .u8 (n1.toNat : Int), .int .u8 (n2.toNat : Int), .int .u8 (n3.toNat : Int), .int .u8 (n4.toNat : Int), .int .u8 (n5.toNat : Int), .int .u8 (n6.toNat : Int), .int .u8 (n7.toNat : Int)] 23)).alloc (.cells #[.int .u8 (n0.toNat : Int), .int .u8 (n1.toNat : Int), .int .u8 (n2.toNat : Int), .int .u8 (n3.toNat : Int), .int .u8 (n4.toNat : Int), .int .u8 (n5.toNat : Int), .int .u8 (n6.toNat : Int), .int .u8 (n7.toNat : Int)] 23)) = w') (c6 : ∀ W, Calls Try.prog 9 #[.agg #[.int .u8 (n0.toNat : Int), .int .u8 (n1.toNat : Int), .int .u8 (n2.toNat : Int), .int .u8 (n3.toNat : Int), .int .u8 (n4.toNat : Int), .int .u8 (n5.toNat : Int), .int .u8 (n6.toNat : Int), .int .u8 (n7.toNat : Int)]] W fun e w' => e = .returned (.string tx) ∧ ((W.alloc (.cells #[.int .u8 (n0.toNat : Int), .int .u8 (n1.toNat : Int), .int .u8 (n2.toNat : Int), .int .u8 (n3.toNat : Int), .int .u8 (n4.toNat : Int), .int .u8 (n5.toNat : Int), .int .u8 (n6.toNat : Int), .int .u8 (n7.toNat : Int)] 23)).alloc (.cells #[.int .u8 (n0.toNat : Int), .int .u8 (n1.toNat : Int), .int .u8 (n2.toNat : Int), .int .u8 (n3.toNat : Int), .int .u8 (n4.toNat : Int), .int .u8 (n5.toNat : Int), .int .u8 (n6.toNat : Int), .int .u8 (n7.toNat : Int)] 23)) = w') (c7 : r = true → ∀ W, Calls Try.prog 7 #[.string tx] W fun e w' => e = .returned (.tuple #[.agg #[.int .u8 (n0.toNat : Int), .int .u8 (n1.toNat : Int), .int .u8 (n2.toNat : Int), .int .u8 (n3.toNat : Int), .int .u8 (n4.toNat : Int), .int .u8 (n5.toNat : Int), .int .u8 (n6.toNat : Int), .int .u8 (n7.toNat : Int)], .int .i64 0]) ∧ Below W.heap.size W w') (c8 : r = true → ∀ W, Calls Try.prog 14 #[.int .u64 xn] W fun e w' => e = .returned (.tuple #[.agg #[.int .u8 (n0.toNat : Int), .int .u8 (n1.toNat : Int), .int .u8 (n2.toNat : Int), .int .u8 (n3.toNat : Int), .int .u8 (n4.toNat : Int), .int .u8 (n5.toNat : Int), .int .u8 (n6.toNat : Int), .int .u8 (n7.toNat : Int)], .int .i64 0]) ∧ Below W.heap.size W w') (c9 : r = true → ∀ W, Calls Try.prog 13 #[.agg #[.int .u8 (n0.toNat : Int), .int .u8 (n1.toNat : Int), .int .u8 (n2.toNat : Int), .int .u8 (n3.toNat : Int), .int .u8 (n4.toNat : Int), .int .u8 (n5.toNat : Int), .int .u8 (n6.toNat : Int), .int .u8 (n7.toNat : Int)]] W fun e w' => e = .returned (.bool true) ∧ W.alloc (.cells #[.int .u8 (n0.toNat : Int), .int .u8 (n1.toNat : Int), .int .u8 (n2.toNat : Int), .int .u8 (n3.toNat : Int), .int .u8 (n4.toNat : Int), .int .u8 (n5.toNat : Int), .int .u8 (n6.toNat : Int), .int .u8 (n7.toNat : Int)] 23) = w') (w : World) : Calls Try.prog 5 #[.agg #[.int .u8 (n0.toNat : Int), .int .u8 (n1.toNat : Int), .int .u8 (n2.toNat : Int), .int .u8 (n3.toNat : Int), .int .u8 (n4.toNat : Int), .int .u8 (n5.toNat : Int), .int .u8 (n6.toNat : Int), .int .u8 (n7.toNat : Int)], .agg #[.int .u8 (m0.toNat : Int), .int .u8 (m1.toNat : Int), .int .u8 (m2.toNat : Int), .int .u8 (m3.toNat : Int), .int .u8 (m4.toNat : Int), .int .u8 (m5.toNat : Int), .int .u8 (m6.toNat : Int), .int .u8 (m7.toNat : Int)]] w fun e w' => e = .returned (.bool true) ∧ Below w.heap.size w w' := by
  have hd := (decide_eq_false (by omega) : decide (xn < xm) = false)
  have ca := fun W => alive_any W
  have hnn : ∀ W, (binOp .eql 23 (.agg #[.int .u8 (n0.toNat : Int), .int .u8 (n1.toNat : Int), .int .u8 (n2.toNat : Int), .int .u8 (n3.toNat : Int), .int .u8 (n4.toNat : Int), .int .u8 (n5.toNat : Int), .int .u8 (n6.toNat : Int), .int .u8 (n7.toNat : Int)]) (.agg #[.int .u8 (n0.toNat : Int), .int .u8 (n1.toNat : Int), .int .u8 (n2.toNat : Int), .int .u8 (n3.toNat : Int), .int .u8 (n4.toNat : Int), .int .u8 (n5.toNat : Int), .int .u8 (n6.toNat : Int), .int .u8 (n7.toNat : Int)])).run Try.prog W = .ok (.bool true) W := fun W => by rw [eql_name]; simp
  go_enter Try.func5, Try.ntmps5
  go_wp2
  refine wp_region_held_drew (S := (fun w' => (w'.cell? ⟨w.heap.size, 0, none⟩ = some (.int .u8 (n0.toNat : Int)) ∧ w'.cell? ⟨w.heap.size, 1, none⟩ = some (.int .u8 (n1.toNat : Int)) ∧ w'.cell? ⟨w.heap.size, 2, none⟩ = some (.int .u8 (n2.toNat : Int)) ∧ w'.cell? ⟨w.heap.size, 3, none⟩ = some (.int .u8 (n3.toNat : Int)) ∧ w'.cell? ⟨w.heap.size, 4, none⟩ = some (.int .u8 (n4.toNat : Int)) ∧ w'.cell? ⟨w.heap.size, 5, none⟩ = some (.int .u8 (n5.toNat : Int)) ∧ w'.cell? ⟨w.heap.size, 6, none⟩ = some (.int .u8 (n6.toNat : Int)) ∧ w'.cell? ⟨w.heap.size, 7, none⟩ = some (.int .u8 (n7.toNat : Int))) ∧ (w'.cell? ⟨w.heap.size + 1, 0, none⟩ = some (.int .u8 (m0.toNat : Int)) ∧ w'.cell? ⟨w.heap.size + 1, 1, none⟩ = some (.int .u8 (m1.toNat : Int)) ∧ w'.cell? ⟨w.heap.size + 1, 2, none⟩ = some (.int .u8 (m2.toNat : Int)) ∧ w'.cell? ⟨w.heap.size + 1, 3, none⟩ = some (.int .u8 (m3.toNat : Int)) ∧ w'.cell? ⟨w.heap.size + 1, 4, none⟩ = some (.int .u8 (m4.toNat : Int)) ∧ w'.cell? ⟨w.heap.size + 1, 5, none⟩ = some (.int .u8 (m5.toNat : Int)) ∧ w'.cell? ⟨w.heap.size + 1, 6, none⟩ = some (.int .u8 (m6.toNat : Int)) ∧ w'.cell? ⟨w.heap.size + 1, 7, none⟩ = some (.int .u8 (m7.toNat : Int))))) (by kernel_rfl) ?_ (fun hHeld => ?_)
  · ((try go_split_ands); repeat' (first | (with_reducible assumption) | apply And.intro | (rw [World.cell?_drew]) | (rw [World.cell?_alloc_new]; rfl) | ((with_reducible refine cellAt ?_ ?_); (focus (simp; done)); rfl) | (with_reducible refine keep1 ?_) | ((with_reducible apply keepB); focus (with_reducible assumption))))
  refine wpAnyH_take (i := 0) (oi := { dst := some 9, op := Op.load 23 (Operand.tmp 2), type := 23, pos := "law.go:35", after := #[], guard := none }) (v := ?_) rfl (by kernel_rfl) (by kernel_rfl) (by kernel_rfl) (fun _ _ _ h => h) (Or.inl ⟨by rfl, ?_⟩) (by assumption) ?_
  rotate_left
  · (intro w hSw; (try dsimp only at hSw); go_simp; try with_reducible rfl)
  try simp only [Act.put, List.setIfInBounds_toArray, List.set_cons_zero, List.set_cons_succ]
  refine wpAnyH_take (i := 1) (oi := { dst := some 10, op := Op.load 23 (Operand.tmp 3), type := 23, pos := "law.go:35", after := #[], guard := none }) (v := ?_) rfl (by kernel_rfl) (by kernel_rfl) (by kernel_rfl) (fun _ _ _ h => h) (Or.inl ⟨by rfl, ?_⟩) (by assumption) ?_
  rotate_left
  · (intro w hSw; (try dsimp only at hSw); go_simp; try with_reducible rfl)
  try simp only [Act.put, List.setIfInBounds_toArray, List.set_cons_zero, List.set_cons_succ]
  refine wpAnyH_take (i := 3) (oi := { dst := some 12, op := Op.load 23 (Operand.tmp 2), type := 23, pos := "law.go:35", after := #[], guard := none }) (v := ?_) rfl (by kernel_rfl) (by kernel_rfl) (by kernel_rfl) (fun _ _ _ h => h) (Or.inl ⟨by rfl, ?_⟩) (by assumption) ?_
  rotate_left
  · (intro w hSw; (try dsimp only at hSw); go_simp; try with_reducible rfl)
  try simp only [Act.put, List.setIfInBounds_toArray, List.set_cons_zero, List.set_cons_succ]
  refine wpAnyH_take (i := 5) (oi := { dst := some 14, op := Op.load 23 (Operand.tmp 3), type := 23, pos := "law.go:35", after := #[], guard := none }) (v := ?_) rfl (by kernel_rfl) (by kernel_rfl) (by kernel_rfl) (fun _ _ _ h => h) (Or.inl ⟨by rfl, ?_⟩) (by assumption) ?_
  rotate_left
  · (intro w hSw; (try dsimp only at hSw); go_simp; try with_reducible rfl)
  try simp only [Act.put, List.setIfInBounds_toArray, List.set_cons_zero, List.set_cons_succ]
  refine wpAnyH_ready (rs := [2]) (by kernel_rfl) (by simp) ?_
  refine AllReadyH.cons (o := { dst := some 11, op := Op.call { callee := Callee.value (Operand.func 18), args := #[Operand.tmp 9, Operand.tmp 10], argTypes := #[23, 23] }, type := 4, pos := "law.go:35", after := #[{ on := 0, ground := Ground.data }, { on := 1, ground := Ground.data }], guard := none }) rfl (fun K hK => ?_) (by exact AllReadyH.nil)
  go_simp
  (first | (go_at_call 18; first | ((with_reducible refine (c1 _).mono ?_); rintro e w9 ⟨rfl, hb9⟩; have hu9 := up (w := w) (by go_grown) hb9; have hv9 := hu9.size; have hs9 := hb9.size; have hb9 := hb9) | ((with_reducible refine (c2 _).mono ?_); rintro e w9 ⟨rfl, hb9⟩; have hu9 := up (w := w) (by go_grown) hb9; have hv9 := hu9.size; have hs9 := hb9.size; have hb9 := hb9)) | (go_at_call 16; first | ((with_reducible refine (c3 _).mono ?_); rintro e w' ⟨rfl, rfl⟩) | ((with_reducible refine (c4 _).mono ?_); rintro e w' ⟨rfl, rfl⟩)))
  refine hK.out _ _ ?_ (fun hHeld2 => ?_)
  · ((try go_split_ands); repeat' (first | (with_reducible assumption) | apply And.intro | (rw [World.cell?_drew]) | (rw [World.cell?_alloc_new]; rfl) | ((with_reducible refine cellAt ?_ ?_); (focus (simp; done)); rfl) | (with_reducible refine keep1 ?_) | ((with_reducible apply keepB); focus (with_reducible assumption))))
  clear hK K hHeld
  have hHeld := hHeld2
  clear hHeld2
  try simp only [Act.put, List.setIfInBounds_toArray, List.set_cons_zero, List.set_cons_succ]
  refine wpAnyH_ready (rs := [4]) (by kernel_rfl) (by simp) ?_
  refine AllReadyH.cons (o := { dst := some 13, op := Op.call { callee := Callee.value (Operand.func 16), args := #[Operand.tmp 12], argTypes := #[23] }, type := 31, pos := "law.go:35", after := #[{ on := 3, ground := Ground.data }, { on := 2, ground := Ground.chain }], guard := none }) rfl (fun K hK => ?_) (by exact AllReadyH.nil)
  go_simp
  (first | (go_at_call 18; first | ((with_reducible refine (c1 _).mono ?_); rintro e w9 ⟨rfl, hb9⟩; have hu9 := up (w := w) (by go_grown) hb9; have hv9 := hu9.size; have hs9 := hb9.size; have hb9 := hb9) | ((with_reducible refine (c2 _).mono ?_); rintro e w9 ⟨rfl, hb9⟩; have hu9 := up (w := w) (by go_grown) hb9; have hv9 := hu9.size; have hs9 := hb9.size; have hb9 := hb9)) | (go_at_call 16; first | ((with_reducible refine (c3 _).mono ?_); rintro e w' ⟨rfl, rfl⟩) | ((with_reducible refine (c4 _).mono ?_); rintro e w' ⟨rfl, rfl⟩)))
  refine hK.out _ _ ?_ (fun hHeld2 => ?_)
  · ((try go_split_ands); repeat' (first | (with_reducible assumption) | apply And.intro | (rw [World.cell?_drew]) | (rw [World.cell?_alloc_new]; rfl) | ((with_reducible refine cellAt ?_ ?_); (focus (simp; done)); rfl) | (with_reducible refine keep1 ?_) | ((with_reducible apply keepB); focus (with_reducible assumption))))
  clear hK K hHeld
  have hHeld := hHeld2
  clear hHeld2
  try simp only [Act.put, List.setIfInBounds_toArray, List.set_cons_zero, List.set_cons_succ]
  refine wpAnyH_ready (rs := [6]) (by kernel_rfl) (by simp) ?_
  refine AllReadyH.cons (o := { dst := some 15, op := Op.call { callee := Callee.value (Operand.func 16), args := #[Operand.tmp 14], argTypes := #[23] }, type := 31, pos := "law.go:35", after := #[{ on := 5, ground := Ground.data }, { on := 4, ground := Ground.chain }], guard := none }) rfl (fun K hK => ?_) (by exact AllReadyH.nil)
  go_simp
  (first | (go_at_call 18; first | ((with_reducible refine (c1 _).mono ?_); rintro e w9 ⟨rfl, hb9⟩; have hu9 := up (w := w) (by go_grown) hb9; have hv9 := hu9.size; have hs9 := hb9.size; have hb9 := hb9) | ((with_reducible refine (c2 _).mono ?_); rintro e w9 ⟨rfl, hb9⟩; have hu9 := up (w := w) (by go_grown) hb9; have hv9 := hu9.size; have hs9 := hb9.size; have hb9 := hb9)) | (go_at_call 16; first | ((with_reducible refine (c3 _).mono ?_); rintro e w' ⟨rfl, rfl⟩) | ((with_reducible refine (c4 _).mono ?_); rintro e w' ⟨rfl, rfl⟩)))
  refine hK.out _ _ ?_ (fun hHeld2 => ?_)
  · ((try go_split_ands); repeat' (first | (with_reducible assumption) | apply And.intro | (rw [World.cell?_drew]) | (rw [World.cell?_alloc_new]; rfl) | ((with_reducible refine cellAt ?_ ?_); (focus (simp; done)); rfl) | (with_reducible refine keep1 ?_) | ((with_reducible apply keepB); focus (with_reducible assumption))))
  clear hK K hHeld
  have hHeld := hHeld2
  clear hHeld2
  try simp only [Act.put, List.setIfInBounds_toArray, List.set_cons_zero, List.set_cons_succ]
  refine wpAnyH_take (i := 7) (oi := { dst := some 16, op := Op.binOp BinOp.lss 31 (Operand.tmp 13) (Operand.tmp 15) 31, type := 4, pos := "law.go:35", after := #[{ on := 4, ground := Ground.data }, { on := 6, ground := Ground.data }], guard := none }) (v := ?_) rfl (by kernel_rfl) (by kernel_rfl) (by kernel_rfl) (fun _ _ _ h => h) (Or.inl ⟨by rfl, ?_⟩) (by assumption) ?_
  rotate_left
  · (intro w hSw; (try dsimp only at hSw); go_simp; try with_reducible rfl)
  try simp only [Act.put, List.setIfInBounds_toArray, List.set_cons_zero, List.set_cons_succ]
  refine wpAnyH_take (i := 8) (oi := { dst := some 17, op := Op.binOp BinOp.neq 4 (Operand.tmp 11) (Operand.tmp 16) 4, type := 4, pos := "law.go:35", after := #[{ on := 2, ground := Ground.data }, { on := 7, ground := Ground.data }], guard := none }) (v := ?_) rfl (by kernel_rfl) (by kernel_rfl) (by kernel_rfl) (fun _ _ _ h => h) (Or.inl ⟨by rfl, ?_⟩) (by assumption) ?_
  rotate_left
  · (intro w hSw; (try dsimp only at hSw); go_simp; try with_reducible rfl)
  try simp only [Act.put, List.setIfInBounds_toArray, List.set_cons_zero, List.set_cons_succ]
  refine wpAnyH_take (i := 9) (oi := { dst := some 18, op := Op.move (Operand.tmp 17), type := 4, pos := "law.go:35", after := #[{ on := 8, ground := Ground.data }, { on := 6, ground := Ground.chain }], guard := none }) (v := ?_) rfl (by kernel_rfl) (by kernel_rfl) (by kernel_rfl) (fun _ _ _ h => h) (Or.inl ⟨by rfl, ?_⟩) (by assumption) ?_
  rotate_left
  · (intro w hSw; (try dsimp only at hSw); go_simp; try with_reducible rfl)
  try simp only [Act.put, List.setIfInBounds_toArray, List.set_cons_zero, List.set_cons_succ]
  refine wpAnyH_take (i := 10) (oi := { dst := some 19, op := Op.load 23 (Operand.tmp 2), type := 23, pos := "law.go:35", after := #[{ on := 9, ground := Ground.guard }], guard := some (9, false) }) (v := ?_) rfl (by kernel_rfl) (by kernel_rfl) (by kernel_rfl) (fun _ _ _ h => h) (Or.inl ⟨by rfl, ?_⟩) (by assumption) ?_
  rotate_left
  · (intro w hSw; (try dsimp only at hSw); go_simp; try with_reducible rfl)
  try simp only [Act.put, List.setIfInBounds_toArray, List.set_cons_zero, List.set_cons_succ]
  refine wpAnyH_take (i := 11) (oi := { dst := some 20, op := Op.load 23 (Operand.tmp 3), type := 23, pos := "law.go:35", after := #[{ on := 9, ground := Ground.guard }], guard := some (9, false) }) (v := ?_) rfl (by kernel_rfl) (by kernel_rfl) (by kernel_rfl) (fun _ _ _ h => h) (Or.inl ⟨by rfl, ?_⟩) (by assumption) ?_
  rotate_left
  · (intro w hSw; (try dsimp only at hSw); go_simp; try with_reducible rfl)
  try simp only [Act.put, List.setIfInBounds_toArray, List.set_cons_zero, List.set_cons_succ]
  refine wpAnyH_ready (rs := [12]) (by kernel_rfl) (by simp) ?_
  refine AllReadyH.cons (o := { dst := some 21, op := Op.call { callee := Callee.value (Operand.func 18), args := #[Operand.tmp 19, Operand.tmp 20], argTypes := #[23, 23] }, type := 4, pos := "law.go:35", after := #[{ on := 10, ground := Ground.data }, { on := 11, ground := Ground.data }, { on := 9, ground := Ground.chain }, { on := 9, ground := Ground.guard }], guard := some (9, false) }) rfl (fun K hK => ?_) (by exact AllReadyH.nil)
  go_simp
  (first | (go_at_call 18; first | ((with_reducible refine (c1 _).mono ?_); rintro e w9 ⟨rfl, hb9⟩; have hu9 := up (w := w) (by go_grown) hb9; have hv9 := hu9.size; have hs9 := hb9.size; have hb9 := hb9) | ((with_reducible refine (c2 _).mono ?_); rintro e w9 ⟨rfl, hb9⟩; have hu9 := up (w := w) (by go_grown) hb9; have hv9 := hu9.size; have hs9 := hb9.size; have hb9 := hb9)) | (go_at_call 16; first | ((with_reducible refine (c3 _).mono ?_); rintro e w' ⟨rfl, rfl⟩) | ((with_reducible refine (c4 _).mono ?_); rintro e w' ⟨rfl, rfl⟩)))
  refine hK.out _ _ ?_ (fun hHeld2 => ?_)
  · ((try go_split_ands); repeat' (first | (with_reducible assumption) | apply And.intro | (rw [World.cell?_drew]) | (rw [World.cell?_alloc_new]; rfl) | ((with_reducible refine cellAt ?_ ?_); (focus (simp; done)); rfl) | (with_reducible refine keep1 ?_) | ((with_reducible apply keepB); focus (with_reducible assumption))))
  clear hK K hHeld
  have hHeld := hHeld2
  clear hHeld2
  try simp only [Act.put, List.setIfInBounds_toArray, List.set_cons_zero, List.set_cons_succ]
  refine wpAnyH_take (i := 13) (oi := { dst := some 22, op := Op.move (Operand.tmp 21), type := 4, pos := "law.go:35", after := #[{ on := 12, ground := Ground.data }, { on := 12, ground := Ground.chain }, { on := 9, ground := Ground.guard }], guard := some (9, false) }) (v := ?_) rfl (by kernel_rfl) (by kernel_rfl) (by kernel_rfl) (fun _ _ _ h => h) (Or.inl ⟨by rfl, ?_⟩) (by assumption) ?_
  rotate_left
  · (intro w hSw; (try dsimp only at hSw); go_simp; try with_reducible rfl)
  try simp only [Act.put, List.setIfInBounds_toArray, List.set_cons_zero, List.set_cons_succ]
  refine wpAnyH_take (i := 14) (oi := { dst := some 23, op := Op.load 23 (Operand.tmp 3), type := 23, pos := "law.go:35", after := #[{ on := 13, ground := Ground.guard }], guard := some (13, true) }) (v := undef) rfl (by kernel_rfl) (by kernel_rfl) (by kernel_rfl) (fun _ _ _ h => h) (Or.inr ⟨by rfl, rfl⟩) (by assumption) ?_
  try simp only [Act.put, List.setIfInBounds_toArray, List.set_cons_zero, List.set_cons_succ]
  refine wpAnyH_take (i := 15) (oi := { dst := some 24, op := Op.load 23 (Operand.tmp 2), type := 23, pos := "law.go:35", after := #[{ on := 13, ground := Ground.guard }], guard := some (13, true) }) (v := undef) rfl (by kernel_rfl) (by kernel_rfl) (by kernel_rfl) (fun _ _ _ h => h) (Or.inr ⟨by rfl, rfl⟩) (by assumption) ?_
  try simp only [Act.put, List.setIfInBounds_toArray, List.set_cons_zero, List.set_cons_succ]
  refine wpAnyH_take (i := 16) (oi := { dst := some 25, op := Op.call { callee := Callee.value (Operand.func 18), args := #[Operand.tmp 23, Operand.tmp 24], argTypes := #[23, 23] }, type := 4, pos := "law.go:35", after := #[{ on := 14, ground := Ground.data }, { on := 15, ground := Ground.data }, { on := 13, ground := Ground.chain }, { on := 13, ground := Ground.guard }], guard := some (13, true) }) (v := undef) rfl (by kernel_rfl) (by kernel_rfl) (by kernel_rfl) (fun _ _ _ h => h) (Or.inr ⟨by rfl, rfl⟩) (by assumption) ?_
  try simp only [Act.put, List.setIfInBounds_toArray, List.set_cons_zero, List.set_cons_succ]
  refine wpAnyH_take (i := 17) (oi := { dst := some 26, op := Op.pick (Operand.tmp 22) (Operand.tmp 25) (Operand.const (Value.bool false)), type := 4, pos := "law.go:35", after := #[{ on := 13, ground := Ground.data }, { on := 16, ground := Ground.data }, { on := 9, ground := Ground.guard }], guard := some (9, false) }) (v := ?_) rfl (by kernel_rfl) (by kernel_rfl) (by kernel_rfl) (fun _ _ _ h => h) (Or.inl ⟨by rfl, ?_⟩) (by assumption) ?_
  rotate_left
  · (intro w hSw; (try dsimp only at hSw); go_simp; try with_reducible rfl)
  try simp only [Act.put, List.setIfInBounds_toArray, List.set_cons_zero, List.set_cons_succ]
  refine wpAnyH_take (i := 18) (oi := { dst := some 27, op := Op.pick (Operand.tmp 18) (Operand.const (Value.bool true)) (Operand.tmp 26), type := 4, pos := "law.go:35", after := #[{ on := 9, ground := Ground.data }, { on := 17, ground := Ground.data }], guard := none }) (v := ?_) rfl (by kernel_rfl) (by kernel_rfl) (by kernel_rfl) (fun _ _ _ h => h) (Or.inl ⟨by rfl, ?_⟩) (by assumption) ?_
  rotate_left
  · (intro w hSw; (try dsimp only at hSw); go_simp; try with_reducible rfl)
  try simp only [Act.put, List.setIfInBounds_toArray, List.set_cons_zero, List.set_cons_succ]
  refine wpAnyH_take (i := 19) (oi := { dst := some 28, op := Op.move (Operand.tmp 27), type := 4, pos := "law.go:35", after := #[{ on := 18, ground := Ground.data }, { on := 16, ground := Ground.chain }], guard := none }) (v := ?_) rfl (by kernel_rfl) (by kernel_rfl) (by kernel_rfl) (fun _ _ _ h => h) (Or.inl ⟨by rfl, ?_⟩) (by assumption) ?_
  rotate_left
  · (intro w hSw; (try dsimp only at hSw); go_simp; try with_reducible rfl)
  try simp only [Act.put, List.setIfInBounds_toArray, List.set_cons_zero, List.set_cons_succ]
  refine wpAnyH_take (i := 20) (oi := { dst := some 29, op := Op.load 23 (Operand.tmp 2), type := 23, pos := "law.go:35", after := #[{ on := 19, ground := Ground.guard }], guard := some (19, false) }) (v := ?_) rfl (by kernel_rfl) (by kernel_rfl) (by kernel_rfl) (fun _ _ _ h => h) (Or.inl ⟨by rfl, ?_⟩) (by assumption) ?_
  rotate_left
  · (intro w hSw; (try dsimp only at hSw); go_simp; try with_reducible rfl)
  try simp only [Act.put, List.setIfInBounds_toArray, List.set_cons_zero, List.set_cons_succ]
  refine wpAnyH_take (i := 21) (oi := { dst := some 30, op := Op.load 23 (Operand.tmp 3), type := 23, pos := "law.go:35", after := #[{ on := 19, ground := Ground.guard }], guard := some (19, false) }) (v := ?_) rfl (by kernel_rfl) (by kernel_rfl) (by kernel_rfl) (fun _ _ _ h => h) (Or.inl ⟨by rfl, ?_⟩) (by assumption) ?_
  rotate_left
  · (intro w hSw; (try dsimp only at hSw); go_simp; try with_reducible rfl)
  try simp only [Act.put, List.setIfInBounds_toArray, List.set_cons_zero, List.set_cons_succ]
  refine wpAnyH_take (i := 30) (oi := { dst := some 39, op := Op.load 23 (Operand.tmp 2), type := 23, pos := "law.go:35", after := #[{ on := 19, ground := Ground.guard }], guard := some (19, false) }) (v := ?_) rfl (by kernel_rfl) (by kernel_rfl) (by kernel_rfl) (fun _ _ _ h => h) (Or.inl ⟨by rfl, ?_⟩) (by assumption) ?_
  rotate_left
  · (intro w hSw; (try dsimp only at hSw); go_simp; try with_reducible rfl)
  try simp only [Act.put, List.setIfInBounds_toArray, List.set_cons_zero, List.set_cons_succ]
  refine wpAnyH_take (i := 31) (oi := { dst := some 40, op := Op.load 23 (Operand.tmp 3), type := 23, pos := "law.go:35", after := #[{ on := 19, ground := Ground.guard }], guard := some (19, false) }) (v := ?_) rfl (by kernel_rfl) (by kernel_rfl) (by kernel_rfl) (fun _ _ _ h => h) (Or.inl ⟨by rfl, ?_⟩) (by assumption) ?_
  rotate_left
  · (intro w hSw; (try dsimp only at hSw); go_simp; try with_reducible rfl)
  try simp only [Act.put, List.setIfInBounds_toArray, List.set_cons_zero, List.set_cons_succ]
  refine wpAnyH_take (i := 32) (oi := { dst := some 41, op := Op.binOp BinOp.eql 23 (Operand.tmp 39) (Operand.tmp 40) 23, type := 4, pos := "law.go:35", after := #[{ on := 30, ground := Ground.data }, { on := 31, ground := Ground.data }, { on := 19, ground := Ground.guard }], guard := some (19, false) }) (v := ?_) rfl (by kernel_rfl) (by kernel_rfl) (by kernel_rfl) (fun _ _ _ h => h) (Or.inl ⟨by rfl, ?_⟩) (by assumption) ?_
  rotate_left
  · (intro w hSw; (try dsimp only at hSw); go_simp; try with_reducible rfl)
  try simp only [Act.put, List.setIfInBounds_toArray, List.set_cons_zero, List.set_cons_succ]
  refine wpAnyH_ready (rs := [22]) (by kernel_rfl) (by simp) ?_
  refine AllReadyH.cons (o := { dst := some 31, op := Op.call { callee := Callee.value (Operand.func 18), args := #[Operand.tmp 29, Operand.tmp 30], argTypes := #[23, 23] }, type := 4, pos := "law.go:35", after := #[{ on := 20, ground := Ground.data }, { on := 21, ground := Ground.data }, { on := 19, ground := Ground.chain }, { on := 19, ground := Ground.guard }], guard := some (19, false) }) rfl (fun K hK => ?_) (by exact AllReadyH.nil)
  go_simp
  (first | (go_at_call 18; first | ((with_reducible refine (c1 _).mono ?_); rintro e w9 ⟨rfl, hb9⟩; have hu9 := up (w := w) (by go_grown) hb9; have hv9 := hu9.size; have hs9 := hb9.size; have hb9 := hb9) | ((with_reducible refine (c2 _).mono ?_); rintro e w9 ⟨rfl, hb9⟩; have hu9 := up (w := w) (by go_grown) hb9; have hv9 := hu9.size; have hs9 := hb9.size; have hb9 := hb9)) | (go_at_call 16; first | ((with_reducible refine (c3 _).mono ?_); rintro e w' ⟨rfl, rfl⟩) | ((with_reducible refine (c4 _).mono ?_); rintro e w' ⟨rfl, rfl⟩)))
  refine hK.out _ _ ?_ (fun hHeld2 => ?_)
  · ((try go_split_ands); repeat' (first | (with_reducible assumption) | apply And.intro | (rw [World.cell?_drew]) | (rw [World.cell?_alloc_new]; rfl) | ((with_reducible refine cellAt ?_ ?_); (focus (simp; done)); rfl) | (with_reducible refine keep1 ?_) | ((with_reducible apply keepB); focus (with_reducible assumption))))
  clear hK K hHeld
  have hHeld := hHeld2
  clear hHeld2
  try simp only [Act.put, List.setIfInBounds_toArray, List.set_cons_zero, List.set_cons_succ]
  refine wpAnyH_take (i := 23) (oi := { dst := some 32, op := Op.unOp UnOp.not 4 (Operand.tmp 31), type := 4, pos := "law.go:35", after := #[{ on := 22, ground := Ground.data }, { on := 19, ground := Ground.guard }], guard := some (19, false) }) (v := ?_) rfl (by kernel_rfl) (by kernel_rfl) (by kernel_rfl) (fun _ _ _ h => h) (Or.inl ⟨by rfl, ?_⟩) (by assumption) ?_
  rotate_left
  · (intro w hSw; (try dsimp only at hSw); go_simp; try with_reducible rfl)
  try simp only [Act.put, List.setIfInBounds_toArray, List.set_cons_zero, List.set_cons_succ]
  refine wpAnyH_take (i := 24) (oi := { dst := some 33, op := Op.move (Operand.tmp 32), type := 4, pos := "law.go:35", after := #[{ on := 23, ground := Ground.data }, { on := 22, ground := Ground.chain }, { on := 19, ground := Ground.guard }], guard := some (19, false) }) (v := ?_) rfl (by kernel_rfl) (by kernel_rfl) (by kernel_rfl) (fun _ _ _ h => h) (Or.inl ⟨by rfl, ?_⟩) (by assumption) ?_
  rotate_left
  · (intro w hSw; (try dsimp only at hSw); go_simp; try with_reducible rfl)
  try simp only [Act.put, List.setIfInBounds_toArray, List.set_cons_zero, List.set_cons_succ]
  refine wpAnyH_take (i := 25) (oi := { dst := some 34, op := Op.load 23 (Operand.tmp 3), type := 23, pos := "law.go:35", after := #[{ on := 24, ground := Ground.guard }], guard := some (24, true) }) (v := ?_) rfl (by kernel_rfl) (by kernel_rfl) (by kernel_rfl) (fun _ _ _ h => h) (Or.inl ⟨by rfl, ?_⟩) (by assumption) ?_
  rotate_left
  · (intro w hSw; (try dsimp only at hSw); go_simp; try with_reducible rfl)
  try simp only [Act.put, List.setIfInBounds_toArray, List.set_cons_zero, List.set_cons_succ]
  refine wpAnyH_take (i := 26) (oi := { dst := some 35, op := Op.load 23 (Operand.tmp 2), type := 23, pos := "law.go:35", after := #[{ on := 24, ground := Ground.guard }], guard := some (24, true) }) (v := ?_) rfl (by kernel_rfl) (by kernel_rfl) (by kernel_rfl) (fun _ _ _ h => h) (Or.inl ⟨by rfl, ?_⟩) (by assumption) ?_
  rotate_left
  · (intro w hSw; (try dsimp only at hSw); go_simp; try with_reducible rfl)
  try simp only [Act.put, List.setIfInBounds_toArray, List.set_cons_zero, List.set_cons_succ]
  refine wpAnyH_ready (rs := [27]) (by kernel_rfl) (by simp) ?_
  refine AllReadyH.cons (o := { dst := some 36, op := Op.call { callee := Callee.value (Operand.func 18), args := #[Operand.tmp 34, Operand.tmp 35], argTypes := #[23, 23] }, type := 4, pos := "law.go:35", after := #[{ on := 25, ground := Ground.data }, { on := 26, ground := Ground.data }, { on := 24, ground := Ground.chain }, { on := 24, ground := Ground.guard }], guard := some (24, true) }) rfl (fun K hK => ?_) (by exact AllReadyH.nil)
  go_simp
  (first | (go_at_call 18; first | ((with_reducible refine (c1 _).mono ?_); rintro e w9 ⟨rfl, hb9⟩; have hu9 := up (w := w) (by go_grown) hb9; have hv9 := hu9.size; have hs9 := hb9.size; have hb9 := hb9) | ((with_reducible refine (c2 _).mono ?_); rintro e w9 ⟨rfl, hb9⟩; have hu9 := up (w := w) (by go_grown) hb9; have hv9 := hu9.size; have hs9 := hb9.size; have hb9 := hb9)) | (go_at_call 16; first | ((with_reducible refine (c3 _).mono ?_); rintro e w' ⟨rfl, rfl⟩) | ((with_reducible refine (c4 _).mono ?_); rintro e w' ⟨rfl, rfl⟩)))
  refine hK.out _ _ ?_ (fun hHeld2 => ?_)
  · ((try go_split_ands); repeat' (first | (with_reducible assumption) | apply And.intro | (rw [World.cell?_drew]) | (rw [World.cell?_alloc_new]; rfl) | ((with_reducible refine cellAt ?_ ?_); (focus (simp; done)); rfl) | (with_reducible refine keep1 ?_) | ((with_reducible apply keepB); focus (with_reducible assumption))))
  clear hK K hHeld
  have hHeld := hHeld2
  clear hHeld2
  try simp only [Act.put, List.setIfInBounds_toArray, List.set_cons_zero, List.set_cons_succ]
  refine wpAnyH_take (i := 28) (oi := { dst := some 37, op := Op.unOp UnOp.not 4 (Operand.tmp 36), type := 4, pos := "law.go:35", after := #[{ on := 27, ground := Ground.data }, { on := 24, ground := Ground.guard }], guard := some (24, true) }) (v := ?_) rfl (by kernel_rfl) (by kernel_rfl) (by kernel_rfl) (fun _ _ _ h => h) (Or.inl ⟨by rfl, ?_⟩) (by assumption) ?_
  rotate_left
  · (intro w hSw; (try dsimp only at hSw); go_simp; try with_reducible rfl)
  try simp only [Act.put, List.setIfInBounds_toArray, List.set_cons_zero, List.set_cons_succ]
  refine wpAnyH_take (i := 29) (oi := { dst := some 38, op := Op.pick (Operand.tmp 33) (Operand.tmp 37) (Operand.const (Value.bool false)), type := 4, pos := "law.go:35", after := #[{ on := 24, ground := Ground.data }, { on := 28, ground := Ground.data }, { on := 19, ground := Ground.guard }], guard := some (19, false) }) (v := ?_) rfl (by kernel_rfl) (by kernel_rfl) (by kernel_rfl) (fun _ _ _ h => h) (Or.inl ⟨by rfl, ?_⟩) (by assumption) ?_
  rotate_left
  · (intro w hSw; (try dsimp only at hSw); go_simp; try with_reducible rfl)
  try simp only [Act.put, List.setIfInBounds_toArray, List.set_cons_zero, List.set_cons_succ]
  refine wpAnyH_take (i := 33) (oi := { dst := some 42, op := Op.binOp BinOp.neq 4 (Operand.tmp 38) (Operand.tmp 41) 4, type := 4, pos := "law.go:35", after := #[{ on := 29, ground := Ground.data }, { on := 32, ground := Ground.data }, { on := 19, ground := Ground.guard }], guard := some (19, false) }) (v := ?_) rfl (by kernel_rfl) (by kernel_rfl) (by kernel_rfl) (fun _ _ _ h => h) (Or.inl ⟨by rfl, ?_⟩) (by assumption) ?_
  rotate_left
  · (intro w hSw; (try dsimp only at hSw); go_simp; try with_reducible rfl)
  try simp only [Act.put, List.setIfInBounds_toArray, List.set_cons_zero, List.set_cons_succ]
  refine wpAnyH_take (i := 34) (oi := { dst := some 43, op := Op.pick (Operand.tmp 28) (Operand.const (Value.bool true)) (Operand.tmp 42), type := 4, pos := "law.go:35", after := #[{ on := 19, ground := Ground.data }, { on := 33, ground := Ground.data }], guard := none }) (v := ?_) rfl (by kernel_rfl) (by kernel_rfl) (by kernel_rfl) (fun _ _ _ h => h) (Or.inl ⟨by rfl, ?_⟩) (by assumption) ?_
  rotate_left
  · (intro w hSw; (try dsimp only at hSw); go_simp; try with_reducible rfl)
  try simp only [Act.put, List.setIfInBounds_toArray, List.set_cons_zero, List.set_cons_succ]
  refine wpAnyH_done (by kernel_rfl) ?_ _
  obtain ⟨⟨a0, a1, a2, a3, a4, a5, a6, a7⟩, ⟨b0, b1, b2, b3, b4, b5, b6, b7⟩⟩ := hHeld
  have lt9 : w.heap.size < w9.heap.size := World.block_lt_of_cell? w9 _ a0
  cases r
  · clear c7 c8 c9
    go_wp2_with (first | (go_at_call 11; ((with_reducible refine (c5 _).mono ?_); rintro e w' ⟨rfl, rfl⟩)) | (go_at_call 6; ((with_reducible refine (ca _).mono ?_); rintro e w4 ⟨rfl, hb4⟩; have hu4 := up (w := w) (by go_grown) hb4; have hv4 := hu4.size; have hs4 := hb4.size; have hb4 := hb4)))
    go_ret
    exact ⟨rfl, by go_grown⟩
  · have d7 := c7 rfl
    have d8 := c8 rfl
    have d9 := c9 rfl
    clear c7 c8 c9
    go_wp2_with (first | (go_at_call 11; ((with_reducible refine (c5 _).mono ?_); rintro e w' ⟨rfl, rfl⟩)) | (go_at_call 9; ((with_reducible refine (c6 _).mono ?_); rintro e w' ⟨rfl, rfl⟩)) | (go_at_call 16; ((with_reducible refine (c3 _).mono ?_); rintro e w' ⟨rfl, rfl⟩)) | (go_at_call 7; ((with_reducible refine (d7 _).mono ?_); rintro e w7 ⟨rfl, hb7⟩; have hu7 := up (w := w) (by go_grown) hb7; have hv7 := hu7.size; have hs7 := hb7.size; have hz7a : w.heap.size < w7.heap.size := (by have hq := hs7; (try simp at hq); omega); have hz7b : w9.heap.size < w7.heap.size := (by have hq := hs7; (try simp at hq); omega); have g0 := keepB hb7 (keep1 (keep1 (keep1 (keep1 a0)))); have g1 := keepB hb7 (keep1 (keep1 (keep1 (keep1 a1)))); have g2 := keepB hb7 (keep1 (keep1 (keep1 (keep1 a2)))); have g3 := keepB hb7 (keep1 (keep1 (keep1 (keep1 a3)))); have g4 := keepB hb7 (keep1 (keep1 (keep1 (keep1 a4)))); have g5 := keepB hb7 (keep1 (keep1 (keep1 (keep1 a5)))); have g6 := keepB hb7 (keep1 (keep1 (keep1 (keep1 a6)))); have g7 := keepB hb7 (keep1 (keep1 (keep1 (keep1 a7)))); have hb7 := hb7)) | (go_at_call 14; ((with_reducible refine (d8 _).mono ?_); rintro e w8 ⟨rfl, hb8⟩; have hu8 := up (w := w) (by go_grown) hb8; have hv8 := hu8.size; have hs8 := hb8.size; have hz8a : w.heap.size < w8.heap.size := (by have hq := hs8; (try simp at hq); omega); have hz8b : w9.heap.size < w8.heap.size := (by have hq := hs8; (try simp at hq); omega); have hz8c : w7.heap.size < w8.heap.size := (by have hq := hs8; (try simp at hq); omega); have h0 := keepB hb8 (keep1 (keep1 g0)); have h1 := keepB hb8 (keep1 (keep1 g1)); have h2 := keepB hb8 (keep1 (keep1 g2)); have h3 := keepB hb8 (keep1 (keep1 g3)); have h4 := keepB hb8 (keep1 (keep1 g4)); have h5 := keepB hb8 (keep1 (keep1 g5)); have h6 := keepB hb8 (keep1 (keep1 g6)); have h7 := keepB hb8 (keep1 (keep1 g7)); have x0 : w8.cell? ⟨w7.heap.size, 0, none⟩ = some (.int .u8 (n0.toNat : Int)) := keepB hb8 (keep1 (cellAt rfl rfl)); have x1 : w8.cell? ⟨w7.heap.size, 1, none⟩ = some (.int .u8 (n1.toNat : Int)) := keepB hb8 (keep1 (cellAt rfl rfl)); have x2 : w8.cell? ⟨w7.heap.size, 2, none⟩ = some (.int .u8 (n2.toNat : Int)) := keepB hb8 (keep1 (cellAt rfl rfl)); have x3 : w8.cell? ⟨w7.heap.size, 3, none⟩ = some (.int .u8 (n3.toNat : Int)) := keepB hb8 (keep1 (cellAt rfl rfl)); have x4 : w8.cell? ⟨w7.heap.size, 4, none⟩ = some (.int .u8 (n4.toNat : Int)) := keepB hb8 (keep1 (cellAt rfl rfl)); have x5 : w8.cell? ⟨w7.heap.size, 5, none⟩ = some (.int .u8 (n5.toNat : Int)) := keepB hb8 (keep1 (cellAt rfl rfl)); have x6 : w8.cell? ⟨w7.heap.size, 6, none⟩ = some (.int .u8 (n6.toNat : Int)) := keepB hb8 (keep1 (cellAt rfl rfl)); have x7 : w8.cell? ⟨w7.heap.size, 7, none⟩ = some (.int .u8 (n7.toNat : Int)) := keepB hb8 (keep1 (cellAt rfl rfl)); have hb8 := hb8)) | (go_at_call 13; ((with_reducible refine (d9 _).mono ?_); rintro e w' ⟨rfl, rfl⟩)) | (go_at_call 6; ((with_reducible refine (ca _).mono ?_); rintro e w4 ⟨rfl, hb4⟩; have hu4 := up (w := w) (by go_grown) hb4; have hv4 := hu4.size; have hs4 := hb4.size; have hb4 := hb4)))
    all_goals (go_ret; exact ⟨rfl, by go_grown⟩)
set_option maxHeartbeats 4000000 in
theorem back_eq (n0 n1 n2 n3 n4 n5 n6 n7 m0 m1 m2 m3 m4 m5 m6 m7 : UInt8) (xn : Int) (c1 : ∀ W, Calls Try.prog 18 #[.agg #[.int .u8 (n0.toNat : Int), .int .u8 (n1.toNat : Int), .int .u8 (n2.toNat : Int), .int .u8 (n3.toNat : Int), .int .u8 (n4.toNat : Int), .int .u8 (n5.toNat : Int), .int .u8 (n6.toNat : Int), .int .u8 (n7.toNat : Int)], .agg #[.int .u8 (m0.toNat : Int), .int .u8 (m1.toNat : Int), .int .u8 (m2.toNat : Int), .int .u8 (m3.toNat : Int), .int .u8 (m4.toNat : Int), .int .u8 (m5.toNat : Int), .int .u8 (m6.toNat : Int), .int .u8 (m7.toNat : Int)]] W fun e w' => e = .returned (.bool false) ∧ Below W.heap.size W w') (c2 : ∀ W, Calls Try.prog 18 #[.agg #[.int .u8 (m0.toNat : Int), .int .u8 (m1.toNat : Int), .int .u8 (m2.toNat : Int), .int .u8 (m3.toNat : Int), .int .u8 (m4.toNat : Int), .int .u8 (m5.toNat : Int), .int .u8 (m6.toNat : Int), .int .u8 (m7.toNat : Int)], .agg #[.int .u8 (n0.toNat : Int), .int .u8 (n1.toNat : Int), .int .u8 (n2.toNat : Int), .int .u8 (n3.toNat : Int), .int .u8 (n4.toNat : Int), .int .u8 (n5.toNat : Int), .int .u8 (n6.toNat : Int), .int .u8 (n7.toNat : Int)]] W fun e w' => e = .returned (.bool false) ∧ Below W.heap.size W w') (c3 : ∀ W, Calls Try.prog 16 #[.agg #[.int .u8 (n0.toNat : Int), .int .u8 (n1.toNat : Int), .int .u8 (n2.toNat : Int), .int .u8 (n3.toNat : Int), .int .u8 (n4.toNat : Int), .int .u8 (n5.toNat : Int), .int .u8 (n6.toNat : Int), .int .u8 (n7.toNat : Int)]] W fun e w' => e = .returned (.int .u64 xn) ∧ W.alloc (.cells #[.int .u8 (n0.toNat : Int), .int .u8 (n1.toNat : Int), .int .u8 (n2.toNat : Int), .int .u8 (n3.toNat : Int), .int .u8 (n4.toNat : Int), .int .u8 (n5.toNat : Int), .int .u8 (n6.toNat : Int), .int .u8 (n7.toNat : Int)] 23) = w') (c4 : ∀ W, Calls Try.prog 16 #[.agg #[.int .u8 (m0.toNat : Int), .int .u8 (m1.toNat : Int), .int .u8 (m2.toNat : Int), .int .u8 (m3.toNat : Int), .int .u8 (m4.toNat : Int), .int .u8 (m5.toNat : Int), .int .u8 (m6.toNat : Int), .int .u8 (m7.toNat : Int)]] W fun e w' => e = .returned (.int .u64 xn) ∧ W.alloc (.cells #[.int .u8 (m0.toNat : Int), .int .u8 (m1.toNat : Int), .int .u8 (m2.toNat : Int), .int .u8 (m3.toNat : Int), .int .u8 (m4.toNat : Int), .int .u8 (m5.toNat : Int), .int .u8 (m6.toNat : Int), .int .u8 (m7.toNat : Int)] 23) = w') (heq : ∀ W, (binOp .eql 23 (.agg #[.int .u8 (n0.toNat : Int), .int .u8 (n1.toNat : Int), .int .u8 (n2.toNat : Int), .int .u8 (n3.toNat : Int), .int .u8 (n4.toNat : Int), .int .u8 (n5.toNat : Int), .int .u8 (n6.toNat : Int), .int .u8 (n7.toNat : Int)]) (.agg #[.int .u8 (m0.toNat : Int), .int .u8 (m1.toNat : Int), .int .u8 (m2.toNat : Int), .int .u8 (m3.toNat : Int), .int .u8 (m4.toNat : Int), .int .u8 (m5.toNat : Int), .int .u8 (m6.toNat : Int), .int .u8 (m7.toNat : Int)])).run Try.prog W = .ok (.bool true) W) (r : Bool) (tx : ByteArray) (c5 : ∀ W, Calls Try.prog 11 #[.agg #[.int .u8 (n0.toNat : Int), .int .u8 (n1.toNat : Int), .int .u8 (n2.toNat : Int), .int .u8 (n3.toNat : Int), .int .u8 (n4.toNat : Int), .int .u8 (n5.toNat : Int), .int .u8 (n6.toNat : Int), .int .u8 (n7.toNat : Int)]] W fun e w' => e = .returned (.bool r) ∧ ((W.alloc (.cells #[.int .u8 (n0.toNat : Int), .int .u8 (n1.toNat : Int), .int .u8 (n2.toNat : Int), .int .u8 (n3.toNat : Int), .int .u8 (n4.toNat : Int), .int .u8 (n5.toNat : Int), .int .u8 (n6.toNat : Int), .int .u8 (n7.toNat : Int)] 23)).alloc (.cells #[.int .u8 (n0.toNat : Int), .int .u8 (n1.toNat : Int), .int .u8 (n2.toNat : Int), .int .u8 (n3.toNat : Int), .int .u8 (n4.toNat : Int), .int .u8 (n5.toNat : Int), .int .u8 (n6.toNat : Int), .int .u8 (n7.toNat : Int)] 23)) = w') (c6 : ∀ W, Calls Try.prog 9 #[.agg #[.int .u8 (n0.toNat : Int), .int .u8 (n1.toNat : Int), .int .u8 (n2.toNat : Int), .int .u8 (n3.toNat : Int), .int .u8 (n4.toNat : Int), .int .u8 (n5.toNat : Int), .int .u8 (n6.toNat : Int), .int .u8 (n7.toNat : Int)]] W fun e w' => e = .returned (.string tx) ∧ ((W.alloc (.cells #[.int .u8 (n0.toNat : Int), .int .u8 (n1.toNat : Int), .int .u8 (n2.toNat : Int), .int .u8 (n3.toNat : Int), .int .u8 (n4.toNat : Int), .int .u8 (n5.toNat : Int), .int .u8 (n6.toNat : Int), .int .u8 (n7.toNat : Int)] 23)).alloc (.cells #[.int .u8 (n0.toNat : Int), .int .u8 (n1.toNat : Int), .int .u8 (n2.toNat : Int), .int .u8 (n3.toNat : Int), .int .u8 (n4.toNat : Int), .int .u8 (n5.toNat : Int), .int .u8 (n6.toNat : Int), .int .u8 (n7.toNat : Int)] 23)) = w') (c7 : r = true → ∀ W, Calls Try.prog 7 #[.string tx] W fun e w' => e = .returned (.tuple #[.agg #[.int .u8 (n0.toNat : Int), .int .u8 (n1.toNat : Int), .int .u8 (n2.toNat : Int), .int .u8 (n3.toNat : Int), .int .u8 (n4.toNat : Int), .int .u8 (n5.toNat : Int), .int .u8 (n6.toNat : Int), .int .u8 (n7.toNat : Int)], .int .i64 0]) ∧ Below W.heap.size W w') (c8 : r = true → ∀ W, Calls Try.prog 14 #[.int .u64 xn] W fun e w' => e = .returned (.tuple #[.agg #[.int .u8 (n0.toNat : Int), .int .u8 (n1.toNat : Int), .int .u8 (n2.toNat : Int), .int .u8 (n3.toNat : Int), .int .u8 (n4.toNat : Int), .int .u8 (n5.toNat : Int), .int .u8 (n6.toNat : Int), .int .u8 (n7.toNat : Int)], .int .i64 0]) ∧ Below W.heap.size W w') (c9 : r = true → ∀ W, Calls Try.prog 13 #[.agg #[.int .u8 (n0.toNat : Int), .int .u8 (n1.toNat : Int), .int .u8 (n2.toNat : Int), .int .u8 (n3.toNat : Int), .int .u8 (n4.toNat : Int), .int .u8 (n5.toNat : Int), .int .u8 (n6.toNat : Int), .int .u8 (n7.toNat : Int)]] W fun e w' => e = .returned (.bool true) ∧ W.alloc (.cells #[.int .u8 (n0.toNat : Int), .int .u8 (n1.toNat : Int), .int .u8 (n2.toNat : Int), .int .u8 (n3.toNat : Int), .int .u8 (n4.toNat : Int), .int .u8 (n5.toNat : Int), .int .u8 (n6.toNat : Int), .int .u8 (n7.toNat : Int)] 23) = w') (w : World) : Calls Try.prog 5 #[.agg #[.int .u8 (n0.toNat : Int), .int .u8 (n1.toNat : Int), .int .u8 (n2.toNat : Int), .int .u8 (n3.toNat : Int), .int .u8 (n4.toNat : Int), .int .u8 (n5.toNat : Int), .int .u8 (n6.toNat : Int), .int .u8 (n7.toNat : Int)], .agg #[.int .u8 (m0.toNat : Int), .int .u8 (m1.toNat : Int), .int .u8 (m2.toNat : Int), .int .u8 (m3.toNat : Int), .int .u8 (m4.toNat : Int), .int .u8 (m5.toNat : Int), .int .u8 (m6.toNat : Int), .int .u8 (m7.toNat : Int)]] w fun e w' => e = .returned (.bool true) ∧ Below w.heap.size w w' := by
  have hd := (decide_eq_false (by omega) : decide (xn < xn) = false)
  have ca := fun W => alive_any W
  have hnn : ∀ W, (binOp .eql 23 (.agg #[.int .u8 (n0.toNat : Int), .int .u8 (n1.toNat : Int), .int .u8 (n2.toNat : Int), .int .u8 (n3.toNat : Int), .int .u8 (n4.toNat : Int), .int .u8 (n5.toNat : Int), .int .u8 (n6.toNat : Int), .int .u8 (n7.toNat : Int)]) (.agg #[.int .u8 (n0.toNat : Int), .int .u8 (n1.toNat : Int), .int .u8 (n2.toNat : Int), .int .u8 (n3.toNat : Int), .int .u8 (n4.toNat : Int), .int .u8 (n5.toNat : Int), .int .u8 (n6.toNat : Int), .int .u8 (n7.toNat : Int)])).run Try.prog W = .ok (.bool true) W := fun W => by rw [eql_name]; simp
  go_enter Try.func5, Try.ntmps5
  go_wp2
  refine wp_region_held_drew (S := (fun w' => (w'.cell? ⟨w.heap.size, 0, none⟩ = some (.int .u8 (n0.toNat : Int)) ∧ w'.cell? ⟨w.heap.size, 1, none⟩ = some (.int .u8 (n1.toNat : Int)) ∧ w'.cell? ⟨w.heap.size, 2, none⟩ = some (.int .u8 (n2.toNat : Int)) ∧ w'.cell? ⟨w.heap.size, 3, none⟩ = some (.int .u8 (n3.toNat : Int)) ∧ w'.cell? ⟨w.heap.size, 4, none⟩ = some (.int .u8 (n4.toNat : Int)) ∧ w'.cell? ⟨w.heap.size, 5, none⟩ = some (.int .u8 (n5.toNat : Int)) ∧ w'.cell? ⟨w.heap.size, 6, none⟩ = some (.int .u8 (n6.toNat : Int)) ∧ w'.cell? ⟨w.heap.size, 7, none⟩ = some (.int .u8 (n7.toNat : Int))) ∧ (w'.cell? ⟨w.heap.size + 1, 0, none⟩ = some (.int .u8 (m0.toNat : Int)) ∧ w'.cell? ⟨w.heap.size + 1, 1, none⟩ = some (.int .u8 (m1.toNat : Int)) ∧ w'.cell? ⟨w.heap.size + 1, 2, none⟩ = some (.int .u8 (m2.toNat : Int)) ∧ w'.cell? ⟨w.heap.size + 1, 3, none⟩ = some (.int .u8 (m3.toNat : Int)) ∧ w'.cell? ⟨w.heap.size + 1, 4, none⟩ = some (.int .u8 (m4.toNat : Int)) ∧ w'.cell? ⟨w.heap.size + 1, 5, none⟩ = some (.int .u8 (m5.toNat : Int)) ∧ w'.cell? ⟨w.heap.size + 1, 6, none⟩ = some (.int .u8 (m6.toNat : Int)) ∧ w'.cell? ⟨w.heap.size + 1, 7, none⟩ = some (.int .u8 (m7.toNat : Int))))) (by kernel_rfl) ?_ (fun hHeld => ?_)
  · ((try go_split_ands); repeat' (first | (with_reducible assumption) | apply And.intro | (rw [World.cell?_drew]) | (rw [World.cell?_alloc_new]; rfl) | ((with_reducible refine cellAt ?_ ?_); (focus (simp; done)); rfl) | (with_reducible refine keep1 ?_) | ((with_reducible apply keepB); focus (with_reducible assumption))))
  refine wpAnyH_take (i := 0) (oi := { dst := some 9, op := Op.load 23 (Operand.tmp 2), type := 23, pos := "law.go:35", after := #[], guard := none }) (v := ?_) rfl (by kernel_rfl) (by kernel_rfl) (by kernel_rfl) (fun _ _ _ h => h) (Or.inl ⟨by rfl, ?_⟩) (by assumption) ?_
  rotate_left
  · (intro w hSw; (try dsimp only at hSw); go_simp; try with_reducible rfl)
  try simp only [Act.put, List.setIfInBounds_toArray, List.set_cons_zero, List.set_cons_succ]
  refine wpAnyH_take (i := 1) (oi := { dst := some 10, op := Op.load 23 (Operand.tmp 3), type := 23, pos := "law.go:35", after := #[], guard := none }) (v := ?_) rfl (by kernel_rfl) (by kernel_rfl) (by kernel_rfl) (fun _ _ _ h => h) (Or.inl ⟨by rfl, ?_⟩) (by assumption) ?_
  rotate_left
  · (intro w hSw; (try dsimp only at hSw); go_simp; try with_reducible rfl)
  try simp only [Act.put, List.setIfInBounds_toArray, List.set_cons_zero, List.set_cons_succ]
  refine wpAnyH_take (i := 3) (oi := { dst := some 12, op := Op.load 23 (Operand.tmp 2), type := 23, pos := "law.go:35", after := #[], guard := none }) (v := ?_) rfl (by kernel_rfl) (by kernel_rfl) (by kernel_rfl) (fun _ _ _ h => h) (Or.inl ⟨by rfl, ?_⟩) (by assumption) ?_
  rotate_left
  · (intro w hSw; (try dsimp only at hSw); go_simp; try with_reducible rfl)
  try simp only [Act.put, List.setIfInBounds_toArray, List.set_cons_zero, List.set_cons_succ]
  refine wpAnyH_take (i := 5) (oi := { dst := some 14, op := Op.load 23 (Operand.tmp 3), type := 23, pos := "law.go:35", after := #[], guard := none }) (v := ?_) rfl (by kernel_rfl) (by kernel_rfl) (by kernel_rfl) (fun _ _ _ h => h) (Or.inl ⟨by rfl, ?_⟩) (by assumption) ?_
  rotate_left
  · (intro w hSw; (try dsimp only at hSw); go_simp; try with_reducible rfl)
  try simp only [Act.put, List.setIfInBounds_toArray, List.set_cons_zero, List.set_cons_succ]
  refine wpAnyH_ready (rs := [2]) (by kernel_rfl) (by simp) ?_
  refine AllReadyH.cons (o := { dst := some 11, op := Op.call { callee := Callee.value (Operand.func 18), args := #[Operand.tmp 9, Operand.tmp 10], argTypes := #[23, 23] }, type := 4, pos := "law.go:35", after := #[{ on := 0, ground := Ground.data }, { on := 1, ground := Ground.data }], guard := none }) rfl (fun K hK => ?_) (by exact AllReadyH.nil)
  go_simp
  (first | (go_at_call 18; first | ((with_reducible refine (c1 _).mono ?_); rintro e w9 ⟨rfl, hb9⟩; have hu9 := up (w := w) (by go_grown) hb9; have hv9 := hu9.size; have hs9 := hb9.size; have hb9 := hb9) | ((with_reducible refine (c2 _).mono ?_); rintro e w9 ⟨rfl, hb9⟩; have hu9 := up (w := w) (by go_grown) hb9; have hv9 := hu9.size; have hs9 := hb9.size; have hb9 := hb9)) | (go_at_call 16; first | ((with_reducible refine (c3 _).mono ?_); rintro e w' ⟨rfl, rfl⟩) | ((with_reducible refine (c4 _).mono ?_); rintro e w' ⟨rfl, rfl⟩)))
  refine hK.out _ _ ?_ (fun hHeld2 => ?_)
  · ((try go_split_ands); repeat' (first | (with_reducible assumption) | apply And.intro | (rw [World.cell?_drew]) | (rw [World.cell?_alloc_new]; rfl) | ((with_reducible refine cellAt ?_ ?_); (focus (simp; done)); rfl) | (with_reducible refine keep1 ?_) | ((with_reducible apply keepB); focus (with_reducible assumption))))
  clear hK K hHeld
  have hHeld := hHeld2
  clear hHeld2
  try simp only [Act.put, List.setIfInBounds_toArray, List.set_cons_zero, List.set_cons_succ]
  refine wpAnyH_ready (rs := [4]) (by kernel_rfl) (by simp) ?_
  refine AllReadyH.cons (o := { dst := some 13, op := Op.call { callee := Callee.value (Operand.func 16), args := #[Operand.tmp 12], argTypes := #[23] }, type := 31, pos := "law.go:35", after := #[{ on := 3, ground := Ground.data }, { on := 2, ground := Ground.chain }], guard := none }) rfl (fun K hK => ?_) (by exact AllReadyH.nil)
  go_simp
  (first | (go_at_call 18; first | ((with_reducible refine (c1 _).mono ?_); rintro e w9 ⟨rfl, hb9⟩; have hu9 := up (w := w) (by go_grown) hb9; have hv9 := hu9.size; have hs9 := hb9.size; have hb9 := hb9) | ((with_reducible refine (c2 _).mono ?_); rintro e w9 ⟨rfl, hb9⟩; have hu9 := up (w := w) (by go_grown) hb9; have hv9 := hu9.size; have hs9 := hb9.size; have hb9 := hb9)) | (go_at_call 16; first | ((with_reducible refine (c3 _).mono ?_); rintro e w' ⟨rfl, rfl⟩) | ((with_reducible refine (c4 _).mono ?_); rintro e w' ⟨rfl, rfl⟩)))
  refine hK.out _ _ ?_ (fun hHeld2 => ?_)
  · ((try go_split_ands); repeat' (first | (with_reducible assumption) | apply And.intro | (rw [World.cell?_drew]) | (rw [World.cell?_alloc_new]; rfl) | ((with_reducible refine cellAt ?_ ?_); (focus (simp; done)); rfl) | (with_reducible refine keep1 ?_) | ((with_reducible apply keepB); focus (with_reducible assumption))))
  clear hK K hHeld
  have hHeld := hHeld2
  clear hHeld2
  try simp only [Act.put, List.setIfInBounds_toArray, List.set_cons_zero, List.set_cons_succ]
  refine wpAnyH_ready (rs := [6]) (by kernel_rfl) (by simp) ?_
  refine AllReadyH.cons (o := { dst := some 15, op := Op.call { callee := Callee.value (Operand.func 16), args := #[Operand.tmp 14], argTypes := #[23] }, type := 31, pos := "law.go:35", after := #[{ on := 5, ground := Ground.data }, { on := 4, ground := Ground.chain }], guard := none }) rfl (fun K hK => ?_) (by exact AllReadyH.nil)
  go_simp
  (first | (go_at_call 18; first | ((with_reducible refine (c1 _).mono ?_); rintro e w9 ⟨rfl, hb9⟩; have hu9 := up (w := w) (by go_grown) hb9; have hv9 := hu9.size; have hs9 := hb9.size; have hb9 := hb9) | ((with_reducible refine (c2 _).mono ?_); rintro e w9 ⟨rfl, hb9⟩; have hu9 := up (w := w) (by go_grown) hb9; have hv9 := hu9.size; have hs9 := hb9.size; have hb9 := hb9)) | (go_at_call 16; first | ((with_reducible refine (c3 _).mono ?_); rintro e w' ⟨rfl, rfl⟩) | ((with_reducible refine (c4 _).mono ?_); rintro e w' ⟨rfl, rfl⟩)))
  refine hK.out _ _ ?_ (fun hHeld2 => ?_)
  · ((try go_split_ands); repeat' (first | (with_reducible assumption) | apply And.intro | (rw [World.cell?_drew]) | (rw [World.cell?_alloc_new]; rfl) | ((with_reducible refine cellAt ?_ ?_); (focus (simp; done)); rfl) | (with_reducible refine keep1 ?_) | ((with_reducible apply keepB); focus (with_reducible assumption))))
  clear hK K hHeld
  have hHeld := hHeld2
  clear hHeld2
  try simp only [Act.put, List.setIfInBounds_toArray, List.set_cons_zero, List.set_cons_succ]
  refine wpAnyH_take (i := 7) (oi := { dst := some 16, op := Op.binOp BinOp.lss 31 (Operand.tmp 13) (Operand.tmp 15) 31, type := 4, pos := "law.go:35", after := #[{ on := 4, ground := Ground.data }, { on := 6, ground := Ground.data }], guard := none }) (v := ?_) rfl (by kernel_rfl) (by kernel_rfl) (by kernel_rfl) (fun _ _ _ h => h) (Or.inl ⟨by rfl, ?_⟩) (by assumption) ?_
  rotate_left
  · (intro w hSw; (try dsimp only at hSw); go_simp; try with_reducible rfl)
  try simp only [Act.put, List.setIfInBounds_toArray, List.set_cons_zero, List.set_cons_succ]
  refine wpAnyH_take (i := 8) (oi := { dst := some 17, op := Op.binOp BinOp.neq 4 (Operand.tmp 11) (Operand.tmp 16) 4, type := 4, pos := "law.go:35", after := #[{ on := 2, ground := Ground.data }, { on := 7, ground := Ground.data }], guard := none }) (v := ?_) rfl (by kernel_rfl) (by kernel_rfl) (by kernel_rfl) (fun _ _ _ h => h) (Or.inl ⟨by rfl, ?_⟩) (by assumption) ?_
  rotate_left
  · (intro w hSw; (try dsimp only at hSw); go_simp; try with_reducible rfl)
  try simp only [Act.put, List.setIfInBounds_toArray, List.set_cons_zero, List.set_cons_succ]
  refine wpAnyH_take (i := 9) (oi := { dst := some 18, op := Op.move (Operand.tmp 17), type := 4, pos := "law.go:35", after := #[{ on := 8, ground := Ground.data }, { on := 6, ground := Ground.chain }], guard := none }) (v := ?_) rfl (by kernel_rfl) (by kernel_rfl) (by kernel_rfl) (fun _ _ _ h => h) (Or.inl ⟨by rfl, ?_⟩) (by assumption) ?_
  rotate_left
  · (intro w hSw; (try dsimp only at hSw); go_simp; try with_reducible rfl)
  try simp only [Act.put, List.setIfInBounds_toArray, List.set_cons_zero, List.set_cons_succ]
  refine wpAnyH_take (i := 10) (oi := { dst := some 19, op := Op.load 23 (Operand.tmp 2), type := 23, pos := "law.go:35", after := #[{ on := 9, ground := Ground.guard }], guard := some (9, false) }) (v := ?_) rfl (by kernel_rfl) (by kernel_rfl) (by kernel_rfl) (fun _ _ _ h => h) (Or.inl ⟨by rfl, ?_⟩) (by assumption) ?_
  rotate_left
  · (intro w hSw; (try dsimp only at hSw); go_simp; try with_reducible rfl)
  try simp only [Act.put, List.setIfInBounds_toArray, List.set_cons_zero, List.set_cons_succ]
  refine wpAnyH_take (i := 11) (oi := { dst := some 20, op := Op.load 23 (Operand.tmp 3), type := 23, pos := "law.go:35", after := #[{ on := 9, ground := Ground.guard }], guard := some (9, false) }) (v := ?_) rfl (by kernel_rfl) (by kernel_rfl) (by kernel_rfl) (fun _ _ _ h => h) (Or.inl ⟨by rfl, ?_⟩) (by assumption) ?_
  rotate_left
  · (intro w hSw; (try dsimp only at hSw); go_simp; try with_reducible rfl)
  try simp only [Act.put, List.setIfInBounds_toArray, List.set_cons_zero, List.set_cons_succ]
  refine wpAnyH_ready (rs := [12]) (by kernel_rfl) (by simp) ?_
  refine AllReadyH.cons (o := { dst := some 21, op := Op.call { callee := Callee.value (Operand.func 18), args := #[Operand.tmp 19, Operand.tmp 20], argTypes := #[23, 23] }, type := 4, pos := "law.go:35", after := #[{ on := 10, ground := Ground.data }, { on := 11, ground := Ground.data }, { on := 9, ground := Ground.chain }, { on := 9, ground := Ground.guard }], guard := some (9, false) }) rfl (fun K hK => ?_) (by exact AllReadyH.nil)
  go_simp
  (first | (go_at_call 18; first | ((with_reducible refine (c1 _).mono ?_); rintro e w9 ⟨rfl, hb9⟩; have hu9 := up (w := w) (by go_grown) hb9; have hv9 := hu9.size; have hs9 := hb9.size; have hb9 := hb9) | ((with_reducible refine (c2 _).mono ?_); rintro e w9 ⟨rfl, hb9⟩; have hu9 := up (w := w) (by go_grown) hb9; have hv9 := hu9.size; have hs9 := hb9.size; have hb9 := hb9)) | (go_at_call 16; first | ((with_reducible refine (c3 _).mono ?_); rintro e w' ⟨rfl, rfl⟩) | ((with_reducible refine (c4 _).mono ?_); rintro e w' ⟨rfl, rfl⟩)))
  refine hK.out _ _ ?_ (fun hHeld2 => ?_)
  · ((try go_split_ands); repeat' (first | (with_reducible assumption) | apply And.intro | (rw [World.cell?_drew]) | (rw [World.cell?_alloc_new]; rfl) | ((with_reducible refine cellAt ?_ ?_); (focus (simp; done)); rfl) | (with_reducible refine keep1 ?_) | ((with_reducible apply keepB); focus (with_reducible assumption))))
  clear hK K hHeld
  have hHeld := hHeld2
  clear hHeld2
  try simp only [Act.put, List.setIfInBounds_toArray, List.set_cons_zero, List.set_cons_succ]
  refine wpAnyH_take (i := 13) (oi := { dst := some 22, op := Op.move (Operand.tmp 21), type := 4, pos := "law.go:35", after := #[{ on := 12, ground := Ground.data }, { on := 12, ground := Ground.chain }, { on := 9, ground := Ground.guard }], guard := some (9, false) }) (v := ?_) rfl (by kernel_rfl) (by kernel_rfl) (by kernel_rfl) (fun _ _ _ h => h) (Or.inl ⟨by rfl, ?_⟩) (by assumption) ?_
  rotate_left
  · (intro w hSw; (try dsimp only at hSw); go_simp; try with_reducible rfl)
  try simp only [Act.put, List.setIfInBounds_toArray, List.set_cons_zero, List.set_cons_succ]
  refine wpAnyH_take (i := 14) (oi := { dst := some 23, op := Op.load 23 (Operand.tmp 3), type := 23, pos := "law.go:35", after := #[{ on := 13, ground := Ground.guard }], guard := some (13, true) }) (v := undef) rfl (by kernel_rfl) (by kernel_rfl) (by kernel_rfl) (fun _ _ _ h => h) (Or.inr ⟨by rfl, rfl⟩) (by assumption) ?_
  try simp only [Act.put, List.setIfInBounds_toArray, List.set_cons_zero, List.set_cons_succ]
  refine wpAnyH_take (i := 15) (oi := { dst := some 24, op := Op.load 23 (Operand.tmp 2), type := 23, pos := "law.go:35", after := #[{ on := 13, ground := Ground.guard }], guard := some (13, true) }) (v := undef) rfl (by kernel_rfl) (by kernel_rfl) (by kernel_rfl) (fun _ _ _ h => h) (Or.inr ⟨by rfl, rfl⟩) (by assumption) ?_
  try simp only [Act.put, List.setIfInBounds_toArray, List.set_cons_zero, List.set_cons_succ]
  refine wpAnyH_take (i := 16) (oi := { dst := some 25, op := Op.call { callee := Callee.value (Operand.func 18), args := #[Operand.tmp 23, Operand.tmp 24], argTypes := #[23, 23] }, type := 4, pos := "law.go:35", after := #[{ on := 14, ground := Ground.data }, { on := 15, ground := Ground.data }, { on := 13, ground := Ground.chain }, { on := 13, ground := Ground.guard }], guard := some (13, true) }) (v := undef) rfl (by kernel_rfl) (by kernel_rfl) (by kernel_rfl) (fun _ _ _ h => h) (Or.inr ⟨by rfl, rfl⟩) (by assumption) ?_
  try simp only [Act.put, List.setIfInBounds_toArray, List.set_cons_zero, List.set_cons_succ]
  refine wpAnyH_take (i := 17) (oi := { dst := some 26, op := Op.pick (Operand.tmp 22) (Operand.tmp 25) (Operand.const (Value.bool false)), type := 4, pos := "law.go:35", after := #[{ on := 13, ground := Ground.data }, { on := 16, ground := Ground.data }, { on := 9, ground := Ground.guard }], guard := some (9, false) }) (v := ?_) rfl (by kernel_rfl) (by kernel_rfl) (by kernel_rfl) (fun _ _ _ h => h) (Or.inl ⟨by rfl, ?_⟩) (by assumption) ?_
  rotate_left
  · (intro w hSw; (try dsimp only at hSw); go_simp; try with_reducible rfl)
  try simp only [Act.put, List.setIfInBounds_toArray, List.set_cons_zero, List.set_cons_succ]
  refine wpAnyH_take (i := 18) (oi := { dst := some 27, op := Op.pick (Operand.tmp 18) (Operand.const (Value.bool true)) (Operand.tmp 26), type := 4, pos := "law.go:35", after := #[{ on := 9, ground := Ground.data }, { on := 17, ground := Ground.data }], guard := none }) (v := ?_) rfl (by kernel_rfl) (by kernel_rfl) (by kernel_rfl) (fun _ _ _ h => h) (Or.inl ⟨by rfl, ?_⟩) (by assumption) ?_
  rotate_left
  · (intro w hSw; (try dsimp only at hSw); go_simp; try with_reducible rfl)
  try simp only [Act.put, List.setIfInBounds_toArray, List.set_cons_zero, List.set_cons_succ]
  refine wpAnyH_take (i := 19) (oi := { dst := some 28, op := Op.move (Operand.tmp 27), type := 4, pos := "law.go:35", after := #[{ on := 18, ground := Ground.data }, { on := 16, ground := Ground.chain }], guard := none }) (v := ?_) rfl (by kernel_rfl) (by kernel_rfl) (by kernel_rfl) (fun _ _ _ h => h) (Or.inl ⟨by rfl, ?_⟩) (by assumption) ?_
  rotate_left
  · (intro w hSw; (try dsimp only at hSw); go_simp; try with_reducible rfl)
  try simp only [Act.put, List.setIfInBounds_toArray, List.set_cons_zero, List.set_cons_succ]
  refine wpAnyH_take (i := 20) (oi := { dst := some 29, op := Op.load 23 (Operand.tmp 2), type := 23, pos := "law.go:35", after := #[{ on := 19, ground := Ground.guard }], guard := some (19, false) }) (v := ?_) rfl (by kernel_rfl) (by kernel_rfl) (by kernel_rfl) (fun _ _ _ h => h) (Or.inl ⟨by rfl, ?_⟩) (by assumption) ?_
  rotate_left
  · (intro w hSw; (try dsimp only at hSw); go_simp; try with_reducible rfl)
  try simp only [Act.put, List.setIfInBounds_toArray, List.set_cons_zero, List.set_cons_succ]
  refine wpAnyH_take (i := 21) (oi := { dst := some 30, op := Op.load 23 (Operand.tmp 3), type := 23, pos := "law.go:35", after := #[{ on := 19, ground := Ground.guard }], guard := some (19, false) }) (v := ?_) rfl (by kernel_rfl) (by kernel_rfl) (by kernel_rfl) (fun _ _ _ h => h) (Or.inl ⟨by rfl, ?_⟩) (by assumption) ?_
  rotate_left
  · (intro w hSw; (try dsimp only at hSw); go_simp; try with_reducible rfl)
  try simp only [Act.put, List.setIfInBounds_toArray, List.set_cons_zero, List.set_cons_succ]
  refine wpAnyH_take (i := 30) (oi := { dst := some 39, op := Op.load 23 (Operand.tmp 2), type := 23, pos := "law.go:35", after := #[{ on := 19, ground := Ground.guard }], guard := some (19, false) }) (v := ?_) rfl (by kernel_rfl) (by kernel_rfl) (by kernel_rfl) (fun _ _ _ h => h) (Or.inl ⟨by rfl, ?_⟩) (by assumption) ?_
  rotate_left
  · (intro w hSw; (try dsimp only at hSw); go_simp; try with_reducible rfl)
  try simp only [Act.put, List.setIfInBounds_toArray, List.set_cons_zero, List.set_cons_succ]
  refine wpAnyH_take (i := 31) (oi := { dst := some 40, op := Op.load 23 (Operand.tmp 3), type := 23, pos := "law.go:35", after := #[{ on := 19, ground := Ground.guard }], guard := some (19, false) }) (v := ?_) rfl (by kernel_rfl) (by kernel_rfl) (by kernel_rfl) (fun _ _ _ h => h) (Or.inl ⟨by rfl, ?_⟩) (by assumption) ?_
  rotate_left
  · (intro w hSw; (try dsimp only at hSw); go_simp; try with_reducible rfl)
  try simp only [Act.put, List.setIfInBounds_toArray, List.set_cons_zero, List.set_cons_succ]
  refine wpAnyH_take (i := 32) (oi := { dst := some 41, op := Op.binOp BinOp.eql 23 (Operand.tmp 39) (Operand.tmp 40) 23, type := 4, pos := "law.go:35", after := #[{ on := 30, ground := Ground.data }, { on := 31, ground := Ground.data }, { on := 19, ground := Ground.guard }], guard := some (19, false) }) (v := ?_) rfl (by kernel_rfl) (by kernel_rfl) (by kernel_rfl) (fun _ _ _ h => h) (Or.inl ⟨by rfl, ?_⟩) (by assumption) ?_
  rotate_left
  · (intro w hSw; (try dsimp only at hSw); go_simp; try with_reducible rfl)
  try simp only [Act.put, List.setIfInBounds_toArray, List.set_cons_zero, List.set_cons_succ]
  refine wpAnyH_ready (rs := [22]) (by kernel_rfl) (by simp) ?_
  refine AllReadyH.cons (o := { dst := some 31, op := Op.call { callee := Callee.value (Operand.func 18), args := #[Operand.tmp 29, Operand.tmp 30], argTypes := #[23, 23] }, type := 4, pos := "law.go:35", after := #[{ on := 20, ground := Ground.data }, { on := 21, ground := Ground.data }, { on := 19, ground := Ground.chain }, { on := 19, ground := Ground.guard }], guard := some (19, false) }) rfl (fun K hK => ?_) (by exact AllReadyH.nil)
  go_simp
  (first | (go_at_call 18; first | ((with_reducible refine (c1 _).mono ?_); rintro e w9 ⟨rfl, hb9⟩; have hu9 := up (w := w) (by go_grown) hb9; have hv9 := hu9.size; have hs9 := hb9.size; have hb9 := hb9) | ((with_reducible refine (c2 _).mono ?_); rintro e w9 ⟨rfl, hb9⟩; have hu9 := up (w := w) (by go_grown) hb9; have hv9 := hu9.size; have hs9 := hb9.size; have hb9 := hb9)) | (go_at_call 16; first | ((with_reducible refine (c3 _).mono ?_); rintro e w' ⟨rfl, rfl⟩) | ((with_reducible refine (c4 _).mono ?_); rintro e w' ⟨rfl, rfl⟩)))
  refine hK.out _ _ ?_ (fun hHeld2 => ?_)
  · ((try go_split_ands); repeat' (first | (with_reducible assumption) | apply And.intro | (rw [World.cell?_drew]) | (rw [World.cell?_alloc_new]; rfl) | ((with_reducible refine cellAt ?_ ?_); (focus (simp; done)); rfl) | (with_reducible refine keep1 ?_) | ((with_reducible apply keepB); focus (with_reducible assumption))))
  clear hK K hHeld
  have hHeld := hHeld2
  clear hHeld2
  try simp only [Act.put, List.setIfInBounds_toArray, List.set_cons_zero, List.set_cons_succ]
  refine wpAnyH_take (i := 23) (oi := { dst := some 32, op := Op.unOp UnOp.not 4 (Operand.tmp 31), type := 4, pos := "law.go:35", after := #[{ on := 22, ground := Ground.data }, { on := 19, ground := Ground.guard }], guard := some (19, false) }) (v := ?_) rfl (by kernel_rfl) (by kernel_rfl) (by kernel_rfl) (fun _ _ _ h => h) (Or.inl ⟨by rfl, ?_⟩) (by assumption) ?_
  rotate_left
  · (intro w hSw; (try dsimp only at hSw); go_simp; try with_reducible rfl)
  try simp only [Act.put, List.setIfInBounds_toArray, List.set_cons_zero, List.set_cons_succ]
  refine wpAnyH_take (i := 24) (oi := { dst := some 33, op := Op.move (Operand.tmp 32), type := 4, pos := "law.go:35", after := #[{ on := 23, ground := Ground.data }, { on := 22, ground := Ground.chain }, { on := 19, ground := Ground.guard }], guard := some (19, false) }) (v := ?_) rfl (by kernel_rfl) (by kernel_rfl) (by kernel_rfl) (fun _ _ _ h => h) (Or.inl ⟨by rfl, ?_⟩) (by assumption) ?_
  rotate_left
  · (intro w hSw; (try dsimp only at hSw); go_simp; try with_reducible rfl)
  try simp only [Act.put, List.setIfInBounds_toArray, List.set_cons_zero, List.set_cons_succ]
  refine wpAnyH_take (i := 25) (oi := { dst := some 34, op := Op.load 23 (Operand.tmp 3), type := 23, pos := "law.go:35", after := #[{ on := 24, ground := Ground.guard }], guard := some (24, true) }) (v := ?_) rfl (by kernel_rfl) (by kernel_rfl) (by kernel_rfl) (fun _ _ _ h => h) (Or.inl ⟨by rfl, ?_⟩) (by assumption) ?_
  rotate_left
  · (intro w hSw; (try dsimp only at hSw); go_simp; try with_reducible rfl)
  try simp only [Act.put, List.setIfInBounds_toArray, List.set_cons_zero, List.set_cons_succ]
  refine wpAnyH_take (i := 26) (oi := { dst := some 35, op := Op.load 23 (Operand.tmp 2), type := 23, pos := "law.go:35", after := #[{ on := 24, ground := Ground.guard }], guard := some (24, true) }) (v := ?_) rfl (by kernel_rfl) (by kernel_rfl) (by kernel_rfl) (fun _ _ _ h => h) (Or.inl ⟨by rfl, ?_⟩) (by assumption) ?_
  rotate_left
  · (intro w hSw; (try dsimp only at hSw); go_simp; try with_reducible rfl)
  try simp only [Act.put, List.setIfInBounds_toArray, List.set_cons_zero, List.set_cons_succ]
  refine wpAnyH_ready (rs := [27]) (by kernel_rfl) (by simp) ?_
  refine AllReadyH.cons (o := { dst := some 36, op := Op.call { callee := Callee.value (Operand.func 18), args := #[Operand.tmp 34, Operand.tmp 35], argTypes := #[23, 23] }, type := 4, pos := "law.go:35", after := #[{ on := 25, ground := Ground.data }, { on := 26, ground := Ground.data }, { on := 24, ground := Ground.chain }, { on := 24, ground := Ground.guard }], guard := some (24, true) }) rfl (fun K hK => ?_) (by exact AllReadyH.nil)
  go_simp
  (first | (go_at_call 18; first | ((with_reducible refine (c1 _).mono ?_); rintro e w9 ⟨rfl, hb9⟩; have hu9 := up (w := w) (by go_grown) hb9; have hv9 := hu9.size; have hs9 := hb9.size; have hb9 := hb9) | ((with_reducible refine (c2 _).mono ?_); rintro e w9 ⟨rfl, hb9⟩; have hu9 := up (w := w) (by go_grown) hb9; have hv9 := hu9.size; have hs9 := hb9.size; have hb9 := hb9)) | (go_at_call 16; first | ((with_reducible refine (c3 _).mono ?_); rintro e w' ⟨rfl, rfl⟩) | ((with_reducible refine (c4 _).mono ?_); rintro e w' ⟨rfl, rfl⟩)))
  refine hK.out _ _ ?_ (fun hHeld2 => ?_)
  · ((try go_split_ands); repeat' (first | (with_reducible assumption) | apply And.intro | (rw [World.cell?_drew]) | (rw [World.cell?_alloc_new]; rfl) | ((with_reducible refine cellAt ?_ ?_); (focus (simp; done)); rfl) | (with_reducible refine keep1 ?_) | ((with_reducible apply keepB); focus (with_reducible assumption))))
  clear hK K hHeld
  have hHeld := hHeld2
  clear hHeld2
  try simp only [Act.put, List.setIfInBounds_toArray, List.set_cons_zero, List.set_cons_succ]
  refine wpAnyH_take (i := 28) (oi := { dst := some 37, op := Op.unOp UnOp.not 4 (Operand.tmp 36), type := 4, pos := "law.go:35", after := #[{ on := 27, ground := Ground.data }, { on := 24, ground := Ground.guard }], guard := some (24, true) }) (v := ?_) rfl (by kernel_rfl) (by kernel_rfl) (by kernel_rfl) (fun _ _ _ h => h) (Or.inl ⟨by rfl, ?_⟩) (by assumption) ?_
  rotate_left
  · (intro w hSw; (try dsimp only at hSw); go_simp; try with_reducible rfl)
  try simp only [Act.put, List.setIfInBounds_toArray, List.set_cons_zero, List.set_cons_succ]
  refine wpAnyH_take (i := 29) (oi := { dst := some 38, op := Op.pick (Operand.tmp 33) (Operand.tmp 37) (Operand.const (Value.bool false)), type := 4, pos := "law.go:35", after := #[{ on := 24, ground := Ground.data }, { on := 28, ground := Ground.data }, { on := 19, ground := Ground.guard }], guard := some (19, false) }) (v := ?_) rfl (by kernel_rfl) (by kernel_rfl) (by kernel_rfl) (fun _ _ _ h => h) (Or.inl ⟨by rfl, ?_⟩) (by assumption) ?_
  rotate_left
  · (intro w hSw; (try dsimp only at hSw); go_simp; try with_reducible rfl)
  try simp only [Act.put, List.setIfInBounds_toArray, List.set_cons_zero, List.set_cons_succ]
  refine wpAnyH_take (i := 33) (oi := { dst := some 42, op := Op.binOp BinOp.neq 4 (Operand.tmp 38) (Operand.tmp 41) 4, type := 4, pos := "law.go:35", after := #[{ on := 29, ground := Ground.data }, { on := 32, ground := Ground.data }, { on := 19, ground := Ground.guard }], guard := some (19, false) }) (v := ?_) rfl (by kernel_rfl) (by kernel_rfl) (by kernel_rfl) (fun _ _ _ h => h) (Or.inl ⟨by rfl, ?_⟩) (by assumption) ?_
  rotate_left
  · (intro w hSw; (try dsimp only at hSw); go_simp; try with_reducible rfl)
  try simp only [Act.put, List.setIfInBounds_toArray, List.set_cons_zero, List.set_cons_succ]
  refine wpAnyH_take (i := 34) (oi := { dst := some 43, op := Op.pick (Operand.tmp 28) (Operand.const (Value.bool true)) (Operand.tmp 42), type := 4, pos := "law.go:35", after := #[{ on := 19, ground := Ground.data }, { on := 33, ground := Ground.data }], guard := none }) (v := ?_) rfl (by kernel_rfl) (by kernel_rfl) (by kernel_rfl) (fun _ _ _ h => h) (Or.inl ⟨by rfl, ?_⟩) (by assumption) ?_
  rotate_left
  · (intro w hSw; (try dsimp only at hSw); go_simp; try with_reducible rfl)
  try simp only [Act.put, List.setIfInBounds_toArray, List.set_cons_zero, List.set_cons_succ]
  refine wpAnyH_done (by kernel_rfl) ?_ _
  obtain ⟨⟨a0, a1, a2, a3, a4, a5, a6, a7⟩, ⟨b0, b1, b2, b3, b4, b5, b6, b7⟩⟩ := hHeld
  have lt9 : w.heap.size < w9.heap.size := World.block_lt_of_cell? w9 _ a0
  cases r
  · clear c7 c8 c9
    go_wp2_with (first | (go_at_call 11; ((with_reducible refine (c5 _).mono ?_); rintro e w' ⟨rfl, rfl⟩)) | (go_at_call 6; ((with_reducible refine (ca _).mono ?_); rintro e w4 ⟨rfl, hb4⟩; have hu4 := up (w := w) (by go_grown) hb4; have hv4 := hu4.size; have hs4 := hb4.size; have hb4 := hb4)))
    go_ret
    exact ⟨rfl, by go_grown⟩
  · have d7 := c7 rfl
    have d8 := c8 rfl
    have d9 := c9 rfl
    clear c7 c8 c9
    go_wp2_with (first | (go_at_call 11; ((with_reducible refine (c5 _).mono ?_); rintro e w' ⟨rfl, rfl⟩)) | (go_at_call 9; ((with_reducible refine (c6 _).mono ?_); rintro e w' ⟨rfl, rfl⟩)) | (go_at_call 16; ((with_reducible refine (c3 _).mono ?_); rintro e w' ⟨rfl, rfl⟩)) | (go_at_call 7; ((with_reducible refine (d7 _).mono ?_); rintro e w7 ⟨rfl, hb7⟩; have hu7 := up (w := w) (by go_grown) hb7; have hv7 := hu7.size; have hs7 := hb7.size; have hz7a : w.heap.size < w7.heap.size := (by have hq := hs7; (try simp at hq); omega); have hz7b : w9.heap.size < w7.heap.size := (by have hq := hs7; (try simp at hq); omega); have g0 := keepB hb7 (keep1 (keep1 (keep1 (keep1 a0)))); have g1 := keepB hb7 (keep1 (keep1 (keep1 (keep1 a1)))); have g2 := keepB hb7 (keep1 (keep1 (keep1 (keep1 a2)))); have g3 := keepB hb7 (keep1 (keep1 (keep1 (keep1 a3)))); have g4 := keepB hb7 (keep1 (keep1 (keep1 (keep1 a4)))); have g5 := keepB hb7 (keep1 (keep1 (keep1 (keep1 a5)))); have g6 := keepB hb7 (keep1 (keep1 (keep1 (keep1 a6)))); have g7 := keepB hb7 (keep1 (keep1 (keep1 (keep1 a7)))); have hb7 := hb7)) | (go_at_call 14; ((with_reducible refine (d8 _).mono ?_); rintro e w8 ⟨rfl, hb8⟩; have hu8 := up (w := w) (by go_grown) hb8; have hv8 := hu8.size; have hs8 := hb8.size; have hz8a : w.heap.size < w8.heap.size := (by have hq := hs8; (try simp at hq); omega); have hz8b : w9.heap.size < w8.heap.size := (by have hq := hs8; (try simp at hq); omega); have hz8c : w7.heap.size < w8.heap.size := (by have hq := hs8; (try simp at hq); omega); have h0 := keepB hb8 (keep1 (keep1 g0)); have h1 := keepB hb8 (keep1 (keep1 g1)); have h2 := keepB hb8 (keep1 (keep1 g2)); have h3 := keepB hb8 (keep1 (keep1 g3)); have h4 := keepB hb8 (keep1 (keep1 g4)); have h5 := keepB hb8 (keep1 (keep1 g5)); have h6 := keepB hb8 (keep1 (keep1 g6)); have h7 := keepB hb8 (keep1 (keep1 g7)); have x0 : w8.cell? ⟨w7.heap.size, 0, none⟩ = some (.int .u8 (n0.toNat : Int)) := keepB hb8 (keep1 (cellAt rfl rfl)); have x1 : w8.cell? ⟨w7.heap.size, 1, none⟩ = some (.int .u8 (n1.toNat : Int)) := keepB hb8 (keep1 (cellAt rfl rfl)); have x2 : w8.cell? ⟨w7.heap.size, 2, none⟩ = some (.int .u8 (n2.toNat : Int)) := keepB hb8 (keep1 (cellAt rfl rfl)); have x3 : w8.cell? ⟨w7.heap.size, 3, none⟩ = some (.int .u8 (n3.toNat : Int)) := keepB hb8 (keep1 (cellAt rfl rfl)); have x4 : w8.cell? ⟨w7.heap.size, 4, none⟩ = some (.int .u8 (n4.toNat : Int)) := keepB hb8 (keep1 (cellAt rfl rfl)); have x5 : w8.cell? ⟨w7.heap.size, 5, none⟩ = some (.int .u8 (n5.toNat : Int)) := keepB hb8 (keep1 (cellAt rfl rfl)); have x6 : w8.cell? ⟨w7.heap.size, 6, none⟩ = some (.int .u8 (n6.toNat : Int)) := keepB hb8 (keep1 (cellAt rfl rfl)); have x7 : w8.cell? ⟨w7.heap.size, 7, none⟩ = some (.int .u8 (n7.toNat : Int)) := keepB hb8 (keep1 (cellAt rfl rfl)); have hb8 := hb8)) | (go_at_call 13; ((with_reducible refine (d9 _).mono ?_); rintro e w' ⟨rfl, rfl⟩)) | (go_at_call 6; ((with_reducible refine (ca _).mono ?_); rintro e w4 ⟨rfl, hb4⟩; have hu4 := up (w := w) (by go_grown) hb4; have hv4 := hu4.size; have hs4 := hb4.size; have hb4 := hb4)))
    all_goals (go_ret; exact ⟨rfl, by go_grown⟩)
theorem back_walk (n0 n1 n2 n3 n4 n5 n6 n7 m0 m1 m2 m3 m4 m5 m6 m7 : UInt8) (w : World) : Calls Try.prog 5 #[.agg #[.int .u8 (n0.toNat : Int), .int .u8 (n1.toNat : Int), .int .u8 (n2.toNat : Int), .int .u8 (n3.toNat : Int), .int .u8 (n4.toNat : Int), .int .u8 (n5.toNat : Int), .int .u8 (n6.toNat : Int), .int .u8 (n7.toNat : Int)], .agg #[.int .u8 (m0.toNat : Int), .int .u8 (m1.toNat : Int), .int .u8 (m2.toNat : Int), .int .u8 (m3.toNat : Int), .int .u8 (m4.toNat : Int), .int .u8 (m5.toNat : Int), .int .u8 (m6.toNat : Int), .int .u8 (m7.toNat : Int)]] w fun e w' => e = .returned (.bool true) ∧ Below w.heap.size w w' := by
  have c1 := fun W => less_any n0 n1 n2 n3 n4 n5 n6 n7 m0 m1 m2 m3 m4 m5 m6 m7 W
  have c2 := fun W => less_any m0 m1 m2 m3 m4 m5 m6 m7 n0 n1 n2 n3 n4 n5 n6 n7 W
  have c3 := fun W => number_any n0 n1 n2 n3 n4 n5 n6 n7 W
  have c4 := fun W => number_any m0 m1 m2 m3 m4 m5 m6 m7 W
  have c5 := fun W => right_any n0 n1 n2 n3 n4 n5 n6 n7 W
  have c6 := fun W => text_any n0 n1 n2 n3 n4 n5 n6 n7 W
  have heq := fun W => eql_name n0 n1 n2 n3 n4 n5 n6 n7 m0 m1 m2 m3 m4 m5 m6 m7 W
  have c7 : Pl.right [n0, n1, n2, n3, n4, n5, n6, n7] = true → ∀ W, Calls Try.prog 7 #[.string (Pl.str (Pl.text [n0, n1, n2, n3, n4, n5, n6, n7]))] W fun e w' => e = .returned (.tuple #[.agg #[.int .u8 (n0.toNat : Int), .int .u8 (n1.toNat : Int), .int .u8 (n2.toNat : Int), .int .u8 (n3.toNat : Int), .int .u8 (n4.toNat : Int), .int .u8 (n5.toNat : Int), .int .u8 (n6.toNat : Int), .int .u8 (n7.toNat : Int)], .int .i64 0]) ∧ Below W.heap.size W w' := by
    intro hr W
    obtain ⟨hn, hp⟩ := Pl.right_back [n0, n1, n2, n3, n4, n5, n6, n7] rfl hr
    have h8 : (Pl.text [n0, n1, n2, n3, n4, n5, n6, n7]).length ≤ 8 := Pl.sz_le [n0, n1, n2, n3, n4, n5, n6, n7]
    have h := of_any (Pl.text [n0, n1, n2, n3, n4, n5, n6, n7]) h8 n0 n1 n2 n3 n4 n5 n6 n7 hp W
    rw [hn] at h
    exact h
  have c8 : Pl.right [n0, n1, n2, n3, n4, n5, n6, n7] = true → ∀ W, Calls Try.prog 14 #[.int .u64 (Pl.num [n0, n1, n2, n3, n4, n5, n6, n7]).toNat] W fun e w' => e = .returned (.tuple #[.agg #[.int .u8 (n0.toNat : Int), .int .u8 (n1.toNat : Int), .int .u8 (n2.toNat : Int), .int .u8 (n3.toNat : Int), .int .u8 (n4.toNat : Int), .int .u8 (n5.toNat : Int), .int .u8 (n6.toNat : Int), .int .u8 (n7.toNat : Int)], .int .i64 0]) ∧ Below W.heap.size W w' := by
    intro hr W
    have h := from_any (Pl.num [n0, n1, n2, n3, n4, n5, n6, n7]) W
    rw [Pl.byteAt_num n0 n1 n2 n3 n4 n5 n6 n7 0 (by omega), Pl.byteAt_num n0 n1 n2 n3 n4 n5 n6 n7 1 (by omega), Pl.byteAt_num n0 n1 n2 n3 n4 n5 n6 n7 2 (by omega), Pl.byteAt_num n0 n1 n2 n3 n4 n5 n6 n7 3 (by omega), Pl.byteAt_num n0 n1 n2 n3 n4 n5 n6 n7 4 (by omega), Pl.byteAt_num n0 n1 n2 n3 n4 n5 n6 n7 5 (by omega), Pl.byteAt_num n0 n1 n2 n3 n4 n5 n6 n7 6 (by omega), Pl.byteAt_num n0 n1 n2 n3 n4 n5 n6 n7 7 (by omega)] at h
    simp only [List.getD_cons_zero, List.getD_cons_succ] at h
    rw [hr] at h
    exact h
  have c9 : Pl.right [n0, n1, n2, n3, n4, n5, n6, n7] = true → ∀ W, Calls Try.prog 13 #[.agg #[.int .u8 (n0.toNat : Int), .int .u8 (n1.toNat : Int), .int .u8 (n2.toNat : Int), .int .u8 (n3.toNat : Int), .int .u8 (n4.toNat : Int), .int .u8 (n5.toNat : Int), .int .u8 (n6.toNat : Int), .int .u8 (n7.toNat : Int)]] W fun e w' => e = .returned (.bool true) ∧ W.alloc (.cells #[.int .u8 (n0.toNat : Int), .int .u8 (n1.toNat : Int), .int .u8 (n2.toNat : Int), .int .u8 (n3.toNat : Int), .int .u8 (n4.toNat : Int), .int .u8 (n5.toNat : Int), .int .u8 (n6.toNat : Int), .int .u8 (n7.toNat : Int)] 23) = w' := by
    intro hr W
    have h := some_any n0 n1 n2 n3 n4 n5 n6 n7 W
    have e := Pl.right_some [n0, n1, n2, n3, n4, n5, n6, n7] rfl hr
    rw [decide_eq_false (show ¬ ([n0, n1, n2, n3, n4, n5, n6, n7] : List UInt8) = [0, 0, 0, 0, 0, 0, 0, 0] from e)] at h
    exact h
  rcases Nat.lt_trichotomy (Pl.num [n0, n1, n2, n3, n4, n5, n6, n7]).toNat (Pl.num [m0, m1, m2, m3, m4, m5, m6, m7]).toNat with h | h | h
  · have hne : ¬ ([n0, n1, n2, n3, n4, n5, n6, n7] : List UInt8) = [m0, m1, m2, m3, m4, m5, m6, m7] := fun e => by rw [e] at h; omega
    rw [decide_eq_true h] at c1
    rw [decide_eq_false (by omega)] at c2
    rw [decide_eq_false hne] at heq
    exact back_lt n0 n1 n2 n3 n4 n5 n6 n7 m0 m1 m2 m3 m4 m5 m6 m7 _ _ (by exact_mod_cast h) c1 c2 c3 c4 heq _ _ c5 c6 c7 c8 c9 w
  · have hee := Pl.num_inj n0 n1 n2 n3 n4 n5 n6 n7 m0 m1 m2 m3 m4 m5 m6 m7 h
    rw [decide_eq_false (by omega)] at c1
    rw [decide_eq_false (by omega)] at c2
    rw [decide_eq_true hee] at heq
    rw [← h] at c4
    exact back_eq n0 n1 n2 n3 n4 n5 n6 n7 m0 m1 m2 m3 m4 m5 m6 m7 _ c1 c2 c3 c4 heq _ _ c5 c6 c7 c8 c9 w
  · have hne : ¬ ([n0, n1, n2, n3, n4, n5, n6, n7] : List UInt8) = [m0, m1, m2, m3, m4, m5, m6, m7] := fun e => by rw [e] at h; omega
    rw [decide_eq_false (by omega)] at c1
    rw [decide_eq_true h] at c2
    rw [decide_eq_false hne] at heq
    exact back_gt n0 n1 n2 n3 n4 n5 n6 n7 m0 m1 m2 m3 m4 m5 m6 m7 _ _ (by exact_mod_cast h) c1 c2 c3 c4 heq _ _ c5 c6 c7 c8 c9 w
end Go.Proofs.Ytbhbcmngbdpfoaa
