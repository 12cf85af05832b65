/- The walk of the law NameTexts. -/
import Derived.Test.YtbhbcmngbdpfoaaLb
namespace Go.Proofs.Ytbhbcmngbdpfoaa
open Go.RowKit
set_option linter.unusedVariables false
set_option linter.unusedSimpArgs false
theorem of_both (l : List UInt8) (hl : l.length ≤ 100) : ∃ (q0 q1 q2 q3 q4 q5 q6 q7 : UInt8) (k : Int), (∀ W, Calls Try.prog 7 #[.string (Pl.str l)] W fun e w' => e = .returned (.tuple #[.agg #[.int .u8 (q0.toNat : Int), .int .u8 (q1.toNat : Int), .int .u8 (q2.toNat : Int), .int .u8 (q3.toNat : Int), .int .u8 (q4.toNat : Int), .int .u8 (q5.toNat : Int), .int .u8 (q6.toNat : Int), .int .u8 (q7.toNat : Int)], .int .i64 k]) ∧ Below W.heap.size W w') ∧
    (∀ W, Calls Try.prog 8 #[.string (Pl.str l)] W fun e w' => e = .returned (.tuple #[.agg #[.int .u8 (q0.toNat : Int), .int .u8 (q1.toNat : Int), .int .u8 (q2.toNat : Int), .int .u8 (q3.toNat : Int), .int .u8 (q4.toNat : Int), .int .u8 (q5.toNat : Int), .int .u8 (q6.toNat : Int), .int .u8 (q7.toNat : Int)], .int .i64 k]) ∧ Below W.heap.size W w') := by
  by_cases h8 : l.length ≤ 8
  · obtain ⟨p0, p1, p2, p3, p4, p5, p6, p7, hp⟩ := Pl.eight _ (Pl.pad_length l h8)
    have h1 := fun W => of_any l h8 p0 p1 p2 p3 p4 p5 p6 p7 hp W
    have h2 := fun W => refof_any l hl p0 p1 p2 p3 p4 p5 p6 p7 (fun _ => hp) W
    cases hb : Pl.isName l
    · rw [hb] at h1 h2
      exact ⟨0, 0, 0, 0, 0, 0, 0, 0, 3, h1, h2⟩
    · rw [hb] at h1 h2
      exact ⟨_, _, _, _, _, _, _, _, 0, h1, h2⟩
  · have hb : Pl.isName l = false := by unfold Pl.isName; rw [decide_eq_false h8]; simp
    have h1 := fun W => of_long l (by omega) hl W
    have h2 := fun W => refof_any l hl 0 0 0 0 0 0 0 0 (fun h => by rw [hb] at h; cases h) W
    rw [hb] at h2
    exact ⟨0, 0, 0, 0, 0, 0, 0, 0, 3, h1, h2⟩
set_option maxHeartbeats 4000000 in
theorem texts_walk (s : ByteArray) (hs : s.size ≤ maxLen) (n0 n1 n2 n3 n4 n5 n6 n7 : UInt8) (w : World) : Calls Try.prog 3 #[.string s, .agg #[.int .u8 (n0.toNat : Int), .int .u8 (n1.toNat : Int), .int .u8 (n2.toNat : Int), .int .u8 (n3.toNat : Int), .int .u8 (n4.toNat : Int), .int .u8 (n5.toNat : Int), .int .u8 (n6.toNat : Int), .int .u8 (n7.toNat : Int)]] w fun e w' => e = .returned (.bool true) ∧ Below w.heap.size w w' := by
  unfold maxLen at hs
  have c7 := fun W => alive_any W
  by_cases h100 : 100 < s.size
  · go_enter Try.func3, Try.ntmps3
    go_wp2_with (go_at_call 6; ((with_reducible refine (c7 _).mono ?_); rintro e w7 ⟨rfl, hb7⟩; have hu7 := up (w := w) (by go_grown) hb7; have hv7 := hu7.size; have hs7 := hb7.size; have hb7 := hb7))
    go_ret
    exact ⟨rfl, by go_grown⟩
  · obtain ⟨l, rfl⟩ := Pl.str_of s
    rw [Pl.str_size] at h100 hs
    have hsz : (Pl.str l).size ≤ 100 := by rw [Pl.str_size]; omega
    obtain ⟨q0, q1, q2, q3, q4, q5, q6, q7, k, c1, c2⟩ := of_both l (by omega)
    clear h100 hs
    have c3 := fun W => text_any n0 n1 n2 n3 n4 n5 n6 n7 W
    have c4 := fun W => reftext_any n0 n1 n2 n3 n4 n5 n6 n7 W
    have c5 := fun W => right_any n0 n1 n2 n3 n4 n5 n6 n7 W
    have c6 := fun W => refright_any n0 n1 n2 n3 n4 n5 n6 n7 W
    have c8 := fun W => some_any n0 n1 n2 n3 n4 n5 n6 n7 W
    have hn : ∀ W, (binOp .neq 23 (.agg #[.int .u8 (n0.toNat : Int), .int .u8 (n1.toNat : Int), .int .u8 (n2.toNat : Int), .int .u8 (n3.toNat : Int), .int .u8 (n4.toNat : Int), .int .u8 (n5.toNat : Int), .int .u8 (n6.toNat : Int), .int .u8 (n7.toNat : Int)]) (.agg #[.int .u8 0, .int .u8 0, .int .u8 0, .int .u8 0, .int .u8 0, .int .u8 0, .int .u8 0, .int .u8 0])).run Try.prog W = .ok (.bool (!decide (([n0, n1, n2, n3, n4, n5, n6, n7] : List UInt8) = [0, 0, 0, 0, 0, 0, 0, 0]))) W := neq_name n0 n1 n2 n3 n4 n5 n6 n7 0 0 0 0 0 0 0 0
    generalize (!decide (([n0, n1, n2, n3, n4, n5, n6, n7] : List UInt8) = [0, 0, 0, 0, 0, 0, 0, 0])) = v at c8 hn
    generalize Pl.right [n0, n1, n2, n3, n4, n5, n6, n7] = b at c5 c6
    generalize Pl.str (Pl.text [n0, n1, n2, n3, n4, n5, n6, n7]) = tx at c3 c4
    have heq : ∀ W, (binOp .eql 23 (.agg #[.int .u8 (q0.toNat : Int), .int .u8 (q1.toNat : Int), .int .u8 (q2.toNat : Int), .int .u8 (q3.toNat : Int), .int .u8 (q4.toNat : Int), .int .u8 (q5.toNat : Int), .int .u8 (q6.toNat : Int), .int .u8 (q7.toNat : Int)]) (.agg #[.int .u8 (q0.toNat : Int), .int .u8 (q1.toNat : Int), .int .u8 (q2.toNat : Int), .int .u8 (q3.toNat : Int), .int .u8 (q4.toNat : Int), .int .u8 (q5.toNat : Int), .int .u8 (q6.toNat : Int), .int .u8 (q7.toNat : Int)])).run Try.prog W = .ok (.bool true) W := fun W => by rw [eql_name]; simp
    go_enter Try.func3, Try.ntmps3
    go_wp2_with (first | (go_at_call 7; ((with_reducible refine (c1 _).mono ?_); rintro e w1 ⟨rfl, hb1⟩; have hu1 := up (w := w) (by go_grown) hb1; have hv1 := hu1.size; have hs1 := hb1.size; have hz1a : w.heap.size < w1.heap.size := (by have hq := hs1; (try simp at hq); omega); have hb1 := hb1)) | (go_at_call 8; ((with_reducible refine (c2 _).mono ?_); rintro e w2 ⟨rfl, hb2⟩; have hu2 := up (w := w) (by go_grown) hb2; have hv2 := hu2.size; have hs2 := hb2.size; have hz2a : w1.heap.size < w2.heap.size := (by have hq := hs2; (try simp at hq); omega); have hb2 := hb2)))
    go_region_held3 (fun w' => (w'.cell? ⟨w.heap.size, 0, none⟩ = some (.int .u8 (n0.toNat : Int)) ∧ w'.cell? ⟨w.heap.size, 1, none⟩ = some (.int .u8 (n1.toNat : Int)) ∧ w'.cell? ⟨w.heap.size, 2, none⟩ = some (.int .u8 (n2.toNat : Int)) ∧ w'.cell? ⟨w.heap.size, 3, none⟩ = some (.int .u8 (n3.toNat : Int)) ∧ w'.cell? ⟨w.heap.size, 4, none⟩ = some (.int .u8 (n4.toNat : Int)) ∧ w'.cell? ⟨w.heap.size, 5, none⟩ = some (.int .u8 (n5.toNat : Int)) ∧ w'.cell? ⟨w.heap.size, 6, none⟩ = some (.int .u8 (n6.toNat : Int)) ∧ w'.cell? ⟨w.heap.size, 7, none⟩ = some (.int .u8 (n7.toNat : Int))) ∧ (w'.cell? ⟨w1.heap.size, 0, none⟩ = some (.int .u8 (q0.toNat : Int)) ∧ w'.cell? ⟨w1.heap.size, 1, none⟩ = some (.int .u8 (q1.toNat : Int)) ∧ w'.cell? ⟨w1.heap.size, 2, none⟩ = some (.int .u8 (q2.toNat : Int)) ∧ w'.cell? ⟨w1.heap.size, 3, none⟩ = some (.int .u8 (q3.toNat : Int)) ∧ w'.cell? ⟨w1.heap.size, 4, none⟩ = some (.int .u8 (q4.toNat : Int)) ∧ w'.cell? ⟨w1.heap.size, 5, none⟩ = some (.int .u8 (q5.toNat : Int)) ∧ w'.cell? ⟨w1.heap.size, 6, none⟩ = some (.int .u8 (q6.toNat : Int)) ∧ w'.cell? ⟨w1.heap.size, 7, none⟩ = some (.int .u8 (q7.toNat : Int))) ∧ (w'.cell? ⟨w2.heap.size, 0, none⟩ = some (.int .u8 (q0.toNat : Int)) ∧ w'.cell? ⟨w2.heap.size, 1, none⟩ = some (.int .u8 (q1.toNat : Int)) ∧ w'.cell? ⟨w2.heap.size, 2, none⟩ = some (.int .u8 (q2.toNat : Int)) ∧ w'.cell? ⟨w2.heap.size, 3, none⟩ = some (.int .u8 (q3.toNat : Int)) ∧ w'.cell? ⟨w2.heap.size, 4, none⟩ = some (.int .u8 (q4.toNat : Int)) ∧ w'.cell? ⟨w2.heap.size, 5, none⟩ = some (.int .u8 (q5.toNat : Int)) ∧ w'.cell? ⟨w2.heap.size, 6, none⟩ = some (.int .u8 (q6.toNat : Int)) ∧ w'.cell? ⟨w2.heap.size, 7, none⟩ = some (.int .u8 (q7.toNat : Int)))) (((try go_split_ands); repeat' (first | (with_reducible assumption) | apply And.intro | (rw [World.cell?_drew]) | (rw [World.cell?_alloc_new]; rfl) | ((with_reducible refine cellAt ?_ ?_); (focus (simp; done)); rfl) | (with_reducible refine keep1 ?_) | ((with_reducible apply keepB); focus (with_reducible assumption)))))
      (first | (go_at_call 9; ((with_reducible refine (c3 _).mono ?_); rintro e w' ⟨rfl, rfl⟩)) | (go_at_call 10; ((with_reducible refine (c4 _).mono ?_); rintro e w4 ⟨rfl, hb4⟩; have hu4 := up (w := w) (by go_grown) hb4; have hv4 := hu4.size; have hs4 := hb4.size; have hb4 := hb4)) | (go_at_call 11; ((with_reducible refine (c5 _).mono ?_); rintro e w' ⟨rfl, rfl⟩)) | (go_at_call 12; ((with_reducible refine (c6 _).mono ?_); rintro e w6 ⟨rfl, hb6⟩; have hu6 := up (w := w) (by go_grown) hb6; have hv6 := hu6.size; have hs6 := hb6.size; have hb6 := hb6)) | (go_at_call 13; ((with_reducible refine (c8 _).mono ?_); rintro e w' ⟨rfl, rfl⟩)) | (go_at_call 6; ((with_reducible refine (c7 _).mono ?_); rintro e w7 ⟨rfl, hb7⟩; have hu7 := up (w := w) (by go_grown) hb7; have hv7 := hu7.size; have hs7 := hb7.size; have hb7 := hb7)))
    go_wp2
    go_ret
    exact ⟨rfl, by go_grown⟩
end Go.Proofs.Ytbhbcmngbdpfoaa
