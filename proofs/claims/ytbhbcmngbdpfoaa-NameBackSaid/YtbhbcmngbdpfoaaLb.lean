/- The walk of the law NameNumbers. -/
import Derived.Test.YtbhbcmngbdpfoaaLa
namespace Go.Proofs.Ytbhbcmngbdpfoaa
open Go.RowKit
set_option linter.unusedVariables false
set_option linter.unusedSimpArgs false
theorem cellAt {W : World} {c : Array Value} {t : TypeId} {n i : Nat} {v : Value} (hn : n = W.heap.size) (hv : c[i]? = some v) : (W.alloc (.cells c t)).cell? ⟨n, i, none⟩ = some v := by
  subst hn; rw [World.cell?_alloc_new]; exact hv
theorem keep1 {W : World} {o : Obj} {a : Addr} {v : Value} (h : W.cell? a = some v) : (W.alloc o).cell? a = some v := by
  rw [World.cell?_alloc_lt _ _ _ (World.block_lt_of_cell? W _ h)]; exact h
theorem keepB {W w1 : World} (hb : Below W.heap.size W w1) {a : Addr} {v : Value} (h : W.cell? a = some v) : w1.cell? a = some v := by
  rw [hb.cell (World.block_lt_of_cell? W _ h)]; exact h
theorem from_both (x : BitVec 64) : ∃ (q0 q1 q2 q3 q4 q5 q6 q7 : UInt8) (k : Int), (∀ W, Calls Try.prog 14 #[.int .u64 x.toNat] W fun e w' => e = .returned (.tuple #[.agg #[.int .u8 (q0.toNat : Int), .int .u8 (q1.toNat : Int), .int .u8 (q2.toNat : Int), .int .u8 (q3.toNat : Int), .int .u8 (q4.toNat : Int), .int .u8 (q5.toNat : Int), .int .u8 (q6.toNat : Int), .int .u8 (q7.toNat : Int)], .int .i64 k]) ∧ Below W.heap.size W w') ∧
    (∀ W, Calls Try.prog 15 #[.int .u64 x.toNat] W fun e w' => e = .returned (.tuple #[.agg #[.int .u8 (q0.toNat : Int), .int .u8 (q1.toNat : Int), .int .u8 (q2.toNat : Int), .int .u8 (q3.toNat : Int), .int .u8 (q4.toNat : Int), .int .u8 (q5.toNat : Int), .int .u8 (q6.toNat : Int), .int .u8 (q7.toNat : Int)], .int .i64 k]) ∧ Below W.heap.size W w') := by
  have h1 := fun W => from_any x W
  have h2 := fun W => reffrom_any x W
  cases hb : Pl.right [Pl.byteAt x 0, Pl.byteAt x 1, Pl.byteAt x 2, Pl.byteAt x 3, Pl.byteAt x 4, Pl.byteAt x 5, Pl.byteAt x 6, Pl.byteAt x 7]
  · rw [hb] at h1 h2
    exact ⟨0, 0, 0, 0, 0, 0, 0, 0, 3, h1, h2⟩
  · rw [hb] at h1 h2
    exact ⟨_, _, _, _, _, _, _, _, 0, h1, h2⟩
set_option maxHeartbeats 2000000 in
theorem numbers_walk (n0 n1 n2 n3 n4 n5 n6 n7 m0 m1 m2 m3 m4 m5 m6 m7 : UInt8) (x : BitVec 64) (w : World) : Calls Try.prog 4 #[.agg #[.int .u8 (n0.toNat : Int), .int .u8 (n1.toNat : Int), .int .u8 (n2.toNat : Int), .int .u8 (n3.toNat : Int), .int .u8 (n4.toNat : Int), .int .u8 (n5.toNat : Int), .int .u8 (n6.toNat : Int), .int .u8 (n7.toNat : Int)], .agg #[.int .u8 (m0.toNat : Int), .int .u8 (m1.toNat : Int), .int .u8 (m2.toNat : Int), .int .u8 (m3.toNat : Int), .int .u8 (m4.toNat : Int), .int .u8 (m5.toNat : Int), .int .u8 (m6.toNat : Int), .int .u8 (m7.toNat : Int)], .int .u64 x.toNat] w fun e w' => e = .returned (.bool true) ∧ Below w.heap.size w w' := by
  obtain ⟨q0, q1, q2, q3, q4, q5, q6, q7, k, c1, c2⟩ := from_both x
  have c3 := fun W => number_any n0 n1 n2 n3 n4 n5 n6 n7 W
  have c4 := fun W => refnumber_any n0 n1 n2 n3 n4 n5 n6 n7 W
  have c5 := fun W => less_any n0 n1 n2 n3 n4 n5 n6 n7 m0 m1 m2 m3 m4 m5 m6 m7 W
  have c6 := fun W => refless_any n0 n1 n2 n3 n4 n5 n6 n7 m0 m1 m2 m3 m4 m5 m6 m7 W
  have c7 := fun W => alive_any W
  generalize (decide ((Pl.num [n0, n1, n2, n3, n4, n5, n6, n7]).toNat < (Pl.num [m0, m1, m2, m3, m4, m5, m6, m7]).toNat)) = v at c5 c6
  have heq : ∀ W, (binOp .eql 23 (.agg #[.int .u8 (q0.toNat : Int), .int .u8 (q1.toNat : Int), .int .u8 (q2.toNat : Int), .int .u8 (q3.toNat : Int), .int .u8 (q4.toNat : Int), .int .u8 (q5.toNat : Int), .int .u8 (q6.toNat : Int), .int .u8 (q7.toNat : Int)]) (.agg #[.int .u8 (q0.toNat : Int), .int .u8 (q1.toNat : Int), .int .u8 (q2.toNat : Int), .int .u8 (q3.toNat : Int), .int .u8 (q4.toNat : Int), .int .u8 (q5.toNat : Int), .int .u8 (q6.toNat : Int), .int .u8 (q7.toNat : Int)])).run Try.prog W = .ok (.bool true) W := fun W => by rw [eql_name]; simp
  go_enter Try.func4, Try.ntmps4
  go_wp2_with (first | (go_at_call 14; ((with_reducible refine (c1 _).mono ?_); rintro e w1 ⟨rfl, hb1⟩; have hu1 := up (w := w) (by go_grown) hb1; have hv1 := hu1.size; have hs1 := hb1.size; have hz1a : w.heap.size + 1 < w1.heap.size := (by have hq := hs1; (try simp at hq); omega); have hb1 := hb1)) | (go_at_call 15; ((with_reducible refine (c2 _).mono ?_); rintro e w2 ⟨rfl, hb2⟩; have hu2 := up (w := w) (by go_grown) hb2; have hv2 := hu2.size; have hs2 := hb2.size; have hz2a : w1.heap.size < w2.heap.size := (by have hq := hs2; (try simp at hq); omega); have hb2 := hb2)))
  go_region_held3 (fun w' => (w'.cell? ⟨w.heap.size, 0, none⟩ = some (.int .u8 (n0.toNat : Int)) ∧ w'.cell? ⟨w.heap.size, 1, none⟩ = some (.int .u8 (n1.toNat : Int)) ∧ w'.cell? ⟨w.heap.size, 2, none⟩ = some (.int .u8 (n2.toNat : Int)) ∧ w'.cell? ⟨w.heap.size, 3, none⟩ = some (.int .u8 (n3.toNat : Int)) ∧ w'.cell? ⟨w.heap.size, 4, none⟩ = some (.int .u8 (n4.toNat : Int)) ∧ w'.cell? ⟨w.heap.size, 5, none⟩ = some (.int .u8 (n5.toNat : Int)) ∧ w'.cell? ⟨w.heap.size, 6, none⟩ = some (.int .u8 (n6.toNat : Int)) ∧ w'.cell? ⟨w.heap.size, 7, none⟩ = some (.int .u8 (n7.toNat : Int))) ∧ (w'.cell? ⟨w.heap.size + 1, 0, none⟩ = some (.int .u8 (m0.toNat : Int)) ∧ w'.cell? ⟨w.heap.size + 1, 1, none⟩ = some (.int .u8 (m1.toNat : Int)) ∧ w'.cell? ⟨w.heap.size + 1, 2, none⟩ = some (.int .u8 (m2.toNat : Int)) ∧ w'.cell? ⟨w.heap.size + 1, 3, none⟩ = some (.int .u8 (m3.toNat : Int)) ∧ w'.cell? ⟨w.heap.size + 1, 4, none⟩ = some (.int .u8 (m4.toNat : Int)) ∧ w'.cell? ⟨w.heap.size + 1, 5, none⟩ = some (.int .u8 (m5.toNat : Int)) ∧ w'.cell? ⟨w.heap.size + 1, 6, none⟩ = some (.int .u8 (m6.toNat : Int)) ∧ w'.cell? ⟨w.heap.size + 1, 7, none⟩ = some (.int .u8 (m7.toNat : Int))) ∧ (w'.cell? ⟨w1.heap.size, 0, none⟩ = some (.int .u8 (q0.toNat : Int)) ∧ w'.cell? ⟨w1.heap.size, 1, none⟩ = some (.int .u8 (q1.toNat : Int)) ∧ w'.cell? ⟨w1.heap.size, 2, none⟩ = some (.int .u8 (q2.toNat : Int)) ∧ w'.cell? ⟨w1.heap.size, 3, none⟩ = some (.int .u8 (q3.toNat : Int)) ∧ w'.cell? ⟨w1.heap.size, 4, none⟩ = some (.int .u8 (q4.toNat : Int)) ∧ w'.cell? ⟨w1.heap.size, 5, none⟩ = some (.int .u8 (q5.toNat : Int)) ∧ w'.cell? ⟨w1.heap.size, 6, none⟩ = some (.int .u8 (q6.toNat : Int)) ∧ w'.cell? ⟨w1.heap.size, 7, none⟩ = some (.int .u8 (q7.toNat : Int))) ∧ (w'.cell? ⟨w2.heap.size, 0, none⟩ = some (.int .u8 (q0.toNat : Int)) ∧ w'.cell? ⟨w2.heap.size, 1, none⟩ = some (.int .u8 (q1.toNat : Int)) ∧ w'.cell? ⟨w2.heap.size, 2, none⟩ = some (.int .u8 (q2.toNat : Int)) ∧ w'.cell? ⟨w2.heap.size, 3, none⟩ = some (.int .u8 (q3.toNat : Int)) ∧ w'.cell? ⟨w2.heap.size, 4, none⟩ = some (.int .u8 (q4.toNat : Int)) ∧ w'.cell? ⟨w2.heap.size, 5, none⟩ = some (.int .u8 (q5.toNat : Int)) ∧ w'.cell? ⟨w2.heap.size, 6, none⟩ = some (.int .u8 (q6.toNat : Int)) ∧ w'.cell? ⟨w2.heap.size, 7, none⟩ = some (.int .u8 (q7.toNat : Int)))) (((try go_split_ands); repeat' (first | (with_reducible assumption) | apply And.intro | (rw [World.cell?_drew]) | (rw [World.cell?_alloc_new]; rfl) | ((with_reducible refine cellAt ?_ ?_); (focus (simp; done)); rfl) | (with_reducible refine keep1 ?_) | ((with_reducible apply keepB); focus (with_reducible assumption)))))
    (first | (go_at_call 16; ((with_reducible refine (c3 _).mono ?_); rintro e w' ⟨rfl, rfl⟩)) | (go_at_call 17; ((with_reducible refine (c4 _).mono ?_); rintro e w' ⟨rfl, rfl⟩)) | (go_at_call 18; ((with_reducible refine (c5 _).mono ?_); rintro e w5 ⟨rfl, hb5⟩; have hu5 := up (w := w) (by go_grown) hb5; have hv5 := hu5.size; have hs5 := hb5.size; have hb5 := hb5)) | (go_at_call 19; ((with_reducible refine (c6 _).mono ?_); rintro e w6 ⟨rfl, hb6⟩; have hu6 := up (w := w) (by go_grown) hb6; have hv6 := hu6.size; have hs6 := hb6.size; have hb6 := hb6)) | (go_at_call 6; ((with_reducible refine (c7 _).mono ?_); rintro e w7 ⟨rfl, hb7⟩; have hu7 := up (w := w) (by go_grown) hb7; have hv7 := hu7.size; have hs7 := hb7.size; have hb7 := hb7)))
  go_wp2
  go_ret
  exact ⟨rfl, by go_grown⟩
end Go.Proofs.Ytbhbcmngbdpfoaa
