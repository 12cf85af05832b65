/- The walks of From (name) and of the document's answers (handcartref06) for it, and for Is, Pad, Text, Right, Of. -/
import Derived.Test.YtbhbcmngbdpfoaaCe
namespace Go.Proofs.Ytbhbcmngbdpfoaa
open Go.RowKit
set_option linter.unusedVariables false
set_option linter.unusedSimpArgs false

theorem from_any (x : BitVec 64) (w : World) : Calls Try.prog 14 #[.int .u64 x.toNat] w fun e w' => e = .returned (if Pl.right [(Pl.byteAt x 0), (Pl.byteAt x 1), (Pl.byteAt x 2), (Pl.byteAt x 3), (Pl.byteAt x 4), (Pl.byteAt x 5), (Pl.byteAt x 6), (Pl.byteAt x 7)] then .tuple #[.agg #[.int .u8 ((Pl.byteAt x 0).toNat : Int), .int .u8 ((Pl.byteAt x 1).toNat : Int), .int .u8 ((Pl.byteAt x 2).toNat : Int), .int .u8 ((Pl.byteAt x 3).toNat : Int), .int .u8 ((Pl.byteAt x 4).toNat : Int), .int .u8 ((Pl.byteAt x 5).toNat : Int), .int .u8 ((Pl.byteAt x 6).toNat : Int), .int .u8 ((Pl.byteAt x 7).toNat : Int)], .int .i64 0] else .tuple #[.agg #[.int .u8 0, .int .u8 0, .int .u8 0, .int .u8 0, .int .u8 0, .int .u8 0, .int .u8 0, .int .u8 0], .int .i64 3]) ∧ Below w.heap.size w w' := by
  have c1 := fun W => right_any (Pl.byteAt x 0) (Pl.byteAt x 1) (Pl.byteAt x 2) (Pl.byteAt x 3) (Pl.byteAt x 4) (Pl.byteAt x 5) (Pl.byteAt x 6) (Pl.byteAt x 7) W
  generalize Pl.right [(Pl.byteAt x 0), (Pl.byteAt x 1), (Pl.byteAt x 2), (Pl.byteAt x 3), (Pl.byteAt x 4), (Pl.byteAt x 5), (Pl.byteAt x 6), (Pl.byteAt x 7)] = b at c1 ⊢
  have b0 := Pl.byte0 x
  have b1 := Pl.byte1 x
  have b2 := Pl.byte2 x
  have b3 := Pl.byte3 x
  have b4 := Pl.byte4 x
  have b5 := Pl.byte5 x
  have b6 := Pl.byte6 x
  have b7 := Pl.byte7 x
  cases b
  · go_enter Try.func14, Try.ntmps14
    go_wp2
    refine wp_loop_rounds 9 ?_
    iterate 9
      rw [rounds_succ]
      go_wp2_with (go_at_call 11; ((with_reducible refine (c1 _).mono ?_); rintro e w' ⟨rfl, rfl⟩))
    exact bodyPost_ret (v := .tuple #[.agg #[.int .u8 0, .int .u8 0, .int .u8 0, .int .u8 0, .int .u8 0, .int .u8 0, .int .u8 0, .int .u8 0], .int .i64 3]) (by simp [results, Try.results14, go_sem]) rfl ⟨rfl, by go_grown⟩
  · go_enter Try.func14, Try.ntmps14
    go_wp2
    refine wp_loop_rounds 9 ?_
    iterate 9
      rw [rounds_succ]
      go_wp2_with (go_at_call 11; ((with_reducible refine (c1 _).mono ?_); rintro e w' ⟨rfl, rfl⟩))
    exact bodyPost_ret (v := .tuple #[.agg #[.int .u8 ((Pl.byteAt x 0).toNat : Int), .int .u8 ((Pl.byteAt x 1).toNat : Int), .int .u8 ((Pl.byteAt x 2).toNat : Int), .int .u8 ((Pl.byteAt x 3).toNat : Int), .int .u8 ((Pl.byteAt x 4).toNat : Int), .int .u8 ((Pl.byteAt x 5).toNat : Int), .int .u8 ((Pl.byteAt x 6).toNat : Int), .int .u8 ((Pl.byteAt x 7).toNat : Int)], .int .i64 0]) (by simp [results, Try.results14, go_sem]) rfl ⟨rfl, by go_grown⟩
set_option maxHeartbeats 1000000 in
theorem reffrom_any (x : BitVec 64) (w : World) : Calls Try.prog 15 #[.int .u64 x.toNat] w fun e w' => e = .returned (if Pl.right [(Pl.byteAt x 0), (Pl.byteAt x 1), (Pl.byteAt x 2), (Pl.byteAt x 3), (Pl.byteAt x 4), (Pl.byteAt x 5), (Pl.byteAt x 6), (Pl.byteAt x 7)] then .tuple #[.agg #[.int .u8 ((Pl.byteAt x 0).toNat : Int), .int .u8 ((Pl.byteAt x 1).toNat : Int), .int .u8 ((Pl.byteAt x 2).toNat : Int), .int .u8 ((Pl.byteAt x 3).toNat : Int), .int .u8 ((Pl.byteAt x 4).toNat : Int), .int .u8 ((Pl.byteAt x 5).toNat : Int), .int .u8 ((Pl.byteAt x 6).toNat : Int), .int .u8 ((Pl.byteAt x 7).toNat : Int)], .int .i64 0] else .tuple #[.agg #[.int .u8 0, .int .u8 0, .int .u8 0, .int .u8 0, .int .u8 0, .int .u8 0, .int .u8 0, .int .u8 0], .int .i64 3]) ∧ Below w.heap.size w w' := by
  have c1 := fun W => refright_any (Pl.byteAt x 0) (Pl.byteAt x 1) (Pl.byteAt x 2) (Pl.byteAt x 3) (Pl.byteAt x 4) (Pl.byteAt x 5) (Pl.byteAt x 6) (Pl.byteAt x 7) W
  generalize Pl.right [(Pl.byteAt x 0), (Pl.byteAt x 1), (Pl.byteAt x 2), (Pl.byteAt x 3), (Pl.byteAt x 4), (Pl.byteAt x 5), (Pl.byteAt x 6), (Pl.byteAt x 7)] = b at c1 ⊢
  have b0 := Pl.rbyte0 x
  have b1 := Pl.rbyte1 x
  have b2 := Pl.rbyte2 x
  have b3 := Pl.rbyte3 x
  have b4 := Pl.rbyte4 x
  have b5 := Pl.rbyte5 x
  have b6 := Pl.rbyte6 x
  have b7 := Pl.rbyte7 x
  cases b
  · go_enter Try.func15, Try.ntmps15
    go_wp2
    refine wp_loop_rounds 9 ?_
    iterate 9
      rw [rounds_succ]
      go_wp2_with (go_at_call 12; ((with_reducible refine (c1 _).mono ?_); rintro e w1 ⟨rfl, hb1⟩; obtain ⟨hc1, hf1, hs1⟩ := bcell hb1; have hu1 := up (w := w) (by go_grown) hb1; clear hb1; have hz1 : w.heap.size + 1 < w1.heap.size := (by have hq := hs1; (try simp at hq); omega); have hr1 := fun o => hc1 w.heap.size o (by simp <;> omega)))
    exact bodyPost_ret (v := .tuple #[.agg #[.int .u8 0, .int .u8 0, .int .u8 0, .int .u8 0, .int .u8 0, .int .u8 0, .int .u8 0, .int .u8 0], .int .i64 3]) (by simp [results, Try.results15, go_sem, hr1]) rfl ⟨rfl, by go_grown⟩
  · go_enter Try.func15, Try.ntmps15
    go_wp2
    refine wp_loop_rounds 9 ?_
    iterate 9
      rw [rounds_succ]
      go_wp2_with (go_at_call 12; ((with_reducible refine (c1 _).mono ?_); rintro e w1 ⟨rfl, hb1⟩; obtain ⟨hc1, hf1, hs1⟩ := bcell hb1; have hu1 := up (w := w) (by go_grown) hb1; clear hb1; have hz1 : w.heap.size + 1 < w1.heap.size := (by have hq := hs1; (try simp at hq); omega); have hr1 := fun o => hc1 w.heap.size o (by simp <;> omega)))
    exact bodyPost_ret (v := .tuple #[.agg #[.int .u8 ((Pl.byteAt x 0).toNat : Int), .int .u8 ((Pl.byteAt x 1).toNat : Int), .int .u8 ((Pl.byteAt x 2).toNat : Int), .int .u8 ((Pl.byteAt x 3).toNat : Int), .int .u8 ((Pl.byteAt x 4).toNat : Int), .int .u8 ((Pl.byteAt x 5).toNat : Int), .int .u8 ((Pl.byteAt x 6).toNat : Int), .int .u8 ((Pl.byteAt x 7).toNat : Int)], .int .i64 0]) (by simp [results, Try.results15, go_sem, hr1]) rfl ⟨rfl, by go_grown⟩
end Go.Proofs.Ytbhbcmngbdpfoaa
