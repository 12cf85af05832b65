/- The walk of the document's answer Right (handcartref06), by those of Text, Is and Pad. -/
import Derived.Test.YtbhbcmngbdpfoaaCb
import Derived.Deep.RegionWith
namespace Go.Proofs.Ytbhbcmngbdpfoaa
open Go.RowKit
set_option linter.unusedVariables false
set_option linter.unusedSimpArgs false
theorem bcell {W w1 : World} (hb : Below W.heap.size W w1) : (∀ b o, b < W.heap.size → w1.cell? ⟨b, o, none⟩ = W.cell? ⟨b, o, none⟩) ∧ (∀ b o, b < W.heap.size → w1.frozen? ⟨b, o, none⟩ = W.frozen? ⟨b, o, none⟩) ∧ W.heap.size ≤ w1.heap.size :=
  ⟨fun b o h => hb.cell (p := ⟨b, o, none⟩) h, fun b o h => hb.frozen (p := ⟨b, o, none⟩) h, hb.size⟩
theorem up {w W w1 : World} (k : Below w.heap.size w W) (h : Below W.heap.size W w1) : Below w.heap.size w w1 := k.trans (h.mono k.size)
theorem pad_any (l : List UInt8) (h8 : l.length ≤ 8) (p0 p1 p2 p3 p4 p5 p6 p7 : UInt8) (hp : Pl.pad l = [p0, p1, p2, p3, p4, p5, p6, p7]) (w : World) :
    Calls Try.prog 21 #[.string (Pl.str l)] w fun e w' => e = .returned (.agg #[.int .u8 (p0.toNat : Int), .int .u8 (p1.toNat : Int), .int .u8 (p2.toNat : Int), .int .u8 (p3.toNat : Int), .int .u8 (p4.toNat : Int), .int .u8 (p5.toNat : Int), .int .u8 (p6.toNat : Int), .int .u8 (p7.toNat : Int)]) ∧ Below w.heap.size w w' := by
  match l, h8, hp with
  | [], _, hp =>
    simp [Pl.pad, List.replicate] at hp
    obtain ⟨rfl, rfl, rfl, rfl, rfl, rfl, rfl, rfl⟩ := hp
    exact pad_0  w
  | [c0], _, hp =>
    simp [Pl.pad, List.replicate] at hp
    obtain ⟨rfl, rfl, rfl, rfl, rfl, rfl, rfl, rfl⟩ := hp
    exact pad_1 c0 w
  | [c0, c1], _, hp =>
    simp [Pl.pad, List.replicate] at hp
    obtain ⟨rfl, rfl, rfl, rfl, rfl, rfl, rfl, rfl⟩ := hp
    exact pad_2 c0 c1 w
  | [c0, c1, c2], _, hp =>
    simp [Pl.pad, List.replicate] at hp
    obtain ⟨rfl, rfl, rfl, rfl, rfl, rfl, rfl, rfl⟩ := hp
    exact pad_3 c0 c1 c2 w
  | [c0, c1, c2, c3], _, hp =>
    simp [Pl.pad, List.replicate] at hp
    obtain ⟨rfl, rfl, rfl, rfl, rfl, rfl, rfl, rfl⟩ := hp
    exact pad_4 c0 c1 c2 c3 w
  | [c0, c1, c2, c3, c4], _, hp =>
    simp [Pl.pad, List.replicate] at hp
    obtain ⟨rfl, rfl, rfl, rfl, rfl, rfl, rfl, rfl⟩ := hp
    exact pad_5 c0 c1 c2 c3 c4 w
  | [c0, c1, c2, c3, c4, c5], _, hp =>
    simp [Pl.pad, List.replicate] at hp
    obtain ⟨rfl, rfl, rfl, rfl, rfl, rfl, rfl, rfl⟩ := hp
    exact pad_6 c0 c1 c2 c3 c4 c5 w
  | [c0, c1, c2, c3, c4, c5, c6], _, hp =>
    simp [Pl.pad, List.replicate] at hp
    obtain ⟨rfl, rfl, rfl, rfl, rfl, rfl, rfl, rfl⟩ := hp
    exact pad_7 c0 c1 c2 c3 c4 c5 c6 w
  | [c0, c1, c2, c3, c4, c5, c6, c7], _, hp =>
    simp [Pl.pad, List.replicate] at hp
    obtain ⟨rfl, rfl, rfl, rfl, rfl, rfl, rfl, rfl⟩ := hp
    exact pad_8 c0 c1 c2 c3 c4 c5 c6 c7 w
  | _ :: _ :: _ :: _ :: _ :: _ :: _ :: _ :: _ :: _, h8, _ => exact absurd h8 (by simp)
section
variable (n0 n1 n2 n3 n4 n5 n6 n7 : UInt8)
set_option maxHeartbeats 1000000 in
theorem refright_any (w : World) : Calls Try.prog 12 #[.agg #[.int .u8 (n0.toNat : Int), .int .u8 (n1.toNat : Int), .int .u8 (n2.toNat : Int), .int .u8 (n3.toNat : Int), .int .u8 (n4.toNat : Int), .int .u8 (n5.toNat : Int), .int .u8 (n6.toNat : Int), .int .u8 (n7.toNat : Int)]] w fun e w' => e = .returned (.bool (Pl.right [n0, n1, n2, n3, n4, n5, n6, n7])) ∧ Below w.heap.size w w' := by
  have c1 := fun W => reftext_any n0 n1 n2 n3 n4 n5 n6 n7 W
  have hl8 := Pl.text_len [n0, n1, n2, n3, n4, n5, n6, n7] rfl
  have c2 := fun W => is_any (Pl.str (Pl.text [n0, n1, n2, n3, n4, n5, n6, n7])) (by rw [Pl.str_size]; omega) W
  have hpl : (Pl.pad (Pl.text [n0, n1, n2, n3, n4, n5, n6, n7])).length = 8 := Pl.pad_length _ hl8
  obtain ⟨p0, p1, p2, p3, p4, p5, p6, p7, hp⟩ := Pl.eight _ hpl
  have c3 := fun W => pad_any (Pl.text [n0, n1, n2, n3, n4, n5, n6, n7]) hl8 p0 p1 p2 p3 p4 p5 p6 p7 hp W
  have hr : Pl.right [n0, n1, n2, n3, n4, n5, n6, n7] = (Pl.isName (Pl.text [n0, n1, n2, n3, n4, n5, n6, n7]) && decide (([p0, p1, p2, p3, p4, p5, p6, p7] : List UInt8) = [n0, n1, n2, n3, n4, n5, n6, n7])) := by unfold Pl.right; rw [hp]
  have heq := eql_name p0 p1 p2 p3 p4 p5 p6 p7 n0 n1 n2 n3 n4 n5 n6 n7
  generalize decide (([p0, p1, p2, p3, p4, p5, p6, p7] : List UInt8) = [n0, n1, n2, n3, n4, n5, n6, n7]) = v at hr heq
  rw [hr]
  have hst : (Pl.str (Pl.text [n0, n1, n2, n3, n4, n5, n6, n7])).data.toList = Pl.text [n0, n1, n2, n3, n4, n5, n6, n7] := by simp [Pl.str]
  rw [hst] at c2
  generalize Pl.text [n0, n1, n2, n3, n4, n5, n6, n7] = l at c1 c2 c3 ⊢
  clear hr hpl hl8 hst hp
  generalize Pl.isName l = b at c2 ⊢
  cases b
  · go_enter Try.func12, Try.ntmps12
    go_wp2
    go_region_with (first | (go_at_call 10; ((with_reducible refine (c1 _).mono ?_); rintro e w1 ⟨rfl, hb1⟩; obtain ⟨hc1, hf1, hs1⟩ := bcell hb1; have hu1 := up (w := w) (by go_grown) hb1; clear hb1; have hz1 : w.heap.size < w1.heap.size := by (have hq := hs1; (try simp at hq); omega))) | (go_at_call 20; ((with_reducible refine (c2 _).mono ?_); rintro e w' ⟨rfl, rfl⟩)) | (go_at_call 21; ((with_reducible refine (c3 _).mono ?_); rintro e w3 ⟨rfl, hb3⟩; obtain ⟨hc3, hf3, hs3⟩ := bcell hb3; have hu3 := up (w := w) (by go_grown) hb3; clear hb3; have hz3 : w.heap.size < w3.heap.size := by (have hq := hs3; (try simp at hq); omega))))
    all_goals
      go_wp2
      go_ret
      exact ⟨rfl, by go_grown⟩
  · go_enter Try.func12, Try.ntmps12
    go_wp2
    go_region_held3 (fun w' => w'.cell? ⟨w.heap.size, 0, none⟩ = some (.int .u8 (n0.toNat : Int)) ∧ w'.cell? ⟨w.heap.size, 1, none⟩ = some (.int .u8 (n1.toNat : Int)) ∧ w'.cell? ⟨w.heap.size, 2, none⟩ = some (.int .u8 (n2.toNat : Int)) ∧ w'.cell? ⟨w.heap.size, 3, none⟩ = some (.int .u8 (n3.toNat : Int)) ∧ w'.cell? ⟨w.heap.size, 4, none⟩ = some (.int .u8 (n4.toNat : Int)) ∧ w'.cell? ⟨w.heap.size, 5, none⟩ = some (.int .u8 (n5.toNat : Int)) ∧ w'.cell? ⟨w.heap.size, 6, none⟩ = some (.int .u8 (n6.toNat : Int)) ∧ w'.cell? ⟨w.heap.size, 7, none⟩ = some (.int .u8 (n7.toNat : Int))) (go_keep)
      (first | (go_at_call 10; ((with_reducible refine (c1 _).mono ?_); rintro e w1 ⟨rfl, hb1⟩; obtain ⟨hc1, hf1, hs1⟩ := bcell hb1; have hu1 := up (w := w) (by go_grown) hb1; clear hb1; have hz1 : w.heap.size < w1.heap.size := by (have hq := hs1; (try simp at hq); omega))) | (go_at_call 20; ((with_reducible refine (c2 _).mono ?_); rintro e w' ⟨rfl, rfl⟩)) | (go_at_call 21; ((with_reducible refine (c3 _).mono ?_); rintro e w3 ⟨rfl, hb3⟩; obtain ⟨hc3, hf3, hs3⟩ := bcell hb3; have hu3 := up (w := w) (by go_grown) hb3; clear hb3; have hz3 : w.heap.size < w3.heap.size := by (have hq := hs3; (try simp at hq); omega))))
    go_wp2
    go_ret
    exact ⟨ret_bool (by simp), by go_grown⟩
end
end Go.Proofs.Ytbhbcmngbdpfoaa
