/- The walk of Of (name), and of the document's answer Of (handcartref06). -/
import Derived.Test.YtbhbcmngbdpfoaaCd
namespace Go.Proofs.Ytbhbcmngbdpfoaa
open Go.RowKit
set_option linter.unusedVariables false
set_option linter.unusedSimpArgs false
theorem copy_any (l : List UInt8) (m : Nat) (hm : l.length = m) (h8 : m ≤ 8) (p0 p1 p2 p3 p4 p5 p6 p7 : UInt8) (hp : Pl.pad l = [p0, p1, p2, p3, p4, p5, p6, p7]) (ty : TypeId) (w : World) :
    (Builtin.copy_ #[36, 9] ty #[.slice (some ⟨w.heap.size, 0, none⟩) 8 8, .string (Pl.str l)]).run Try.prog (w.alloc (.cells #[.int .u8 0, .int .u8 0, .int .u8 0, .int .u8 0, .int .u8 0, .int .u8 0, .int .u8 0, .int .u8 0] 23)) = .ok (.int .i64 m) (w.alloc (.cells #[.int .u8 (p0.toNat : Int), .int .u8 (p1.toNat : Int), .int .u8 (p2.toNat : Int), .int .u8 (p3.toNat : Int), .int .u8 (p4.toNat : Int), .int .u8 (p5.toNat : Int), .int .u8 (p6.toNat : Int), .int .u8 (p7.toNat : Int)] 23)) := by
  subst hm
  match l, h8, hp with
  | [], _, hp =>
    simp [Pl.pad, List.replicate] at hp
    obtain ⟨rfl, rfl, rfl, rfl, rfl, rfl, rfl, rfl⟩ := hp
    exact copy_0  ty w
  | [c0], _, hp =>
    simp [Pl.pad, List.replicate] at hp
    obtain ⟨rfl, rfl, rfl, rfl, rfl, rfl, rfl, rfl⟩ := hp
    exact copy_1 c0 ty w
  | [c0, c1], _, hp =>
    simp [Pl.pad, List.replicate] at hp
    obtain ⟨rfl, rfl, rfl, rfl, rfl, rfl, rfl, rfl⟩ := hp
    exact copy_2 c0 c1 ty w
  | [c0, c1, c2], _, hp =>
    simp [Pl.pad, List.replicate] at hp
    obtain ⟨rfl, rfl, rfl, rfl, rfl, rfl, rfl, rfl⟩ := hp
    exact copy_3 c0 c1 c2 ty w
  | [c0, c1, c2, c3], _, hp =>
    simp [Pl.pad, List.replicate] at hp
    obtain ⟨rfl, rfl, rfl, rfl, rfl, rfl, rfl, rfl⟩ := hp
    exact copy_4 c0 c1 c2 c3 ty w
  | [c0, c1, c2, c3, c4], _, hp =>
    simp [Pl.pad, List.replicate] at hp
    obtain ⟨rfl, rfl, rfl, rfl, rfl, rfl, rfl, rfl⟩ := hp
    exact copy_5 c0 c1 c2 c3 c4 ty w
  | [c0, c1, c2, c3, c4, c5], _, hp =>
    simp [Pl.pad, List.replicate] at hp
    obtain ⟨rfl, rfl, rfl, rfl, rfl, rfl, rfl, rfl⟩ := hp
    exact copy_6 c0 c1 c2 c3 c4 c5 ty w
  | [c0, c1, c2, c3, c4, c5, c6], _, hp =>
    simp [Pl.pad, List.replicate] at hp
    obtain ⟨rfl, rfl, rfl, rfl, rfl, rfl, rfl, rfl⟩ := hp
    exact copy_7 c0 c1 c2 c3 c4 c5 c6 ty w
  | [c0, c1, c2, c3, c4, c5, c6, c7], _, hp =>
    simp [Pl.pad, List.replicate] at hp
    obtain ⟨rfl, rfl, rfl, rfl, rfl, rfl, rfl, rfl⟩ := hp
    exact copy_8 c0 c1 c2 c3 c4 c5 c6 c7 ty w
  | _ :: _ :: _ :: _ :: _ :: _ :: _ :: _ :: _ :: _, h8, _ => exact absurd h8 (by simp)

theorem of_any (l : List UInt8) (h8 : l.length ≤ 8) (p0 p1 p2 p3 p4 p5 p6 p7 : UInt8) (hp : Pl.pad l = [p0, p1, p2, p3, p4, p5, p6, p7]) (w : World) :
    Calls Try.prog 7 #[.string (Pl.str l)] w fun e w' => e = .returned (if Pl.isName l then .tuple #[.agg #[.int .u8 (p0.toNat : Int), .int .u8 (p1.toNat : Int), .int .u8 (p2.toNat : Int), .int .u8 (p3.toNat : Int), .int .u8 (p4.toNat : Int), .int .u8 (p5.toNat : Int), .int .u8 (p6.toNat : Int), .int .u8 (p7.toNat : Int)], .int .i64 0] else .tuple #[.agg #[.int .u8 0, .int .u8 0, .int .u8 0, .int .u8 0, .int .u8 0, .int .u8 0, .int .u8 0, .int .u8 0], .int .i64 3]) ∧ Below w.heap.size w w' := by
  obtain ⟨m, hm⟩ : ∃ m, l.length = m := ⟨_, rfl⟩
  have hm8 : m ≤ 8 := by omega
  have hcp := copy_any l m hm hm8 p0 p1 p2 p3 p4 p5 p6 p7 hp
  have hsz : (Pl.str l).size = m := by rw [Pl.str_size, hm]
  have hform := Pl.of_form l h8
  rw [hp] at hform
  have c1 := fun W => text_any p0 p1 p2 p3 p4 p5 p6 p7 W
  have c2 := fun W => right_any p0 p1 p2 p3 p4 p5 p6 p7 W
  by_cases h0 : m = 0
  · have hf : Pl.isName l = false := by
      rw [← hform]; have : l = [] := List.length_eq_zero_iff.1 (by omega)
      rw [this]; rfl
    rw [hf]
    clear hform hf hp hm
    subst h0
    go_enter Try.func7, Try.ntmps7
    go_wp2_with fail
    exact bodyPost_ret (v := .tuple #[.agg #[.int .u8 0, .int .u8 0, .int .u8 0, .int .u8 0, .int .u8 0, .int .u8 0, .int .u8 0, .int .u8 0], .int .i64 3]) (by simp [results, Try.results7, go_sem]) rfl ⟨rfl, (Below.refl _ _).alloc (Nat.le_refl _) _⟩
  · have hm0 : ((m : Int) == 0) = false := by simp; omega
    by_cases ht : Pl.text [p0, p1, p2, p3, p4, p5, p6, p7] = l
    · rw [ht] at c1
      have hne : l ≠ [] := by intro e; rw [e] at hm; simp at hm; omega
      have hf : Pl.isName l = Pl.right [p0, p1, p2, p3, p4, p5, p6, p7] := by rw [← hform, ht, decide_eq_true hne]; simp
      rw [hf]
      clear hform hf hp hm ht hne
      generalize Pl.right [p0, p1, p2, p3, p4, p5, p6, p7] = b at c2 ⊢
      cases b
      · go_enter Try.func7, Try.ntmps7
        go_wp2_with (first | (go_at_call 9; ((with_reducible refine (c1 _).mono ?_); rintro e w' ⟨rfl, rfl⟩)) | (go_at_call 11; ((with_reducible refine (c2 _).mono ?_); rintro e w' ⟨rfl, rfl⟩)))
        exact bodyPost_ret (v := .tuple #[.agg #[.int .u8 0, .int .u8 0, .int .u8 0, .int .u8 0, .int .u8 0, .int .u8 0, .int .u8 0, .int .u8 0], .int .i64 3]) (by simp [results, Try.results7, go_sem]) rfl ⟨rfl, by go_grown⟩
      · go_enter Try.func7, Try.ntmps7
        go_wp2_with (first | (go_at_call 9; ((with_reducible refine (c1 _).mono ?_); rintro e w' ⟨rfl, rfl⟩)) | (go_at_call 11; ((with_reducible refine (c2 _).mono ?_); rintro e w' ⟨rfl, rfl⟩)))
        exact bodyPost_ret (v := .tuple #[.agg #[.int .u8 (p0.toNat : Int), .int .u8 (p1.toNat : Int), .int .u8 (p2.toNat : Int), .int .u8 (p3.toNat : Int), .int .u8 (p4.toNat : Int), .int .u8 (p5.toNat : Int), .int .u8 (p6.toNat : Int), .int .u8 (p7.toNat : Int)], .int .i64 0]) (by simp [results, Try.results7, go_sem]) rfl ⟨rfl, by go_grown⟩
    · have hf : Pl.isName l = false := by rw [← hform, decide_eq_false ht]; simp
      rw [hf]
      have hnt : ((Pl.str (Pl.text [p0, p1, p2, p3, p4, p5, p6, p7])).toList == (Pl.str l).toList) = false := by
        rw [beq_eq_false_iff_ne, ByteArray.toList_eq, ByteArray.toList_eq]; simpa [Pl.str] using ht
      generalize Pl.text [p0, p1, p2, p3, p4, p5, p6, p7] = x at c1 hnt
      clear hform hf hp hm ht
      go_enter Try.func7, Try.ntmps7
      go_wp2_with (first | (go_at_call 9; ((with_reducible refine (c1 _).mono ?_); rintro e w' ⟨rfl, rfl⟩)) | (go_at_call 11; ((with_reducible refine (c2 _).mono ?_); rintro e w' ⟨rfl, rfl⟩)))
      exact bodyPost_ret (v := .tuple #[.agg #[.int .u8 0, .int .u8 0, .int .u8 0, .int .u8 0, .int .u8 0, .int .u8 0, .int .u8 0, .int .u8 0], .int .i64 3]) (by simp [results, Try.results7, go_sem]) rfl ⟨rfl, by go_grown⟩
theorem of_long (l : List UInt8) (h8 : 8 < l.length) (hb : l.length ≤ 100) (w : World) :
    Calls Try.prog 7 #[.string (Pl.str l)] w fun e w' => e = .returned (.tuple #[.agg #[.int .u8 0, .int .u8 0, .int .u8 0, .int .u8 0, .int .u8 0, .int .u8 0, .int .u8 0, .int .u8 0], .int .i64 3]) ∧ Below w.heap.size w w' := by
  obtain ⟨m, hm⟩ : ∃ m, l.length = m := ⟨_, rfl⟩
  have hsz : (Pl.str l).size = m := by rw [Pl.str_size, hm]
  have hm8 : 8 < m := by omega
  have hmb : m ≤ 100 := by omega
  clear hm h8 hb
  go_enter Try.func7, Try.ntmps7
  go_wp2_with fail
  exact bodyPost_ret (v := .tuple #[.agg #[.int .u8 0, .int .u8 0, .int .u8 0, .int .u8 0, .int .u8 0, .int .u8 0, .int .u8 0, .int .u8 0], .int .i64 3]) (by simp [results, Try.results7, go_sem]) rfl ⟨rfl, by go_grown⟩
theorem refof_any (l : List UInt8) (hb : l.length ≤ 100) (p0 p1 p2 p3 p4 p5 p6 p7 : UInt8) (hp : Pl.isName l = true → Pl.pad l = [p0, p1, p2, p3, p4, p5, p6, p7]) (w : World) :
    Calls Try.prog 8 #[.string (Pl.str l)] w fun e w' => e = .returned (if Pl.isName l then .tuple #[.agg #[.int .u8 (p0.toNat : Int), .int .u8 (p1.toNat : Int), .int .u8 (p2.toNat : Int), .int .u8 (p3.toNat : Int), .int .u8 (p4.toNat : Int), .int .u8 (p5.toNat : Int), .int .u8 (p6.toNat : Int), .int .u8 (p7.toNat : Int)], .int .i64 0] else .tuple #[.agg #[.int .u8 0, .int .u8 0, .int .u8 0, .int .u8 0, .int .u8 0, .int .u8 0, .int .u8 0, .int .u8 0], .int .i64 3]) ∧ Below w.heap.size w w' := by
  have c2 := fun W => is_any (Pl.str l) (by rw [Pl.str_size]; omega) W
  have hst : (Pl.str l).data.toList = l := by simp [Pl.str]
  rw [hst] at c2
  rcases hb : Pl.isName l with _ | _
  · rw [hb] at c2
    clear hb hp hst
    go_enter Try.func8, Try.ntmps8
    go_wp2_with (go_at_call 20; ((with_reducible refine (c2 _).mono ?_); rintro e w' ⟨rfl, rfl⟩))
    exact bodyPost_ret (v := .tuple #[.agg #[.int .u8 0, .int .u8 0, .int .u8 0, .int .u8 0, .int .u8 0, .int .u8 0, .int .u8 0, .int .u8 0], .int .i64 3]) (by simp [results, Try.results8, go_sem]) rfl ⟨rfl, by go_grown⟩
  · rw [hb] at c2
    have h8 : l.length ≤ 8 := by unfold Pl.isName at hb; simp only [Bool.and_eq_true, decide_eq_true_eq] at hb; omega
    have c3 := fun W => pad_any l h8 p0 p1 p2 p3 p4 p5 p6 p7 (hp hb) W
    clear hb hp hst
    go_enter Try.func8, Try.ntmps8
    go_wp2_with (first | (go_at_call 20; ((with_reducible refine (c2 _).mono ?_); rintro e w' ⟨rfl, rfl⟩)) | (go_at_call 21; ((with_reducible refine (c3 _).mono ?_); rintro e w3 ⟨rfl, hb3⟩; obtain ⟨hc3, hf3, hs3⟩ := bcell hb3; have hu3 := up (w := w) (by go_grown) hb3; clear hb3; have hz3 : w.heap.size < w3.heap.size := by (have hq := hs3; (try simp at hq); omega))))
    exact bodyPost_ret (v := .tuple #[.agg #[.int .u8 (p0.toNat : Int), .int .u8 (p1.toNat : Int), .int .u8 (p2.toNat : Int), .int .u8 (p3.toNat : Int), .int .u8 (p4.toNat : Int), .int .u8 (p5.toNat : Int), .int .u8 (p6.toNat : Int), .int .u8 (p7.toNat : Int)], .int .i64 0]) (by simp [results, Try.results8, go_sem, hc3]) rfl ⟨rfl, by go_grown⟩
end Go.Proofs.Ytbhbcmngbdpfoaa
