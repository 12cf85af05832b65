/- The walks of Come, of Lose, of Twice, where a flight is there. -/
import Derived.Test.YtlaicijacoblbaaCo
import Derived.Outline
namespace Go.Proofs.Ytlaicijacoblbaa
open Go.RowKit
set_option linter.unusedVariables false
set_option linter.unusedSimpArgs false
/-- One flight of the net, at its place. -/
structure At (W : World) (NB base : Nat) (v : Value) (l : List Nat) (j P to : Nat) (t : Int) (sl : Value) (ns : List Int) : Prop where
  n : Lies W NB 52 #[v]
  own : W.ownsRow base 46 1 v l.length (l.map ptr)
  lt : j < l.length
  p : l[j]? = some P
  lies : Lies W P 48 #[.int .u8 to, .int .i64 t, sl]
  osl : W.ownsRow base 5 1 sl ns.length (vals ns)
  le : base ≤ W.heap.size
theorem At.ptr {W : World} {NB base : Nat} {v : Value} {l : List Nat} {j P to : Nat} {t : Int} {sl : Value} {ns : List Int} (h : At W NB base v l j P to t sl ns) :
    ∃ g cap, v = .slice (some ⟨g, 0, none⟩) l.length cap ∧ g < W.heap.size ∧ W.cell? ⟨g, j, none⟩ = some (.pointer (some ⟨P, 0, none⟩)) := by
  obtain ⟨g, cap, rfl, _, hlt⟩ := h.own.form (by have := h.lt; omega)
  refine ⟨g, cap, rfl, hlt, ?_⟩
  rw [h.own.cellAt j (by have := h.lt; omega), List.getElem?_map, h.p]
  rfl
/-- with, where the flight is there: what is done with it. -/
theorem with17 (w : World) (NB base : Nat) (v : Value) (l : List Nat) (j P to : Nat) (t : Int) (sl : Value) (ns : List Int) (h : At w NB base v l j P to t sl ns) (ht0 : 0 < t) (hl : l.length ≤ 80) (b4 b5 : Nat) (i : Int) (Q : World → Prop)
    (c : Calls Try.prog 17 #[.pointer (some ⟨P, 0, none⟩), .pointer (some ⟨b4, 0, none⟩), .pointer (some ⟨b5, 0, none⟩)] w fun e w' => e = .returned (.int .i64 i) ∧ Q w') :
    Calls Try.prog 16 #[.pointer (some ⟨NB, 0, none⟩), .int .i64 j, .func (.func 17) #[] #[.pointer (some ⟨b4, 0, none⟩), .pointer (some ⟨b5, 0, none⟩)]] w fun e w' => e = .returned (.int .i64 i) ∧ Q w' := by
  obtain ⟨g, cap, rfl, hg, hcell⟩ := h.ptr
  have h0 : w.cell? ⟨NB, 0, none⟩ = some (.slice (some ⟨g, 0, none⟩) l.length cap) := h.n.cell 0
  have j0 : (0 : Int) ≤ (j : Int) := by omega
  have j1 : (j : Int) < (l.length : Int) := by have := h.lt; omega
  have j2 : (l.length : Int) ≤ 80 := by omega
  have c21 := there_at w P to t sl h.lies
  have hdec : decide (0 < t) = true := decide_eq_true ht0
  rw [hdec] at c21
  clear h hdec
  go_enter Try.func16, Try.ntmps16
  go_wp2_with (first | (go_at_call 21; refine c21.mono ?_; rintro e w' ⟨rfl, rfl⟩) | (go_at_call 17; refine c.mono ?_; rintro e W1 ⟨rfl, hq⟩))
  go_ret
  exact ⟨rfl, hq⟩
theorem with18 (w : World) (NB base : Nat) (v : Value) (l : List Nat) (j P to : Nat) (t : Int) (sl : Value) (ns : List Int) (h : At w NB base v l j P to t sl ns) (ht0 : 0 < t) (hl : l.length ≤ 80) (i : Int) (Q : World → Prop)
    (c : Calls Try.prog 18 #[.pointer (some ⟨P, 0, none⟩)] w fun e w' => e = .returned (.int .i64 i) ∧ Q w') :
    Calls Try.prog 16 #[.pointer (some ⟨NB, 0, none⟩), .int .i64 j, .func (.func 18) #[] #[]] w fun e w' => e = .returned (.int .i64 i) ∧ Q w' := by
  obtain ⟨g, cap, rfl, hg, hcell⟩ := h.ptr
  have h0 : w.cell? ⟨NB, 0, none⟩ = some (.slice (some ⟨g, 0, none⟩) l.length cap) := h.n.cell 0
  have j0 : (0 : Int) ≤ (j : Int) := by omega
  have j1 : (j : Int) < (l.length : Int) := by have := h.lt; omega
  have j2 : (l.length : Int) ≤ 80 := by omega
  have c21 := there_at w P to t sl h.lies
  have hdec : decide (0 < t) = true := decide_eq_true ht0
  rw [hdec] at c21
  clear h hdec
  go_enter Try.func16, Try.ntmps16
  go_wp2_with (first | (go_at_call 21; refine c21.mono ?_; rintro e w' ⟨rfl, rfl⟩) | (go_at_call 18; refine c.mono ?_; rintro e W1 ⟨rfl, hq⟩))
  go_ret
  exact ⟨rfl, hq⟩
/-- with, where the flight is spent. -/
theorem with_spent (w : World) (NB base : Nat) (v : Value) (l : List Nat) (j P to : Nat) (t : Int) (sl : Value) (ns : List Int) (h : At w NB base v l j P to t sl ns) (ht0 : ¬ 0 < t) (hl : l.length ≤ 80) (f : Value) :
    Calls Try.prog 16 #[.pointer (some ⟨NB, 0, none⟩), .int .i64 j, f] w fun e w' => e = .returned (.int .i64 6) ∧ w = w' := by
  obtain ⟨g, cap, rfl, hg, hcell⟩ := h.ptr
  have h0 : w.cell? ⟨NB, 0, none⟩ = some (.slice (some ⟨g, 0, none⟩) l.length cap) := h.n.cell 0
  have j0 : (0 : Int) ≤ (j : Int) := by omega
  have j1 : (j : Int) < (l.length : Int) := by have := h.lt; omega
  have j2 : (l.length : Int) ≤ 80 := by omega
  have c21 := there_at w P to t sl h.lies
  have hdec : decide (0 < t) = false := decide_eq_false ht0
  rw [hdec] at c21
  clear h hdec
  go_enter Try.func16, Try.ntmps16
  go_wp2_with (go_at_call 21; refine c21.mono ?_; rintro e w' ⟨rfl, rfl⟩)
  go_ret
  exact ⟨rfl, rfl⟩
/-- with, where no flight has this number. -/
theorem with_out (w : World) (NB n cap : Nat) (ao : Option Addr) (hN : Lies w NB 52 #[.slice ao n cap]) (k : Int) (hk : k < 0 ∨ (n : Int) ≤ k) (f : Value) :
    Calls Try.prog 16 #[.pointer (some ⟨NB, 0, none⟩), .int .i64 k, f] w fun e w' => e = .returned (.int .i64 6) ∧ w = w' := by
  have h0 : w.cell? ⟨NB, 0, none⟩ = some (.slice ao n cap) := hN.cell 0
  clear hN
  by_cases hk0 : k < 0
  · clear hk
    go_enter Try.func16, Try.ntmps16
    go_wp2
    go_ret
    exact ⟨rfl, rfl⟩
  · have hk1 : (n : Int) ≤ k := by omega
    have hk2 : (0 : Int) ≤ k := by omega
    clear hk hk0
    go_enter Try.func16, Try.ntmps16
    go_wp2
    go_ret
    exact ⟨rfl, rfl⟩
theorem with_nil (w : World) (k : Int) (f : Value) : Calls Try.prog 16 #[.pointer none, .int .i64 k, f] w fun e w' => e = .returned (.int .i64 1) ∧ w = w' := by
  go_enter Try.func16, Try.ntmps16
  go_wp2
  go_ret
  exact ⟨rfl, rfl⟩
end Go.Proofs.Ytlaicijacoblbaa
