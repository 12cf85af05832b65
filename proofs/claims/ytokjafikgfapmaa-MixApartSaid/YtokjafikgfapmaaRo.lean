/- The openers of the row of MixApart: an array of two numbers, a struct with a slice and an array in it. -/
import Derived.Test.YtokjafikgfapmaaSu
import Derived.ProofKit
import Derived.OpenShut
import Derived.Carry
import Derived.WideKeyArr2
import Derived.Lib.SmallJoins
import Derived.Deep.Strs
namespace Go.Proofs.Ytokjafikgfapmaa
open Go.ChangeShapes Go.WideShapes Go.ChangeAt Go.RowKit
set_option linter.unusedVariables false
variable {H : Type} {enc : TypeId × Value → H} {W : World} {r : Reach} {b0 : Nat} {v : Value} {d : DataW H} {p : List MemPlace}
/-- One byte of an array among the cells. -/
theorem byte_at {t : TypeId} {cs : List Value} {fuel : Nat} {x : DataW H × List MemPlace} (ht : Try.prog.underlying t = some (.array 8 5)) (h : DataW.trod enc Try.prog W 0 (fun _ => true) true fuel t cs = some x) :
    ∀ i, i < 8 → ∃ n : Nat, n < 256 ∧ (cs.drop i).take 1 = [.int .u8 (n : Int)] := by
  obtain ⟨xs, m, _, _, hl, hxl, hat⟩ := DataW.trod_array ht h
  have hone : Try.prog.cellsOf 5 = 1 := by kernel_rfl
  intro i hi
  have h1 := hat i hi
  rw [hone, Nat.mul_one] at h1
  have hx : i < xs.length := by omega
  rw [List.getElem?_eq_getElem hx] at h1
  obtain ⟨a, e0, _, wa⟩ := DataW.trod_int Try.underlying5 h1
  have hb := bounds_u8 wa
  exact ⟨a.toNat, by omega, by rw [e0, Int.toNat_of_nonneg hb.1]⟩
theorem open_pair (hv : Value.okWide Try.prog W r b0 30 v) (h : DataW.Trod enc Try.prog W 0 (fun _ => true) true 30 v d p) :
    ∃ x y : Int, v = .agg #[.int .u64 x, .int .u64 y] ∧ (Lit.int .u64 x).wf = true ∧ (Lit.int .u64 y).wf = true := by
  have hu : Try.prog.underlying 30 = some (.array 2 22) := Try.underlying30
  simp only [Value.okWide, hu] at hv
  obtain ⟨cs, rfl, hsz, _⟩ := hv
  have h2 : cs.size = 2 := hsz.trans (by kernel_rfl)
  obtain ⟨c0, c1, rfl⟩ : ∃ c0 c1, cs = #[c0, c1] := by
    obtain ⟨l⟩ := cs
    match l, h2 with
    | [c0, c1], _ => exact ⟨c0, c1, rfl⟩
  obtain ⟨fuel, hf⟩ := h
  obtain ⟨xs, m, _, _, hl, hxl, hat⟩ := DataW.trod_array hu hf
  have hone : Try.prog.cellsOf 22 = 1 := by kernel_rfl
  have k0 := hat 0 (by omega)
  have k1 := hat 1 (by omega)
  rw [hone] at k0 k1
  rw [List.getElem?_eq_getElem (show 0 < xs.length by omega)] at k0
  rw [List.getElem?_eq_getElem (show 1 < xs.length by omega)] at k1
  obtain ⟨x, e0, _, w0⟩ := DataW.trod_int Try.underlying22 k0
  obtain ⟨y, e1, _, w1⟩ := DataW.trod_int Try.underlying22 k1
  simp [Value.cells] at e0 e1
  exact ⟨x, y, by rw [e0, e1], w0, w1⟩
theorem open_change (hv : Value.okWide Try.prog W r b0 33 v) (h : DataW.Trod enc Try.prog W 0 (fun _ => true) true 33 v d p) :
    ∃ (ao : Option Addr) (len cap : Nat) (zs : List Int) (a : Int) (g : Nat → Nat), v = .agg #[.slice ao len cap, .int .i64 a, .int .u8 (g 0 : Nat), .int .u8 (g 1 : Nat), .int .u8 (g 2 : Nat), .int .u8 (g 3 : Nat), .int .u8 (g 4 : Nat), .int .u8 (g 5 : Nat), .int .u8 (g 6 : Nat), .int .u8 (g 7 : Nat)] ∧
      ((ao = none ∧ len = 0 ∧ cap = 0 ∧ zs = []) ∨ ∃ x, ao = some x ∧ len ≤ cap ∧ cap ≤ maxLen ∧ zs.length = cap ∧ (∀ i, i < zs.length → W.cell? (x.add i) = some (.int .u8 (zs.getD i 0))) ∧ ∀ n ∈ zs, (Lit.int .u8 n).wf = true) ∧
      (Lit.int .i64 a).wf = true ∧ ∀ j, g j < 256 := by
  obtain ⟨cs, rfl, hsz⟩ := okWide_struct Try.underlying33 hv
  have h10 : cs.size = 10 := hsz.trans (by kernel_rfl)
  obtain ⟨c0, c1, c2, c3, c4, c5, c6, c7, c8, c9, rfl⟩ : ∃ c0 c1 c2 c3 c4 c5 c6 c7 c8 c9, cs = #[c0, c1, c2, c3, c4, c5, c6, c7, c8, c9] := by
    obtain ⟨l⟩ := cs
    match l, h10 with
    | [c0, c1, c2, c3, c4, c5, c6, c7, c8, c9], _ => exact ⟨c0, c1, c2, c3, c4, c5, c6, c7, c8, c9, rfl⟩
  obtain ⟨fuel, hf⟩ := h
  obtain ⟨y0, y1, y2, m, _, _, k0, k1, k2⟩ := Go.Deep.trod_struct3 Try.underlying33 hf
  have q0 : Try.prog.cellsOf 26 = 1 := by kernel_rfl
  have q1 : Try.prog.cellsOf 3 = 1 := by kernel_rfl
  have q2 : Try.prog.cellsOf 31 = 8 := by kernel_rfl
  simp only [q0, q1, q2, Value.cells, List.drop_zero, List.drop_succ_cons, List.take_succ_cons, List.take_zero] at k0 k1 k2
  obtain ⟨a, e1, _, wa⟩ := DataW.trod_int Try.underlying3 k1
  have hb := byte_at Try.underlying31 k2
  obtain ⟨n0, l0, g0⟩ := hb 0 (by omega)
  obtain ⟨n1, l1, g1⟩ := hb 1 (by omega)
  obtain ⟨n2, l2, g2⟩ := hb 2 (by omega)
  obtain ⟨n3, l3, g3⟩ := hb 3 (by omega)
  obtain ⟨n4, l4, g4⟩ := hb 4 (by omega)
  obtain ⟨n5, l5, g5⟩ := hb 5 (by omega)
  obtain ⟨n6, l6, g6⟩ := hb 6 (by omega)
  obtain ⟨n7, l7, g7⟩ := hb 7 (by omega)
  simp at e1 g0 g1 g2 g3 g4 g5 g6 g7
  subst e1 g0 g1 g2 g3 g4 g5 g6 g7
  have hg : ∀ j, ([n0, n1, n2, n3, n4, n5, n6, n7] : List Nat).getD j 0 < 256 := by
    intro j
    match j with
    | 0 => exact l0
    | 1 => exact l1
    | 2 => exact l2
    | 3 => exact l3
    | 4 => exact l4
    | 5 => exact l5
    | 6 => exact l6
    | 7 => exact l7
    | _ + 8 => exact Nat.zero_lt_succ _
  rcases open_ints Try.underlying26 Try.underlying5 (by kernel_rfl) k0 with ⟨hcs, _⟩ | ⟨x, l, c, zs, hcs, _, hl, hm, hz, _, hcell, hwz⟩
  · simp at hcs
    subst hcs
    exact ⟨none, 0, 0, [], a, fun j => ([n0, n1, n2, n3, n4, n5, n6, n7] : List Nat).getD j 0, rfl, .inl ⟨rfl, rfl, rfl, rfl⟩, wa, hg⟩
  · simp at hcs
    subst hcs
    exact ⟨some x, l, c, zs, a, fun j => ([n0, n1, n2, n3, n4, n5, n6, n7] : List Nat).getD j 0, rfl, .inr ⟨x, rfl, hl, hm, by simpa using hz, hcell, hwz⟩, wa, hg⟩
end Go.Proofs.Ytokjafikgfapmaa
