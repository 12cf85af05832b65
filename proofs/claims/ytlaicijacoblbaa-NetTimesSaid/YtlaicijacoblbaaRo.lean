/- The opener of the row of NetTimes: a slice of steps. -/
import Derived.Test.YtlaicijacoblbaaTy
import Derived.ProofKit
import Derived.OpenShut
import Derived.Carry
import Derived.WideKeyArr2
import Derived.Lib.SmallJoins
namespace Go.Proofs.Ytlaicijacoblbaa
open Go.ChangeShapes Go.WideShapes Go.ChangeAt Go.RowKit
set_option linter.unusedVariables false
variable {H : Type} {enc : TypeId × Value → H} {W : World} {r : Reach} {b0 : Nat} {v : Value} {d : DataW H} {p : List MemPlace}
theorem src_of {cs : List Value} {fuel : Nat} {x : DataW H × List MemPlace} (h : DataW.trod enc Try.prog W 0 (fun _ => true) true fuel 26 cs = some x) : ∃ A m k ns, cs = [.slice A m k] ∧ Src W A m k ns ∧ m ≤ 9223372036854775807 := by
  rcases open_ints Try.underlying26 Try.underlying5 (by kernel_rfl) h with ⟨hcs, _⟩ | ⟨x, l, c, zs, hcs, _, hl, hm, hz, _, hcell, hwz⟩
  · exact ⟨none, 0, 0, [], hcs, .inl ⟨rfl, rfl, rfl, rfl⟩, by omega⟩
  · have hz : zs.length = c := by simpa using hz
    unfold maxLen at hm
    refine ⟨some x, l, c, zs.take l, hcs, .inr ⟨x, rfl, by rw [List.length_take]; omega, fun j hj => ?_⟩, by omega⟩
    rw [hcell j (by omega)]
    congr 2
    simp [List.getD, hj]
theorem trod6 {t : TypeId} {f0 f1 f2 f3 f4 f5 : Field} {fuel : Nat} {cs : List Value} {x : DataW H × List MemPlace} (ht : Try.prog.underlying t = some (.struct #[f0, f1, f2, f3, f4, f5])) (h : DataW.trod enc Try.prog W 0 (fun _ => true) true fuel t cs = some x) :
    ∃ (y0 y1 y2 y3 y4 y5 : DataW H × List MemPlace) (m : Nat), DataW.trod enc Try.prog W 0 (fun _ => true) true m f0.type ((cs.drop f0.offset).take (Try.prog.cellsOf f0.type)) = some y0 ∧ DataW.trod enc Try.prog W 0 (fun _ => true) true m f1.type ((cs.drop f1.offset).take (Try.prog.cellsOf f1.type)) = some y1 ∧
      DataW.trod enc Try.prog W 0 (fun _ => true) true m f2.type ((cs.drop f2.offset).take (Try.prog.cellsOf f2.type)) = some y2 ∧ DataW.trod enc Try.prog W 0 (fun _ => true) true m f3.type ((cs.drop f3.offset).take (Try.prog.cellsOf f3.type)) = some y3 ∧
      DataW.trod enc Try.prog W 0 (fun _ => true) true m f4.type ((cs.drop f4.offset).take (Try.prog.cellsOf f4.type)) = some y4 ∧ DataW.trod enc Try.prog W 0 (fun _ => true) true m f5.type ((cs.drop f5.offset).take (Try.prog.cellsOf f5.type)) = some y5 := by
  obtain ⟨xs, m, _, _, _, hlen, hf⟩ := DataW.trod_struct ht h
  match xs, hlen with
  | [y0, y1, y2, y3, y4, y5], _ => exact ⟨y0, y1, y2, y3, y4, y5, m, by simpa using hf 0 f0 rfl, by simpa using hf 1 f1 rfl, by simpa using hf 2 f2 rfl, by simpa using hf 3 f3 rfl, by simpa using hf 4 f4 rfl, by simpa using hf 5 f5 rfl⟩
theorem open_steps (hv : Value.okWide Try.prog W r b0 22 v) (h : DataW.Trod enc Try.prog W 0 (fun _ => true) true 22 v d p) :
    ∃ (a : Option Addr) (len cap : Nat), v = .slice a len cap ∧ ((a = none ∧ len = 0 ∧ cap = 0) ∨ ∃ x, a = some x ∧ len ≤ maxLen ∧ ∀ i, i < len → ∃ dd at_ pl by_ tt A m k ns, Step1 W (x.add (i * 6)) dd at_ pl by_ tt A m k ns) := by
  obtain ⟨a, len, cap, rfl⟩ := okWide_slice Try.underlying22 hv
  obtain ⟨fuel, hf⟩ := h
  refine ⟨a, len, cap, rfl, ?_⟩
  rcases DataW.trod_slice Try.underlying22 hf with ⟨hcs, _⟩ | ⟨x, l, c, elems, rest, n, _, hcs, _, _, hlc, hcm, hlen, hel, _, _⟩
  · simp [Value.cells] at hcs
    exact .inl hcs
  · simp [Value.cells] at hcs
    obtain ⟨rfl, rfl, rfl⟩ := hcs
    refine .inr ⟨x, rfl, by omega, fun i hi => ?_⟩
    have h1 := hel i hi
    have q43 : Try.prog.cellsOf 43 = 6 := by kernel_rfl
    rw [q43, List.getElem?_eq_getElem (by omega), Option.bind_eq_some_iff] at h1
    obtain ⟨cs, h2, h3⟩ := h1
    obtain ⟨_, hl6, hc6⟩ := World.cells?_some h2
    obtain ⟨c0, c1, c2, c3, c4, c5, rfl⟩ : ∃ c0 c1 c2 c3 c4 c5, cs = [c0, c1, c2, c3, c4, c5] := by
      match cs, hl6 with
      | [c0, c1, c2, c3, c4, c5], _ => exact ⟨c0, c1, c2, c3, c4, c5, rfl⟩
    obtain ⟨y0, y1, y2, y3, y4, y5, m, k0, k1, k2, k3, k4, k5⟩ := trod6 Try.underlying43 h3
    have q0 : Try.prog.cellsOf 3 = 1 := by kernel_rfl
    have q1 : Try.prog.cellsOf 5 = 1 := by kernel_rfl
    have q2 : Try.prog.cellsOf 26 = 1 := by kernel_rfl
    simp only [q0, q1, q2, List.drop_zero, List.drop_succ_cons, List.take_succ_cons, List.take_zero] at k0 k1 k2 k3 k4 k5
    obtain ⟨n0, e0, _, w0⟩ := DataW.trod_int Try.underlying3 k0
    obtain ⟨n1, e1, _, w1⟩ := DataW.trod_int Try.underlying3 k1
    obtain ⟨n2, e2, _, w2⟩ := DataW.trod_int Try.underlying3 k2
    obtain ⟨n3, e3, _, w3⟩ := DataW.trod_int Try.underlying5 k3
    obtain ⟨n4, e4, _, w4⟩ := DataW.trod_int Try.underlying5 k4
    obtain ⟨A, mm, k, ns, e5, hs, hm⟩ := src_of k5
    simp at e0 e1 e2 e3 e4 e5
    subst e0 e1 e2 e3 e4 e5
    have hb1 := bounds_i64 w1
    have hb4 := bounds_u8 w4
    have f0 := hc6 0 (by omega)
    have f1 := hc6 1 (by omega)
    have f2 := hc6 2 (by omega)
    have f3 := hc6 3 (by omega)
    have f4 := hc6 4 (by omega)
    have f5 := hc6 5 (by omega)
    generalize x.add (i * 6) = q at *
    refine ⟨n0, n1, n2, n3, n4.toNat, A, mm, k, ns, ?_, ?_, ?_, ?_, ?_, ?_, hs, hb1.1, by omega, hm⟩
    · simpa [Addr.add] using f0
    · simpa [Addr.add] using f1
    · simpa [Addr.add] using f2
    · simpa [Addr.add] using f3
    · rw [Int.toNat_of_nonneg hb4.1]
      simpa [Addr.add] using f4
    · simpa [Addr.add] using f5
end Go.Proofs.Ytlaicijacoblbaa
