/- The opener of the row of BlobComes: a slice of steps. -/
import Derived.Test.YtkmikgajmopcbaaSw
import Derived.ProofKit
import Derived.OpenShut
import Derived.Carry
import Derived.WideKeyArr2
import Derived.Lib.SmallJoins
namespace Go.Proofs.Ytkmikgajmopcbaa
open Go.ChangeShapes Go.WideShapes Go.ChangeAt Go.RowKit
set_option linter.unusedVariables false
variable {H : Type} {enc : TypeId × Value → H} {W : World} {r : Reach} {b0 : Nat} {v : Value} {d : DataW H} {p : List MemPlace}
theorem bounds_u32x {n : Int} (h : (Lit.int .u32 n).wf = true) : 0 ≤ n ∧ n < 4294967296 := by
  simp [Lit.wf, IntKind.min, IntKind.max, IntKind.signed, IntKind.bits] at h
  omega
theorem src_of {cs : List Value} {fuel : Nat} {x : DataW H × List MemPlace} (h : DataW.trod enc Try.prog W 0 (fun _ => true) true fuel 27 cs = some x) : ∃ A m k ns, cs = [.slice A m k] ∧ Src W A m k ns ∧ m ≤ 9223372036854775807 := by
  rcases open_ints Try.underlying27 Try.underlying5 (by kernel_rfl) h with ⟨hcs, _⟩ | ⟨x, l, c, zs, hcs, _, hl, hm, hz, _, hcell, hwz⟩
  · exact ⟨none, 0, 0, [], hcs, .inl ⟨rfl, rfl, rfl, rfl⟩, by omega⟩
  · have hz : zs.length = c := by simpa using hz
    unfold maxLen at hm
    refine ⟨some x, l, c, zs.take l, hcs, .inr ⟨x, rfl, by rw [List.length_take]; omega, fun j hj => ?_⟩, by omega⟩
    rw [hcell j (by omega)]
    congr 2
    simp [List.getD, hj]
theorem open_steps (hv : Value.okWide Try.prog W r b0 22 v) (h : DataW.Trod enc Try.prog W 0 (fun _ => true) true 22 v d p) :
    ∃ (a : Option Addr) (len cap : Nat), v = .slice a len cap ∧ ((a = none ∧ len = 0 ∧ cap = 0) ∨ ∃ x, a = some x ∧ len ≤ maxLen ∧ ∀ i, i < len → ∃ c l o A m k ns, Step1 W (x.add (i * 4)) c l o A m k ns) := by
  obtain ⟨a, len, cap, rfl⟩ := okWide_slice Try.underlying22 hv
  obtain ⟨fuel, hf⟩ := h
  refine ⟨a, len, cap, rfl, ?_⟩
  rcases DataW.trod_slice Try.underlying22 hf with ⟨hcs, _⟩ | ⟨x, l, c, elems, rest, n, _, hcs, _, _, hlc, hcm, hlen, hel, _, _⟩
  · simp [Value.cells] at hcs
    exact .inl hcs
  · simp [Value.cells] at hcs
    obtain ⟨rfl, rfl, rfl⟩ := hcs
    refine .inr ⟨x, rfl, by omega, fun i hi => ?_⟩
    have h1 := hel i hi
    have q32 : Try.prog.cellsOf 32 = 4 := by kernel_rfl
    rw [q32, List.getElem?_eq_getElem (by omega), Option.bind_eq_some_iff] at h1
    obtain ⟨cs, h2, h3⟩ := h1
    obtain ⟨_, hl4, hc4⟩ := World.cells?_some h2
    obtain ⟨c0, c1, c2, c3, rfl⟩ : ∃ c0 c1 c2 c3, cs = [c0, c1, c2, c3] := by
      match cs, hl4 with
      | [c0, c1, c2, c3], _ => exact ⟨c0, c1, c2, c3, rfl⟩
    obtain ⟨y0, y1, y2, y3, m, _, _, k0, k1, k2, k3⟩ := Go.Joins.trod_struct4 Try.underlying32 h3
    have q0 : Try.prog.cellsOf 4 = 1 := by kernel_rfl
    have q1 : Try.prog.cellsOf 30 = 1 := by kernel_rfl
    have q2 : Try.prog.cellsOf 27 = 1 := by kernel_rfl
    simp only [q0, q1, q2, List.drop_zero, List.drop_succ_cons, List.take_succ_cons, List.take_zero] at k0 k1 k2 k3
    obtain ⟨b0, e0, _⟩ := DataW.trod_bool Try.underlying4 k0
    obtain ⟨o, e1, _, wo⟩ := DataW.trod_int Try.underlying30 k1
    obtain ⟨b2, e2, _⟩ := DataW.trod_bool Try.underlying4 k2
    obtain ⟨A, m, k, ns, e3, hs, hm⟩ := src_of k3
    simp at e0 e1 e2 e3
    subst e0 e1 e2 e3
    have hb := bounds_u32x wo
    have f0 := hc4 0 (by omega)
    have f1 := hc4 1 (by omega)
    have f2 := hc4 2 (by omega)
    have f3 := hc4 3 (by omega)
    generalize x.add (i * 4) = q at *
    refine ⟨b0, b2, o.toNat, A, m, k, ns, ?_, ?_, ?_, ?_, hs, by omega, hm⟩
    · simpa [Addr.add] using f0
    · rw [Int.toNat_of_nonneg hb.1]
      simpa [Addr.add] using f1
    · simpa [Addr.add] using f2
    · simpa [Addr.add] using f3
end Go.Proofs.Ytkmikgajmopcbaa
