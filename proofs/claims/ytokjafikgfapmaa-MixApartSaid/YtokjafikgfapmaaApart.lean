/- The row of MixApart. -/
import Derived.Test.YtokjafikgfapmaaRows
import Derived.WalkKit
import Derived.Test.YtokjafikgfapmaaRo
import Derived.Test.YtokjafikgfapmaaAr
import Derived.ProofKit
import Derived.OpenShut
import Derived.Carry
import Derived.WideKeyArr2
namespace Go.Proofs.Ytokjafikgfapmaa.mixApart
open Go.ChangeShapes Go.WideShapes Go.ChangeAt Go.RowKit
open Go.ChangeMaps (open_string shut_string)
set_option linter.unusedVariables false

theorem own : ownKnob Try.prog.godebug = none := by kernel_rfl
theorem laidOut : laidOutB Try.prog = true := by kernel_rfl

theorem walk (w : World) (a0 : Int) (w0 : (Lit.int .u64 a0).wf = true) (a1 b1 : Int) (w1 : (Lit.int .u64 a1).wf = true) (y1 : (Lit.int .u64 b1).wf = true) (a2 : Option Addr) (len2 cap2 : Nat) (z2 : List Int) (b2 : Int) (g2 : Nat → Nat) (x2 : (a2 = none ∧ len2 = 0 ∧ cap2 = 0 ∧ z2 = []) ∨ ∃ x, a2 = some x ∧ len2 ≤ cap2 ∧ cap2 ≤ maxLen ∧ z2.length = cap2 ∧ (∀ i, i < z2.length → w.cell? (x.add i) = some (.int .u8 (z2.getD i 0))) ∧ ∀ n ∈ z2, (Lit.int .u8 n).wf = true) (w2 : (Lit.int .i64 b2).wf = true) (y2 : ∀ j, g2 j < 256) :
    Calls Try.prog 5 #[.int .u64 a0, .agg #[.int .u64 a1, .int .u64 b1], .agg #[.slice a2 len2 cap2, .int .i64 b2, .int .u8 (g2 0 : Nat), .int .u8 (g2 1 : Nat), .int .u8 (g2 2 : Nat), .int .u8 (g2 3 : Nat), .int .u8 (g2 4 : Nat), .int .u8 (g2 5 : Nat), .int .u8 (g2 6 : Nat), .int .u8 (g2 7 : Nat)]] w fun e w' => e = .returned (.bool true) ∧ Below w.heap.size w w' := by
  have bb := bounds_i64 w2
  obtain ⟨s, rfl⟩ : ∃ x : BitVec 64, a0 = (x.toNat : Int) := Pl.of_wf w0
  obtain ⟨x, rfl⟩ : ∃ x : BitVec 64, a1 = (x.toNat : Int) := Pl.of_wf w1
  obtain ⟨y, rfl⟩ : ∃ x : BitVec 64, b1 = (x.toNat : Int) := Pl.of_wf y1
  obtain ⟨z, hz, hl, hB⟩ := bys_of x2
  exact apart_walk s x y a2 len2 cap2 b2 g2 z (by omega) (by omega) hl hz y2 w hB

set_option maxRecDepth 100000 in
theorem lifted (os : Os) (started : os.Started) (H : Type) (enc : TypeId × Value → H) :
    ReturnsInHanded {} Try.checked os 5 .any (Rows.mixApartSpec.pre6 enc Try.prog Try.f5 Rows.mixApartRow.domain false) (Rows.mixApartSpec.post enc Try.prog Try.f5 false true false false) := by
  refine returnsInHanded_of_change (C := Try.checked) own started (by kernel_rfl) Try.func5
    (ChangeSpec.witness6 (enc := enc) (C := Try.checked) false ⟨#[], #[.int .u64 0, .agg #[.int .u64 0, .int .u64 0], .agg #[.slice none 0 0, .int .i64 0, .int .u8 0, .int .u8 0, .int .u8 0, .int .u8 0, .int .u8 0, .int .u8 0, .int .u8 0, .int .u8 0]], []⟩ 8 (by kernel_rfl) (by kernel_rfl) (by kernel_rfl) (by kernel_rfl)) ?_
  intro W base args ds gs before hval0 hW hcnd _
  have hval : ∀ (j : Nat) t v, Try.f5.params[j]? = some t → args[j]? = some v → Value.okWide Try.prog W .any base t v := hval0
  have hW' := hW
  obtain ⟨p, q, hA0, hV, rfl, hfz, hnd⟩ := hW
  have hA : DataW.TrodAll enc Try.prog W 0 (fun _ => true) true Try.f5.params.toList args.toList ds p := hA0
  rw [Try.params5] at hA hval
  obtain ⟨v0, vs0, d0, ds0, p0, q0, hargs, rfl, rfl, h0, r0⟩ := trodAll_cons hA
  obtain ⟨v1, vs1, d1, ds1, p1, q1, rfl, rfl, rfl, h1, r1⟩ := trodAll_cons r0
  obtain ⟨v2, vs2, d2, ds2, p2, q2, rfl, rfl, rfl, h2, r2⟩ := trodAll_cons r1
  obtain ⟨rfl, rfl, rfl⟩ := trodAll_nil r2
  obtain rfl : args = #[v0, v1, v2] := by cases args; simp_all
  obtain ⟨rfl, rfl⟩ := trodVars_none hV
  obtain ⟨a0, rfl, rfl, rfl, w0⟩ := open_int Try.underlying22 (hval 0 22 v0 rfl rfl) h0
  have k1 := h1
  have lt1 : ∀ x ∈ p1, x.block < W.heap.size := by obtain ⟨m, hm⟩ := k1; exact DataW.trod_lt m _ _ _ hm
  obtain ⟨a1, b1, rfl, w1, y1⟩ := open_pair (hval 1 30 v1 rfl rfl) h1
  have k2 := h2
  have lt2 : ∀ x ∈ p2, x.block < W.heap.size := by obtain ⟨m, hm⟩ := k2; exact DataW.trod_lt m _ _ _ hm
  obtain ⟨a2, len2, cap2, z2, b2, g2, rfl, x2, w2, y2⟩ := open_change (hval 2 33 v2 rfl rfl) h2
  clear hA0 hval0
  refine (walk W a0 w0 a1 b1 w1 y1 a2 len2 cap2 z2 b2 g2 x2 w2 y2).mono fun e W' ⟨he, bel⟩ => ?_
  subst he
  exact ⟨_, rfl, _, _, _, [], _, [], hW', trodAll_mk1 (shut_bool Try.underlying4 _), (trodAll_cons_mk (shut_int Try.underlying22 w0) (trodAll_cons_mk (Below.trod laidOut (by kernel_rfl) (of_decide_eq_true (by kernel_rfl)) k1 bel lt1) (trodAll_cons_mk (Below.trod laidOut (by kernel_rfl) (of_decide_eq_true (by kernel_rfl)) k2 bel lt2) trodAll_mk0))), rfl, bel.frame _, fun h => by cases h⟩

theorem over : Rows.mixApartRow.holds Try.pinned (OpenSpec.ofChange Rows.mixApartSpec) :=
  OpenClaim.holds_of_wide 5 Try.f5 rfl rfl rfl rfl rfl rfl rfl ⟨rfl, rfl, rfl, rfl, rfl⟩ rfl rfl rfl rfl rfl (by kernel_rfl) Try.func5 (by kernel_rfl)
    (of_decide_eq_true (by kernel_rfl)) (by unfold Func.isWrapper; first | (rw [if_pos (by decide +kernel)]; kernel_rfl) | (rw [if_neg (by decide +kernel)]; exact ⟨rfl, rfl⟩))
    (fun os started H enc _ => lifted os started H enc)

theorem proved : Rows.MixApartSaid := over
#print axioms proved
end Go.Proofs.Ytokjafikgfapmaa.mixApart
