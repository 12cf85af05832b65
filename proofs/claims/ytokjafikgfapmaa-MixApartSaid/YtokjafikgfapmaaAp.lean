/- The walk of the law MixApart, where it ends early. -/
import Derived.Test.YtokjafikgfapmaaSu
import Derived.Test.YtokjafikgfapmaaAq
import Derived.Laws.Append
import Derived.Deep.AppendSrc
import Derived.BigQuiet
import Derived.Deep.QuietTactic
import Derived.RegionTactic
import Derived.OwnWalk
namespace Go.Proofs.Ytokjafikgfapmaa
open Go.RowKit
set_option linter.unusedVariables false
set_option linter.unusedSimpArgs false
def grpv (g : Nat → Nat) : Array Value := #[.int .u8 (g 0 : Nat), .int .u8 (g 1 : Nat), .int .u8 (g 2 : Nat), .int .u8 (g 3 : Nat), .int .u8 (g 4 : Nat), .int .u8 (g 5 : Nat), .int .u8 (g 6 : Nat), .int .u8 (g 7 : Nat)]
set_option maxRecDepth 100000 in
set_option maxHeartbeats 1000000 in
theorem apart_long (s x y : BitVec 64) (ao : Option Addr) (len c : Nat) (a : Int) (g : Nat → Nat) (hlm : len ≤ maxLen) (hl : ¬ len ≤ 200) (w : World) :
    Calls Try.prog 5 #[.int .u64 s.toNat, .agg #[.int .u64 x.toNat, .int .u64 y.toNat], .agg #[.slice ao len c, .int .i64 a, .int .u8 (g 0 : Nat), .int .u8 (g 1 : Nat), .int .u8 (g 2 : Nat), .int .u8 (g 3 : Nat), .int .u8 (g 4 : Nat), .int .u8 (g 5 : Nat), .int .u8 (g 6 : Nat), .int .u8 (g 7 : Nat)]] w fun e w' => e = .returned (.bool true) ∧ Below w.heap.size w w' := by
  have ca := fun W => alive_b W
  unfold maxLen at hlm
  have hl1 : ¬ (len : Int) ≤ 200 := by omega
  go_enter Try.func5, Try.ntmps5
  go_wp2_with fail
  go_region
  go_wp2_with (go_at_call 9; ((with_reducible refine (ca _).mono ?_); rintro e w3 ⟨rfl, hb3⟩))
  go_ret
  refine ⟨rfl, Below.trans ?_ (hb3.mono (by simp; omega))⟩
  go_grown
set_option maxRecDepth 100000 in
set_option maxHeartbeats 2000000 in
theorem apart_bad (s x y : BitVec 64) (ao : Option Addr) (len c : Nat) (a : Int) (g : Nat → Nat) (hl : len ≤ 200) (ha : -9223372036854775808 ≤ a) (ha2 : a ≤ 9223372036854775807)
    (hbad : a < 0 ∨ (0 ≤ a ∧ ¬ a % 8 = 0) ∨ (0 ≤ a ∧ a % 8 = 0 ∧ (len : Int) - 8 < a)) (w : World) :
    Calls Try.prog 5 #[.int .u64 s.toNat, .agg #[.int .u64 x.toNat, .int .u64 y.toNat], .agg #[.slice ao len c, .int .i64 a, .int .u8 (g 0 : Nat), .int .u8 (g 1 : Nat), .int .u8 (g 2 : Nat), .int .u8 (g 3 : Nat), .int .u8 (g 4 : Nat), .int .u8 (g 5 : Nat), .int .u8 (g 6 : Nat), .int .u8 (g 7 : Nat)]] w fun e w' => e = .returned (.bool true) ∧ Below w.heap.size w w' := by
  have ca := fun W => alive_b W
  have hl1 : (len : Int) ≤ 200 := by omega
  have hl0 : (0 : Int) ≤ (len : Int) := by omega
  have up : ∀ {f : Nat} {args : Array Value} {v : Value} {W : World}, Below w.heap.size w W → Calls Try.prog f args W (fun e w' => e = .returned v ∧ Below W.heap.size W w') → Calls Try.prog f args W fun e w' => e = .returned v ∧ Below w.heap.size w w' := fun hb h => h.mono fun e w' ⟨he, h2⟩ => ⟨he, hb.trans (h2.mono hb.size)⟩
  have ca := fun W hb => up hb (ca W)
  have c1 := fun W hb => up hb (word_b s x W)
  have c2 := fun W hb => up hb (word_b s y W)
  have c3 := fun W hb => up hb (word_b x s W)
  have c4 := fun W hb => up hb (word_b y s W)
  clear up
  by_cases hxy : x = y
  · subst hxy
    clear c2 c4
    generalize Pl.word s x = p at *
    generalize Pl.word x s = q at *
    go_enter Try.func5, Try.ntmps5
    go_wp2_with fail
    go_region
    go_wp2_with fail
    go_region
    go_wp2_with (first | (go_at_call 6; first | ((with_reducible refine (c1 _ hb).mono ?_); rintro e w1 ⟨rfl, hb⟩) | ((with_reducible refine (c3 _ hb).mono ?_); rintro e w1 ⟨rfl, hb⟩) | ((with_reducible refine (c1 _ (by go_grown)).mono ?_); rintro e w1 ⟨rfl, hb⟩)) | (go_at_call 9; ((with_reducible refine (ca _ hb).mono ?_); rintro e w1 ⟨rfl, hb⟩)))
    all_goals
      go_ret
      exact ⟨rfl, hb⟩
  · have n1 : ¬ Pl.word s x = Pl.word s y := fun h => hxy (Pl.word_inj _ _ _ h)
    have n2 : ¬ Pl.word x s = Pl.word y s := fun h => hxy (Pl.word_inj' _ _ _ h)
    generalize Pl.word s x = p1 at *
    generalize Pl.word s y = p2 at *
    generalize Pl.word x s = q1 at *
    generalize Pl.word y s = q2 at *
    have m0 : ((x.toNat : Int) == (y.toNat : Int)) = false := beq_eq_false_iff_ne.2 fun h => hxy (BitVec.eq_of_toNat_eq (by omega))
    have m1 : ((p1.toNat : Int) == (p2.toNat : Int)) = false := beq_eq_false_iff_ne.2 fun h => n1 (BitVec.eq_of_toNat_eq (by omega))
    have m2 : ((q1.toNat : Int) == (q2.toNat : Int)) = false := beq_eq_false_iff_ne.2 fun h => n2 (BitVec.eq_of_toNat_eq (by omega))
    clear n1 n2 hxy
    go_enter Try.func5, Try.ntmps5
    go_wp2_with fail
    go_region
    go_wp2_with fail
    go_region
    go_wp2_with (first | (go_at_call 6; first | ((with_reducible refine (c1 _ (by go_grown)).mono ?_); rintro e w1 ⟨rfl, hb⟩; clear c1) | ((with_reducible refine (c2 _ hb).mono ?_); rintro e w1 ⟨rfl, hb⟩; clear c2) | ((with_reducible refine (c3 _ hb).mono ?_); rintro e w1 ⟨rfl, hb⟩; clear c3) | ((with_reducible refine (c4 _ hb).mono ?_); rintro e w1 ⟨rfl, hb⟩; clear c4)) | (go_at_call 9; ((with_reducible refine (ca _ hb).mono ?_); rintro e w1 ⟨rfl, hb⟩)))
    all_goals
      go_ret
      exact ⟨rfl, hb⟩
end Go.Proofs.Ytokjafikgfapmaa
