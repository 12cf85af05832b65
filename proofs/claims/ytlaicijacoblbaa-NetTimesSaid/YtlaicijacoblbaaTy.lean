/- The walk of the law NetTimes where no step came; the law's walk whole. -/
import Derived.Test.YtlaicijacoblbaaTw
namespace Go.Proofs.Ytlaicijacoblbaa
open Go.RowKit
set_option linter.unusedVariables false
set_option linter.unusedSimpArgs false
set_option maxRecDepth 100000 in
set_option maxHeartbeats 4000000 in
theorem times_nil (w : World) : Calls Try.prog 3 #[.slice none 0 0] w fun e w' => e = .returned (.bool true) ∧ Below w.heap.size w w' := by
  have ca := fun W => alive_any W
  have cl := light_nil w
  have up : ∀ {f : Nat} {args : Array Value} {v : Value} {W : World}, Below w.heap.size w W → Calls Try.prog f args W (fun e w' => e = .returned v ∧ Below W.heap.size W w') → Calls Try.prog f args W fun e w' => e = .returned v ∧ Below w.heap.size w w' := fun hb h => h.mono fun e w' ⟨he, h2⟩ => ⟨he, hb.trans (h2.mono hb.size)⟩
  have c6 := fun W hb => up hb (come_nil W 0)
  have c7 := fun W hb => up hb (get_nil W)
  have c8 := fun W => put_nil W
  have c9 := fun W hb => up hb (lose_nil W 0)
  have c10 := fun W => twice_nil W
  have c11 := fun W hb => up hb (spoil_nil W)
  have c12 := fun W hb => up hb (waits_nil W)
  have c13 := fun W => len_nil W
  have c14 := fun W => new_any W
  clear up
  go_enter Try.func3, Try.ntmps3
  go_wp2_with fail
  refine cl.mono ?_
  clear cl
  rintro e w' ⟨rfl, rfl⟩
  have hb : Below w.heap.size w w := Below.refl _ _
  go_wp2_with (first | (go_at_call 6; refine (c6 _ hb).mono ?_; rintro e w1 ⟨rfl, hb⟩; clear c6) | (go_at_call 7; refine (c7 _ hb).mono ?_; rintro e w2 ⟨rfl, hb⟩; have hb := fun o => hb.alloc hb.size o; clear c7) | (go_at_call 8; refine (c8 _).mono ?_; rintro e w' ⟨rfl, rfl⟩) | (go_at_call 9; refine (c9 _ (hb _)).mono ?_; rintro e w3 ⟨rfl, hb⟩) | (go_at_call 10; refine (c10 _).mono ?_; rintro e w' ⟨rfl, rfl⟩) | (go_at_call 11; refine (c11 _ hb).mono ?_; rintro e w4 ⟨rfl, hb⟩) | (go_at_call 12; refine (c12 _ hb).mono ?_; rintro e w5 ⟨rfl, hb⟩) | (go_at_call 13; refine (c13 _).mono ?_; rintro e w' ⟨rfl, rfl⟩) | (go_at_call 14; refine (c14 _).mono ?_; rintro e w' ⟨rfl, rfl⟩))
  obtain ⟨NB, hNB⟩ : ∃ NB, w5.heap.size = NB := ⟨_, rfl⟩
  have hNI : NI w NB [] [] [] (.slice none 0 0) (.slice none 0 0) (.slice none 0 0) (w5.alloc (.cells #[.slice none 0 0] 52)) := by
    rw [← hNB]
    exact ⟨hb.alloc hb.size _, Lies.new w5 52 _, hb.size, World.ownsRow_nil _ _ _ _, World.ownsRow_nil _ _ _ _, World.ownsRow_nil _ _ _ _, fun p hp => (by cases hp), List.nodup_nil, by simp⟩
  obtain ⟨W0, hW0⟩ : ∃ W0, w5.alloc (.cells #[.slice none 0 0] 52) = W0 := ⟨_, rfl⟩
  rw [hW0] at hNI
  rw [hNB, hW0]
  have H0 := Lib.hid hNI
  clear hNI hNB hW0 hb c8 c9 c10 c11 c12 c13 c14
  go_loopw [10, 11, 12] (fun pv tv iv wr => ∃ vP vT : Value, iv = .int .i64 0 ∧ pv = vP ∧ tv = vT ∧ pv = .slice none 0 0 ∧ NI w NB [] [] [] (.slice none 0 0) (.slice none 0 0) (.slice none 0 0) wr) (fun pv tv iv wr => 0)
  case atStart => exact ⟨_, _, rfl, rfl, rfl, rfl, H0.out⟩
  case round =>
    obtain ⟨vP, vT, rfl, rfl, rfl, rfl, hN⟩ := hrel
    have c13 := len_at wr NB 0 0 none hN.n
    have HN := Lib.hid hN
    clear hN
    go_wp2_with (first | (go_at_call 13; refine c13.mono ?_; rintro e w' ⟨rfl, rfl⟩) | (go_at_call 5; ((with_reducible refine (ca _).mono ?_); rintro e w7 ⟨rfl, hb7⟩)))
    go_ret
    exact ⟨rfl, HN.out.b.trans (hb7.mono HN.out.b.size)⟩
theorem times_walk (a : Option Addr) (len cap : Nat) (w : World) (h : (a = none ∧ len = 0 ∧ cap = 0) ∨ ∃ x, a = some x ∧ len ≤ maxLen ∧ ∀ i, i < len → ∃ dd at_ pl by_ tt A m k ns, Step1 w (x.add (i * 6)) dd at_ pl by_ tt A m k ns) :
    Calls Try.prog 3 #[.slice a len cap] w fun e w' => e = .returned (.bool true) ∧ Below w.heap.size w w' := by
  rcases h with ⟨rfl, rfl, rfl⟩ | ⟨x, rfl, hlm, hst⟩
  · exact times_nil w
  · unfold maxLen at hlm
    exact times_row x len cap hlm w hst
end Go.Proofs.Ytlaicijacoblbaa
