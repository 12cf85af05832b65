/- The walks of light, of alive, of Same. -/
import Derived.Test.YtlaicijacoblbaaNi
import Derived.Laws.BytesArg
import Derived.Lib.SmallJoins
import Derived.Outline
namespace Go.Proofs.Ytlaicijacoblbaa
open Go.RowKit
set_option linter.unusedVariables false
set_option linter.unusedSimpArgs false
/-- A step among the cells: at q the six fields; its bytes are ns. -/
structure Step1 (W : World) (q : Addr) (dd at_ pl by_ : Int) (to : Nat) (A : Option Addr) (m k : Nat) (ns : List Int) : Prop where
  h0 : W.cell? q = some (.int .i64 dd)
  h1 : W.cell? ⟨q.block, q.off + 1, none⟩ = some (.int .i64 at_)
  h2 : W.cell? ⟨q.block, q.off + 2, none⟩ = some (.int .i64 pl)
  h3 : W.cell? ⟨q.block, q.off + 3, none⟩ = some (.int .u8 by_)
  h4 : W.cell? ⟨q.block, q.off + 4, none⟩ = some (.int .u8 to)
  h5 : W.cell? ⟨q.block, q.off + 5, none⟩ = some (.slice A m k)
  src : Src W A m k ns
  a0 : -9223372036854775808 ≤ at_
  a1 : at_ ≤ 9223372036854775807
  mb : m ≤ 9223372036854775807
theorem Step1.below {W W' : World} {q : Addr} {dd at_ pl by_ : Int} {to : Nat} {A : Option Addr} {m k : Nat} {ns : List Int} (h : Step1 W q dd at_ pl by_ to A m k ns) (hb : Below W.heap.size W W') : Step1 W' q dd at_ pl by_ to A m k ns :=
  ⟨keepB hb h.h0, keepB hb h.h1, keepB hb h.h2, keepB hb h.h3, keepB hb h.h4, keepB hb h.h5, h.src.below hb, h.a0, h.a1, h.mb⟩
/-- What light answers. -/
def LightP (w : World) (x : Addr) (len : Nat) (e : Ending) (w' : World) : Prop := ∃ b, e = .returned (.bool b) ∧ w = w' ∧ (b = true → len ≤ 80 ∧ ∀ i, i < len → ∀ dd at_ pl by_ to A m k ns, Step1 w (x.add (i * 6)) dd at_ pl by_ to A m k ns → m ≤ 60)
set_option maxHeartbeats 1000000 in
theorem light_row (x : Addr) (len cap : Nat) (hlm : len ≤ 9223372036854775807) (w : World) (hst : ∀ i, i < len → ∃ dd at_ pl by_ to A m k ns, Step1 w (x.add (i * 6)) dd at_ pl by_ to A m k ns) :
    Calls Try.prog 4 #[.slice (some x) len cap] w (LightP w x len) := by
  have HST := Lib.hid hst
  have hl0 : (0 : Int) ≤ (len : Int) := by omega
  have hl1 : (len : Int) ≤ 9223372036854775807 := by omega
  clear hst
  go_enter Try.func4, Try.ntmps4
  go_wp2
  go_loop [3] (fun iv => ∃ i : Nat, iv = .int .i64 i ∧ i ≤ len ∧ i ≤ 80 ∧ Hid (∀ j, j < i → ∀ dd at_ pl by_ to A m k ns, Step1 w (x.add (j * 6)) dd at_ pl by_ to A m k ns → m ≤ 60)) (fun iv => len - (intOf iv).toNat)
  case atStart => exact ⟨0, rfl, by omega, by omega, fun j hj => by omega⟩
  case round =>
    obtain ⟨i, rfl, hi, hi8, HI⟩ := hrel
    by_cases hlt : i < len ∧ i < 80
    · obtain ⟨hlt1, hlt2⟩ := hlt
      have j0 : (0 : Int) ≤ (i : Int) := by omega
      have j1 : (i : Int) < (len : Int) := by omega
      have j2 : (i : Int) < 80 := by omega
      obtain ⟨dd, at_, pl, by_, to, A, m, k, ns, hs⟩ := HST.out i hlt1
      have h5 := hs.h5
      have hmb := hs.mb
      have HS := Lib.hid hs
      clear hs
      generalize hq : x.add (i * 6) = q at *
      by_cases hm : m ≤ 60
      · have hm1 : (m : Int) ≤ 60 := by omega
        go_wp2
        refine ⟨⟨i + 1, by simp, by omega, by omega, fun j hj dd' at' pl' by' to' A' m' k' ns' h' => ?_⟩, ?_⟩
        · by_cases hji : j = i
          · subst hji
            have e := h'.h5
            rw [hq, h5] at e
            simp at e
            omega
          · exact HI.out j (by omega) _ _ _ _ _ _ _ _ _ h'
        · simp only [intOf]
          omega
      · have hm1 : ¬ (m : Int) ≤ 60 := by omega
        go_wp2
        go_ret
        exact ⟨false, rfl, rfl, fun h => by cases h⟩
    · by_cases h1 : i < len
      · have j1 : (i : Int) < (len : Int) := by omega
        have j2 : ¬ (i : Int) < 80 := by omega
        have j3 : ¬ (len : Int) ≤ 80 := by omega
        go_wp2
        go_ret
        exact ⟨false, rfl, rfl, fun h => by cases h⟩
      · obtain rfl : i = len := by omega
        have j3 : (i : Int) ≤ 80 := by omega
        go_wp2
        go_ret
        exact ⟨true, rfl, rfl, fun _ => ⟨hi8, HI.out⟩⟩
theorem light_nil (w : World) : Calls Try.prog 4 #[.slice none 0 0] w fun e w' => e = .returned (.bool true) ∧ w = w' := by
  go_enter Try.func4, Try.ntmps4
  go_wp2
  go_loop [3] (fun iv => iv = .int .i64 0) (fun iv => 0)
  case atStart => exact rfl
  case round =>
    obtain rfl := hrel
    go_wp2
    go_ret
    exact ⟨rfl, rfl⟩
end Go.Proofs.Ytlaicijacoblbaa
