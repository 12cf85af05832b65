/- The receiver and the document's one as whole blocks; the walks of their methods at any state. -/
import Derived.Test.YtkmikgajmopcbaaPo
import Derived.Maps.AppendAt
import Derived.Laws.AppendOwnNone
import Derived.Lib.Hide
namespace Go.Proofs.Ytkmikgajmopcbaa
open Go.RowKit
set_option linter.unusedVariables false
set_option linter.unusedSimpArgs false
/-- What lay in the blocks that X does not name lies as it lay. -/
structure Kept (X : Nat → Prop) (w w' : World) : Prop where
  os : w'.os = w.os
  tape : w'.tape = w.tape
  output : w'.output = w.output
  size : w.heap.size ≤ w'.heap.size
  block : ∀ k, k < w.heap.size → ¬ X k → w'.heap[k]? = w.heap[k]?
theorem Kept.refl (X : Nat → Prop) (w : World) : Kept X w w := ⟨rfl, rfl, rfl, Nat.le_refl _, fun _ _ _ => rfl⟩
theorem Kept.trans {X : Nat → Prop} {a b c : World} (h : Kept X a b) (k : Kept X b c) : Kept X a c :=
  ⟨k.os.trans h.os, k.tape.trans h.tape, k.output.trans h.output, Nat.le_trans h.size k.size, fun i hi hx => (k.block i (Nat.lt_of_lt_of_le hi h.size) hx).trans (h.block i hi hx)⟩
theorem Kept.mono {X Y : Nat → Prop} {a b : World} (h : Kept X a b) (hxy : ∀ k, k < a.heap.size → X k → Y k) : Kept Y a b := ⟨h.os, h.tape, h.output, h.size, fun k hk hy => h.block k hk fun hx => hy (hxy k hk hx)⟩
theorem Kept.below {X : Nat → Prop} {a b : World} (h : Kept X a b) {n : Nat} (hn : n ≤ a.heap.size) (hx : ∀ k, X k → n ≤ k) : Below n a b :=
  ⟨h.os, h.tape, h.output, h.size, fun k hk => h.block k (by omega) fun hk2 => by have := hx k hk2; omega⟩
theorem Kept.of_below {X : Nat → Prop} {a b : World} (h : Below a.heap.size a b) : Kept X a b := ⟨h.os, h.tape, h.output, h.size, fun k hk _ => h.block k hk⟩
theorem Kept.drewN {X : Nat → Prop} {a b : World} (h : Kept X a b) (n : Nat) : Kept X a (b.drewN n) := h.trans ⟨rfl, rfl, rfl, Nat.le_refl _, fun _ _ _ => rfl⟩
theorem Kept.drew {X : Nat → Prop} {a b : World} (h : Kept X a b) : Kept X a b.drew := h.trans ⟨rfl, rfl, rfl, Nat.le_refl _, fun _ _ _ => rfl⟩
theorem Kept.alloc {X : Nat → Prop} {a b : World} (h : Kept X a b) (o : Obj) : Kept X a (b.alloc o) := h.trans (Kept.of_below (Below.alloc (Below.refl _ b) (Nat.le_refl _) o))
theorem Kept.setCell {X : Nat → Prop} {a b : World} (h : Kept X a b) {p : Addr} (hp : X p.block) (v : Value) : Kept X a (b.setCell p v) :=
  h.trans ⟨rfl, rfl, rfl, by simp, fun k _ hx => Below.heap_setCell b p v k fun e => hx (by rw [e]; exact hp)⟩
theorem Kept.grown {X : Nat → Prop} {a b c : World} (h : Kept X a b) {row : Option Nat} (hg : b.grownBy c row) (hr : ∀ k, row = some k → X k ∨ a.heap.size ≤ k) : Kept X a c := by
  have hb : Below b.heap.size b c ∨ True := .inr trivial
  refine ⟨hg.os.trans h.os, hg.tape.trans h.tape, hg.output.trans h.output, Nat.le_trans h.size hg.size, fun k hk hx => ?_⟩
  refine (hg.block k (Nat.lt_of_lt_of_le hk h.size) fun e => ?_).trans (h.block k hk hx)
  rcases hr k e.symm with h1 | h1
  · exact hx h1
  · omega
/-- A struct of a slice, a bool and a number, alone in its block. -/
def Mt (W : World) (B t : Nat) (v : Value) (all : Bool) (most : Int) : Prop := W.heap[B]? = some (.cells #[v, .bool all, .int .i64 most] t (0, 0))
theorem Mt.lt {W : World} {B t : Nat} {v : Value} {all : Bool} {most : Int} (h : Mt W B t v all most) : B < W.heap.size := (Array.getElem?_eq_some_iff.1 h).1
theorem Mt.cell {W : World} {B t : Nat} {v : Value} {all : Bool} {most : Int} (h : Mt W B t v all most) :
    W.cell? ⟨B, 0, none⟩ = some v ∧ W.cell? ⟨B, 1, none⟩ = some (.bool all) ∧ W.cell? ⟨B, 2, none⟩ = some (.int .i64 most) ∧ W.frozen? ⟨B, 0, none⟩ = false ∧ W.frozen? ⟨B, 1, none⟩ = false := by
  unfold Mt at h
  refine ⟨?_, ?_, ?_, ?_, ?_⟩ <;> simp [World.cell?, World.frozen?, h]
theorem Mt.kept {W W' : World} {X : Nat → Prop} {B t : Nat} {v : Value} {all : Bool} {most : Int} (h : Mt W B t v all most) (hk : Kept X W W') (hx : ¬ X B) : Mt W' B t v all most := (hk.block B h.lt hx).trans h
theorem Mt.set0 {W : World} {B t : Nat} {v : Value} {all : Bool} {most : Int} (h : Mt W B t v all most) (u : Value) : Mt (W.setCell ⟨B, 0, none⟩ u) B t u all most := by
  unfold Mt at h ⊢
  simp [World.setCell, Array.getElem?_modify, h]
theorem Mt.set1 {W : World} {B t : Nat} {v : Value} {all : Bool} {most : Int} (h : Mt W B t v all most) (b : Bool) : Mt (W.setCell ⟨B, 1, none⟩ (.bool b)) B t v b most := by
  unfold Mt at h ⊢
  simp [World.setCell, Array.getElem?_modify, h]
theorem Mt.ne {W : World} {B t B' t' : Nat} {v v' : Value} {all all' : Bool} {most most' : Int} (h : Mt W B t v all most) (h' : Mt W B' t' v' all' most') (hne : t ≠ t') : B ≠ B' := by
  rintro rfl
  unfold Mt at h h'
  rw [h] at h'
  simp at h'
  exact hne h'.2
theorem Mt.not_own {W : World} {B t : Nat} {v : Value} {all : Bool} {most : Int} (h : Mt W B t v all most) {base n : Nat} {u : Value} {xs : List Value} (ho : W.ownsRow base 5 1 u n xs) (hne : t ≠ 5) : u.ownBlock ≠ some B := by
  rcases ho.2 with ⟨rfl, _⟩ | ⟨g, cap, cur, rfl, _, hh, _⟩
  · simp [Value.ownBlock]
  · intro he
    have hg : g = B := by simpa [Value.ownBlock] using he
    subst hg
    unfold Mt at h
    rw [h] at hh
    simp at hh
    exact hne hh.2
theorem own_kept {W W' : World} {base n : Nat} {v : Value} {xs : List Value} (h : W.ownsRow base 5 1 v n xs) (hk : ∀ g, v.ownBlock = some g → W'.heap[g]? = W.heap[g]?) : W'.ownsRow base 5 1 v n xs := by
  refine ⟨h.1, ?_⟩
  rcases h.2 with h2 | ⟨g, cap, cur, rfl, hb, hh, rest⟩
  · exact .inl h2
  · exact .inr ⟨g, cap, cur, rfl, hb, (hk g rfl).trans hh, rest⟩
theorem own_base {W : World} {base base' n : Nat} {v : Value} {xs : List Value} (h : W.ownsRow base 5 1 v n xs) (hb : base' ≤ base) : W.ownsRow base' 5 1 v n xs := by
  refine ⟨h.1, ?_⟩
  rcases h.2 with h2 | ⟨g, cap, cur, rfl, hg, hh, rest⟩
  · exact .inl h2
  · exact .inr ⟨g, cap, cur, rfl, Nat.le_trans hb hg, hh, rest⟩
end Go.Proofs.Ytkmikgajmopcbaa
