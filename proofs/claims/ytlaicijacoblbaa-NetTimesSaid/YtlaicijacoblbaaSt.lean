/- Words for memory: what is kept, what a call owns, what lies in a block. -/
import Derived.Test.YtlaicijacoblbaaProg
import Derived.WalkKit
import Derived.WalkLawsBesides
import Derived.WalkSpells
import Derived.Handy
import Derived.Laws.Append
import Derived.Deep.AppendSrc
import Derived.BigQuiet
import Derived.Deep.QuietTactic
import Derived.RegionTactic
import Derived.OwnWalk
import Derived.Maps.AppendAt
import Derived.Laws.AppendOwnNone
import Derived.Deep.AppendLies
import Derived.Laws.Rows
import Derived.Lib.Hide
import Derived.Deep.RegionHeld3
namespace Go.Proofs.Ytlaicijacoblbaa
open Go.RowKit
set_option linter.unusedVariables false
set_option linter.unusedSimpArgs false
theorem keepB {W w1 : World} (hb : Below W.heap.size W w1) {a : Addr} {v : Value} (h : W.cell? a = some v) : w1.cell? a = some v := by
  rw [hb.cell (World.block_lt_of_cell? W _ h)]; exact h
theorem keep1 {W : World} {o : Obj} {a : Addr} {v : Value} (h : W.cell? a = some v) : (W.alloc o).cell? a = some v := by
  rw [World.cell?_alloc_lt _ _ _ (World.block_lt_of_cell? W _ h)]; exact h
theorem formE {W : World} {base n e size : Nat} {v : Value} {xs : List Value} (h : W.ownsRow base e size v n xs) : ∃ ao cap, v = .slice ao n cap := by
  rcases h.2 with ⟨h', rfl⟩ | ⟨g, cap, _, h', _⟩
  · exact ⟨_, _, h'⟩
  · exact ⟨_, _, h'⟩
/-- What lay in the blocks that X does not name lies as it lay. -/
structure Kept (X : Nat → Prop) (w w' : World) : Prop where
  os : w'.os = w.os
  tape : w'.tape = w.tape
  output : w'.output = w.output
  size : w.heap.size ≤ w'.heap.size
  block : ∀ k, k < w.heap.size → ¬ X k → w'.heap[k]? = w.heap[k]?
theorem Kept.refl (X : Nat → Prop) (w : World) : Kept X w w := ⟨rfl, rfl, rfl, Nat.le_refl _, fun _ _ _ => rfl⟩
theorem Kept.trans {X : Nat → Prop} {a b c : World} (h : Kept X a b) (k : Kept X b c) : Kept X a c :=
  ⟨k.os.trans h.os, k.tape.trans h.tape, k.output.trans h.output, Nat.le_trans h.size k.size, fun i hi hx => (k.block i (Nat.lt_of_lt_of_le hi h.size) hx).trans (h.block i hi hx)⟩
theorem Kept.mono {X Y : Nat → Prop} {a b : World} (h : Kept X a b) (hxy : ∀ k, k < a.heap.size → X k → Y k) : Kept Y a b := ⟨h.os, h.tape, h.output, h.size, fun k hk hy => h.block k hk fun hx => hy (hxy k hk hx)⟩
theorem Kept.below {X : Nat → Prop} {a b : World} (h : Kept X a b) {n : Nat} (hn : n ≤ a.heap.size) (hx : ∀ k, X k → n ≤ k) : Below n a b :=
  ⟨h.os, h.tape, h.output, h.size, fun k hk => h.block k (by omega) fun hk2 => by have := hx k hk2; omega⟩
theorem Kept.of_below {X : Nat → Prop} {a b : World} (h : Below a.heap.size a b) : Kept X a b := ⟨h.os, h.tape, h.output, h.size, fun k hk _ => h.block k hk⟩
theorem Kept.drewN {X : Nat → Prop} {a b : World} (h : Kept X a b) (n : Nat) : Kept X a (b.drewN n) := h.trans ⟨rfl, rfl, rfl, Nat.le_refl _, fun _ _ _ => rfl⟩
theorem Kept.drew {X : Nat → Prop} {a b : World} (h : Kept X a b) : Kept X a b.drew := h.trans ⟨rfl, rfl, rfl, Nat.le_refl _, fun _ _ _ => rfl⟩
theorem Kept.alloc {X : Nat → Prop} {a b : World} (h : Kept X a b) (o : Obj) : Kept X a (b.alloc o) := h.trans (Kept.of_below (Below.alloc (Below.refl _ b) (Nat.le_refl _) o))
theorem Kept.setCell {X : Nat → Prop} {a b : World} (h : Kept X a b) {p : Addr} (hp : X p.block) (v : Value) : Kept X a (b.setCell p v) :=
  h.trans ⟨rfl, rfl, rfl, by simp, fun k _ hx => Below.heap_setCell b p v k fun e => hx (by rw [e]; exact hp)⟩
theorem Kept.grown {X : Nat → Prop} {a b c : World} (h : Kept X a b) {row : Option Nat} (hg : b.grownBy c row) (hr : ∀ k, row = some k → X k ∨ a.heap.size ≤ k) : Kept X a c := by
  have hb : Below b.heap.size b c ∨ True := .inr trivial
  refine ⟨hg.os.trans h.os, hg.tape.trans h.tape, hg.output.trans h.output, Nat.le_trans h.size hg.size, fun k hk hx => ?_⟩
  refine (hg.block k (Nat.lt_of_lt_of_le hk h.size) fun e => ?_).trans (h.block k hk hx)
  rcases hr k e.symm with h1 | h1
  · exact hx h1
  · omega
/-- A block is known whole. -/
def Lies (W : World) (k t : Nat) (cs : Array Value) : Prop := W.heap[k]? = some (.cells cs t (0, 0))
theorem Lies.lt {W : World} {k t : Nat} {cs : Array Value} (h : Lies W k t cs) : k < W.heap.size := (Array.getElem?_eq_some_iff.1 h).1
theorem Lies.cell {W : World} {k t : Nat} {cs : Array Value} (h : Lies W k t cs) (i : Nat) : W.cell? ⟨k, i, none⟩ = cs[i]? := cell_of_row W k i cs t (0, 0) h
theorem Lies.free {W : World} {k t : Nat} {cs : Array Value} (h : Lies W k t cs) (i : Nat) : W.frozen? ⟨k, i, none⟩ = false := by
  unfold Lies at h
  simp [World.frozen?, h]
theorem Lies.new (W : World) (t : Nat) (cs : Array Value) : Lies (W.alloc (.cells cs t)) W.heap.size t cs := heap_alloc_new W _
theorem Lies.kept {W W' : World} {X : Nat → Prop} {k t : Nat} {cs : Array Value} (h : Lies W k t cs) (hk : Kept X W W') (hx : ¬ X k) : Lies W' k t cs := (hk.block k h.lt hx).trans h
theorem Lies.below {W W' : World} {k t : Nat} {cs : Array Value} (h : Lies W k t cs) (hb : Below W.heap.size W W') : Lies W' k t cs := (hb.block k h.lt).trans h
theorem Lies.set {W : World} {k t : Nat} {cs : Array Value} (h : Lies W k t cs) (i : Nat) (u : Value) : Lies (W.setCell ⟨k, i, none⟩ u) k t (cs.setIfInBounds i u) := by
  unfold Lies at h ⊢
  simp [World.setCell, Array.getElem?_modify, h]
theorem Lies.ne {W : World} {k t k' t' : Nat} {cs cs' : Array Value} (h : Lies W k t cs) (h' : Lies W k' t' cs') (hne : t ≠ t') : k ≠ k' := by
  rintro rfl
  unfold Lies at h h'
  rw [h] at h'
  simp at h'
  exact hne h'.2
theorem own_lies {W : World} {base e size n : Nat} {v : Value} {xs : List Value} (h : W.ownsRow base e size v n xs) {g : Nat} (hg : v.ownBlock = some g) : ∃ cs, Lies W g e cs := by
  rcases h.2 with ⟨rfl, _⟩ | ⟨g', cap, cur, rfl, _, hh, _⟩
  · cases hg
  · have e1 : g' = g := by simpa [Value.ownBlock] using hg
    subst e1
    exact ⟨_, hh⟩
theorem own_ne {W : World} {base e size n k t : Nat} {v : Value} {xs : List Value} {cs : Array Value} (h : W.ownsRow base e size v n xs) (hl : Lies W k t cs) (hne : e ≠ t) : v.ownBlock ≠ some k := fun hg => by
  obtain ⟨c, hc⟩ := own_lies h hg
  exact hc.ne hl hne rfl
theorem own_own {W : World} {base e size n base' e' size' n' : Nat} {v v' : Value} {xs xs' : List Value} (h : W.ownsRow base e size v n xs) (h' : W.ownsRow base' e' size' v' n' xs') (hne : e ≠ e') : ∀ g, v.ownBlock = some g → v'.ownBlock ≠ some g := fun g hg hg' => by
  obtain ⟨c, hc⟩ := own_lies h hg
  exact own_ne h' hc (Ne.symm hne) hg'
theorem own_kept {W W' : World} {base e size n : Nat} {v : Value} {xs : List Value} (h : W.ownsRow base e size v n xs) (hk : ∀ g, v.ownBlock = some g → W'.heap[g]? = W.heap[g]?) : W'.ownsRow base e size v n xs := by
  refine ⟨h.1, ?_⟩
  rcases h.2 with h2 | ⟨g, cap, cur, rfl, hb, hh, rest⟩
  · exact .inl h2
  · exact .inr ⟨g, cap, cur, rfl, hb, (hk g rfl).trans hh, rest⟩
theorem own_keptX {W W' : World} {X : Nat → Prop} {base e size n : Nat} {v : Value} {xs : List Value} (h : W.ownsRow base e size v n xs) (hk : Kept X W W') (hx : ∀ g, v.ownBlock = some g → ¬ X g) : W'.ownsRow base e size v n xs :=
  own_kept h fun g hg => hk.block g (h.lt g hg).2 (hx g hg)
theorem own_base {W : World} {base base' e size n : Nat} {v : Value} {xs : List Value} (h : W.ownsRow base e size v n xs) (hb : base' ≤ base) : W.ownsRow base' e size v n xs := by
  refine ⟨h.1, ?_⟩
  rcases h.2 with h2 | ⟨g, cap, cur, rfl, hg, hh, rest⟩
  · exact .inl h2
  · exact .inr ⟨g, cap, cur, rfl, Nat.le_trans hb hg, hh, rest⟩
/-! ### bytes -/
def vals (l : List Int) : List Value := l.map (Value.int .u8)
theorem vals_one (l : List Int) : ∀ u ∈ vals l, u.oneCell' = true := by
  intro u hu
  obtain ⟨b, _, rfl⟩ := List.mem_map.1 hu
  rfl
theorem vals_len (l : List Int) : (vals l).length = l.length := by simp [vals]
theorem vals_get (l : List Int) (j : Nat) (u : Value) (h : (vals l)[j]? = some u) : j < l.length ∧ u = .int .u8 (l.getD j 0) := by
  unfold vals at h
  rw [List.getElem?_map, Option.map_eq_some_iff] at h
  obtain ⟨i, h1, h2⟩ := h
  obtain ⟨h3, h4⟩ := List.getElem?_eq_some_iff.1 h1
  refine ⟨h3, ?_⟩
  rw [List.getD, h1, ← h2]
  rfl
theorem vals_app (l k : List Int) : vals (l ++ k) = vals l ++ vals k := by simp [vals]
/-- The bytes ns stand where a slice leads; or it is nil. -/
def Src (W : World) (A : Option Addr) (m c : Nat) (ns : List Int) : Prop :=
  (A = none ∧ m = 0 ∧ c = 0 ∧ ns = []) ∨ ∃ ad, A = some ad ∧ ns.length = m ∧ ∀ j, j < m → W.cell? (ad.add j) = some (.int .u8 (ns.getD j 0))
theorem Src.len {W : World} {A : Option Addr} {m c : Nat} {ns : List Int} (h : Src W A m c ns) : ns.length = m := by
  rcases h with ⟨_, rfl, _, rfl⟩ | ⟨_, _, h, _⟩
  · rfl
  · exact h
theorem Src.below {W W' : World} {A : Option Addr} {m c : Nat} {ns : List Int} (h : Src W A m c ns) (hb : Below W.heap.size W W') : Src W' A m c ns := by
  rcases h with h | ⟨ad, e, hl, hc⟩
  · exact .inl h
  · exact .inr ⟨ad, e, hl, fun j hj => keepB hb (hc j hj)⟩
theorem Src.news {W : World} {A : Option Addr} {m c : Nat} {ns : List Int} (h : Src W A m c ns) : (A = none ∧ m = 0 ∧ c = 0 ∧ vals ns = []) ∨ ∃ ad, A = some ad ∧ (vals ns).length = m * 1 ∧ ∀ j u, (vals ns)[j]? = some u → W.cell? (ad.add j) = some u := by
  rcases h with ⟨h1, h2, h3, rfl⟩ | ⟨ad, h1, h2, hc⟩
  · exact .inl ⟨h1, h2, h3, rfl⟩
  · refine .inr ⟨ad, h1, by rw [vals_len, h2, Nat.mul_one], fun j u hj => ?_⟩
    obtain ⟨h3, rfl⟩ := vals_get _ _ _ hj
    exact hc j (by omega)
/-- append to a row of the call's own, of whatever comes: where the new row lies. -/
theorem run_app {P : Program} {w : World} (base : Nat) (t ty e : TypeId) (i : TypeInfo) (z : Value) (size bytes : Nat) (ht : P.underlying t = some (.slice e)) (hi : P.info? e = some i) (hz : i.zero = some z)
    (hsize : i.size = size) (hby : i.bytes = bytes) (hzs : z.cells.size = size) (hsz : 0 < size) (v : Value) (n : Nat) (xs : List Value) (hown : w.ownsRow base e size v n xs) (A : Option Addr) (m c : Nat) (news : List Value)
    (hs : (A = none ∧ m = 0 ∧ c = 0 ∧ news = []) ∨ ∃ ad, A = some ad ∧ news.length = m * size ∧ ∀ j u, news[j]? = some u → w.cell? (ad.add j) = some u) (h1 : ∀ u ∈ news, u.oneCell' = true)
    (h63 : n + m ≤ maxLen) (hbytes : (n + m) * bytes ≤ 140737488355328) (hbase : base ≤ w.heap.size) :
    ∃ v' w', (Builtin.append_ #[t, t] ty #[v, .slice A m c]).run P w = .ok v' w' ∧ w'.ownsRow base e size v' (n + m) (xs ++ news) ∧ w.grownBy w' v.ownBlock ∧ (v'.ownBlock = v.ownBlock ∨ v'.ownBlock = some w.heap.size) := by
  rcases hs with ⟨rfl, rfl, rfl, rfl⟩ | ⟨ad, rfl, hl, hc⟩
  · exact ⟨v, w, run_append_owned_none (P := P) (w := w) base t ty e i size ht hi v n xs hown, by simpa using hown, World.grownBy.refl w _, .inl rfl⟩
  · obtain ⟨v', w', hr, h2, h3, _, h5⟩ := run_append_own_at (P := P) w base t ty e i z size bytes ht hi hz hsize hby hzs hsz v n xs hown ad m c news hl hc h1 h63 hbytes hbase
    exact ⟨v', w', hr, h2, h3, h5⟩
theorem wp_app {P : Program} {w : World} {o : Oper} {a : Act} {K : Act → World → Prop} {Q : Exit → Act → World → Prop} (s x : Operand) (t : TypeId)
    (ho : o.op = .call { callee := .builtin .append, args := #[s, x], argTypes := #[t, t] }) (base : Nat) (e : TypeId) (i : TypeInfo) (z : Value) (size bytes : Nat) (ht : P.underlying t = some (.slice e)) (hi : P.info? e = some i) (hz : i.zero = some z)
    (hsize : i.size = size) (hby : i.bytes = bytes) (hzs : z.cells.size = size) (hsz : 0 < size) (v : Value) (n : Nat) (xs : List Value) (hs : a.eval s = v) (hown : w.ownsRow base e size v n xs) (A : Option Addr) (m c : Nat) (news : List Value) (hx : a.eval x = .slice A m c)
    (hsr : (A = none ∧ m = 0 ∧ c = 0 ∧ news = []) ∨ ∃ ad, A = some ad ∧ news.length = m * size ∧ ∀ j u, news[j]? = some u → w.cell? (ad.add j) = some u) (h1 : ∀ u ∈ news, u.oneCell' = true)
    (h63 : n + m ≤ maxLen) (hbytes : (n + m) * bytes ≤ 140737488355328) (hbase : base ≤ w.heap.size)
    (h : ∀ v' w', w'.ownsRow base e size v' (n + m) (xs ++ news) → w.grownBy w' v.ownBlock → (v'.ownBlock = v.ownBlock ∨ v'.ownBlock = some w.heap.size) → K (a.put o.dst v') w') : o.wp P a w K Q := by
  obtain ⟨v', w', hr, h2, h3, h4⟩ := run_app (P := P) (w := w) base t o.type e i z size bytes ht hi hz hsize hby hzs hsz v n xs hown A m c news hsr h1 h63 hbytes hbase
  unfold Oper.wp execOp
  simp only [ho, resolve, invoke, builtin, Sem.run_bind, Sem.run_pure, Result.andThen_ok, List.map_toArray, List.map_cons, List.map_nil, hs, hx, hr]
  exact h v' w' h2 h3 h4
theorem wpList_app {P : Program} {w : World} {ops : Array Oper} {rest : List Oper} {o : Oper} {a : Act} {Q : Exit → Act → World → Prop} (hgd : o.guard = none) (s x : Operand) (t : TypeId)
    (ho : o.op = .call { callee := .builtin .append, args := #[s, x], argTypes := #[t, t] }) (base : Nat) (e : TypeId) (i : TypeInfo) (z : Value) (size bytes : Nat) (ht : P.underlying t = some (.slice e)) (hi : P.info? e = some i) (hz : i.zero = some z)
    (hsize : i.size = size) (hby : i.bytes = bytes) (hzs : z.cells.size = size) (hsz : 0 < size) (v : Value) (n : Nat) (xs : List Value) (hs : a.eval s = v) (hown : w.ownsRow base e size v n xs) (A : Option Addr) (m c : Nat) (news : List Value) (hx : a.eval x = .slice A m c)
    (hsr : (A = none ∧ m = 0 ∧ c = 0 ∧ news = []) ∨ ∃ ad, A = some ad ∧ news.length = m * size ∧ ∀ j u, news[j]? = some u → w.cell? (ad.add j) = some u) (h1 : ∀ u ∈ news, u.oneCell' = true)
    (h63 : n + m ≤ maxLen) (hbytes : (n + m) * bytes ≤ 140737488355328) (hbase : base ≤ w.heap.size)
    (h : ∀ v' w', w'.ownsRow base e size v' (n + m) (xs ++ news) → w.grownBy w' v.ownBlock → (v'.ownBlock = v.ownBlock ∨ v'.ownBlock = some w.heap.size) → wpList P ops Q rest (a.put o.dst v') w') : wpList P ops Q (o :: rest) a w :=
  wpList_plain hgd fun _ hK => wp_app s x t ho base e i z size bytes ht hi hz hsize hby hzs hsz v n xs hs hown A m c news hx hsr h1 h63 hbytes hbase fun v' w' h2 h3 h4 => hK _ _ (h v' w' h2 h3 h4)
theorem step_app {P : Program} {w : World} {ops : Array Oper} {o : Oper} {a : Act} {K : Act → World → Prop} {Q : Exit → Act → World → Prop} {E : Prop} (hgd : o.guard = none) (s x : Operand) (t : TypeId)
    (ho : o.op = .call { callee := .builtin .append, args := #[s, x], argTypes := #[t, t] }) (base : Nat) (e : TypeId) (i : TypeInfo) (z : Value) (size bytes : Nat) (ht : P.underlying t = some (.slice e)) (hi : P.info? e = some i) (hz : i.zero = some z)
    (hsize : i.size = size) (hby : i.bytes = bytes) (hzs : z.cells.size = size) (hsz : 0 < size) (v : Value) (n : Nat) (xs : List Value) (hs : a.eval s = v) (hown : w.ownsRow base e size v n xs) (A : Option Addr) (m c : Nat) (news : List Value) (hx : a.eval x = .slice A m c)
    (hsr : (A = none ∧ m = 0 ∧ c = 0 ∧ news = []) ∨ ∃ ad, A = some ad ∧ news.length = m * size ∧ ∀ j u, news[j]? = some u → w.cell? (ad.add j) = some u) (h1 : ∀ u ∈ news, u.oneCell' = true)
    (h63 : n + m ≤ maxLen) (hbytes : (n + m) * bytes ≤ 140737488355328) (hbase : base ≤ w.heap.size)
    (h : ∀ v' w', w'.ownsRow base e size v' (n + m) (xs ++ news) → w.grownBy w' v.ownBlock → (v'.ownBlock = v.ownBlock ∨ v'.ownBlock = some w.heap.size) → K (a.put o.dst v') w') :
    if Region.wanted o (yielded ops a.tmps) = true then Oper.wp P o a w K Q else E := by
  have hw : Region.wanted o (yielded ops a.tmps) = true := by simp [Region.wanted, hgd]
  rw [if_pos hw]
  exact wp_app s x t ho base e i z size bytes ht hi hz hsize hby hzs hsz v n xs hs hown A m c news hx hsr h1 h63 hbytes hbase h
end Go.Proofs.Ytlaicijacoblbaa
