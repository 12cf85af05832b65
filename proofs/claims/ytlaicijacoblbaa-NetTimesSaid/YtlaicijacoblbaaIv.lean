/- The state of the law NetTimes between two steps, and what each step does to it. -/
import Derived.Test.YtlaicijacoblbaaAl
namespace Go.Proofs.Ytlaicijacoblbaa
open Go.RowKit
set_option linter.unusedVariables false
/-- A flight: its block, where to, how often, its bytes' slice; the slice that was put; the bytes. -/
structure Pn where
  blk : Nat
  to : Nat
  t : Int
  sl : Value
  A : Option Addr
  m : Nat
  c : Nat
  bs : List Int
def Pn.q (p : Pn) : Value := .slice p.A p.m p.c
def num (t : Int) : Value := .int .i64 t
/-- One flight in a world. -/
structure Fl (w : World) (p : Pn) (W : World) : Prop where
  lies : Lies W p.blk 48 #[.int .u8 p.to, .int .i64 p.t, p.sl]
  osl : W.ownsRow w.heap.size 5 1 p.sl p.bs.length (vals p.bs)
  ge : w.heap.size ≤ p.blk
  src : Src w p.A p.m p.c p.bs
  m60 : p.m ≤ 60
  t0 : 0 ≤ p.t
  t1 : p.t ≤ 1000
/-- The state: the net's flights ps; the slices put qs; the times ts. -/
structure NI (w : World) (NB : Nat) (ps : List Pn) (qs : List Value) (ts : List Int) (v vP vT : Value) (W : World) : Prop where
  b : Below w.heap.size w W
  n : Lies W NB 52 #[v]
  nb : w.heap.size ≤ NB
  on : W.ownsRow w.heap.size 46 1 v (ps.map Pn.blk).length ((ps.map Pn.blk).map ptr)
  oq : W.ownsRow w.heap.size 26 1 vP qs.length qs
  ot : W.ownsRow w.heap.size 3 1 vT ts.length (ts.map num)
  fl : ∀ p ∈ ps, Fl w p W
  nd : (ps.map Pn.blk).Nodup
  ln : ps.length ≤ 80
theorem Fl.kept {w W W' : World} {p : Pn} {X : Nat → Prop} (h : Fl w p W) (hk : Kept X W W') (h1 : ¬ X p.blk) (h2 : ∀ g, p.sl.ownBlock = some g → ¬ X g) : Fl w p W' :=
  ⟨h.lies.kept hk h1, own_keptX h.osl hk h2, h.ge, h.src, h.m60, h.t0, h.t1⟩
theorem NI.below {w : World} {NB : Nat} {ps : List Pn} {qs : List Value} {ts : List Int} {v vP vT : Value} {W W' : World} (h : NI w NB ps qs ts v vP vT W) (hb : Below W.heap.size W W') : NI w NB ps qs ts v vP vT W' := by
  have hk : Kept (fun _ => False) W W' := Kept.of_below hb
  exact ⟨h.b.trans (hb.mono h.b.size), h.n.below hb, h.nb, own_keptX h.on hk fun _ _ => id, own_keptX h.oq hk fun _ _ => id, own_keptX h.ot hk fun _ _ => id, fun p hp => (h.fl p hp).kept hk id fun _ _ => id, h.nd, h.ln⟩
theorem NI.at {w : World} {NB : Nat} {ps : List Pn} {qs : List Value} {ts : List Int} {v vP vT : Value} {W : World} (h : NI w NB ps qs ts v vP vT W) {j : Nat} {p : Pn} (hj : ps[j]? = some p) : At W NB w.heap.size v (ps.map Pn.blk) j p.blk p.to p.t p.sl p.bs := by
  have hp := h.fl p (List.mem_of_getElem? hj)
  have hlt := (List.getElem?_eq_some_iff.1 hj).1
  exact ⟨h.n, h.on, by simpa using hlt, by rw [List.getElem?_map, hj]; rfl, hp.lies, hp.osl, h.b.size⟩
/-- What a change of one flight's times leaves. -/
theorem NI.fly {w : World} {NB : Nat} {ps : List Pn} {qs : List Value} {ts : List Int} {v vP vT : Value} {W W' : World} (h : NI w NB ps qs ts v vP vT W) {j : Nat} {p : Pn} (hj : ps[j]? = some p) {t' : Int} (h0 : 0 ≤ t') (h1 : t' ≤ 1000)
    (hk : Kept (fun k => k = p.blk) W W') (hl : Lies W' p.blk 48 #[.int .u8 p.to, .int .i64 t', p.sl]) : NI w NB (ps.set j { p with t := t' }) qs ts v vP vT W' := by
  have hp := h.fl p (List.mem_of_getElem? hj)
  have hlt := (List.getElem?_eq_some_iff.1 hj).1
  have hpe : ps[j] = p := (List.getElem?_eq_some_iff.1 hj).2
  have hm : (ps.set j { p with t := t' }).map Pn.blk = ps.map Pn.blk := by
    apply List.ext_getElem
    · simp
    · intro i h1 h2
      simp only [List.getElem_map, List.getElem_set]
      split
      · rename_i e
        subst e
        rw [hpe]
      · rfl
  refine ⟨h.b.trans (hk.below h.b.size fun k e => by rw [e]; exact hp.ge), h.n.kept hk (h.n.ne hp.lies (by decide)), h.nb, ?_, ?_, ?_, ?_, by rw [hm]; exact h.nd, by rw [List.length_set]; exact h.ln⟩
  · rw [hm]
    exact own_keptX h.on hk fun g hg e => own_ne h.on hp.lies (by decide) (by rw [hg, e])
  · exact own_keptX h.oq hk fun g hg e => own_ne h.oq hp.lies (by decide) (by rw [hg, e])
  · exact own_keptX h.ot hk fun g hg e => own_ne h.ot hp.lies (by decide) (by rw [hg, e])
  · intro p' hp'
    obtain ⟨i, hi⟩ := List.mem_iff_getElem?.1 hp'
    rw [List.getElem?_set] at hi
    split at hi
    · rename_i e
      obtain rfl := Option.some.inj hi
      exact ⟨hl, own_keptX hp.osl hk fun g hg e => own_ne hp.osl hp.lies (by decide) (by rw [hg, e]), hp.ge, hp.src, hp.m60, h0, h1⟩
    · rename_i hne
      have hq := h.fl p' (List.mem_of_getElem? hi)
      have hb : p'.blk ≠ p.blk := fun e => by
        have hi2 := (List.getElem?_eq_some_iff.1 hi)
        obtain ⟨hi3, hi4⟩ := hi2
        have hpw := List.pairwise_iff_getElem.1 h.nd
        rcases Nat.lt_or_gt_of_ne hne with hlt2 | hlt2
        · exact hpw j i (by simpa using hlt) (by simpa using hi3) hlt2 (by simp [hpe, hi4, e])
        · exact hpw i j (by simpa using hi3) (by simpa using hlt) hlt2 (by simp [hpe, hi4, e])
      exact hq.kept hk hb fun g hg e => own_ne hq.osl hp.lies (by decide) (by rw [hg, e])
theorem NI.put {w : World} {NB : Nat} {ps : List Pn} {qs : List Value} {ts : List Int} {v vP vT : Value} {W W' : World} (h : NI w NB ps qs ts v vP vT W) {to : Nat} {A : Option Addr} {m c : Nat} {ns : List Int} (hs : Src w A m c ns) (hm : m ≤ 60) (hl : ps.length < 80)
    (hp : PutP NB w.heap.size to v (ps.map Pn.blk) ns W W') : ∃ v' P sl, NI w NB (ps ++ [⟨P, to, 1, sl, A, m, c, ns⟩]) qs ts v' vP vT W' := by
  obtain ⟨v', P, sl, hn, ho, hli, hos, hge, hk⟩ := hp
  have hx : ∀ k, (k = NB ∨ v.ownBlock = some k) → w.heap.size ≤ k := fun k e => by
    rcases e with e | e
    · rw [e]; exact h.nb
    · exact (h.on.lt k e).1
  have hfar : ∀ {e size n : Nat} {u : Value} {xs : List Value}, W.ownsRow w.heap.size e size u n xs → e ≠ 52 → e ≠ 46 → ∀ g, u.ownBlock = some g → ¬ (g = NB ∨ v.ownBlock = some g) := fun ho' h1 h2 g hg e => by
    rcases e with e | e
    · exact own_ne ho' h.n h1 (by rw [hg, e])
    · exact own_own ho' h.on h2 g hg e
  refine ⟨v', P, sl, h.b.trans (hk.below h.b.size hx), hn, h.nb, by rw [List.map_append]; exact ho, own_keptX h.oq hk (hfar h.oq (by decide) (by decide)), own_keptX h.ot hk (hfar h.ot (by decide) (by decide)), ?_, ?_, by simp; omega⟩
  · intro p hp
    rcases List.mem_append.1 hp with hp | hp
    · have hf := h.fl p hp
      exact hf.kept hk (fun e => by
        rcases e with e | e
        · exact hf.lies.ne h.n (by decide) e
        · exact own_ne h.on hf.lies (by decide) e) (hfar hf.osl (by decide) (by decide))
    · obtain rfl := List.mem_singleton.1 hp
      exact ⟨hli, hos, Nat.le_trans h.b.size hge, hs, hm, by show (0 : Int) ≤ 1; omega, by show (1 : Int) ≤ 1000; omega⟩
  · rw [List.map_append, List.nodup_append]
    refine ⟨h.nd, by simp, fun a ha b hb e => ?_⟩
    obtain ⟨p, hp, rfl⟩ := List.mem_map.1 ha
    have h1 := (h.fl p hp).lies.lt
    simp at hb
    omega
theorem NI.qapp {w : World} {NB : Nat} {ps : List Pn} {qs : List Value} {ts : List Int} {v vP vT vP' q : Value} {W W' : World} (h : NI w NB ps qs ts v vP vT W) {o : Obj} (hg : (W.alloc o).grownBy W' vP.ownBlock) (ho : W'.ownsRow w.heap.size 26 1 vP' (qs.length + 1) (qs ++ [q])) : NI w NB ps (qs ++ [q]) ts v vP' vT W' := by
  have hk : Kept (fun k => vP.ownBlock = some k) W W' := ((Kept.refl _ W).alloc o).grown hg fun k e => .inl e
  refine ⟨h.b.trans (hk.below h.b.size fun k e => (h.oq.lt k e).1), h.n.kept hk (own_ne h.oq h.n (by decide)), h.nb, own_keptX h.on hk (fun g hg => own_own h.on h.oq (by decide) g hg), by rw [List.length_append]; exact ho, own_keptX h.ot hk (fun g hg => own_own h.ot h.oq (by decide) g hg), fun p hp => ?_, h.nd, h.ln⟩
  have hf := h.fl p hp
  exact hf.kept hk (own_ne h.oq hf.lies (by decide)) (fun g hg => own_own hf.osl h.oq (by decide) g hg)
theorem NI.tapp {w : World} {NB : Nat} {ps : List Pn} {qs : List Value} {ts : List Int} {v vP vT vT' : Value} {x : Int} {W W' : World} (h : NI w NB ps qs ts v vP vT W) {o : Obj} (hg : (W.alloc o).grownBy W' vT.ownBlock) (ho : W'.ownsRow w.heap.size 3 1 vT' (ts.length + 1) (ts.map num ++ [num x])) : NI w NB ps qs (ts ++ [x]) v vP vT' W' := by
  have hk : Kept (fun k => vT.ownBlock = some k) W W' := ((Kept.refl _ W).alloc o).grown hg fun k e => .inl e
  refine ⟨h.b.trans (hk.below h.b.size fun k e => (h.ot.lt k e).1), h.n.kept hk (own_ne h.ot h.n (by decide)), h.nb, own_keptX h.on hk (fun g hg => own_own h.on h.ot (by decide) g hg), own_keptX h.oq hk (fun g hg => own_own h.oq h.ot (by decide) g hg), by rw [List.length_append, List.map_append]; exact ho, fun p hp => ?_, h.nd, h.ln⟩
  have hf := h.fl p hp
  exact hf.kept hk (own_ne h.ot hf.lies (by decide)) (fun g hg => own_own hf.osl h.ot (by decide) g hg)
theorem NI.tset {w : World} {NB : Nat} {ps : List Pn} {qs : List Value} {ts : List Int} {v vP : Value} {g cap : Nat} {W : World} (h : NI w NB ps qs ts v vP (.slice (some ⟨g, 0, none⟩) ts.length cap) W) (j : Nat) (x : Int) : NI w NB ps qs (ts.set j x) v vP (.slice (some ⟨g, 0, none⟩) ts.length cap) (W.setCell ⟨g, j, none⟩ (num x)) := by
  have hk : Kept (fun k => k = g) W (W.setCell ⟨g, j, none⟩ (num x)) := (Kept.refl (fun k => k = g) W).setCell (p := ⟨g, j, none⟩) rfl _
  have hb : ∀ {e size n : Nat} {u : Value} {xs : List Value}, W.ownsRow w.heap.size e size u n xs → e ≠ 3 → ∀ k, u.ownBlock = some k → ¬ k = g := fun ho h1 k hk e => own_own ho h.ot h1 k hk (by rw [e]; rfl)
  have hn : ∀ {k t : Nat} {cs : Array Value}, Lies W k t cs → 3 ≠ t → ¬ k = g := fun hl h1 e => own_ne h.ot hl h1 (by rw [e]; rfl)
  refine ⟨h.b.trans (hk.below h.b.size fun k e => by rw [e]; exact (h.ot.lt g rfl).1), h.n.kept hk (hn h.n (by decide)), h.nb, own_keptX h.on hk (hb h.on (by decide)), own_keptX h.oq hk (hb h.oq (by decide)), ?_, fun p hp => ?_, h.nd, h.ln⟩
  · have h2 := (h.ot.stored j (num x)).1
    rw [← List.map_set] at h2
    rw [List.length_set]
    exact h2
  · have hf := h.fl p hp
    exact hf.kept hk (hn hf.lies (by decide)) (hb hf.osl (by decide))
end Go.Proofs.Ytlaicijacoblbaa
