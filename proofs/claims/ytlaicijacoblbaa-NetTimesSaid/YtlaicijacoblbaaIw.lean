/- What is there, and what is not; Same on what came and what was put. -/
import Derived.Test.YtlaicijacoblbaaIv
namespace Go.Proofs.Ytlaicijacoblbaa
open Go.RowKit
set_option linter.unusedVariables false
set_option linter.unusedSimpArgs false
theorem plain_add (g j : Nat) : (⟨g, 0, none⟩ : Addr).add j = ⟨g, j, none⟩ := by
  by_cases hj0 : j = 0
  · subst hj0; simp [Addr.add]
  · simp [Addr.add, hj0]
/-- Is the flight of this number there? -/
def there (ps : List Pn) (a : Int) : Bool := match ps[a.toNat]? with
  | some p => decide (0 ≤ a) && decide (0 < p.t)
  | none => false
theorem there_neg {ps : List Pn} {a : Int} (h : a < 0) : there ps a = false := by
  unfold there
  split
  · rw [decide_eq_false (by omega)]; rfl
  · rfl
theorem there_big {ps : List Pn} {a : Int} (h : (ps.length : Int) ≤ a) : there ps a = false := by
  unfold there
  rw [List.getElem?_eq_none (by omega)]
theorem there_at_ {ps : List Pn} {j : Nat} {p : Pn} (h : ps[j]? = some p) : there ps (j : Nat) = decide (0 < p.t) := by
  unfold there
  rw [Int.toNat_natCast, h]
  simp
theorem there_live {ps : List Pn} {a : Int} (h : there ps a = true) : ∃ p, ps[a.toNat]? = some p ∧ 0 ≤ a ∧ 0 < p.t := by
  unfold there at h
  split at h
  · rename_i p hp
    simp only [Bool.and_eq_true, decide_eq_true_eq] at h
    exact ⟨p, hp, h.1, h.2⟩
  · cases h
theorem there_not {ps : List Pn} {a : Int} (h : there ps a = false) : a < 0 ∨ (ps.length : Int) ≤ a ∨ ∃ p, ps[a.toNat]? = some p ∧ 0 ≤ a ∧ ¬ 0 < p.t := by
  by_cases h0 : a < 0
  · exact .inl h0
  · by_cases h1 : (ps.length : Int) ≤ a
    · exact .inr (.inl h1)
    · refine .inr (.inr ?_)
      have hlt : a.toNat < ps.length := by omega
      refine ⟨ps[a.toNat], List.getElem?_eq_getElem hlt, by omega, fun ht => ?_⟩
      have h2 := there_at_ (List.getElem?_eq_getElem hlt)
      rw [Int.toNat_of_nonneg (by omega), h, decide_eq_true ht] at h2
      cases h2
theorem NI.not {w : World} {NB : Nat} {ps : List Pn} {qs : List Value} {ts : List Int} {v vP vT : Value} {W : World} (h : NI w NB ps qs ts v vP vT W) {a : Int} (hth : there ps a = false) (f : Value) (W' : World) (hb : Below W.heap.size W W') :
    Calls Try.prog 16 #[.pointer (some ⟨NB, 0, none⟩), .int .i64 a, f] W' fun e w' => e = .returned (.int .i64 6) ∧ W' = w' := by
  have h' := h.below hb
  have hform := formE h'.on
  have hout : (a < 0 ∨ (ps.length : Int) ≤ a) → Calls Try.prog 16 #[.pointer (some ⟨NB, 0, none⟩), .int .i64 a, f] W' fun e w' => e = .returned (.int .i64 6) ∧ W' = w' := fun hk => by
    obtain ⟨ao, cap, rfl⟩ := hform
    exact with_out W' NB _ cap ao h'.n a (by rw [List.length_map]; exact hk) f
  rcases there_not hth with h1 | h1 | ⟨p, hp, h0, ht⟩
  · exact hout (.inl h1)
  · exact hout (.inr h1)
  · have c := with_spent W' NB _ v _ a.toNat _ _ _ _ _ (h'.at hp) ht (by rw [List.length_map]; exact h'.ln) f
    rwa [Int.toNat_of_nonneg h0] at c
theorem come_not {w : World} {NB : Nat} {ps : List Pn} {qs : List Value} {ts : List Int} {v vP vT : Value} {W : World} (h : NI w NB ps qs ts v vP vT W) {a : Int} (hth : there ps a = false) :
    Calls Try.prog 6 #[.pointer (some ⟨NB, 0, none⟩), .int .i64 a] W fun e w' => e = .returned (.tuple #[.int .u8 0, .slice none 0 0, .int .i64 6]) ∧ Below W.heap.size W w' :=
  come_no W _ a 6 fun W' hb => h.not hth _ W' hb
theorem lose_not {w : World} {NB : Nat} {ps : List Pn} {qs : List Value} {ts : List Int} {v vP vT : Value} {W : World} (h : NI w NB ps qs ts v vP vT W) {a : Int} (hth : there ps a = false) :
    Calls Try.prog 9 #[.pointer (some ⟨NB, 0, none⟩), .int .i64 a] W fun e w' => e = .returned (.int .i64 6) ∧ Below W.heap.size W w' :=
  lose_of W _ a 6 _ ((come_not h hth).mono fun e w' ⟨he, h2⟩ => ⟨0, none, 0, 0, he, h2⟩)
theorem twice_not {w : World} {NB : Nat} {ps : List Pn} {qs : List Value} {ts : List Int} {v vP vT : Value} {W : World} (h : NI w NB ps qs ts v vP vT W) {a : Int} (hth : there ps a = false) :
    Calls Try.prog 10 #[.pointer (some ⟨NB, 0, none⟩), .int .i64 a] W fun e w' => e = .returned (.int .i64 6) ∧ W = w' :=
  twice_of W _ a 6 _ (h.not hth _ W (Below.refl _ _))
/-- Where a flight is there: what Come, Lose, Twice leave. -/
theorem come_live {w : World} {NB : Nat} {ps : List Pn} {qs : List Value} {ts : List Int} {v vP vT : Value} {W : World} (h : NI w NB ps qs ts v vP vT W) {a : Int} {p : Pn} (hp : ps[a.toNat]? = some p) (ha : 0 ≤ a) (ht : 0 < p.t) :
    Calls Try.prog 6 #[.pointer (some ⟨NB, 0, none⟩), .int .i64 a] W fun e w' => ∃ ao c, e = .returned (.tuple #[.int .u8 p.to, .slice ao p.bs.length c, .int .i64 0]) ∧ w'.ownsRow W.heap.size 5 1 (.slice ao p.bs.length c) p.bs.length (vals p.bs) ∧ NI w NB (ps.set a.toNat { p with t := p.t - 1 }) qs ts v vP vT w' ∧ Kept (fun k => k = p.blk) W w' := by
  have hf := h.fl p (List.mem_of_getElem? hp)
  have c := come_ok W NB _ v _ a.toNat _ _ _ _ _ (h.at hp) ht hf.t1 (by rw [hf.src.len]; exact hf.m60) (by rw [List.length_map]; exact h.ln)
  rw [Int.toNat_of_nonneg ha] at c
  refine c.mono ?_
  rintro e w' ⟨ao, c, he, hu, hl, hk⟩
  exact ⟨ao, c, he, hu, h.fly hp (by omega) (by have := hf.t1; omega) hk hl, hk⟩
theorem lose_live {w : World} {NB : Nat} {ps : List Pn} {qs : List Value} {ts : List Int} {v vP vT : Value} {W : World} (h : NI w NB ps qs ts v vP vT W) {a : Int} {p : Pn} (hp : ps[a.toNat]? = some p) (ha : 0 ≤ a) (ht : 0 < p.t) :
    Calls Try.prog 9 #[.pointer (some ⟨NB, 0, none⟩), .int .i64 a] W fun e w' => e = .returned (.int .i64 0) ∧ NI w NB (ps.set a.toNat { p with t := p.t - 1 }) qs ts v vP vT w' ∧ Kept (fun k => k = p.blk) W w' :=
  lose_of W _ a 0 _ ((come_live h hp ha ht).mono fun e w' ⟨ao, c, he, _, h2, h3⟩ => ⟨p.to, ao, _, c, he, h2, h3⟩)
theorem twice_live {w : World} {NB : Nat} {ps : List Pn} {qs : List Value} {ts : List Int} {v vP vT : Value} {W : World} (h : NI w NB ps qs ts v vP vT W) {a : Int} {p : Pn} (hp : ps[a.toNat]? = some p) (ha : 0 ≤ a) (ht : 0 < p.t) (ht1 : p.t < 1000) :
    Calls Try.prog 10 #[.pointer (some ⟨NB, 0, none⟩), .int .i64 a] W fun e w' => e = .returned (.int .i64 0) ∧ NI w NB (ps.set a.toNat { p with t := p.t + 1 }) qs ts v vP vT w' ∧ Kept (fun k => k = p.blk) W w' := by
  have hf := h.fl p (List.mem_of_getElem? hp)
  have c := with18 W NB _ v _ a.toNat _ _ _ _ _ (h.at hp) ht (by rw [List.length_map]; exact h.ln) 0 _ (twicef W p.blk p.to p.t p.sl hf.lies ht ht1)
  rw [Int.toNat_of_nonneg ha] at c
  refine (twice_of W _ a 0 _ c).mono ?_
  rintro e w' ⟨he, hl, hk⟩
  exact ⟨he, h.fly hp (by omega) (by omega) hk hl, hk⟩
theorem twice_full {w : World} {NB : Nat} {ps : List Pn} {qs : List Value} {ts : List Int} {v vP vT : Value} {W : World} (h : NI w NB ps qs ts v vP vT W) {a : Int} {p : Pn} (hp : ps[a.toNat]? = some p) (ha : 0 ≤ a) (ht1 : ¬ p.t < 1000) :
    Calls Try.prog 10 #[.pointer (some ⟨NB, 0, none⟩), .int .i64 a] W fun e w' => e = .returned (.int .i64 7) ∧ W = w' := by
  have hf := h.fl p (List.mem_of_getElem? hp)
  have c := with18 W NB _ v _ a.toNat _ _ _ _ _ (h.at hp) (by omega) (by rw [List.length_map]; exact h.ln) 7 _ (twicef_full W p.blk p.to p.t p.sl hf.lies (by omega))
  rw [Int.toNat_of_nonneg ha] at c
  exact twice_of W _ a 7 _ c
theorem set_q {ps : List Pn} {j : Nat} {p p' : Pn} (hp : ps[j]? = some p) (h : p'.q = p.q) : (ps.set j p').map Pn.q = ps.map Pn.q := by
  have hpe := (List.getElem?_eq_some_iff.1 hp).2
  apply List.ext_getElem
  · simp
  · intro i h1 h2
    simp only [List.getElem_map, List.getElem_set]
    split
    · rename_i e
      subst e
      rw [h, hpe]
    · rfl
/-- A step's end, where a flight's times have changed. -/
theorem NI.end_ {w : World} {NB : Nat} {ps : List Pn} {v vP : Value} {g cap : Nat} {W : World} {j : Nat} {p : Pn} (hp : ps[j]? = some p) (x : Int) (h : NI w NB (ps.set j { p with t := x }) (ps.map Pn.q) (ps.map Pn.t) v vP (.slice (some ⟨g, 0, none⟩) ps.length cap) W) :
    NI w NB (ps.set j { p with t := x }) ((ps.set j { p with t := x }).map Pn.q) ((ps.set j { p with t := x }).map Pn.t) v vP (.slice (some ⟨g, 0, none⟩) ps.length cap) (W.setCell ⟨g, j, none⟩ (num x)) := by
  have e : ps.length = (ps.map Pn.t).length := by simp
  rw [e] at h ⊢
  have h2 := h.tset j x
  rw [set_q (p' := { p with t := x }) hp rfl, List.map_set]
  exact h2
/-- What came is what was put, to Same. -/
theorem same_src (w : World) (b1 c c' : Nat) (a a' : Option Addr) (ns : List Int) (m : Nat) (hm : m ≤ 60) (h : w.ownsRow b1 5 1 (.slice a ns.length c) ns.length (vals ns)) (h' : Src w a' m c' ns) :
    Calls Try.prog 15 #[.slice a ns.length c, .slice a' m c'] w fun e w' => e = .returned (.bool true) ∧ Below w.heap.size w w' := by
  have hml := h'.len
  rw [← hml] at h' hm ⊢
  clear hml
  have hz : ∀ i, i < ns.length → ∃ x y, a = some x ∧ a' = some y ∧ w.cell? (x.add i) = some (.int .u8 (ns.getD i 0)) ∧ w.cell? (y.add i) = some (.int .u8 (ns.getD i 0)) := fun i hi => by
    obtain ⟨g, cap, hv, _, _⟩ := h.form (by omega)
    simp only [Value.slice.injEq] at hv
    obtain ⟨rfl, _, _⟩ := hv
    have hx : (vals ns)[i]? = some (.int .u8 (ns.getD i 0)) := by simp [vals, List.getD, List.getElem?_eq_getElem hi]
    rcases h' with ⟨_, h1, _⟩ | ⟨y, rfl, _, hc⟩
    · omega
    · exact ⟨_, y, rfl, rfl, h.cells (g := g) rfl i _ hx, hc i hi⟩
  clear h h'
  go_enter Try.func15, Try.ntmps15
  go_wp2
  go_loopw [5] (fun v wr => ∃ j : Nat, j ≤ ns.length ∧ v = .int .i64 j ∧ Below w.heap.size w wr) (fun v wr => ns.length - (intOf v).toNat)
  case atStart => exact ⟨0, by omega, rfl, Below.refl _ _⟩
  case round =>
    obtain ⟨j, hj, rfl, hb⟩ := hrel
    by_cases hlt : j < ns.length
    · obtain ⟨x, y, rfl, rfl, hx, hy⟩ := hz j hlt
      have hcell := keepB hb hx
      have hcell' := keepB hb hy
      obtain ⟨b, hbe⟩ : ∃ b, ns.getD j 0 = b := ⟨_, rfl⟩
      rw [hbe] at hcell hcell'
      have hi : (0 : Int) ≤ (j : Int) := by omega
      have hi' : (j : Int) < (ns.length : Int) := by omega
      clear hz hbe hx hy
      go_wp2_with (go_quiet (fail))
      refine ⟨⟨j + 1, by omega, by simp, below_drewN hb _⟩, ?_⟩
      simp only [intOf]
      omega
    · obtain rfl : j = ns.length := by omega
      go_wp2
      go_ret
      exact ⟨rfl, hb⟩
theorem put_S {w : World} {NB : Nat} {ps : List Pn} {qs : List Value} {ts : List Int} {v vP vT : Value} {W W' : World} (h : NI w NB ps qs ts v vP vT W) {S to : Nat} {cs : Array Value} (hS : Lies W S 43 cs) {ns : List Int} (hp : PutP NB w.heap.size to v (ps.map Pn.blk) ns W W') : Lies W' S 43 cs := by
  obtain ⟨v', P, sl, hn, ho, hli, hos, hge, hk⟩ := hp
  exact hS.kept hk fun e => by
    rcases e with e | e
    · exact hS.ne h.n (by decide) e
    · exact own_ne h.on hS (by decide) e
theorem new_cell1 (W : World) (v : Value) (t : TypeId) : ∀ j u, ([v] : List Value)[j]? = some u → (W.alloc (.cells #[v] t)).cell? ((⟨W.heap.size, 0, none⟩ : Addr).add j) = some u := by
  intro j u h
  have hj : j = 0 := by
    have := (List.getElem?_eq_some_iff.1 h).1
    simpa using this
  subst hj
  exact ((Lies.new W t #[v]).cell 0).trans h
theorem info26 : (Try.prog.info? 26).map (fun i => (i.zero, i.size, i.bytes)) = some (some (.slice none 0 0), 1, 24) := by kernel_rfl
theorem info3 : (Try.prog.info? 3).map (fun i => (i.zero, i.size, i.bytes)) = some (some (.int .i64 0), 1, 8) := by kernel_rfl
end Go.Proofs.Ytlaicijacoblbaa
