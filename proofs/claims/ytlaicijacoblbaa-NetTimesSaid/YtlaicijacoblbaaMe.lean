/- The walks of New, of Len, of Put. -/
import Derived.Test.YtlaicijacoblbaaSt
import Derived.Deep.RegionLaw
namespace Go.Proofs.Ytlaicijacoblbaa
open Go.RowKit
set_option linter.unusedVariables false
set_option linter.unusedSimpArgs false
theorem info5 : (Try.prog.info? 5).map (fun i => (i.zero, i.size, i.bytes)) = some (some (.int .u8 0), 1, 1) := by kernel_rfl
theorem info46 : (Try.prog.info? 46).map (fun i => (i.zero, i.size, i.bytes)) = some (some (.pointer none), 1, 8) := by kernel_rfl
theorem new_any (w : World) : Calls Try.prog 14 #[] w fun e w' => e = .returned (.pointer (some ⟨w.heap.size, 0, none⟩)) ∧ w.alloc (.cells #[.slice none 0 0] 52) = w' := by
  go_enter Try.func14, Try.ntmps14
  go_wp2
  go_ret
  exact ⟨rfl, rfl⟩
theorem len_at (w : World) (NB n cap : Nat) (ao : Option Addr) (hN : Lies w NB 52 #[.slice ao n cap]) : Calls Try.prog 13 #[.pointer (some ⟨NB, 0, none⟩)] w fun e w' => e = .returned (.int .i64 n) ∧ w = w' := by
  have h0 : w.cell? ⟨NB, 0, none⟩ = some (.slice ao n cap) := hN.cell 0
  clear hN
  go_enter Try.func13, Try.ntmps13
  go_wp2
  go_ret
  exact ⟨rfl, rfl⟩
def ptr (k : Nat) : Value := .pointer (some ⟨k, 0, none⟩)
theorem ptr_one (l : List Nat) : ∀ u ∈ l.map ptr, u.oneCell' = true := by
  intro u hu
  obtain ⟨b, _, rfl⟩ := List.mem_map.1 hu
  rfl
theorem new_cell (W : World) (o1 : Obj) (v : Value) (t : TypeId) : ∀ j u, ([v] : List Value)[j]? = some u → ((W.alloc o1).alloc (.cells #[v] t)).cell? ((⟨W.heap.size + 1, 0, none⟩ : Addr).add j) = some u := by
  intro j u h
  have hj : j = 0 := by
    have := (List.getElem?_eq_some_iff.1 h).1
    simpa using this
  subst hj
  have h1 := Lies.new (W.alloc o1) t #[v]
  rw [World.size_alloc] at h1
  exact (h1.cell 0).trans h
/-- What Put leaves. -/
def PutP (NB base : Nat) (to : Nat) (v : Value) (l : List Nat) (ns : List Int) (w w' : World) : Prop :=
  ∃ (v' : Value) (P : Nat) (sl : Value), Lies w' NB 52 #[v'] ∧ w'.ownsRow base 46 1 v' (l ++ [P]).length ((l ++ [P]).map ptr) ∧ Lies w' P 48 #[.int .u8 to, .int .i64 1, sl] ∧ w'.ownsRow base 5 1 sl ns.length (vals ns) ∧ w.heap.size ≤ P ∧ Kept (fun k => k = NB ∨ v.ownBlock = some k) w w'
theorem put_kept {w W2 W4 : World} {NB base : Nat} {v : Value} {l : List Nat} {o1 o2 : Obj} (hN : Lies w NB 52 #[v]) (hown : w.ownsRow base 46 1 v l.length (l.map ptr)) (hb2 : Below w.heap.size w W2) (hg : ((W2.alloc o1).alloc o2).grownBy W4 v.ownBlock) :
    Kept (fun k => v.ownBlock = some k) w W4 ∧ Lies W4 NB 52 #[v] := by
  have hk : Kept (fun k => v.ownBlock = some k) w W4 := (((Kept.of_below hb2).alloc o1).alloc o2).grown hg (fun k e => .inl e)
  exact ⟨hk, hN.kept hk (own_ne hown hN (by decide))⟩
theorem put_fin {w W2 W4 : World} {NB base to m : Nat} {v v' sl : Value} {l : List Nat} {ns : List Int} (hN : Lies w NB 52 #[v]) (hown : w.ownsRow base 46 1 v l.length (l.map ptr)) (hle : base ≤ w.heap.size) (hb2 : Below w.heap.size w W2)
    (hsl : W2.ownsRow w.heap.size 5 1 sl m (vals ns)) (hm : ns.length = m) (hg : ((W2.alloc (.cells #[.int .u8 to, .int .i64 1, sl] 48)).alloc (.cells #[.pointer (some ⟨W2.heap.size, 0, none⟩)] 46)).grownBy W4 v.ownBlock)
    (hown4 : W4.ownsRow base 46 1 v' (l.length + 1) (l.map ptr ++ [ptr W2.heap.size])) : PutP NB base to v l ns w (W4.setCell ⟨NB, 0, none⟩ v') := by
  subst hm
  obtain ⟨hk, hN4⟩ := put_kept hN hown hb2 hg
  have hp2 : Lies ((W2.alloc (.cells #[.int .u8 to, .int .i64 1, sl] 48)).alloc (.cells #[.pointer (some ⟨W2.heap.size, 0, none⟩)] 46)) W2.heap.size 48 #[.int .u8 to, .int .i64 1, sl] := (Below.heap_alloc _ _ _ (by simp)).trans (Lies.new W2 48 _)
  have hP4 : Lies W4 W2.heap.size 48 #[.int .u8 to, .int .i64 1, sl] := (hg.block _ hp2.lt fun e => by
    have := (hown.lt _ e.symm).2
    have := hb2.size
    omega).trans hp2
  have hs3 : ((W2.alloc (.cells #[.int .u8 to, .int .i64 1, sl] 48)).alloc (.cells #[.pointer (some ⟨W2.heap.size, 0, none⟩)] 46)).ownsRow w.heap.size 5 1 sl ns.length (vals ns) := (hsl.alloc _).alloc _
  have hs4 : W4.ownsRow w.heap.size 5 1 sl ns.length (vals ns) := own_kept hs3 fun g hgs => hg.block g (hs3.lt g hgs).2 fun e => by
    have h1 := (hown.lt g e.symm).2
    have h2 := (hs3.lt g hgs).1
    omega
  refine ⟨v', W2.heap.size, sl, hN4.set 0 v', ?_, ?_, ?_, hb2.size, ?_⟩
  · rw [List.length_append, List.map_append]
    exact ownsRow_setCell_other hown4 (own_ne hown4 hN4 (by decide)) _
  · exact (Below.heap_setCell W4 ⟨NB, 0, none⟩ v' W2.heap.size fun e => by
      have h1 : W2.heap.size = NB := e
      have h2 := hN.lt
      have := hb2.size
      omega).trans hP4
  · exact own_base (ownsRow_setCell_other hs4 (own_ne hs4 hN4 (by decide)) _) hle
  · exact (hk.mono fun k _ h => .inr h).setCell (p := ⟨NB, 0, none⟩) (.inl rfl) v'
set_option maxRecDepth 100000 in
set_option maxHeartbeats 4000000 in
theorem put_at (w : World) (NB base m c : Nat) (to : Nat) (v : Value) (l : List Nat) (ns : List Int) (A : Option Addr) (hN : Lies w NB 52 #[v]) (hown : w.ownsRow base 46 1 v l.length (l.map ptr)) (hle : base ≤ w.heap.size) (hl : l.length ≤ 80) (hm : m ≤ 60) (hs : Src w A m c ns) :
    Calls Try.prog 8 #[.pointer (some ⟨NB, 0, none⟩), .int .u8 to, .slice A m c] w fun e w' => e = .returned (.int .i64 l.length) ∧ PutP NB base to v l ns w w' := by
  obtain ⟨i0, hi, hz0, hz1, hz2⟩ := info_parts info5
  obtain ⟨i1, hj, hy0, hy1, hy2⟩ := info_parts info46
  have h0 : w.cell? ⟨NB, 0, none⟩ = some v := hN.cell 0
  have f0 : w.frozen? ⟨NB, 0, none⟩ = false := hN.free 0
  obtain ⟨ao, cap, rfl⟩ := formE hown
  have hNB : NB < w.heap.size := hN.lt
  have hmade : (w.drew.alloc (.cells #[] 5)).ownsRow w.heap.size 5 1 (.slice (some ⟨w.heap.size, 0, none⟩) 0 0) 0 [] := World.ownsRow_made w.drew #[] 0 (Nat.le_refl _) (by unfold maxLen; omega) (by simp)
  have hb1 : Below w.heap.size w (w.drew.alloc (.cells #[] 5)) := (Below.refl _ w).drew.alloc (Nat.le_refl _) _
  have hsr := (hs.below hb1).news
  have hml := hs.len
  have hl0 : (0 : Int) ≤ (l.length : Int) := by omega
  have hl1 : (l.length : Int) ≤ 80 := by omega
  have HL := Lib.hid hml
  have HS := Lib.hid hsr
  clear hml hsr hs
  go_enter Try.func8, Try.ntmps8
  go_wp2
  go_region_law (first | (refine step_app rfl (.tmp 15) (.tmp 16) 26 rfl w.heap.size 5 i0 (.int .u8 0) 1 1 Try.underlying26 hi hz0 hz1 hz2 rfl (by decide) (.slice (some ⟨w.heap.size, 0, none⟩) 0 0) 0 [] rfl hmade A m c (vals ns) rfl HS.out (vals_one _) (by unfold maxLen; omega) (by omega) (by simp) ?_; intro sl W2 hown2 hg2 _; rw [Nat.zero_add, List.nil_append] at hown2; obtain ⟨asl, csl, rfl⟩ := formE hown2; have hb2 := hb1.grown hg2 hb1.size (fun k hk => by cases hk; exact Nat.le_refl _); have e0 := (hb2.cell (p := ⟨NB, 0, none⟩) hNB).trans h0; have e01 : ∀ o1, (W2.alloc o1).cell? ⟨NB, 0, none⟩ = some (.slice ao l.length cap) := fun o1 => keep1 e0; have e02 : ∀ o1 o2, ((W2.alloc o1).alloc o2).cell? ⟨NB, 0, none⟩ = some (.slice ao l.length cap) := fun o1 o2 => keep1 (keep1 e0); have hown3 : ∀ o1 o2, ((W2.alloc o1).alloc o2).ownsRow base 46 1 (.slice ao l.length cap) l.length (l.map ptr) := fun o1 o2 => ((own_kept hown fun g hg => hb2.block g (hown.lt g hg).2).alloc o1).alloc o2) | (refine step_app rfl (.tmp 13) (.tmp 21) 50 rfl base 46 i1 (.pointer none) 1 8 Try.underlying50 hj hy0 hy1 hy2 rfl (by decide) (.slice ao l.length cap) l.length (l.map ptr) rfl (hown3 _ _) (some ⟨W2.heap.size + 1, 0, none⟩) 1 1 [ptr W2.heap.size] rfl (.inr ⟨_, rfl, rfl, new_cell W2 _ _ _⟩) (ptr_one [W2.heap.size]) (by unfold maxLen; omega) (by omega) (by have := hb2.size; simp; omega) ?_; intro v' W4 hown4 hg4 _; obtain ⟨av, cv, rfl⟩ := formE hown4; have hN4 := (put_kept hN hown hb2 hg4).2; have e4 : W4.cell? ⟨NB, 0, none⟩ = some (.slice ao l.length cap) := hN4.cell 0; have f4 := hN4.free 0))
  all_goals
    go_wp2
    go_ret
    exact ⟨rfl, put_fin hN hown hle hb2 hown2 HL.out hg4 hown4⟩
end Go.Proofs.Ytlaicijacoblbaa
