/- The iterator over groups of 8 bytes: its contract. -/
import Derived.RangeFuncNested
import Derived.RangeFuncBound
import Derived.RangeFuncCalls
import Derived.RangeFuncLeaves
import Derived.RangeFuncFrom
import Derived.Shelf.Abstract
import Derived.Shelf.RegionOpen
import Derived.WalkKit
import Derived.OwnWalkIn
import Derived.TacticsInMore
import Derived.LoopNIn
import Derived.LoopIn
import Derived.Test.YtokjafikgfapmaaPw
namespace Go.Proofs.Ytokjafikgfapmaa
open Go.RowKit Go.Shelf
attribute [local go_sem] Oper.semAt_some
set_option linter.unusedVariables false
/-- What words yields: the number of each group of 8. -/
def items (z : Nat → Nat) (len G : Nat) : List Nat := (List.range G).map fun g => grp z len (8 * g)
/-- The cells of some blocks lie as they lay. -/
def Keep (S : Nat → Prop) (W W' : World) : Prop := ∀ a : Addr, S a.block → W'.cell? a = W.cell? a
theorem Keep.refl (S : Nat → Prop) (W : World) : Keep S W W := fun _ _ => rfl
theorem Keep.trans {S : Nat → Prop} {A B C : World} (h : Keep S A B) (k : Keep S B C) : Keep S A C := fun a ha => (k a ha).trans (h a ha)
theorem Keep.of_below {n : Nat} {S : Nat → Prop} {A B : World} (hS : ∀ b, S b → b < n) (h : Below n A B) : Keep S A B := fun a ha => h.cell (hS _ ha)
theorem items_pre (z : Nat → Nat) (len : Nat) {g G : Nat} (h : g ≤ G) : items z len g <+: items z len G := by
  obtain ⟨d, rfl⟩ : ∃ d, G = g + d := ⟨G - g, by omega⟩
  unfold items
  rw [List.range_add, List.map_append]
  exact List.prefix_append _ _
theorem grp_lt (z : Nat → Nat) (hzl : ∀ i, z i < 256) (len p : Nat) : grp z len p < 18446744073709551616 := by
  have h := le_lt (fun j => if p + j < len then z (p + j) else 0) (fun j => by
    split
    · exact hzl _
    · omega) 8
  exact h
theorem add_block (x : Addr) (i : Nat) : (x.add i).block = x.block := by
  unfold Addr.add
  split <;> rfl
theorem words_in (l Bn : Nat) (S : Nat → Prop) (x : Addr) (len c : Nat) (hlc : len ≤ c) (hl : len ≤ 200) (z : Nat → Nat) (hzl : ∀ i, z i < 256) (F : Fence) (n : Nat) (h26 : F.fn 26) (h27 : F.fn 27) (hro : F.round = none) (hn : 2 ≤ n) (J Jx : List Nat → World → Prop)
    (hget : ∀ (y : Addr) (m c' : Nat) (zz : Nat → Nat) (k : World), 1 ≤ m → m ≤ 8 → (∀ i, zz i < 256) → (∀ i, i < m → k.cell? (y.add i) = some (.int .u8 (zz i))) → CallsIn F (n - 1) Try.prog 27 #[.slice (some y) m c'] k fun e w' => e = .returned (.tuple #[.int .u64 (le zz m), .int .i64 0]) ∧ k = w')
    (hBn0 : S Bn) (hx0 : 0 < len → S x.block)
    (hY : ∀ pre v W, J pre W → pre.length < (len + 7) / 8 → v < 18446744073709551616 → YieldAt F (n - 1) Try.prog l #[.int .u64 (v : Nat)] W fun e W' =>
      (e = .returned (.bool true) ∧ J (pre ++ [v]) W' ∧ Keep S W W') ∨ (e = .returned (.bool false) ∧ Jx (pre ++ [v]) W'))
    (W : World) (hBn : W.cell? ⟨Bn, 0, none⟩ = some (.slice (some x) len c)) (hz : ∀ i, i < len → W.cell? (x.add i) = some (.int .u8 (z i))) (h0 : J [] W) :
    CallsIn F n Try.prog 26 #[.func (.yield l) #[] #[], .pointer (some ⟨Bn, 0, none⟩)] W fun e W' => (∃ v, e = .returned v) ∧
      ((∃ ys, ys = items z len ((len + 7) / 8) ∧ J ys W') ∨ (∃ pre, pre <+: items z len ((len + 7) / 8) ∧ Jx pre W')) := by
  refine callsIn_of_wp Try.func26 rfl h26 ?_ hro
  simp only [Try.ntmps26, List.size_toArray, List.length_cons, List.length_nil, Nat.reduceAdd, Nat.reduceSub, Array.replicate_succ, Array.replicate_zero, List.push_toArray, List.append_toArray, List.nil_append, List.cons_append]
  gi_wp2
  gi_loopw [3] (fun p wr => ∃ g : Nat, p = .int .i64 (8 * g : Nat) ∧ 8 * g < len + 8 ∧ J (items z len g) wr ∧ Keep S W wr) (fun p wr => len + 8 - (intOf p).toNat)
  case atStart => exact ⟨0, rfl, by omega, h0, Keep.refl _ _⟩
  case round =>
    obtain ⟨g, rfl, hg, hJ, hb⟩ := hrel
    have hB := (hb ⟨Bn, 0, none⟩ hBn0).trans hBn
    by_cases hlt : 8 * g < len
    · obtain ⟨fn, tmps, assign, body, hy, hR⟩ := hY (items z len g) (grp z len (8 * g)) wr hJ (by simp [items]; omega) (grp_lt z hzl len _)
      obtain ⟨p, hp⟩ : ∃ p, 8 * g = p := ⟨_, rfl⟩
      have his : items z len (g + 1) = items z len g ++ [grp z len p] := by rw [← hp]; simp [items, List.range_succ]
      rw [hp] at hy hR hlt ⊢
      obtain ⟨q, hq1, hq2, hq3, hq4⟩ : ∃ q, p < q ∧ q ≤ len ∧ q ≤ p + 8 ∧ (q = p + 8 ∨ q = len) := by
        by_cases h : p + 8 ≤ len
        · exact ⟨p + 8, by omega, h, by omega, .inl rfl⟩
        · exact ⟨len, by omega, by omega, by omega, .inr rfl⟩
      have hin0 : (0 : Int) ≤ (p : Int) := by omega
      have hin1 : (p : Int) ≤ (q : Int) := by omega
      have hin2 : (q : Int) ≤ (len : Int) := by omega
      have hlen : (len : Int) ≤ 200 := by omega
      have hlt' : (p : Int) < (len : Int) := by omega
      have hgrp : le (fun j => z (p + j)) (q - p) = grp z len p := grp_le z len p (q - p) (by omega) (by omega) (by omega)
      have hcell : ∀ i, i < q - p → wr.cell? ((x.add p).add i) = some (.int .u8 (z (p + i))) := fun i hi => by
        have h1 : (x.add p).add i = x.add (p + i) := by simp [Addr.add_add]
        rw [h1, hb _ (by rw [add_block]; exact hx0 (by omega))]
        exact hz _ (by omega)
      have cg : ∀ L C, L = q - p → CallsIn F (n - 1) Try.prog 27 #[.slice (some (x.add p)) L C] wr fun e w' => e = .returned (.tuple #[.int .u64 (grp z len p : Nat), .int .i64 0]) ∧ wr = w' := fun L C hL => by
        subst hL
        rw [← hgrp]
        exact hget (x.add p) (q - p) C (fun j => z (p + j)) wr (by omega) (by omega) (fun i => hzl _) hcell
      have h1n : 1 ≤ n := by omega
      have HP := Lib.hid hp
      have HI := Lib.hid his
      have HQ := Lib.hid hq4
      clear hp his hq4 hget hcell hgrp hY hz h0
      generalize grp z len p = v at *
      gi_wp2_with (gi_at_call 27; refine (cg _ _ (by have := HQ.out; omega)).mono ?_; rintro e w' ⟨rfl, rfl⟩)
      all_goals
        refine hR.mono ?_
        rintro e W3 (⟨rfl, hJ3, hk3⟩ | ⟨rfl, hJx3⟩)
        · gi_wp2
          go_roundw
          case rel => exact ⟨g + 1, by have := HP.out; rw [← HP.out]; go_num, by have := HP.out; omega, by rw [HI.out]; exact hJ3, hb.trans hk3⟩
          case measure => have := HP.out; simp [intOf]; omega
        · gi_wp2
          refine bodyPost_ret (results_none rfl _ _ _) rfl ?_
          exact ⟨⟨_, rfl⟩, .inr ⟨items z len g ++ [v], by rw [← HI.out]; exact items_pre z len (by have := HP.out; omega), hJx3⟩⟩
    · have hg1 : ¬ ((8 * g : Nat) : Int) < (len : Int) := by omega
      have hG : (len + 7) / 8 = g := by omega
      gi_wp2
      go_end0
      exact ⟨⟨_, rfl⟩, .inl hJ⟩
theorem words_nil (l Bn : Nat) (F : Fence) (n : Nat) (h26 : F.fn 26) (hro : F.round = none) (J : List Nat → World → Prop)
    (W : World) (hBn : W.cell? ⟨Bn, 0, none⟩ = some (.slice none 0 0)) (h0 : J [] W) :
    CallsIn F n Try.prog 26 #[.func (.yield l) #[] #[], .pointer (some ⟨Bn, 0, none⟩)] W fun e W' => (∃ v, e = .returned v) ∧ J [] W' := by
  refine callsIn_of_wp Try.func26 rfl h26 ?_ hro
  simp only [Try.ntmps26, List.size_toArray, List.length_cons, List.length_nil, Nat.reduceAdd, Nat.reduceSub, Array.replicate_succ, Array.replicate_zero, List.push_toArray, List.append_toArray, List.nil_append, List.cons_append]
  gi_wp2
  gi_loopw [3] (fun p wr => p = .int .i64 0 ∧ wr = W) (fun p wr => 0)
  case atStart => exact ⟨rfl, rfl⟩
  case round =>
    obtain ⟨rfl, rfl⟩ := hrel
    gi_wp2
    go_end0
    exact ⟨⟨_, rfl⟩, h0⟩
/-- A slice value whose len bytes are z, in a block of S; or nil. -/
def Bys (S : Nat → Prop) (W : World) (sv : Value) (len : Nat) (z : Nat → Nat) : Prop :=
  (sv = .slice none 0 0 ∧ len = 0) ∨ ∃ x c, sv = .slice (some x) len c ∧ len ≤ c ∧ (0 < len → S x.block) ∧ ∀ i, i < len → W.cell? (x.add i) = some (.int .u8 (z i))
theorem Bys.keep {S : Nat → Prop} {A B : World} (h : Keep S A B) {sv : Value} {len : Nat} {z : Nat → Nat} : Bys S A sv len z → Bys S B sv len z
  | .inl e => .inl e
  | .inr ⟨x, c, e, hc, hx, hz⟩ => .inr ⟨x, c, e, hc, hx, fun j hj => (h _ (by rw [add_block]; exact hx (by omega))).trans (hz j hj)⟩
def itemsv (z : Nat → Nat) (len G : Nat) : List (BitVec 64) := (items z len G).map (BitVec.ofNat 64)
/-- words' function value: all groups, in order; or a prefix. -/
theorem words_stops (Bs : Nat) (S : Nat → Prop) (sv : Value) (len : Nat) (hl : len ≤ 200) (z : Nat → Nat) (hzl : ∀ i, z i < 256) (w : World) (hBs : Bs < w.heap.size) (hB0 : S Bs) (hn₀ : ∀ b, S b → b < w.heap.size)
    (hc : w.cell? ⟨Bs, 0, none⟩ = some sv) (hI : Bys S w sv len z) :
    SeqStopsK Fence.wide 2 Try.prog 26 #[.pointer (some ⟨Bs, 0, none⟩)] (fun x : BitVec 64 => #[Value.int .u64 x.toNat]) (Keep S) (fun ys => ys = itemsv z len ((len + 7) / 8)) (fun pre => pre <+: itemsv z len ((len + 7) / 8)) ((len + 7) / 8) w := fun l J Jx W hW _ _ hY h0 => by
  have hc' := (hW.cell (p := ⟨Bs, 0, none⟩) hBs).trans hc
  rcases hI.keep (Keep.of_below hn₀ hW) with ⟨rfl, rfl⟩ | ⟨x, c, rfl, hlc, hb, hcs⟩
  · exact (words_nil l Bs Fence.wide 2 trivial rfl (fun pre => J (pre.map (BitVec.ofNat 64))) W hc' h0).mono fun e W' ⟨he, hj⟩ => ⟨he, .inl ⟨_, rfl, hj⟩⟩
  · refine (words_in l Bs S x len c hlc hl z hzl Fence.wide 2 trivial trivial rfl (by omega) (fun pre => J (pre.map (BitVec.ofNat 64))) (fun pre => Jx (pre.map (BitVec.ofNat 64))) (fun y m c' zz k h1 h8 hzz hcell => callsIn_wide.2 (get_any y m c' h1 h8 zz hzz k hcell)) hB0 hb ?_ W hc' hcs h0).mono ?_
    · intro pre v W1 hJ hlen hv
      have h := hY (pre.map (BitVec.ofNat 64)) (BitVec.ofNat 64 v) W1 hJ (by simpa using hlen)
      have e : (BitVec.ofNat 64 v).toNat = v := by rw [BitVec.toNat_ofNat]; exact Nat.mod_eq_of_lt (by omega)
      simp only [e] at h
      simpa using h
    · rintro e W' ⟨he, ⟨ys, rfl, hj⟩ | ⟨pre, hpre, hj⟩⟩
      · exact ⟨he, .inl ⟨_, rfl, hj⟩⟩
      · exact ⟨he, .inr ⟨_, List.IsPrefix.map _ hpre, hj⟩⟩
theorem words_fn (a : Option Addr) (len cap : Nat) (w : World) :
    Calls Try.prog 18 #[.slice a len cap] w fun e w' => e = .returned (.func (.func 26) #[] #[.pointer (some ⟨w.heap.size, 0, none⟩)]) ∧ w.alloc (.cells #[.slice a len cap] 26) = w' := by
  go_enter Try.func18, Try.ntmps18
  go_wp2
  go_ret
  exact ⟨rfl, rfl⟩
end Go.Proofs.Ytokjafikgfapmaa
