/- The walk of the document's answer for Sum. -/
import Derived.Test.YtokjafikgfapmaaGe
namespace Go.Proofs.Ytokjafikgfapmaa
open Go.RowKit
set_option linter.unusedVariables false
set_option linter.unusedSimpArgs false
/-- The number of the group of 8 that begins at a place; what is beyond the end is 0. -/
def grp (z : Nat → Nat) (len at_ : Nat) : Nat := le (fun j => if at_ + j < len then z (at_ + j) else 0) 8
def sumv (z : Nat → Nat) (len : Nat) (h : BitVec 64) : Nat → BitVec 64
  | 0 => h
  | g + 1 => Pl.word (Pl.rotv (sumv z len h g) 23) (BitVec.ofNat 64 (grp z len (8 * g)))
/-- The array in a round: i bytes of the group lie in it, the rest is 0. -/
def Arr (W : World) (b p : Nat) (z : Nat → Nat) (i : Nat) : Prop := ∀ j, j < 8 → W.cell? ⟨b, j, none⟩ = some (.int .u8 ((if j < i then z (p + j) else 0 : Nat) : Int)) ∧ W.frozen? ⟨b, j, none⟩ = false
theorem Arr.step {W : World} {b p : Nat} {z : Nat → Nat} {i : Nat} (h : Arr W b p z i) : Arr (W.setCell ⟨b, i, none⟩ (.int .u8 (z (p + i) : Nat))) b p z (i + 1) := by
  intro j hj
  obtain ⟨k0, k1⟩ := h j hj
  refine ⟨?_, by rw [World.frozen?_setCell]; exact k1⟩
  by_cases e : j = i
  · subst e
    rw [World.cell?_setCell_same _ _ _ k0, if_pos (by omega)]
  · have hne : (⟨b, i, none⟩ : Addr) ≠ ⟨b, j, none⟩ := fun h => e (by cases h; rfl)
    rw [World.cell?_setCell_other _ _ _ _ hne, k0]
    by_cases hji : j < i
    · rw [if_pos hji, if_pos (by omega)]
    · rw [if_neg hji, if_neg (by omega)]
set_option maxHeartbeats 2000000 in
theorem refsum_any (s : BitVec 64) (x : Addr) (len c : Nat) (hlc : len ≤ c) (hl : len ≤ 200) (z : Nat → Nat) (hzl : ∀ i, z i < 256) (w : World) (hz : ∀ i, i < len → w.cell? (x.add i) = some (.int .u8 (z i))) :
    Calls Try.prog 11 #[.int .u64 s.toNat, .slice (some x) len c] w fun e w' => e = .returned (.int .u64 (sumv z len (Pl.word s (BitVec.ofNat 64 len)) ((len + 7) / 8)).toNat) ∧ Below w.heap.size w w' := by
  have hl1 : (len : Int) ≤ 200 := by omega
  have hl0 : (0 : Int) ≤ (len : Int) := by omega
  have e0 : (BitVec.ofNat 64 len).toNat = len := by rw [BitVec.toNat_ofNat]; exact Nat.mod_eq_of_lt (by omega)
  have c0 := refword_any s (BitVec.ofNat 64 len) w
  rw [e0] at c0
  generalize Pl.word s (BitVec.ofNat 64 len) = h0 at *
  clear e0
  obtain ⟨G, hG⟩ : ∃ G, (len + 7) / 8 = G := ⟨_, rfl⟩
  rw [hG]
  go_enter Try.func11, Try.ntmps11
  go_wp2_with (go_at_call 7; ((with_reducible refine c0.mono ?_); rintro e w' ⟨rfl, rfl⟩))
  go_loopw [5, 6] (fun hv av wr => ∃ g : Nat, hv = .int .u64 (sumv z len h0 g).toNat ∧ av = .int .i64 (8 * g : Nat) ∧ 8 * g < len + 8 ∧ Below w.heap.size w wr) (fun hv av wr => len + 8 - (intOf av).toNat)
  case atStart => exact ⟨0, rfl, rfl, by omega, Below.refl _ _⟩
  case round =>
    obtain ⟨g, rfl, rfl, hg, hb⟩ := hrel
    generalize wr = V at *
    by_cases hlt : 8 * g < len
    · have hg0 : (0 : Int) ≤ (8 * g : Nat) := by omega
      have hg1 : ((8 * g : Nat) : Int) < (len : Int) := by omega
      obtain ⟨p, hp⟩ : ∃ p, 8 * g = p := ⟨_, rfl⟩
      rw [hp] at hg0 hg1 hlt hg ⊢
      have HP := Lib.hid hp
      clear hp
      have HZ := Lib.hid hz
      clear hz
      go_wp2
      go_loopw [8] (fun iv w2 => ∃ i : Nat, iv = .int .i64 (i : Nat) ∧ i ≤ 8 ∧ p + i ≤ len ∧ Arr w2 V.heap.size p z i ∧ Below V.heap.size V w2) (fun iv w2 => 8 - (intOf iv).toNat)
      case atStart =>
        refine ⟨0, rfl, by omega, by omega, ?_, Below.alloc (Below.refl _ V) (Nat.le_refl _) _⟩
        intro j hj
        rw [World.cell?_alloc_new]
        refine ⟨?_, World.frozen?_alloc_new ..⟩
        match j, hj with
        | 0, _ => rfl
        | 1, _ => rfl
        | 2, _ => rfl
        | 3, _ => rfl
        | 4, _ => rfl
        | 5, _ => rfl
        | 6, _ => rfl
        | 7, _ => rfl
      case round =>
        obtain ⟨i, rfl, hi8, hpi, ha, hb2⟩ := hrel
        have HR := Lib.hid ha
        by_cases hgo : i < 8 ∧ p + i < len
        · obtain ⟨k0, k1⟩ := ha i hgo.1
          clear ha
          rw [if_neg (by omega)] at k0
          have hx := keepB hb2 (keepB hb (HZ.out (p + i) hgo.2))
          have i0 : (0 : Int) ≤ (i : Int) := by omega
          have i8 : (i : Int) < 8 := by omega
          have ip : (p : Int) + (i : Int) < (len : Int) := by omega
          go_wp2
          refine ⟨⟨i + 1, by simp, by omega, by omega, HR.out.step, hb2.setCell (Nat.le_refl _) _⟩, ?_⟩
          simp only [intOf]
          omega
        · have hzz : ∀ j, (if p + j < len then z (p + j) else 0) < 256 := fun j => by
            split
            · exact hzl _
            · omega
          have hcells : ∀ j, j < 8 → wr.cell? ((⟨V.heap.size, 0, none⟩ : Addr).add j) = some (.int .u8 ((if p + j < len then z (p + j) else 0 : Nat) : Int)) := fun j hj => by
            have h := (ha j hj).1
            have e : (⟨V.heap.size, 0, none⟩ : Addr).add j = ⟨V.heap.size, j, none⟩ := by
              by_cases hj0 : j = 0
              · subst hj0; simp [Addr.add]
              · simp [Addr.add, hj0]
            rw [e, h]
            by_cases hji : j < i
            · rw [if_pos hji, if_pos (by omega)]
            · rw [if_neg hji, if_neg (by omega)]
          have cg := refget_any ⟨V.heap.size, 0, none⟩ 8 8 (by omega) (by omega) (fun j => if p + j < len then z (p + j) else 0) hzz wr hcells
          have eg : le (fun j => if p + j < len then z (p + j) else 0) 8 = grp z len p := rfl
          rw [eg] at cg
          have hglt : grp z len p < 18446744073709551616 := by
            have h := le_lt (fun j => if p + j < len then z (p + j) else 0) hzz 8
            rw [eg] at h
            exact h
          have eb : (BitVec.ofNat 64 (grp z len p)).toNat = grp z len p := by rw [BitVec.toNat_ofNat]; exact Nat.mod_eq_of_lt hglt
          have cr := refrot_any (sumv z len h0 g) 23 wr
          have cw := refword_any (Pl.rotv (sumv z len h0 g) 23) (BitVec.ofNat 64 (grp z len p)) wr
          have es : sumv z len h0 (g + 1) = Pl.word (Pl.rotv (sumv z len h0 g) 23) (BitVec.ofNat 64 (grp z len p)) := by rw [← HP.out]; rfl
          have er : Pl.rotv (sumv z len h0 g) ((23 : Int) % 64).toNat = Pl.rotv (sumv z len h0 g) 23 := rfl
          rw [er] at cr
          rw [eb, ← es] at cw
          have HS := Lib.hid es
          clear ha es er eb eg hglt hcells hzz
          generalize grp z len p = q at *
          generalize Pl.rotv (sumv z len h0 g) 23 = ro at *
          have arm : (i : Int) = 8 ∨ (i : Int) < 8 ∧ (p : Int) + (i : Int) = (len : Int) := by omega
          have i0 : (0 : Int) ≤ (i : Int) := by omega
          have hip : ¬ ((i : Int) < 8 ∧ (p : Int) + (i : Int) < (len : Int)) := by omega
          go_wp2_with (first | (go_at_call 20; ((with_reducible refine cg.mono ?_); rintro e w' ⟨rfl, rfl⟩)) | (go_at_call 21; ((with_reducible refine cr.mono ?_); rintro e w' ⟨rfl, rfl⟩)) | (go_at_call 7; ((with_reducible refine cw.mono ?_); rintro e w' ⟨rfl, rfl⟩)))
          all_goals
            refine ⟨⟨g + 1, rfl, ?_, ?_, hb.trans (hb2.mono hb.size)⟩, ?_⟩
            · have := HP.out
              simp; omega
            · have := HP.out
              omega
            · have := HP.out
              simp only [intOf]
              omega
    · have e : (len + 7) / 8 = g := by omega
      have hg1 : ¬ ((8 * g : Nat) : Int) < (len : Int) := by omega
      obtain rfl : G = g := by omega
      go_wp2
      go_ret
      exact ⟨rfl, hb⟩
end Go.Proofs.Ytokjafikgfapmaa
