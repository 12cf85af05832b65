/- The plain law of MixApart: bytes that differ in one group of 8 have unlike sums. -/
import Derived.Test.YtokjafikgfapmaaPw
namespace Go.Proofs.Ytokjafikgfapmaa
set_option linter.unusedVariables false
theorem le_inj (z y : Nat → Nat) (hz : ∀ i, z i < 256) (hy : ∀ i, y i < 256) : ∀ n, le z n = le y n → ∀ j, j < n → z j = y j
  | 0, _, j, hj => by omega
  | n + 1, h, j, hj => by
    simp only [le] at h
    have a := le_lt z hz n
    have b := le_lt y hy n
    have e1 : z n = y n := by
      have h1 := congrArg (· / 256 ^ n) h
      rw [Nat.add_mul_div_right _ _ (Nat.pow_pos (by omega)), Nat.add_mul_div_right _ _ (Nat.pow_pos (by omega)), Nat.div_eq_of_lt a, Nat.div_eq_of_lt b] at h1
      omega
    have e2 : le z n = le y n := by rw [e1] at h; omega
    by_cases hjn : j = n
    · rw [hjn]; exact e1
    · exact le_inj z y hz hy n e2 j (by omega)
theorem rot_inj (x y : BitVec 64) (h : Pl.rotv x 23 = Pl.rotv y 23) : x = y := by
  have e : ∀ z : BitVec 64, Pl.rotv (Pl.rotv z 23) 41 = z := fun z => by
    apply BitVec.eq_of_getLsbD_eq
    intro j hj
    rw [Pl.rotv_get _ 41 (by omega) j hj, Pl.rotv_get _ 23 (by omega) _ (by omega)]
    congr 1
    omega
  rw [← e x, h, e y]
/-- The bytes z, where i bytes from the p-th on are g's. -/
def upd (z : Nat → Nat) (p : Nat) (g : Nat → Nat) (i : Nat) (j : Nat) : Nat := if p ≤ j ∧ j < p + i then g (j - p) else z j
theorem upd_lt (z : Nat → Nat) (p : Nat) (g : Nat → Nat) (i : Nat) (hz : ∀ j, z j < 256) (hg : ∀ j, g j < 256) (j : Nat) : upd z p g i j < 256 := by
  unfold upd
  split
  · exact hg _
  · exact hz _
theorem upd_zero (z : Nat → Nat) (p : Nat) (g : Nat → Nat) (j : Nat) : upd z p g 0 j = z j := by unfold upd; rw [if_neg (by omega)]
theorem upd_at (z : Nat → Nat) (p : Nat) (g : Nat → Nat) (i : Nat) : upd z p g i (p + i) = z (p + i) := by unfold upd; rw [if_neg (by omega)]
theorem upd_new (z : Nat → Nat) (p : Nat) (g : Nat → Nat) (i : Nat) : upd z p g (i + 1) (p + i) = g i := by unfold upd; rw [if_pos (by omega)]; congr 1; omega
theorem upd_old (z : Nat → Nat) (p : Nat) (g : Nat → Nat) (i j : Nat) (h : j ≠ p + i) : upd z p g (i + 1) j = upd z p g i j := by
  unfold upd
  by_cases h1 : p ≤ j ∧ j < p + i
  · rw [if_pos h1, if_pos (by omega)]
  · rw [if_neg h1, if_neg (by omega)]
theorem grp_same (z y : Nat → Nat) (len p : Nat) (h : ∀ j, p ≤ j → j < p + 8 → z j = y j) : grp z len p = grp y len p := by
  unfold grp
  refine le_congr _ _ 8 (fun j hj => ?_)
  show (if p + j < len then z (p + j) else 0) = if p + j < len then y (p + j) else 0
  split
  · exact h _ (by omega) (by omega)
  · rfl
theorem grp_big (z : Nat → Nat) (hz : ∀ j, z j < 256) (len p : Nat) : grp z len p < 18446744073709551616 :=
  le_lt (fun j => if p + j < len then z (p + j) else 0) (fun j => by
    show (if p + j < len then z (p + j) else 0) < 256
    split
    · exact hz _
    · omega) 8
theorem grp_inj (z y : Nat → Nat) (hz : ∀ j, z j < 256) (hy : ∀ j, y j < 256) (len p : Nat) (hp : p + 8 ≤ len) (h : BitVec.ofNat 64 (grp z len p) = BitVec.ofNat 64 (grp y len p)) : ∀ j, j < 8 → z (p + j) = y (p + j) := by
  have h1 := congrArg BitVec.toNat h
  rw [BitVec.toNat_ofNat, BitVec.toNat_ofNat, Nat.mod_eq_of_lt (grp_big z hz len p), Nat.mod_eq_of_lt (grp_big y hy len p), ← grp_le z len p 8 (by omega) hp (.inl rfl), ← grp_le y len p 8 (by omega) hp (.inl rfl)] at h1
  exact le_inj _ _ (fun _ => hz _) (fun _ => hy _) 8 h1
theorem sum_apart (z g : Nat → Nat) (hz : ∀ j, z j < 256) (hg : ∀ j, g j < 256) (len k : Nat) (hk : 8 * k + 8 ≤ len) (h : BitVec 64) (n : Nat) (hn : k < n) (he : sumv z len h n = sumv (upd z (8 * k) g 8) len h n) : ∀ j, j < 8 → z (8 * k + j) = g j := by
  induction n with
  | zero => omega
  | succ n ih =>
    simp only [sumv] at he
    by_cases hkn : k = n
    · subst hkn
      have hlow : ∀ m, m ≤ k → sumv z len h m = sumv (upd z (8 * k) g 8) len h m := by
        intro m
        induction m with
        | zero => intro _; rfl
        | succ m ihm =>
          intro hm
          simp only [sumv]
          rw [ihm (by omega), grp_same z (upd z (8 * k) g 8) len (8 * m) (fun j h1 h2 => by unfold upd; rw [if_neg (by omega)])]
      rw [hlow k (Nat.le_refl _)] at he
      have hg1 := grp_inj z (upd z (8 * k) g 8) hz (upd_lt z _ g 8 hz hg) len (8 * k) hk (Pl.word_inj _ _ _ he)
      intro j hj
      rw [hg1 j hj]
      unfold upd
      rw [if_pos (by omega)]
      congr 1
      omega
    · rw [grp_same z (upd z (8 * k) g 8) len (8 * n) (fun j h1 h2 => by unfold upd; rw [if_neg (by omega)])] at he
      exact ih (by omega) (rot_inj _ _ (Pl.word_inj' _ _ _ he))
theorem sum_same (z g : Nat → Nat) (len p : Nat) (h : BitVec 64) (he : ∀ j, j < 8 → z (p + j) = g j) (n : Nat) : sumv z len h n = sumv (upd z p g 8) len h n := by
  have e : upd z p g 8 = z := by
    funext j
    unfold upd
    by_cases hj : p ≤ j ∧ j < p + 8
    · rw [if_pos hj, ← he (j - p) (by omega)]
      congr 1
      omega
    · rw [if_neg hj]
  rw [e]
/-- Are the first i bytes of the group the same? -/
def sm (z g : Nat → Nat) (p : Nat) : Nat → Bool
  | 0 => true
  | i + 1 => sm z g p i && (z (p + i) == g i)
theorem sm_iff (z g : Nat → Nat) (p : Nat) : ∀ i, sm z g p i = true ↔ ∀ j, j < i → z (p + j) = g j
  | 0 => by simp [sm]
  | i + 1 => by
    simp only [sm, Bool.and_eq_true, beq_iff_eq, sm_iff z g p i]
    constructor
    · rintro ⟨h1, h2⟩ j hj
      by_cases e : j = i
      · rw [e]; exact h2
      · exact h1 j (by omega)
    · intro h
      exact ⟨fun j hj => h j (by omega), h i (by omega)⟩
theorem sum_iff (z g : Nat → Nat) (hz : ∀ j, z j < 256) (hg : ∀ j, g j < 256) (len k : Nat) (hk : 8 * k + 8 ≤ len) (h : BitVec 64) (n : Nat) (hn : k < n) : sumv z len h n = sumv (upd z (8 * k) g 8) len h n ↔ sm z g (8 * k) 8 = true := by
  rw [sm_iff]
  exact ⟨sum_apart z g hz hg len k hk h n hn, fun he => sum_same z g len _ h he n⟩
end Go.Proofs.Ytokjafikgfapmaa
