/- The plain laws of 64-bit numbers, stirred and bit by bit, for the statements of layer 4: no Go in sight. -/
import Derived.WalkKit
import Derived.RowKit
import Derived.OpenShut
namespace Go.Proofs.Ytokjafikgfapmaa
namespace Pl
open Go.RowKit

theorem add_or {x y : BitVec 64} (h : x &&& y = 0#64) : x + y = x ||| y := BitVec.add_eq_or_of_and_eq_zero x y h

/-- bit k of x as 0 or 1 -/
def bit (x : BitVec 64) (k : Nat) : BitVec 64 := if x.getLsbD k then 1#64 else 0#64
def pw (i : Nat) : BitVec 64 := 1#64 <<< i

def sum (x : BitVec 64) (p : Nat → Nat) : Nat → BitVec 64
  | 0 => 0#64
  | k + 1 => sum x p k + bit x k * pw (p k)

theorem pw_get (i j : Nat) (hi : i < 64) : (pw i).getLsbD j = decide (j = i) := by
  have := BitVec.getLsbD_twoPow (w := 64) i j
  unfold pw
  rw [← BitVec.twoPow_eq, this, Bool.eq_iff_iff]
  simp only [Bool.and_eq_true, decide_eq_true_eq]
  omega

theorem sum_get (x : BitVec 64) (p : Nat → Nat) (hp : ∀ i, i < 64 → p i < 64) (hinj : ∀ i j, i < 64 → j < 64 → p i = p j → i = j) :
    ∀ k, k ≤ 64 → ∀ j, (sum x p k).getLsbD j = true ↔ ∃ i, i < k ∧ p i = j ∧ x.getLsbD i = true := by
  intro k
  induction k with
  | zero => intro _ j; simp [sum]
  | succ k ih =>
    intro hk j
    have ih := ih (by omega)
    unfold sum
    by_cases hb : x.getLsbD k = true
    · have hand : sum x p k &&& pw (p k) = 0#64 := by
        apply BitVec.eq_of_getLsbD_eq
        intro i hi
        rw [BitVec.getLsbD_and, pw_get _ _ (hp k (by omega))]
        by_cases hij : i = p k
        · subst hij
          have : (sum x p k).getLsbD (p k) = false := by
            cases h : (sum x p k).getLsbD (p k) with
            | false => rfl
            | true =>
              obtain ⟨i, h1, h2, h3⟩ := (ih (p k)).1 h
              have := hinj i k (by omega) (by omega) h2
              omega
          simp [this]
        · simp [hij]
      have h1 : bit x k = 1#64 := by simp [bit, hb]
      rw [h1, BitVec.one_mul, add_or hand, BitVec.getLsbD_or, pw_get _ _ (hp k (by omega))]
      simp only [Bool.or_eq_true, decide_eq_true_eq, ih]
      constructor
      · rintro (⟨i, h1, h2, h3⟩ | rfl)
        · exact ⟨i, by omega, h2, h3⟩
        · exact ⟨k, by omega, rfl, hb⟩
      · rintro ⟨i, h1, h2, h3⟩
        by_cases hik : i = k
        · subst hik; exact .inr h2.symm
        · exact .inl ⟨i, by omega, h2, h3⟩
    · have h0 : bit x k = 0#64 := by simp [bit, hb]
      rw [h0, BitVec.zero_mul, BitVec.add_zero, ih]
      constructor
      · rintro ⟨i, h1, h2, h3⟩; exact ⟨i, by omega, h2, h3⟩
      · rintro ⟨i, h1, h2, h3⟩
        by_cases hik : i = k
        · subst hik; exact absurd h3 hb
        · exact ⟨i, by omega, h2, h3⟩

/-- the sum whose places are moved by q's inverse p -/
theorem sum_all (x y : BitVec 64) (p q : Nat → Nat) (hp : ∀ i, i < 64 → p i < 64) (hq : ∀ i, i < 64 → q i < 64) (hpq : ∀ i, i < 64 → p (q i) = i) (hqp : ∀ i, i < 64 → q (p i) = i)
    (hy : ∀ j, j < 64 → y.getLsbD j = x.getLsbD (q j)) : sum x p 64 = y := by
  apply BitVec.eq_of_getLsbD_eq
  intro j hj
  rw [hy j hj, Bool.eq_iff_iff, sum_get x p hp (fun i j hi hj h => by rw [← hqp i hi, ← hqp j hj, h]) 64 (Nat.le_refl _) j]
  constructor
  · rintro ⟨i, h1, h2, h3⟩
    subst h2; rw [hqp i h1]; exact h3
  · intro h; exact ⟨q j, hq j hj, hpq j hj, h⟩

def rotv (x : BitVec 64) (s : Nat) : BitVec 64 := x <<< s ||| x >>> (64 - s)

theorem rotv_get (x : BitVec 64) (s : Nat) (hs : s < 64) (j : Nat) (hj : j < 64) : (rotv x s).getLsbD j = x.getLsbD ((j + (64 - s)) % 64) := by
  unfold rotv
  rw [BitVec.getLsbD_or, BitVec.getLsbD_shiftLeft, BitVec.getLsbD_ushiftRight]
  by_cases h : j < s
  · have e : (j + (64 - s)) % 64 = 64 - s + j := by omega
    rw [e]; simp [h]
  · have e : (j + (64 - s)) % 64 = j - s := by omega
    rw [e]
    simp [h, hj]
    intro h2
    have := BitVec.lt_of_getLsbD h2
    omega

theorem rot_sum (x : BitVec 64) (s : Nat) (hs : s < 64) : sum x (fun i => (i + s) % 64) 64 = rotv x s :=
  sum_all x _ (fun i => (i + s) % 64) (fun j => (j + (64 - s)) % 64) (fun i _ => by omega) (fun i _ => by omega)
    (fun i _ => by omega) (fun i _ => by omega) (fun j hj => rotv_get x s hs j hj)

def step (x m : BitVec 64) (s : Nat) : BitVec 64 := (x >>> s &&& m) ||| ((x &&& m) <<< s)

theorem step_get (x m : BitVec 64) (s : Nat) (h : ∀ i : Fin 64, (m.getLsbD i.val = true → i.val + s = i.val ^^^ s ∧ (i.val < s ∨ m.getLsbD (i.val - s) = false)) ∧ (m.getLsbD i.val = false → s ≤ i.val ∧ i.val - s = i.val ^^^ s ∧ m.getLsbD (i.val - s) = true))
    (j : Nat) (hj : j < 64) : (step x m s).getLsbD j = x.getLsbD (j ^^^ s) := by
  obtain ⟨h1, h2⟩ := h ⟨j, hj⟩
  dsimp at h1 h2
  unfold step
  rw [BitVec.getLsbD_or, BitVec.getLsbD_and, BitVec.getLsbD_shiftLeft, BitVec.getLsbD_ushiftRight, BitVec.getLsbD_and]
  cases hm : m.getLsbD j with
  | true =>
    obtain ⟨e, h3⟩ := h1 hm
    rw [← e, Nat.add_comm j s]
    rcases h3 with h3 | h3 <;> simp [h3]
  | false =>
    obtain ⟨h3, e, h4⟩ := h2 hm
    rw [← e]
    simp [h4, hj]
    omega

def turnv (x : BitVec 64) : BitVec 64 :=
  step (step (step (step (step (step x 0x5555555555555555#64 1) 0x3333333333333333#64 2) 0x0f0f0f0f0f0f0f0f#64 4) 0x00ff00ff00ff00ff#64 8) 0x0000ffff0000ffff#64 16) 0x00000000ffffffff#64 32

theorem turnv_get (x : BitVec 64) (j : Nat) (hj : j < 64) : (turnv x).getLsbD j = x.getLsbD (63 - j) := by
  have hx : ∀ s : Nat, s < 64 → ∀ i : Nat, i < 64 → i ^^^ s < 64 := fun s hs i hi => Nat.xor_lt_two_pow (n := 6) hi hs
  unfold turnv
  rw [step_get _ _ 32 (by decide) j hj, step_get _ _ 16 (by decide) _ (hx 32 (by decide) _ hj)]
  rw [step_get _ _ 8 (by decide) _ (hx 16 (by decide) _ (hx 32 (by decide) _ hj))]
  rw [step_get _ _ 4 (by decide) _ (hx 8 (by decide) _ (hx 16 (by decide) _ (hx 32 (by decide) _ hj)))]
  rw [step_get _ _ 2 (by decide) _ (hx 4 (by decide) _ (hx 8 (by decide) _ (hx 16 (by decide) _ (hx 32 (by decide) _ hj))))]
  rw [step_get _ _ 1 (by decide) _ (hx 2 (by decide) _ (hx 4 (by decide) _ (hx 8 (by decide) _ (hx 16 (by decide) _ (hx 32 (by decide) _ hj)))))]
  have : ∀ i : Fin 64, i.val ^^^ 32 ^^^ 16 ^^^ 8 ^^^ 4 ^^^ 2 ^^^ 1 = 63 - i.val := by decide
  rw [this ⟨j, hj⟩]

theorem turn_sum (x : BitVec 64) : sum x (fun i => 63 - i) 64 = turnv x :=
  sum_all x _ (fun i => 63 - i) (fun i => 63 - i) (fun i _ => by omega) (fun i _ => by omega) (fun i _ => by omega) (fun i _ => by omega)
    (fun j hj => turnv_get x j hj)

/-- how many bits are 1 -/
def cnt (m : Nat) : Nat := if h : m = 0 then 0 else m % 2 + cnt (m / 2)
termination_by m
decreasing_by omega

theorem cnt_zero : cnt 0 = 0 := by rw [cnt]; simp
theorem cnt_eq (m : Nat) : cnt m = m % 2 + cnt (m / 2) := by
  by_cases h : m = 0
  · subst h; simp [cnt_zero]
  · rw [cnt]; simp [h]

theorem cnt_clear (m : Nat) : 0 < m → cnt (m &&& (m - 1)) + 1 = cnt m := by
  induction m using Nat.strongRecOn with
  | _ m ih =>
    intro h
    rw [cnt_eq m, cnt_eq (m &&& (m - 1)), Nat.and_div_two]
    have e : (m &&& (m - 1)) % 2 = 0 := by
      have := Nat.and_mod_two_pow (a := m) (b := m - 1) (n := 1)
      simp only [Nat.pow_one] at this
      rw [this]
      rcases Nat.mod_two_eq_zero_or_one m with h1 | h1
      · simp [h1]
      · have : (m - 1) % 2 = 0 := by omega
        simp [this]
    rw [e]
    rcases Nat.mod_two_eq_zero_or_one m with h1 | h1
    · have e2 : (m - 1) / 2 = m / 2 - 1 := by omega
      rw [e2]
      have := ih (m / 2) (by omega) (by omega)
      omega
    · have e2 : (m - 1) / 2 = m / 2 := by omega
      rw [e2, Nat.and_self]
      omega

def pc (x : Nat) : Nat → Nat
  | 0 => 0
  | k + 1 => pc x k + x / 2 ^ k % 2

theorem pc_cnt (x k : Nat) : cnt x = pc x k + cnt (x / 2 ^ k) := by
  induction k with
  | zero => simp [pc]
  | succ k ih =>
    rw [ih, pc, cnt_eq (x / 2 ^ k), Nat.div_div_eq_div_mul, Nat.pow_succ]
    omega
theorem pc_le (x k : Nat) : pc x k ≤ k := by
  induction k with
  | zero => simp [pc]
  | succ k ih => unfold pc; omega
theorem pc_all (x : Nat) (h : x < 2 ^ 64) : pc x 64 = cnt x := by
  rw [pc_cnt x 64, Nat.div_eq_of_lt h, cnt_zero]; rfl
theorem cnt_le (x : Nat) (h : x < 2 ^ 64) : cnt x ≤ 64 := by rw [← pc_all x h]; exact pc_le _ _
theorem cnt_pos (x : Nat) (h : 0 < x) : 0 < cnt x := by have := cnt_clear x h; omega

theorem cnt_join (s : Nat) : ∀ a b, b < 2 ^ s → cnt (a * 2 ^ s + b) = cnt a + cnt b := by
  induction s with
  | zero => intro a b h; simp at h; subst h; simp [cnt_zero]
  | succ s ih =>
    intro a b h
    rw [cnt_eq (a * 2 ^ (s + 1) + b), cnt_eq b]
    have e1 : (a * 2 ^ (s + 1) + b) % 2 = b % 2 := by rw [Nat.pow_succ, ← Nat.mul_assoc]; omega
    have e2 : (a * 2 ^ (s + 1) + b) / 2 = a * 2 ^ s + b / 2 := by rw [Nat.pow_succ, ← Nat.mul_assoc]; omega
    rw [e1, e2, ih a (b / 2) (by rw [Nat.pow_succ] at h; omega)]
    omega

/-- the length: bits up to the highest that is 1 -/
def len (m : Nat) : Nat := if h : m = 0 then 0 else len (m / 2) + 1
termination_by m
decreasing_by omega
theorem len_zero : len 0 = 0 := by rw [len]; simp
theorem len_pos (m : Nat) (h : m ≠ 0) : len m = len (m / 2) + 1 := by rw [len]; simp [h]
theorem len_lt (m : Nat) : m < 2 ^ len m := by
  induction m using Nat.strongRecOn with
  | _ m ih =>
    by_cases h : m = 0
    · subst h; simp [len_zero]
    · rw [len_pos m h, Nat.pow_succ]
      have := ih (m / 2) (by omega)
      omega
theorem len_ge (m : Nat) (h : m ≠ 0) : 2 ^ (len m - 1) ≤ m := by
  induction m using Nat.strongRecOn with
  | _ m ih =>
    rw [len_pos m h, Nat.add_sub_cancel]
    by_cases h2 : m / 2 = 0
    · rw [h2, len_zero]; simp; omega
    · have := ih (m / 2) (by omega) h2
      obtain ⟨k, hk⟩ : ∃ k, len (m / 2) = k + 1 := ⟨len (m / 2) - 1, by rw [len_pos _ h2]; rfl⟩
      rw [hk] at this ⊢
      rw [Nat.pow_succ]
      simp at this
      omega
theorem len_unique (m l : Nat) (h1 : m < 2 ^ l) (h2 : l ≠ 0 → 2 ^ (l - 1) ≤ m) : len m = l := by
  by_cases hm : m = 0
  · subst hm
    rw [len_zero]
    by_cases hl : l = 0
    · exact hl.symm
    · have := h2 hl
      have := Nat.two_pow_pos (l - 1)
      omega
  · have a := len_lt m
    have b := len_ge m hm
    have hl0 : len m ≠ 0 := by rw [len_pos m hm]; omega
    apply Nat.le_antisymm
    · apply Nat.le_of_not_lt
      intro hlt
      have : 2 ^ l ≤ 2 ^ (len m - 1) := Nat.pow_le_pow_right (by decide) (by omega)
      omega
    · apply Nat.le_of_not_lt
      intro hlt
      have := h2 (by omega)
      have : 2 ^ len m ≤ 2 ^ (l - 1) := Nat.pow_le_pow_right (by decide) (by omega)
      omega
theorem len_le (m : Nat) (h : m < 2 ^ 64) : len m ≤ 64 := by
  by_cases hm : m = 0
  · subst hm; rw [len_zero]; decide
  · apply Nat.le_of_not_lt
    intro hlt
    have := len_ge m hm
    have : 2 ^ 64 ≤ 2 ^ (len m - 1) := Nat.pow_le_pow_right (by decide) (by omega)
    omega

/-- the lowest place from k on with a 1 (64 at most) -/
def trail (x : Nat) (d : Nat) : Nat := match d with
  | 0 => 64
  | d + 1 => if x / 2 ^ (63 - d) % 2 = 1 then 63 - d else trail x d

theorem trail_spec (x : Nat) : ∀ d, d ≤ 64 → 64 - d ≤ trail x d ∧ trail x d ≤ 64 ∧ (∀ j, 64 - d ≤ j → j < trail x d → x.testBit j = false) ∧ (trail x d < 64 → x.testBit (trail x d) = true) := by
  intro d
  induction d with
  | zero => intro _; exact ⟨Nat.le_refl _, Nat.le_refl _, fun j h1 h2 => by simp [trail] at h2; omega, fun h => by simp [trail] at h⟩
  | succ d ih =>
    intro hd
    unfold trail
    have tb : x.testBit (63 - d) = decide (x / 2 ^ (63 - d) % 2 = 1) := Nat.testBit_eq_decide_div_mod_eq
    by_cases h : x / 2 ^ (63 - d) % 2 = 1
    · rw [if_pos h]
      exact ⟨by omega, by omega, fun j h1 h2 => by omega, fun _ => by rw [tb]; simpa using h⟩
    · rw [if_neg h]
      obtain ⟨a, b, c, e⟩ := ih (by omega)
      refine ⟨by omega, b, fun j h1 h2 => ?_, e⟩
      by_cases hj : j = 63 - d
      · subst hj; rw [tb]; simpa using h
      · exact c j (by omega) h2
theorem trail_unique (x t : Nat) (h1 : t ≤ 64) (h2 : ∀ j, j < t → x.testBit j = false) (h3 : t < 64 → x.testBit t = true) : trail x 64 = t := by
  obtain ⟨_, b, c, e⟩ := trail_spec x 64 (Nat.le_refl _)
  apply Nat.le_antisymm
  · apply Nat.le_of_not_lt
    intro h
    have := c t (by omega) h
    rw [h3 (by omega)] at this
    exact Bool.noConfusion this
  · apply Nat.le_of_not_lt
    intro h
    have := h2 _ h
    rw [e (by omega)] at this
    exact Bool.noConfusion this


/-! ### the model's operations on whole numbers, said of BitVec 64 -/
theorem ofInt_nat (x : BitVec 64) : BitVec.ofInt 64 (x.toNat : Int) = x := by
  rw [BitVec.ofInt_natCast]; simp
theorem wrap_ofInt (z : Int) : IntKind.u64.wrap z = ((BitVec.ofInt 64 z).toNat : Int) := by
  rw [IntKind.wrap_u64, BitVec.toNat_ofInt]; simp; omega
theorem wrap_toNat (x : BitVec 64) : IntKind.u64.wrap (x.toNat : Int) = (x.toNat : Int) := by
  rw [wrap_ofInt, ofInt_nat]
theorem xor_ofInt (a b : Int) : bits .xor .u64 a b = ((BitVec.ofInt 64 a ^^^ BitVec.ofInt 64 b).toNat : Int) := wrap_toNat _
theorem or_ofInt (a b : Int) : bits .or .u64 a b = ((BitVec.ofInt 64 a ||| BitVec.ofInt 64 b).toNat : Int) := wrap_toNat _
theorem and_ofInt (a b : Int) : bits .and .u64 a b = ((BitVec.ofInt 64 a &&& BitVec.ofInt 64 b).toNat : Int) := wrap_toNat _
theorem add_bv (x y : BitVec 64) : IntKind.u64.wrap ((x.toNat : Int) + (y.toNat : Int)) = ((x + y).toNat : Int) := by
  rw [IntKind.wrap_u64, BitVec.toNat_add]; simp
theorem mul_bv (x y : BitVec 64) : IntKind.u64.wrap ((x.toNat : Int) * (y.toNat : Int)) = ((x * y).toNat : Int) := by
  rw [IntKind.wrap_u64, BitVec.toNat_mul]; simp
theorem sub_bv (x y : BitVec 64) : IntKind.u64.wrap ((x.toNat : Int) - (y.toNat : Int)) = ((x - y).toNat : Int) := by
  rw [IntKind.wrap_u64, BitVec.toNat_sub]; have := x.isLt; have := y.isLt; omega
theorem shr_bv (x : BitVec 64) (n : Nat) : (x.toNat : Int) / 2 ^ n = ((x >>> n).toNat : Int) := by
  rw [BitVec.toNat_ushiftRight, Nat.shiftRight_eq_div_pow]; simp
theorem shl_bv (x : BitVec 64) (n : Nat) : IntKind.u64.wrap ((x.toNat : Int) * 2 ^ n) = ((x <<< n).toNat : Int) := by
  rw [IntKind.wrap_u64, BitVec.toNat_shiftLeft, Nat.shiftLeft_eq]; simp
theorem shr_min (x : BitVec 64) (n : Nat) : x >>> min n 64 = x >>> n := by
  by_cases h : n < 64
  · rw [Nat.min_eq_left (by omega)]
  · rw [Nat.min_eq_right (by omega), BitVec.ushiftRight_eq_zero (by omega), BitVec.ushiftRight_eq_zero (by omega)]
theorem shl_min (x : BitVec 64) (n : Nat) : x <<< min n 64 = x <<< n := by
  by_cases h : n < 64
  · rw [Nat.min_eq_left (by omega)]
  · rw [Nat.min_eq_right (by omega), BitVec.shiftLeft_eq_zero (by omega), BitVec.shiftLeft_eq_zero (by omega)]

/-! ### the lowest bits -/
def low (x : BitVec 64) (n : Int) : BitVec 64 := if n ≤ 0 then 0#64 else if 64 ≤ n then x else BitVec.ofNat 64 (x.toNat % 2 ^ n.toNat)
theorem low_zero (x : BitVec 64) (n : Int) (h : n ≤ 0) : 0 = ((low x n).toNat : Int) := by unfold low; rw [if_pos h]; rfl
theorem low_all (x : BitVec 64) (n : Int) (h : 64 ≤ n) : (x.toNat : Int) = ((low x n).toNat : Int) := by unfold low; rw [if_neg (by omega), if_pos h]
theorem low_mid (x : BitVec 64) (n : Int) (h0 : 0 < n) (h1 : n < 64) : (low x n).toNat = x.toNat % 2 ^ n.toNat := by
  unfold low
  rw [if_neg (by omega), if_neg (by omega), BitVec.toNat_ofNat]
  exact Nat.mod_eq_of_lt (Nat.lt_of_le_of_lt (Nat.mod_le _ _) x.isLt)
theorem low_mask (x : BitVec 64) (n : Int) (h0 : 0 < n) (h1 : n < 64) :
    bits .and .u64 (x.toNat : Int) (IntKind.u64.wrap (IntKind.u64.wrap (2 ^ n.toNat) - 1)) = ((low x n).toNat : Int) := by
  obtain ⟨k, rfl⟩ : ∃ k : Nat, n = k := ⟨n.toNat, by omega⟩
  have hk : k < 64 := by omega
  have hp : (2 : Nat) ^ k < 2 ^ 64 := Nat.pow_lt_pow_right (by decide) hk
  have hp0 := Nat.two_pow_pos k
  have e1 : IntKind.u64.wrap (2 ^ (k : Int).toNat) = ((2 ^ k : Nat) : Int) := by
    have e : (2 : Int) ^ k = ((2 ^ k : Nat) : Int) := by simp
    rw [Int.toNat_natCast, e, IntKind.wrap_u64]; omega
  have e2 : IntKind.u64.wrap (((2 ^ k : Nat) : Int) - 1) = ((2 ^ k - 1 : Nat) : Int) := by
    rw [IntKind.wrap_u64]; omega
  have hx := x.isLt
  rw [e1, e2, u64_and_nat _ _ (by omega) (by omega), low_mid x _ h0 h1, Nat.and_two_pow_sub_one_eq_mod]
  rfl

/-! ### powers and bits, as the loops reckon them -/
theorem pw_zero : (1 : Int) = ((pw 0).toNat : Int) := by decide
theorem pw_succ (k : Nat) : IntKind.u64.wrap (((pw k).toNat : Int) * 2) = ((pw (k + 1)).toNat : Int) := by
  unfold pw
  rw [IntKind.wrap_u64, BitVec.toNat_shiftLeft, BitVec.toNat_shiftLeft, Nat.shiftLeft_eq, Nat.shiftLeft_eq, Nat.pow_succ]
  simp
  omega
def shr (x : BitVec 64) (k : Nat) : BitVec 64 := x >>> k
def shl (x : BitVec 64) (k : Nat) : BitVec 64 := x <<< k
theorem shr_zero (x : BitVec 64) : (x.toNat : Int) = ((shr x 0).toNat : Int) := by simp [shr]
theorem shr_succ (x : BitVec 64) (k : Nat) : ((shr x k).toNat : Int) / 2 = ((shr x (k + 1)).toNat : Int) := by
  unfold shr
  rw [BitVec.shiftRight_add, ← shr_bv (x >>> k) 1]
  rfl
theorem shr_form (x : BitVec 64) (n : Int) : (x.toNat : Int) / 2 ^ min n.toNat 64 = ((shr x n.toNat).toNat : Int) := by
  rw [shr_bv, shr_min]; rfl
theorem shl_form (x : BitVec 64) (n : Int) : IntKind.u64.wrap ((x.toNat : Int) * 2 ^ min n.toNat 64) = ((shl x n.toNat).toNat : Int) := by
  rw [shl_bv, shl_min]; rfl
theorem bit_form (x : BitVec 64) (i : Nat) : ((shr x i).toNat : Int) % 2 = ((bit x i).toNat : Int) := by
  unfold bit shr
  have h : x.getLsbD i = decide ((x >>> i).toNat % 2 = 1) := by
    rw [BitVec.toNat_ushiftRight, Nat.shiftRight_eq_div_pow, ← Nat.testBit_eq_decide_div_mod_eq]; rfl
  rw [h]
  have h0 : (((0#64 : BitVec 64).toNat : Nat) : Int) = 0 := by decide
  have h1 : (((1#64 : BitVec 64).toNat : Nat) : Int) = 1 := by decide
  generalize (x >>> i).toNat = m
  rcases Nat.mod_two_eq_zero_or_one m with e | e
  · rw [if_neg (by simp only [decide_eq_true_eq]; omega), h0]; omega
  · rw [if_pos (by simp only [decide_eq_true_eq]; omega), h1]; omega
theorem mod_form (n : Int) : (wrap64 (n.tmod 64 + 64)).tmod 64 = n % 64 := by
  have h1 : -64 < n.tmod 64 := by have := Int.lt_tmod_of_pos n (b := 64) (by decide); omega
  have h2 : n.tmod 64 < 64 := Int.tmod_lt_of_pos n (by decide)
  have h3 : n % 64 = (n.tmod 64 + 64) % 64 := by
    rw [Int.add_emod_right]
    have := Int.tmod_add_mul_tdiv n 64
    omega
  unfold wrap64
  rw [Int.tmod_eq_emod_of_nonneg (by omega), h3]
  omega
theorem pw_pos (i : Nat) (hi : i < 64) : 0 < (pw i).toNat := by
  unfold pw
  have h : (2 : Nat) ^ i < 2 ^ 64 := Nat.pow_lt_pow_right (by decide) (by omega)
  have := Nat.two_pow_pos i
  rw [BitVec.toNat_shiftLeft, Nat.shiftLeft_eq]; simp; omega
theorem low_mod (x : BitVec 64) (i : Nat) (h0 : (0 : Int) < i) (h1 : (i : Int) < 64) : (x.toNat : Int) % ((pw i).toNat : Int) = ((low x i).toNat : Int) := by
  have hp : (pw i).toNat = 2 ^ i := by
    unfold pw
    have : (2 : Nat) ^ i < 2 ^ 64 := Nat.pow_lt_pow_right (by decide) (by omega)
    rw [BitVec.toNat_shiftLeft, Nat.shiftLeft_eq]; simp; omega
  rw [hp, low_mid x _ h0 h1]
  rfl
theorem shr_pw (x : BitVec 64) (i : Nat) (hi : i < 64) : (x.toNat : Int) / ((pw i).toNat : Int) = ((shr x i).toNat : Int) := by
  unfold shr
  have hp : (pw i).toNat = 2 ^ i := by
    unfold pw
    have : (2 : Nat) ^ i < 2 ^ 64 := Nat.pow_lt_pow_right (by decide) (by omega)
    rw [BitVec.toNat_shiftLeft, Nat.shiftLeft_eq]; simp; omega
  rw [hp, ← shr_bv]
  simp
/-! ### Part -/
def part (x : BitVec 64) (f n : Int) : BitVec 64 := low (shr x (max f 0).toNat) n
theorem part_neg (x : BitVec 64) (f n : Int) (h : f < 0) : part x f n = low (shr x 0) n := by unfold part; rw [Int.max_eq_right (by omega)]; rfl
theorem part_pos (x : BitVec 64) (f n : Int) (h : 0 ≤ f) : part x f n = low (shr x f.toNat) n := by unfold part; rw [Int.max_eq_left h]
theorem low_of_zero (n : Int) : low 0#64 n = 0#64 := by
  unfold low
  split
  · rfl
  · split
    · rfl
    · simp
theorem part_big (x : BitVec 64) (f n : Int) (h : 63 < f) : 0 = ((part x f n).toNat : Int) := by
  unfold part shr
  rw [BitVec.ushiftRight_eq_zero (by omega), low_of_zero]; rfl

/-! ### Rot -/
theorem rot_by (n : Int) : bits .and .u64 (IntKind.u64.wrap (n.tmod 64)) 63 = n % 64 := by
  have h1 : -64 < n.tmod 64 := by have := Int.lt_tmod_of_pos n (b := 64) (by decide); omega
  have h2 : n.tmod 64 < 64 := Int.tmod_lt_of_pos n (by decide)
  have h3 := Int.tmod_add_mul_tdiv n 64
  have e : IntKind.u64.wrap (n.tmod 64) = ((n.tmod 64 % 18446744073709551616).toNat : Int) := by rw [IntKind.wrap_u64]; omega
  rw [e]
  show bits .and .u64 (((n.tmod 64 % 18446744073709551616).toNat : Nat) : Int) ((63 : Nat) : Int) = _
  rw [u64_and_nat _ _ (by omega) (by omega), nat_mask6]
  omega
theorem rot_form (x : BitVec 64) (n : Int) :
    bits .or .u64 (IntKind.u64.wrap ((x.toNat : Int) * 2 ^ (n % 64).toNat)) ((x.toNat : Int) / 2 ^ (64 - n % 64).toNat) = ((rotv x (n % 64).toNat).toNat : Int) := by
  rw [shl_bv, shr_bv, or_ofInt, ofInt_nat, ofInt_nat]
  unfold rotv
  rw [show (64 - n % 64).toNat = 64 - (n % 64).toNat by omega]
theorem sum_zero (x : BitVec 64) (p : Nat → Nat) : (0 : Int) = ((sum x p 0).toNat : Int) := rfl
theorem sum_step (x : BitVec 64) (p : Nat → Nat) (k j : Nat) (h : j = p k) :
    IntKind.u64.wrap (((sum x p k).toNat : Int) + IntKind.u64.wrap (((bit x k).toNat : Int) * ((pw j).toNat : Int))) = ((sum x p (k + 1)).toNat : Int) := by
  rw [mul_bv, add_bv, h]; rfl
/-! ### Turn -/
def land (x : BitVec 64) (m : Int) : BitVec 64 := x &&& BitVec.ofInt 64 m
def lor (x y : BitVec 64) : BitVec 64 := x ||| y
theorem land_form (x : BitVec 64) (m : Int) : bits .and .u64 (x.toNat : Int) m = ((land x m).toNat : Int) := by rw [and_ofInt, ofInt_nat]; rfl
theorem lor_form (x y : BitVec 64) : bits .or .u64 (x.toNat : Int) (y.toNat : Int) = ((lor x y).toNat : Int) := by rw [or_ofInt, ofInt_nat, ofInt_nat]; rfl
theorem step_form (x m : BitVec 64) (i : Int) (s : Nat) (h : BitVec.ofInt 64 i = m) : lor (land (shr x s) i) (shl (land x i) s) = step x m s := by
  unfold lor land shr shl step; rw [h]

theorem of_wf {n : Int} (h : (Lit.int .u64 n).wf = true) : ∃ x : BitVec 64, n = (x.toNat : Int) := by
  obtain ⟨h0, h1⟩ := bounds_u64 h
  refine ⟨BitVec.ofInt 64 n, ?_⟩
  rw [BitVec.toNat_ofInt]
  simp; omega
/-! ### stirring -/

def undo (n : Nat) (y : BitVec 64) : Nat → BitVec 64
  | 0 => y
  | k + 1 => y ^^^ (undo n y k >>> n)

theorem shr_shr (x : BitVec 64) (a b : Nat) : (x >>> a) >>> b = x >>> (a + b) := (BitVec.shiftRight_add x a b).symm
theorem shr_xor (x y : BitVec 64) (a : Nat) : (x ^^^ y) >>> a = (x >>> a) ^^^ (y >>> a) := BitVec.ushiftRight_xor_distrib x y a
theorem shr_big (x : BitVec 64) (a : Nat) (h : 64 ≤ a) : x >>> a = 0#64 := BitVec.ushiftRight_eq_zero h

theorem xor_cancel (x y : BitVec 64) : x ^^^ (x ^^^ y) = y := by rw [← BitVec.xor_assoc, BitVec.xor_self, BitVec.zero_xor]
theorem xor_cancel' (x y : BitVec 64) : (x ^^^ y) ^^^ y = x := by rw [BitVec.xor_assoc, BitVec.xor_self, BitVec.xor_zero]
theorem eq_of_xor {x y : BitVec 64} (h : x ^^^ y = 0#64) : x = y := by
  have := xor_cancel x y
  rw [h] at this
  rw [← this]; simp

/-- what comes of x comes back -/
theorem undo_step (n : Nat) (x : BitVec 64) (k : Nat) : undo n (x ^^^ x >>> n) k ^^^ x = x >>> ((k + 1) * n) := by
  induction k with
  | zero =>
    show (x ^^^ x >>> n) ^^^ x = _
    rw [BitVec.xor_comm, xor_cancel]; simp
  | succ k ih =>
    have e : undo n (x ^^^ x >>> n) k = x ^^^ x >>> ((k + 1) * n) := by
      rw [← ih, BitVec.xor_comm _ x, xor_cancel]
    show ((x ^^^ x >>> n) ^^^ (undo n (x ^^^ x >>> n) k >>> n)) ^^^ x = _
    rw [e, shr_xor, shr_shr, BitVec.xor_assoc x, ← BitVec.xor_assoc (x >>> n), BitVec.xor_self, BitVec.zero_xor, BitVec.xor_comm, xor_cancel]
    congr 1
    rw [Nat.succ_mul (k + 1)]

theorem undo_do (n : Nat) (x : BitVec 64) (k : Nat) (h : 64 ≤ (k + 1) * n) : undo n (x ^^^ x >>> n) k = x := by
  apply eq_of_xor
  rw [undo_step, shr_big _ _ h]

theorem undo_diff (n : Nat) (y : BitVec 64) (k : Nat) : undo n y (k + 1) ^^^ undo n y k = y >>> ((k + 1) * n) := by
  induction k with
  | zero =>
    show (y ^^^ y >>> n) ^^^ y = _
    rw [BitVec.xor_comm, xor_cancel]; simp
  | succ k ih =>
    show (y ^^^ undo n y (k + 1) >>> n) ^^^ (y ^^^ undo n y k >>> n) = _
    rw [BitVec.xor_comm y, BitVec.xor_assoc, xor_cancel, ← shr_xor, ih, shr_shr]
    congr 1
    rw [Nat.succ_mul (k + 1)]

theorem do_undo (n : Nat) (y : BitVec 64) (k : Nat) (h : 64 ≤ (k + 1) * n) : undo n y (k + 1) ^^^ (undo n y (k + 1)) >>> n = y := by
  have e : undo n y (k + 1) >>> n = undo n y k >>> n := by
    apply eq_of_xor
    rw [← shr_xor, undo_diff, shr_shr, shr_big]
    omega
  rw [e]
  exact xor_cancel' _ _

def A : BitVec 64 := 0x9e3779b97f4a7c15#64
def B : BitVec 64 := 0xbf58476d1ce4e5b9#64
def C : BitVec 64 := 0x94d049bb133111eb#64

def inv (odd : BitVec 64) : Nat → BitVec 64
  | 0 => odd
  | k + 1 => inv odd k * (2#64 - odd * inv odd k)

theorem inv_B : B * inv B 6 = 1#64 := by decide
theorem inv_C : C * inv C 6 = 1#64 := by decide

def stir (x : BitVec 64) : BitVec 64 :=
  let x1 := (x ^^^ x >>> 30) * B
  let x2 := (x1 ^^^ x1 >>> 27) * C
  x2 ^^^ x2 >>> 31
def word (seed x : BitVec 64) : BitVec 64 := stir ((seed ^^^ x) + A)
def unstir (y : BitVec 64) : BitVec 64 :=
  let h := undo 31 y 6
  let h := undo 27 (h * inv C 6) 6
  undo 30 (h * inv B 6) 6
def unword (seed y : BitVec 64) : BitVec 64 := unstir y - A ^^^ seed

theorem unstir_stir (x : BitVec 64) : unstir (stir x) = x := by
  unfold unstir stir
  dsimp only
  rw [undo_do 31 _ 6 (by decide), BitVec.mul_assoc, inv_C, BitVec.mul_one, undo_do 27 _ 6 (by decide), BitVec.mul_assoc, inv_B, BitVec.mul_one, undo_do 30 _ 6 (by decide)]
theorem stir_unstir (y : BitVec 64) : stir (unstir y) = y := by
  unfold unstir stir
  dsimp only
  rw [do_undo 30 _ 5 (by decide), BitVec.mul_assoc _ _ B, BitVec.mul_comm _ B, inv_B, BitVec.mul_one, do_undo 27 _ 5 (by decide), BitVec.mul_assoc _ _ C, BitVec.mul_comm _ C, inv_C, BitVec.mul_one, do_undo 31 _ 5 (by decide)]
theorem unword_word (s x : BitVec 64) : unword s (word s x) = x := by
  unfold unword word
  rw [unstir_stir, BitVec.add_sub_cancel, BitVec.xor_comm s, xor_cancel']
theorem word_unword (s y : BitVec 64) : word s (unword s y) = y := by
  unfold unword word
  rw [BitVec.xor_comm _ s, xor_cancel, BitVec.sub_add_cancel, stir_unstir]
theorem word_inj (s x y : BitVec 64) (h : word s x = word s y) : x = y := by rw [← unword_word s x, h, unword_word]
theorem word_comm (s x : BitVec 64) : word s x = word x s := by unfold word; rw [BitVec.xor_comm]
theorem word_inj' (s x y : BitVec 64) (h : word x s = word y s) : x = y := by rw [word_comm x, word_comm y] at h; exact word_inj s x y h
def xor (x y : BitVec 64) : BitVec 64 := x ^^^ y
def mulB (x : BitVec 64) : BitVec 64 := x * B
def mulC (x : BitVec 64) : BitVec 64 := x * C
def addA (x : BitVec 64) : BitVec 64 := x + A
def subA (x : BitVec 64) : BitVec 64 := x - A
theorem xor_form (x y : BitVec 64) : bits .xor .u64 (x.toNat : Int) (y.toNat : Int) = ((xor x y).toNat : Int) := by rw [xor_ofInt, ofInt_nat, ofInt_nat]; rfl
theorem shr30 (x : BitVec 64) : (x.toNat : Int) / 1073741824 = ((shr x 30).toNat : Int) := shr_bv x 30
theorem shr27 (x : BitVec 64) : (x.toNat : Int) / 134217728 = ((shr x 27).toNat : Int) := shr_bv x 27
theorem shr31 (x : BitVec 64) : (x.toNat : Int) / 2147483648 = ((shr x 31).toNat : Int) := shr_bv x 31
theorem mulB_form (x : BitVec 64) : IntKind.u64.wrap ((x.toNat : Int) * 13787848793156543929) = ((mulB x).toNat : Int) := mul_bv x B
theorem mulC_form (x : BitVec 64) : IntKind.u64.wrap ((x.toNat : Int) * 10723151780598845931) = ((mulC x).toNat : Int) := mul_bv x C
theorem addA_form (x : BitVec 64) : IntKind.u64.wrap ((x.toNat : Int) + 11400714819323198485) = ((addA x).toNat : Int) := add_bv x A
theorem subA_form (x : BitVec 64) : IntKind.u64.wrap ((x.toNat : Int) - 11400714819323198485) = ((subA x).toNat : Int) := sub_bv x A
def down (x : BitVec 64) (n : Nat) : BitVec 64 := x ^^^ x >>> n
theorem word_shape (s x : BitVec 64) : word s x = (let h := addA (xor s x); let h1 := mulB (xor h (shr h 30)); let h2 := mulC (xor h1 (shr h1 27)); xor h2 (shr h2 31)) := rfl
theorem stir_shape (h : BitVec 64) : stir h = down (mulC (down (mulB (down h 30)) 27)) 31 := rfl
theorem undo_zero (n : Nat) (y : BitVec 64) : (y.toNat : Int) = ((undo n y 0).toNat : Int) := rfl
theorem shr_nat (x : BitVec 64) (n : Nat) : (x.toNat : Int) / 2 ^ n = ((shr x n).toNat : Int) := shr_bv x n
theorem undo_succ (n : Nat) (y : BitVec 64) (k : Nat) : xor y (shr (undo n y k) n) = undo n y (k + 1) := rfl
theorem undo_form (n : Nat) (y : BitVec 64) (k : Nat) : bits .xor .u64 (y.toNat : Int) (((undo n y k).toNat : Int) / 2 ^ n) = ((undo n y (k + 1)).toNat : Int) := by rw [shr_bv, xor_form]; rfl
def mul (x y : BitVec 64) : BitVec 64 := x * y
theorem mul_form (x y : BitVec 64) : IntKind.u64.wrap ((x.toNat : Int) * (y.toNat : Int)) = ((mul x y).toNat : Int) := mul_bv x y
theorem unword_shape (s y : BitVec 64) : xor (subA (undo 30 (mul (undo 27 (mul (undo 31 y 6) (inv C 6)) 6) (inv B 6)) 6)) s = unword s y := rfl
def invStep (odd x : BitVec 64) : BitVec 64 := x * (2#64 - odd * x)
theorem inv_zero (odd : BitVec 64) : (odd.toNat : Int) = ((inv odd 0).toNat : Int) := rfl
theorem inv_form (odd : BitVec 64) (k : Nat) : IntKind.u64.wrap (((inv odd k).toNat : Int) * IntKind.u64.wrap (2 - IntKind.u64.wrap ((odd.toNat : Int) * ((inv odd k).toNat : Int)))) = ((inv odd (k + 1)).toNat : Int) := by
  have e : (2 : Int) = ((2#64).toNat : Int) := by decide
  rw [mul_bv odd, e, sub_bv, mul_bv]; rfl
/-! ### the reference's Xor: a sum of powers -/
theorem bit_of (x : BitVec 64) (i : Nat) (c : Bool) (h : x.getLsbD i = c) : ((bit x i).toNat : Int) = if c then 1 else 0 := by
  unfold bit; rw [h]; cases c <;> rfl
theorem xsum_same (a b : BitVec 64) (k : Nat) (h : a.getLsbD k = b.getLsbD k) : sum (a ^^^ b) id (k + 1) = sum (a ^^^ b) id k := by
  show sum (a ^^^ b) id k + bit (a ^^^ b) k * pw (id k) = _
  have : bit (a ^^^ b) k = 0#64 := by unfold bit; rw [BitVec.getLsbD_xor, h]; simp
  rw [this, BitVec.zero_mul, BitVec.add_zero]
theorem xsum_other (a b : BitVec 64) (k : Nat) (h : a.getLsbD k = !b.getLsbD k) : IntKind.u64.wrap (((sum (a ^^^ b) id k).toNat : Int) + ((pw k).toNat : Int)) = ((sum (a ^^^ b) id (k + 1)).toNat : Int) := by
  show _ = ((sum (a ^^^ b) id k + bit (a ^^^ b) k * pw (id k)).toNat : Int)
  have : bit (a ^^^ b) k = 1#64 := by unfold bit; rw [BitVec.getLsbD_xor, h]; cases b.getLsbD k <;> rfl
  rw [this, BitVec.one_mul, add_bv]; rfl
theorem xsum_all (a b : BitVec 64) : sum (a ^^^ b) id 64 = xor a b :=
  sum_all _ _ id id (fun _ h => h) (fun _ h => h) (fun _ _ => rfl) (fun _ _ => rfl) (fun _ _ => rfl)
theorem part_all (x : BitVec 64) (n : Nat) : part x n 64 = shr x n := by
  rw [part_pos x n 64 (by omega)]; unfold low; rw [if_neg (by decide), if_pos (by decide)]; rfl
theorem down_form (x : BitVec 64) (n : Nat) : xor x (shr x n) = down x n := rfl
theorem word_ref (s x : BitVec 64) : word s x = stir (addA (xor s x)) := rfl
end Pl
end Go.Proofs.Ytokjafikgfapmaa
