/- The plain laws of 64-bit numbers bit by bit, for the statements of layer 2: no Go in sight. -/
import Derived.WalkKit
import Derived.RowKit
import Derived.OpenShut
import Derived.Lib.TrailingZeros
import Derived.Lib.BitFns
namespace Go.Proofs.YtfajoaodipoojaaDoor
namespace Pl
open Go.RowKit
set_option linter.unusedVariables false

theorem add_or {x y : BitVec 64} (h : x &&& y = 0#64) : x + y = x ||| y := BitVec.add_eq_or_of_and_eq_zero x y h

/-- bit k of x as 0 or 1 -/
def bit (x : BitVec 64) (k : Nat) : BitVec 64 := if x.getLsbD k then 1#64 else 0#64
def pw (i : Nat) : BitVec 64 := 1#64 <<< i

def sum (x : BitVec 64) (p : Nat → Nat) : Nat → BitVec 64
  | 0 => 0#64
  | k + 1 => sum x p k + bit x k * pw (p k)

theorem pw_get (i j : Nat) (hi : i < 64) : (pw i).getLsbD j = decide (j = i) := by
  have := BitVec.getLsbD_twoPow (w := 64) i j
  unfold pw
  rw [← BitVec.twoPow_eq, this, Bool.eq_iff_iff]
  simp only [Bool.and_eq_true, decide_eq_true_eq]
  omega

theorem sum_get (x : BitVec 64) (p : Nat → Nat) (hp : ∀ i, i < 64 → p i < 64) (hinj : ∀ i j, i < 64 → j < 64 → p i = p j → i = j) :
    ∀ k, k ≤ 64 → ∀ j, (sum x p k).getLsbD j = true ↔ ∃ i, i < k ∧ p i = j ∧ x.getLsbD i = true := by
  intro k
  induction k with
  | zero => intro _ j; simp [sum]
  | succ k ih =>
    intro hk j
    have ih := ih (by omega)
    unfold sum
    by_cases hb : x.getLsbD k = true
    · have hand : sum x p k &&& pw (p k) = 0#64 := by
        apply BitVec.eq_of_getLsbD_eq
        intro i hi
        rw [BitVec.getLsbD_and, pw_get _ _ (hp k (by omega))]
        by_cases hij : i = p k
        · subst hij
          have : (sum x p k).getLsbD (p k) = false := by
            cases h : (sum x p k).getLsbD (p k) with
            | false => rfl
            | true =>
              obtain ⟨i, h1, h2, h3⟩ := (ih (p k)).1 h
              have := hinj i k (by omega) (by omega) h2
              omega
          simp [this]
        · simp [hij]
      have h1 : bit x k = 1#64 := by simp [bit, hb]
      rw [h1, BitVec.one_mul, add_or hand, BitVec.getLsbD_or, pw_get _ _ (hp k (by omega))]
      simp only [Bool.or_eq_true, decide_eq_true_eq, ih]
      constructor
      · rintro (⟨i, h1, h2, h3⟩ | rfl)
        · exact ⟨i, by omega, h2, h3⟩
        · exact ⟨k, by omega, rfl, hb⟩
      · rintro ⟨i, h1, h2, h3⟩
        by_cases hik : i = k
        · subst hik; exact .inr h2.symm
        · exact .inl ⟨i, by omega, h2, h3⟩
    · have h0 : bit x k = 0#64 := by simp [bit, hb]
      rw [h0, BitVec.zero_mul, BitVec.add_zero, ih]
      constructor
      · rintro ⟨i, h1, h2, h3⟩; exact ⟨i, by omega, h2, h3⟩
      · rintro ⟨i, h1, h2, h3⟩
        by_cases hik : i = k
        · subst hik; exact absurd h3 hb
        · exact ⟨i, by omega, h2, h3⟩

/-- the sum whose places are moved by q's inverse p -/
theorem sum_all (x y : BitVec 64) (p q : Nat → Nat) (hp : ∀ i, i < 64 → p i < 64) (hq : ∀ i, i < 64 → q i < 64) (hpq : ∀ i, i < 64 → p (q i) = i) (hqp : ∀ i, i < 64 → q (p i) = i)
    (hy : ∀ j, j < 64 → y.getLsbD j = x.getLsbD (q j)) : sum x p 64 = y := by
  apply BitVec.eq_of_getLsbD_eq
  intro j hj
  rw [hy j hj, Bool.eq_iff_iff, sum_get x p hp (fun i j hi hj h => by rw [← hqp i hi, ← hqp j hj, h]) 64 (Nat.le_refl _) j]
  constructor
  · rintro ⟨i, h1, h2, h3⟩
    subst h2; rw [hqp i h1]; exact h3
  · intro h; exact ⟨q j, hq j hj, hpq j hj, h⟩

def rotv (x : BitVec 64) (s : Nat) : BitVec 64 := x <<< s ||| x >>> (64 - s)

theorem rotv_get (x : BitVec 64) (s : Nat) (hs : s < 64) (j : Nat) (hj : j < 64) : (rotv x s).getLsbD j = x.getLsbD ((j + (64 - s)) % 64) := by
  unfold rotv
  rw [BitVec.getLsbD_or, BitVec.getLsbD_shiftLeft, BitVec.getLsbD_ushiftRight]
  by_cases h : j < s
  · have e : (j + (64 - s)) % 64 = 64 - s + j := by omega
    rw [e]; simp [h]
  · have e : (j + (64 - s)) % 64 = j - s := by omega
    rw [e]
    simp [h, hj]
    intro h2
    have := BitVec.lt_of_getLsbD h2
    omega

theorem rot_sum (x : BitVec 64) (s : Nat) (hs : s < 64) : sum x (fun i => (i + s) % 64) 64 = rotv x s :=
  sum_all x _ (fun i => (i + s) % 64) (fun j => (j + (64 - s)) % 64) (fun i _ => by omega) (fun i _ => by omega)
    (fun i _ => by omega) (fun i _ => by omega) (fun j hj => rotv_get x s hs j hj)

def step (x m : BitVec 64) (s : Nat) : BitVec 64 := (x >>> s &&& m) ||| ((x &&& m) <<< s)

theorem step_get (x m : BitVec 64) (s : Nat) (h : ∀ i : Fin 64, (m.getLsbD i.val = true → i.val + s = i.val ^^^ s ∧ (i.val < s ∨ m.getLsbD (i.val - s) = false)) ∧ (m.getLsbD i.val = false → s ≤ i.val ∧ i.val - s = i.val ^^^ s ∧ m.getLsbD (i.val - s) = true))
    (j : Nat) (hj : j < 64) : (step x m s).getLsbD j = x.getLsbD (j ^^^ s) := by
  obtain ⟨h1, h2⟩ := h ⟨j, hj⟩
  dsimp at h1 h2
  unfold step
  rw [BitVec.getLsbD_or, BitVec.getLsbD_and, BitVec.getLsbD_shiftLeft, BitVec.getLsbD_ushiftRight, BitVec.getLsbD_and]
  cases hm : m.getLsbD j with
  | true =>
    obtain ⟨e, h3⟩ := h1 hm
    rw [← e, Nat.add_comm j s]
    rcases h3 with h3 | h3 <;> simp [h3]
  | false =>
    obtain ⟨h3, e, h4⟩ := h2 hm
    rw [← e]
    simp [h4, hj]
    omega

def turnv (x : BitVec 64) : BitVec 64 :=
  step (step (step (step (step (step x 0x5555555555555555#64 1) 0x3333333333333333#64 2) 0x0f0f0f0f0f0f0f0f#64 4) 0x00ff00ff00ff00ff#64 8) 0x0000ffff0000ffff#64 16) 0x00000000ffffffff#64 32

theorem turnv_get (x : BitVec 64) (j : Nat) (hj : j < 64) : (turnv x).getLsbD j = x.getLsbD (63 - j) := by
  have hx : ∀ s : Nat, s < 64 → ∀ i : Nat, i < 64 → i ^^^ s < 64 := fun s hs i hi => Nat.xor_lt_two_pow (n := 6) hi hs
  unfold turnv
  rw [step_get _ _ 32 (by decide) j hj, step_get _ _ 16 (by decide) _ (hx 32 (by decide) _ hj)]
  rw [step_get _ _ 8 (by decide) _ (hx 16 (by decide) _ (hx 32 (by decide) _ hj))]
  rw [step_get _ _ 4 (by decide) _ (hx 8 (by decide) _ (hx 16 (by decide) _ (hx 32 (by decide) _ hj)))]
  rw [step_get _ _ 2 (by decide) _ (hx 4 (by decide) _ (hx 8 (by decide) _ (hx 16 (by decide) _ (hx 32 (by decide) _ hj))))]
  rw [step_get _ _ 1 (by decide) _ (hx 2 (by decide) _ (hx 4 (by decide) _ (hx 8 (by decide) _ (hx 16 (by decide) _ (hx 32 (by decide) _ hj)))))]
  have : ∀ i : Fin 64, i.val ^^^ 32 ^^^ 16 ^^^ 8 ^^^ 4 ^^^ 2 ^^^ 1 = 63 - i.val := by decide
  rw [this ⟨j, hj⟩]

theorem turn_sum (x : BitVec 64) : sum x (fun i => 63 - i) 64 = turnv x :=
  sum_all x _ (fun i => 63 - i) (fun i => 63 - i) (fun i _ => by omega) (fun i _ => by omega) (fun i _ => by omega) (fun i _ => by omega)
    (fun j hj => turnv_get x j hj)

/-- how many bits are 1 -/
def cnt (m : Nat) : Nat := if h : m = 0 then 0 else m % 2 + cnt (m / 2)
termination_by m
decreasing_by omega

theorem cnt_zero : cnt 0 = 0 := by rw [cnt]; simp
theorem cnt_eq (m : Nat) : cnt m = m % 2 + cnt (m / 2) := by
  by_cases h : m = 0
  · subst h; simp [cnt_zero]
  · rw [cnt]; simp [h]

theorem cnt_clear (m : Nat) : 0 < m → cnt (m &&& (m - 1)) + 1 = cnt m := by
  induction m using Nat.strongRecOn with
  | _ m ih =>
    intro h
    rw [cnt_eq m, cnt_eq (m &&& (m - 1)), Nat.and_div_two]
    have e : (m &&& (m - 1)) % 2 = 0 := by
      have := Nat.and_mod_two_pow (a := m) (b := m - 1) (n := 1)
      simp only [Nat.pow_one] at this
      rw [this]
      rcases Nat.mod_two_eq_zero_or_one m with h1 | h1
      · simp [h1]
      · have : (m - 1) % 2 = 0 := by omega
        simp [this]
    rw [e]
    rcases Nat.mod_two_eq_zero_or_one m with h1 | h1
    · have e2 : (m - 1) / 2 = m / 2 - 1 := by omega
      rw [e2]
      have := ih (m / 2) (by omega) (by omega)
      omega
    · have e2 : (m - 1) / 2 = m / 2 := by omega
      rw [e2, Nat.and_self]
      omega

def pc (x : Nat) : Nat → Nat
  | 0 => 0
  | k + 1 => pc x k + x / 2 ^ k % 2

theorem pc_cnt (x k : Nat) : cnt x = pc x k + cnt (x / 2 ^ k) := by
  induction k with
  | zero => simp [pc]
  | succ k ih =>
    rw [ih, pc, cnt_eq (x / 2 ^ k), Nat.div_div_eq_div_mul, Nat.pow_succ]
    omega
theorem pc_le (x k : Nat) : pc x k ≤ k := by
  induction k with
  | zero => simp [pc]
  | succ k ih => unfold pc; omega
theorem pc_all (x : Nat) (h : x < 2 ^ 64) : pc x 64 = cnt x := by
  rw [pc_cnt x 64, Nat.div_eq_of_lt h, cnt_zero]; rfl
theorem cnt_le (x : Nat) (h : x < 2 ^ 64) : cnt x ≤ 64 := by rw [← pc_all x h]; exact pc_le _ _
theorem cnt_pos (x : Nat) (h : 0 < x) : 0 < cnt x := by have := cnt_clear x h; omega

theorem cnt_join (s : Nat) : ∀ a b, b < 2 ^ s → cnt (a * 2 ^ s + b) = cnt a + cnt b := by
  induction s with
  | zero => intro a b h; simp at h; subst h; simp [cnt_zero]
  | succ s ih =>
    intro a b h
    rw [cnt_eq (a * 2 ^ (s + 1) + b), cnt_eq b]
    have e1 : (a * 2 ^ (s + 1) + b) % 2 = b % 2 := by rw [Nat.pow_succ, ← Nat.mul_assoc]; omega
    have e2 : (a * 2 ^ (s + 1) + b) / 2 = a * 2 ^ s + b / 2 := by rw [Nat.pow_succ, ← Nat.mul_assoc]; omega
    rw [e1, e2, ih a (b / 2) (by rw [Nat.pow_succ] at h; omega)]
    omega

/-- the length: bits up to the highest that is 1 -/
def len (m : Nat) : Nat := if h : m = 0 then 0 else len (m / 2) + 1
termination_by m
decreasing_by omega
theorem len_zero : len 0 = 0 := by rw [len]; simp
theorem len_pos (m : Nat) (h : m ≠ 0) : len m = len (m / 2) + 1 := by rw [len]; simp [h]
theorem len_lt (m : Nat) : m < 2 ^ len m := by
  induction m using Nat.strongRecOn with
  | _ m ih =>
    by_cases h : m = 0
    · subst h; simp [len_zero]
    · rw [len_pos m h, Nat.pow_succ]
      have := ih (m / 2) (by omega)
      omega
theorem len_ge (m : Nat) (h : m ≠ 0) : 2 ^ (len m - 1) ≤ m := by
  induction m using Nat.strongRecOn with
  | _ m ih =>
    rw [len_pos m h, Nat.add_sub_cancel]
    by_cases h2 : m / 2 = 0
    · rw [h2, len_zero]; simp; omega
    · have := ih (m / 2) (by omega) h2
      obtain ⟨k, hk⟩ : ∃ k, len (m / 2) = k + 1 := ⟨len (m / 2) - 1, by rw [len_pos _ h2]; rfl⟩
      rw [hk] at this ⊢
      rw [Nat.pow_succ]
      simp at this
      omega
theorem len_unique (m l : Nat) (h1 : m < 2 ^ l) (h2 : l ≠ 0 → 2 ^ (l - 1) ≤ m) : len m = l := by
  by_cases hm : m = 0
  · subst hm
    rw [len_zero]
    by_cases hl : l = 0
    · exact hl.symm
    · have := h2 hl
      have := Nat.two_pow_pos (l - 1)
      omega
  · have a := len_lt m
    have b := len_ge m hm
    have hl0 : len m ≠ 0 := by rw [len_pos m hm]; omega
    apply Nat.le_antisymm
    · apply Nat.le_of_not_lt
      intro hlt
      have : 2 ^ l ≤ 2 ^ (len m - 1) := Nat.pow_le_pow_right (by decide) (by omega)
      omega
    · apply Nat.le_of_not_lt
      intro hlt
      have := h2 (by omega)
      have : 2 ^ len m ≤ 2 ^ (l - 1) := Nat.pow_le_pow_right (by decide) (by omega)
      omega
theorem len_le (m : Nat) (h : m < 2 ^ 64) : len m ≤ 64 := by
  by_cases hm : m = 0
  · subst hm; rw [len_zero]; decide
  · apply Nat.le_of_not_lt
    intro hlt
    have := len_ge m hm
    have : 2 ^ 64 ≤ 2 ^ (len m - 1) := Nat.pow_le_pow_right (by decide) (by omega)
    omega

/-- the lowest place from k on with a 1 (64 at most) -/
def trail (x : Nat) (d : Nat) : Nat := match d with
  | 0 => 64
  | d + 1 => if x / 2 ^ (63 - d) % 2 = 1 then 63 - d else trail x d

theorem trail_spec (x : Nat) : ∀ d, d ≤ 64 → 64 - d ≤ trail x d ∧ trail x d ≤ 64 ∧ (∀ j, 64 - d ≤ j → j < trail x d → x.testBit j = false) ∧ (trail x d < 64 → x.testBit (trail x d) = true) := by
  intro d
  induction d with
  | zero => intro _; exact ⟨Nat.le_refl _, Nat.le_refl _, fun j h1 h2 => by simp [trail] at h2; omega, fun h => by simp [trail] at h⟩
  | succ d ih =>
    intro hd
    unfold trail
    have tb : x.testBit (63 - d) = decide (x / 2 ^ (63 - d) % 2 = 1) := Nat.testBit_eq_decide_div_mod_eq
    by_cases h : x / 2 ^ (63 - d) % 2 = 1
    · rw [if_pos h]
      exact ⟨by omega, by omega, fun j h1 h2 => by omega, fun _ => by rw [tb]; simpa using h⟩
    · rw [if_neg h]
      obtain ⟨a, b, c, e⟩ := ih (by omega)
      refine ⟨by omega, b, fun j h1 h2 => ?_, e⟩
      by_cases hj : j = 63 - d
      · subst hj; rw [tb]; simpa using h
      · exact c j (by omega) h2
theorem trail_unique (x t : Nat) (h1 : t ≤ 64) (h2 : ∀ j, j < t → x.testBit j = false) (h3 : t < 64 → x.testBit t = true) : trail x 64 = t := by
  obtain ⟨_, b, c, e⟩ := trail_spec x 64 (Nat.le_refl _)
  apply Nat.le_antisymm
  · apply Nat.le_of_not_lt
    intro h
    have := c t (by omega) h
    rw [h3 (by omega)] at this
    exact Bool.noConfusion this
  · apply Nat.le_of_not_lt
    intro h
    have := h2 _ h
    rw [e (by omega)] at this
    exact Bool.noConfusion this


/-! ### the model's operations on whole numbers, said of BitVec 64 -/
theorem ofInt_nat (x : BitVec 64) : BitVec.ofInt 64 (x.toNat : Int) = x := by
  rw [BitVec.ofInt_natCast]; simp
theorem wrap_ofInt (z : Int) : IntKind.u64.wrap z = ((BitVec.ofInt 64 z).toNat : Int) := by
  rw [IntKind.wrap_u64, BitVec.toNat_ofInt]; simp; omega
theorem wrap_toNat (x : BitVec 64) : IntKind.u64.wrap (x.toNat : Int) = (x.toNat : Int) := by
  rw [wrap_ofInt, ofInt_nat]
theorem xor_ofInt (a b : Int) : bits .xor .u64 a b = ((BitVec.ofInt 64 a ^^^ BitVec.ofInt 64 b).toNat : Int) := wrap_toNat _
theorem or_ofInt (a b : Int) : bits .or .u64 a b = ((BitVec.ofInt 64 a ||| BitVec.ofInt 64 b).toNat : Int) := wrap_toNat _
theorem and_ofInt (a b : Int) : bits .and .u64 a b = ((BitVec.ofInt 64 a &&& BitVec.ofInt 64 b).toNat : Int) := wrap_toNat _
theorem add_bv (x y : BitVec 64) : IntKind.u64.wrap ((x.toNat : Int) + (y.toNat : Int)) = ((x + y).toNat : Int) := by
  rw [IntKind.wrap_u64, BitVec.toNat_add]; simp
theorem mul_bv (x y : BitVec 64) : IntKind.u64.wrap ((x.toNat : Int) * (y.toNat : Int)) = ((x * y).toNat : Int) := by
  rw [IntKind.wrap_u64, BitVec.toNat_mul]; simp
theorem sub_bv (x y : BitVec 64) : IntKind.u64.wrap ((x.toNat : Int) - (y.toNat : Int)) = ((x - y).toNat : Int) := by
  rw [IntKind.wrap_u64, BitVec.toNat_sub]; have := x.isLt; have := y.isLt; omega
theorem shr_bv (x : BitVec 64) (n : Nat) : (x.toNat : Int) / 2 ^ n = ((x >>> n).toNat : Int) := by
  rw [BitVec.toNat_ushiftRight, Nat.shiftRight_eq_div_pow]; simp
theorem shl_bv (x : BitVec 64) (n : Nat) : IntKind.u64.wrap ((x.toNat : Int) * 2 ^ n) = ((x <<< n).toNat : Int) := by
  rw [IntKind.wrap_u64, BitVec.toNat_shiftLeft, Nat.shiftLeft_eq]; simp
theorem shr_min (x : BitVec 64) (n : Nat) : x >>> min n 64 = x >>> n := by
  by_cases h : n < 64
  · rw [Nat.min_eq_left (by omega)]
  · rw [Nat.min_eq_right (by omega), BitVec.ushiftRight_eq_zero (by omega), BitVec.ushiftRight_eq_zero (by omega)]
theorem shl_min (x : BitVec 64) (n : Nat) : x <<< min n 64 = x <<< n := by
  by_cases h : n < 64
  · rw [Nat.min_eq_left (by omega)]
  · rw [Nat.min_eq_right (by omega), BitVec.shiftLeft_eq_zero (by omega), BitVec.shiftLeft_eq_zero (by omega)]

/-! ### Zig and Zag -/
def zig (n : Int) : Int := if 0 ≤ n then 2 * n else -2 * n - 1
def zag (x : Nat) : Int := if x % 2 = 0 then (x / 2 : Nat) else -((x / 2 : Nat) : Int) - 1
theorem zig_form (n : Int) (h0 : -9223372036854775808 ≤ n) (h1 : n ≤ 9223372036854775807) :
    bits .xor .u64 (IntKind.u64.wrap (IntKind.u64.wrap n * 2)) (IntKind.u64.wrap (n / 9223372036854775808)) = zig n := by
  rw [xor_ofInt, wrap_ofInt (n / _), ofInt_nat, wrap_ofInt (_ * 2), ofInt_nat]
  unfold zig
  by_cases h : 0 ≤ n
  · have e : n / 9223372036854775808 = 0 := by omega
    rw [e, if_pos h, IntKind.wrap_u64]
    have : BitVec.ofInt 64 0 = 0#64 := by decide
    rw [this, BitVec.xor_zero, BitVec.toNat_ofInt]
    simp; omega
  · have e : n / 9223372036854775808 = -1 := by omega
    rw [e, if_neg h, IntKind.wrap_u64]
    have : BitVec.ofInt 64 (-1) = BitVec.allOnes 64 := by decide
    rw [this, BitVec.xor_allOnes, BitVec.toNat_not, BitVec.toNat_ofInt]
    simp; omega
theorem zag_form (x : BitVec 64) :
    bits .xor .i64 ((x.toNat : Int) / 2) (wrap64 (-wrap64 (bits .and .u64 (x.toNat : Int) 1))) = zag x.toNat := by
  have e : bits .and .u64 (x.toNat : Int) 1 = ((x.toNat % 2 : Nat) : Int) := by
    rw [and_ofInt, ofInt_nat]
    have : BitVec.ofInt 64 1 = 1#64 := by decide
    rw [this, BitVec.toNat_and]
    simp [Nat.and_one_is_mod]
  rw [e]
  have hx := x.isLt
  unfold zag
  rcases Nat.mod_two_eq_zero_or_one x.toNat with h | h
  · rw [h, if_pos rfl]
    have e2 : wrap64 (-wrap64 ((0 : Nat) : Int)) = 0 := by unfold wrap64; omega
    rw [e2]
    show IntKind.i64.wrap ((BitVec.ofInt 64 ((x.toNat : Int) / 2) ^^^ BitVec.ofInt 64 0).toNat : Int) = _
    have : BitVec.ofInt 64 0 = 0#64 := by decide
    rw [this, BitVec.xor_zero, BitVec.toNat_ofInt, IntKind.wrap_i64]
    simp; omega
  · rw [h, if_neg (by decide)]
    have e2 : wrap64 (-wrap64 ((1 : Nat) : Int)) = -1 := by unfold wrap64; omega
    rw [e2]
    show IntKind.i64.wrap ((BitVec.ofInt 64 ((x.toNat : Int) / 2) ^^^ BitVec.ofInt 64 (-1)).toNat : Int) = _
    have : BitVec.ofInt 64 (-1) = BitVec.allOnes 64 := by decide
    rw [this, BitVec.xor_allOnes, BitVec.toNat_not, BitVec.toNat_ofInt, IntKind.wrap_i64]
    simp; omega

/-! ### the lowest bits -/
def low (x : BitVec 64) (n : Int) : BitVec 64 := if n ≤ 0 then 0#64 else if 64 ≤ n then x else BitVec.ofNat 64 (x.toNat % 2 ^ n.toNat)
theorem low_zero (x : BitVec 64) (n : Int) (h : n ≤ 0) : 0 = ((low x n).toNat : Int) := by unfold low; rw [if_pos h]; rfl
theorem low_all (x : BitVec 64) (n : Int) (h : 64 ≤ n) : (x.toNat : Int) = ((low x n).toNat : Int) := by unfold low; rw [if_neg (by omega), if_pos h]
theorem low_mid (x : BitVec 64) (n : Int) (h0 : 0 < n) (h1 : n < 64) : (low x n).toNat = x.toNat % 2 ^ n.toNat := by
  unfold low
  rw [if_neg (by omega), if_neg (by omega), BitVec.toNat_ofNat]
  exact Nat.mod_eq_of_lt (Nat.lt_of_le_of_lt (Nat.mod_le _ _) x.isLt)
theorem low_mask (x : BitVec 64) (n : Int) (h0 : 0 < n) (h1 : n < 64) :
    bits .and .u64 (x.toNat : Int) (IntKind.u64.wrap (IntKind.u64.wrap (2 ^ n.toNat) - 1)) = ((low x n).toNat : Int) := by
  obtain ⟨k, rfl⟩ : ∃ k : Nat, n = k := ⟨n.toNat, by omega⟩
  have hk : k < 64 := by omega
  have hp : (2 : Nat) ^ k < 2 ^ 64 := Nat.pow_lt_pow_right (by decide) hk
  have hp0 := Nat.two_pow_pos k
  have e1 : IntKind.u64.wrap (2 ^ (k : Int).toNat) = ((2 ^ k : Nat) : Int) := by
    have e : (2 : Int) ^ k = ((2 ^ k : Nat) : Int) := by simp
    rw [Int.toNat_natCast, e, IntKind.wrap_u64]; omega
  have e2 : IntKind.u64.wrap (((2 ^ k : Nat) : Int) - 1) = ((2 ^ k - 1 : Nat) : Int) := by
    rw [IntKind.wrap_u64]; omega
  have hx := x.isLt
  rw [e1, e2, u64_and_nat _ _ (by omega) (by omega), low_mid x _ h0 h1, Nat.and_two_pow_sub_one_eq_mod]
  rfl

/-! ### powers and bits, as the loops reckon them -/
theorem pw_zero : (1 : Int) = ((pw 0).toNat : Int) := by decide
theorem pw_succ (k : Nat) : IntKind.u64.wrap (((pw k).toNat : Int) * 2) = ((pw (k + 1)).toNat : Int) := by
  unfold pw
  rw [IntKind.wrap_u64, BitVec.toNat_shiftLeft, BitVec.toNat_shiftLeft, Nat.shiftLeft_eq, Nat.shiftLeft_eq, Nat.pow_succ]
  simp
  omega
def shr (x : BitVec 64) (k : Nat) : BitVec 64 := x >>> k
def shl (x : BitVec 64) (k : Nat) : BitVec 64 := x <<< k
theorem shr_zero (x : BitVec 64) : (x.toNat : Int) = ((shr x 0).toNat : Int) := by simp [shr]
theorem shr_succ (x : BitVec 64) (k : Nat) : ((shr x k).toNat : Int) / 2 = ((shr x (k + 1)).toNat : Int) := by
  unfold shr
  rw [BitVec.shiftRight_add, ← shr_bv (x >>> k) 1]
  rfl
theorem shr_form (x : BitVec 64) (n : Int) : (x.toNat : Int) / 2 ^ min n.toNat 64 = ((shr x n.toNat).toNat : Int) := by
  rw [shr_bv, shr_min]; rfl
theorem shl_form (x : BitVec 64) (n : Int) : IntKind.u64.wrap ((x.toNat : Int) * 2 ^ min n.toNat 64) = ((shl x n.toNat).toNat : Int) := by
  rw [shl_bv, shl_min]; rfl
theorem bit_form (x : BitVec 64) (i : Nat) : ((shr x i).toNat : Int) % 2 = ((bit x i).toNat : Int) := by
  unfold bit shr
  have h : x.getLsbD i = decide ((x >>> i).toNat % 2 = 1) := by
    rw [BitVec.toNat_ushiftRight, Nat.shiftRight_eq_div_pow, ← Nat.testBit_eq_decide_div_mod_eq]; rfl
  rw [h]
  have h0 : (((0#64 : BitVec 64).toNat : Nat) : Int) = 0 := by decide
  have h1 : (((1#64 : BitVec 64).toNat : Nat) : Int) = 1 := by decide
  generalize (x >>> i).toNat = m
  rcases Nat.mod_two_eq_zero_or_one m with e | e
  · rw [if_neg (by simp only [decide_eq_true_eq]; omega), h0]; omega
  · rw [if_pos (by simp only [decide_eq_true_eq]; omega), h1]; omega
theorem mod_form (n : Int) : (wrap64 (n.tmod 64 + 64)).tmod 64 = n % 64 := by
  have h1 : -64 < n.tmod 64 := by have := Int.lt_tmod_of_pos n (b := 64) (by decide); omega
  have h2 : n.tmod 64 < 64 := Int.tmod_lt_of_pos n (by decide)
  have h3 : n % 64 = (n.tmod 64 + 64) % 64 := by
    rw [Int.add_emod_right]
    have := Int.tmod_add_mul_tdiv n 64
    omega
  unfold wrap64
  rw [Int.tmod_eq_emod_of_nonneg (by omega), h3]
  omega
theorem pw_pos (i : Nat) (hi : i < 64) : 0 < (pw i).toNat := by
  unfold pw
  have h : (2 : Nat) ^ i < 2 ^ 64 := Nat.pow_lt_pow_right (by decide) (by omega)
  have := Nat.two_pow_pos i
  rw [BitVec.toNat_shiftLeft, Nat.shiftLeft_eq]; simp; omega
theorem low_mod (x : BitVec 64) (i : Nat) (h0 : (0 : Int) < i) (h1 : (i : Int) < 64) : (x.toNat : Int) % ((pw i).toNat : Int) = ((low x i).toNat : Int) := by
  have hp : (pw i).toNat = 2 ^ i := by
    unfold pw
    have : (2 : Nat) ^ i < 2 ^ 64 := Nat.pow_lt_pow_right (by decide) (by omega)
    rw [BitVec.toNat_shiftLeft, Nat.shiftLeft_eq]; simp; omega
  rw [hp, low_mid x _ h0 h1]
  rfl
theorem shr_pw (x : BitVec 64) (i : Nat) (hi : i < 64) : (x.toNat : Int) / ((pw i).toNat : Int) = ((shr x i).toNat : Int) := by
  unfold shr
  have hp : (pw i).toNat = 2 ^ i := by
    unfold pw
    have : (2 : Nat) ^ i < 2 ^ 64 := Nat.pow_lt_pow_right (by decide) (by omega)
    rw [BitVec.toNat_shiftLeft, Nat.shiftLeft_eq]; simp; omega
  rw [hp, ← shr_bv]
  simp
/-! ### Part -/
def part (x : BitVec 64) (f n : Int) : BitVec 64 := low (shr x (max f 0).toNat) n
theorem part_neg (x : BitVec 64) (f n : Int) (h : f < 0) : part x f n = low (shr x 0) n := by unfold part; rw [Int.max_eq_right (by omega)]; rfl
theorem part_pos (x : BitVec 64) (f n : Int) (h : 0 ≤ f) : part x f n = low (shr x f.toNat) n := by unfold part; rw [Int.max_eq_left h]
theorem low_of_zero (n : Int) : low 0#64 n = 0#64 := by
  unfold low
  split
  · rfl
  · split
    · rfl
    · simp
theorem part_big (x : BitVec 64) (f n : Int) (h : 63 < f) : 0 = ((part x f n).toNat : Int) := by
  unfold part shr
  rw [BitVec.ushiftRight_eq_zero (by omega), low_of_zero]; rfl

/-! ### Rot -/
theorem rot_by (n : Int) : bits .and .u64 (IntKind.u64.wrap (n.tmod 64)) 63 = n % 64 := by
  have h1 : -64 < n.tmod 64 := by have := Int.lt_tmod_of_pos n (b := 64) (by decide); omega
  have h2 : n.tmod 64 < 64 := Int.tmod_lt_of_pos n (by decide)
  have h3 := Int.tmod_add_mul_tdiv n 64
  have e : IntKind.u64.wrap (n.tmod 64) = ((n.tmod 64 % 18446744073709551616).toNat : Int) := by rw [IntKind.wrap_u64]; omega
  rw [e]
  show bits .and .u64 (((n.tmod 64 % 18446744073709551616).toNat : Nat) : Int) ((63 : Nat) : Int) = _
  rw [u64_and_nat _ _ (by omega) (by omega), nat_mask6]
  omega
theorem rot_form (x : BitVec 64) (n : Int) :
    bits .or .u64 (IntKind.u64.wrap ((x.toNat : Int) * 2 ^ (n % 64).toNat)) ((x.toNat : Int) / 2 ^ (64 - n % 64).toNat) = ((rotv x (n % 64).toNat).toNat : Int) := by
  rw [shl_bv, shr_bv, or_ofInt, ofInt_nat, ofInt_nat]
  unfold rotv
  rw [show (64 - n % 64).toNat = 64 - (n % 64).toNat by omega]
theorem sum_zero (x : BitVec 64) (p : Nat → Nat) : (0 : Int) = ((sum x p 0).toNat : Int) := rfl
theorem sum_step (x : BitVec 64) (p : Nat → Nat) (k j : Nat) (h : j = p k) :
    IntKind.u64.wrap (((sum x p k).toNat : Int) + IntKind.u64.wrap (((bit x k).toNat : Int) * ((pw j).toNat : Int))) = ((sum x p (k + 1)).toNat : Int) := by
  rw [mul_bv, add_bv, h]; rfl
/-! ### Turn -/
def land (x : BitVec 64) (m : Int) : BitVec 64 := x &&& BitVec.ofInt 64 m
def lor (x y : BitVec 64) : BitVec 64 := x ||| y
theorem land_form (x : BitVec 64) (m : Int) : bits .and .u64 (x.toNat : Int) m = ((land x m).toNat : Int) := by rw [and_ofInt, ofInt_nat]; rfl
theorem lor_form (x y : BitVec 64) : bits .or .u64 (x.toNat : Int) (y.toNat : Int) = ((lor x y).toNat : Int) := by rw [or_ofInt, ofInt_nat, ofInt_nat]; rfl
theorem step_form (x m : BitVec 64) (i : Int) (s : Nat) (h : BitVec.ofInt 64 i = m) : lor (land (shr x s) i) (shl (land x i) s) = step x m s := by
  unfold lor land shr shl step; rw [h]

theorem of_wf {n : Int} (h : (Lit.int .u64 n).wf = true) : ∃ x : BitVec 64, n = (x.toNat : Int) := by
  obtain ⟨h0, h1⟩ := bounds_u64 h
  refine ⟨BitVec.ofInt 64 n, ?_⟩
  rw [BitVec.toNat_ofInt]
  simp; omega

/-! ### Zig and Zag undo each other -/
theorem zig_nat (n : Int) (h0 : -9223372036854775808 ≤ n) (h1 : n ≤ 9223372036854775807) : ∃ y : BitVec 64, zig n = (y.toNat : Int) := by
  refine ⟨BitVec.ofInt 64 (zig n), ?_⟩
  rw [BitVec.toNat_ofInt]
  unfold zig
  split <;> simp <;> omega
theorem zag_bounds (x : BitVec 64) : -9223372036854775808 ≤ zag x.toNat ∧ zag x.toNat ≤ 9223372036854775807 := by
  have := x.isLt
  unfold zag
  split <;> omega
theorem zag_zig (n : Int) (h0 : -9223372036854775808 ≤ n) (h1 : n ≤ 9223372036854775807) (y : BitVec 64) (h : zig n = (y.toNat : Int)) : zag y.toNat = n := by
  unfold zig at h
  unfold zag
  split at h <;> split <;> omega
theorem zig_zag (x : BitVec 64) : zig (zag x.toNat) = (x.toNat : Int) := by
  unfold zig zag
  split <;> split <;> omega

/-! ### halves, the lowest and the highest bit -/
theorem half_hi (x : BitVec 64) : (x.toNat : Int) / 4294967296 % 4294967296 = (x.toNat : Int) / 4294967296 := by
  have := x.isLt; omega
theorem whole_form (x : BitVec 64) : bits .or .u64 (IntKind.u64.wrap (((x.toNat : Int) / 4294967296) * 4294967296)) ((x.toNat : Int) % 4294967296) = (x.toNat : Int) := by
  have hx := x.isLt
  have e1 : IntKind.u64.wrap (((x.toNat : Int) / 4294967296) * 4294967296) = ((x.toNat / 4294967296 * 4294967296 : Nat) : Int) := by rw [IntKind.wrap_u64]; omega
  have e2 : (x.toNat : Int) % 4294967296 = ((x.toNat % 4294967296 : Nat) : Int) := by omega
  rw [e1, e2, u64_or_nat _ _ (by omega) (by omega), nat_join 32 _ _ (by omega) (by omega)]
  omega
theorem whole_form2 (x : BitVec 64) : bits .or .u64 (((x.toNat : Int) / 4294967296) * 4294967296) ((x.toNat : Int) % 4294967296) = (x.toNat : Int) := by
  have hx := x.isLt
  have h := whole_form x
  rw [show IntKind.u64.wrap (((x.toNat : Int) / 4294967296) * 4294967296) = ((x.toNat : Int) / 4294967296) * 4294967296 by rw [IntKind.wrap_u64]; omega] at h
  exact h
theorem trail_ctz (x : BitVec 64) : trail x.toNat 64 = Lib.ctz 64 x.toNat := by
  unfold Lib.ctz
  by_cases h0 : x.toNat = 0
  · rw [if_pos h0, h0]
    exact trail_unique 0 64 (Nat.le_refl _) (fun j _ => Nat.zero_testBit j) (fun h => absurd h (Nat.lt_irrefl _))
  · rw [if_neg h0]
    obtain ⟨m, hm, hc⟩ := Lib.ctzFrom_spec 64 x.toNat (Nat.pos_of_ne_zero h0) x.isLt
    generalize Lib.ctzFrom 64 x.toNat = c at hm hc ⊢
    refine trail_unique _ _ (Nat.le_of_lt hc) (fun j hj => ?_) (fun _ => ?_)
    · rw [hm, Nat.testBit_two_pow_mul]; simp; omega
    · rw [hm, Nat.testBit_two_pow_mul]; simp
theorem len_bitLen (x : BitVec 64) : len x.toNat = Lib.bitLen x.toNat := by
  have key : ∀ f m, m < 2 ^ f → Lib.bitLenAux f m = len m := by
    intro f
    induction f with
    | zero => intro m hm; simp at hm; subst hm; rw [len_zero]; rfl
    | succ f ih =>
      intro m hm
      unfold Lib.bitLenAux
      by_cases h : m = 0
      · rw [if_pos h, h, len_zero]
      · rw [if_neg h, len_pos m h, ih (m / 2) (by rw [Nat.pow_succ] at hm; omega)]; omega
  unfold Lib.bitLen
  exact (key 64 x.toNat x.isLt).symm
theorem tz_or (x : BitVec 64) : x = 0#64 ∨ x.toNat ≠ 0 := by
  by_cases h : x.toNat = 0
  · exact .inl (BitVec.eq_of_toNat_eq (by simpa using h))
  · exact .inr h
def clr (x : BitVec 64) : BitVec 64 := x &&& (x - 1#64)
theorem clr_form (x : BitVec 64) (h : x.toNat ≠ 0) : bits .and .u64 (x.toNat : Int) (IntKind.u64.wrap ((x.toNat : Int) - 1)) = ((clr x).toNat : Int) := by
  have e : (1 : Int) = ((1#64).toNat : Int) := by decide
  rw [e, sub_bv, and_ofInt, ofInt_nat, ofInt_nat]; rfl
theorem cnt_clr (x : BitVec 64) (h : x.toNat ≠ 0) : cnt (clr x).toNat + 1 = cnt x.toNat := by
  unfold clr
  have e : (x - 1#64).toNat = x.toNat - 1 := by rw [BitVec.toNat_sub]; have := x.isLt; simp; omega
  rw [BitVec.toNat_and, e]
  exact cnt_clear _ (Nat.pos_of_ne_zero h)
theorem bit_nat (x : BitVec 64) (i : Nat) : (bit x i).toNat = x.toNat / 2 ^ i % 2 := by
  have h := bit_form x i
  unfold shr at h
  rw [BitVec.toNat_ushiftRight, Nat.shiftRight_eq_div_pow] at h
  omega
theorem trail_step (x : Nat) (k : Nat) (h : k < 64) (hb : x / 2 ^ k % 2 ≠ 1) : trail x (64 - k) = trail x (64 - (k + 1)) := by
  obtain ⟨d, hd⟩ : ∃ d, 64 - k = d + 1 := ⟨63 - k, by omega⟩
  rw [hd, trail, if_neg (by rw [show 63 - d = k by omega]; exact hb)]
  congr 1; omega
theorem trail_stop (x : Nat) (k : Nat) (h : k < 64) (hb : x / 2 ^ k % 2 = 1) : trail x (64 - k) = k := by
  obtain ⟨d, hd⟩ : ∃ d, 64 - k = d + 1 := ⟨63 - k, by omega⟩
  rw [hd, trail, if_pos (by rw [show 63 - d = k by omega]; exact hb)]
  omega
/-! ### what is turned and put back -/
theorem rot_back (x : BitVec 64) (s : Nat) (hs : s < 64) : rotv (rotv x s) ((64 - s) % 64) = x := by
  apply BitVec.eq_of_getLsbD_eq
  intro j hj
  rw [rotv_get _ _ (by omega) j hj, rotv_get _ _ hs _ (by omega)]
  congr 1; omega
theorem neg_rem (n : Int) : (-(n.tmod 64)) % 64 = (64 - n % 64) % 64 := by
  have h3 := Int.tmod_add_mul_tdiv n 64
  omega
theorem turn_back (x : BitVec 64) : turnv (turnv x) = x := by
  apply BitVec.eq_of_getLsbD_eq
  intro j hj
  rw [turnv_get _ j hj, turnv_get _ _ (by omega)]
  congr 1; omega
theorem len_turn (x : BitVec 64) : (len x.toNat : Int) = 64 - (trail (turnv x).toNat 64 : Nat) := by
  have hl := len_le x.toNat x.isLt
  have h : trail (turnv x).toNat 64 = 64 - len x.toNat := by
    have tb : ∀ j, j < 64 → (turnv x).toNat.testBit j = x.toNat.testBit (63 - j) := fun j hj => turnv_get x j hj
    refine trail_unique _ _ (by omega) (fun j hj => ?_) (fun h => ?_)
    · rw [tb j (by omega)]
      exact Nat.testBit_lt_two_pow (Nat.lt_of_lt_of_le (len_lt x.toNat) (Nat.pow_le_pow_right (by decide) (by omega)))
    · rw [tb _ h]
      have h0 : x.toNat ≠ 0 := by intro e; rw [e, len_zero] at h; omega
      have hp : 0 < len x.toNat := by rw [len_pos _ h0]; omega
      rw [show 63 - (64 - len x.toNat) = len x.toNat - 1 by omega, Nat.testBit_eq_decide_div_mod_eq]
      have a := len_lt x.toNat
      have b := len_ge x.toNat h0
      have e : 2 ^ len x.toNat = 2 ^ (len x.toNat - 1) * 2 := by rw [← Nat.pow_succ]; congr 1; omega
      have hq : x.toNat / 2 ^ (len x.toNat - 1) = 1 := by
        apply Nat.div_eq_of_lt_le
        · omega
        · omega
      rw [hq]; rfl
  omega
theorem cnt_rot (x : BitVec 64) (s : Nat) (hs : s < 64) : cnt (rotv x s).toNat = cnt x.toNat := by
  have hx := x.isLt
  have hp : 2 ^ s * 2 ^ (64 - s) = 2 ^ 64 := by rw [← Nat.pow_add]; congr 1; omega
  have hq : x.toNat / 2 ^ (64 - s) < 2 ^ s := by rw [Nat.div_lt_iff_lt_mul (Nat.two_pow_pos _), hp]; exact hx
  have hr : x.toNat % 2 ^ (64 - s) < 2 ^ (64 - s) := Nat.mod_lt _ (Nat.two_pow_pos _)
  have e : (rotv x s).toNat = x.toNat % 2 ^ (64 - s) * 2 ^ s + x.toNat / 2 ^ (64 - s) := by
    unfold rotv
    rw [BitVec.toNat_or, BitVec.toNat_shiftLeft, BitVec.toNat_ushiftRight, Nat.shiftLeft_eq, Nat.shiftRight_eq_div_pow]
    have e1 : x.toNat * 2 ^ s % 2 ^ 64 = x.toNat % 2 ^ (64 - s) * 2 ^ s := by
      rw [← hp, Nat.mul_comm (2 ^ s), Nat.mul_mod_mul_right]
    rw [e1]
    exact nat_join s _ _ (by rw [Nat.mul_mod_left]) hq
  rw [e, cnt_join s _ _ hq]
  have e2 : x.toNat = x.toNat / 2 ^ (64 - s) * 2 ^ (64 - s) + x.toNat % 2 ^ (64 - s) := by
    have := Nat.div_add_mod x.toNat (2 ^ (64 - s)); rw [Nat.mul_comm] at this; omega
  conv => rhs; rw [e2]
  rw [cnt_join (64 - s) _ _ hr]
  omega
def lowpart (x : BitVec 64) (n : Int) : BitVec 64 := low x n + shl (part x n 64) n.toNat
theorem low_part (x : BitVec 64) (n : Int) (h0 : 0 ≤ n) (h1 : n < 64) : low x n + shl (part x n 64) n.toNat = x := by
  obtain ⟨k, rfl⟩ : ∃ k : Nat, n = k := ⟨n.toNat, by omega⟩
  rw [part_pos x k 64 (by omega)]
  have e : low (shr x (k : Int).toNat) 64 = shr x k := by unfold low; rw [if_neg (by decide), if_pos (by decide)]; rfl
  rw [e]
  apply BitVec.eq_of_toNat_eq
  have hx := x.isLt
  have hlow : (low x k).toNat = x.toNat % 2 ^ k := by
    by_cases hk : k = 0
    · subst hk; rw [Nat.pow_zero, Nat.mod_one]; rfl
    · exact low_mid x k (by omega) (by omega)
  unfold shl shr
  rw [BitVec.toNat_add, BitVec.toNat_shiftLeft, BitVec.toNat_ushiftRight, Nat.shiftLeft_eq, Nat.shiftRight_eq_div_pow, hlow, Int.toNat_natCast]
  have := Nat.div_add_mod x.toNat (2 ^ k)
  rw [Nat.mul_comm] at this
  omega
end Pl
end Go.Proofs.YtfajoaodipoojaaDoor
