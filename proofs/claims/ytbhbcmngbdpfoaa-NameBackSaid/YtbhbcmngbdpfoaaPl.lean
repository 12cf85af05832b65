/- The plain laws of names (layer 6): lists of bytes, padded to eight; numbers of eight bytes: no Go in sight. -/
import Derived.WalkKit
import Derived.RowKit
import Derived.OpenShut
namespace Go.Proofs.Ytbhbcmngbdpfoaa
namespace Pl
open Go.RowKit
set_option linter.unusedVariables false
set_option linter.unusedSimpArgs false

def letterB (c : UInt8) : Bool := decide (97 ≤ c.toNat) && decide (c.toNat ≤ 122)
def otherB (c : UInt8) : Bool := letterB c || (decide (48 ≤ c.toNat) && decide (c.toNat ≤ 57)) || decide (c.toNat = 45)
def zeroB (c : UInt8) : Bool := decide (c.toNat = 0)
def text (l : List UInt8) : List UInt8 := l.takeWhile fun c => !zeroB c
def sz (l : List UInt8) : Nat := (text l).length
def pad (l : List UInt8) : List UInt8 := (l ++ List.replicate 8 0).take 8
def isName (l : List UInt8) : Bool := decide (1 ≤ l.length) && decide (l.length ≤ 8) && letterB (l.getD 0 0) && l.all otherB
def right (l : List UInt8) : Bool := isName (text l) && decide (pad (text l) = l)

theorem sz_le (l : List UInt8) : sz l ≤ l.length := by unfold sz text; exact (List.takeWhile_sublist _).length_le
theorem text_take (l : List UInt8) : text l = l.take (sz l) := by
  unfold sz text
  induction l with
  | nil => rfl
  | cons c l ih =>
    rw [List.takeWhile_cons]
    split
    · rw [List.length_cons, List.take_succ_cons, ← ih]
    · rfl
theorem sz_lt (l : List UInt8) (k : Nat) (h : k < sz l) : zeroB (l.getD k 0) = false := by
  unfold sz text at h
  induction l generalizing k with
  | nil => simp at h
  | cons c l ih =>
    rw [List.takeWhile_cons] at h
    split at h
    · rename_i hc
      cases k with
      | zero => simpa using hc
      | succ k => rw [List.getD_cons_succ]; exact ih k (by simpa using h)
    · simp at h
theorem sz_at (l : List UInt8) (h : sz l < l.length) : zeroB (l.getD (sz l) 0) = true := by
  unfold sz text at h ⊢
  induction l with
  | nil => simp at h
  | cons c l ih =>
    rw [List.takeWhile_cons] at h ⊢
    split
    · rename_i hc
      rw [if_pos hc] at h
      rw [List.length_cons, List.getD_cons_succ]
      exact ih (by simpa using h)
    · rename_i hc
      rw [List.length_nil, List.getD_cons_zero]
      simpa using hc
theorem sz_unique (l : List UInt8) (k : Nat) (hk : k ≤ l.length) (h : ∀ j, j < k → zeroB (l.getD j 0) = false) (h2 : k < l.length → zeroB (l.getD k 0) = true) : sz l = k := by
  apply Nat.le_antisymm
  · apply Nat.le_of_not_lt
    intro hlt
    have a := sz_lt l k hlt
    rw [h2 (Nat.lt_of_lt_of_le hlt (sz_le l))] at a
    exact Bool.noConfusion a
  · apply Nat.le_of_not_lt
    intro hlt
    have a := h _ hlt
    rw [sz_at l (Nat.lt_of_lt_of_le hlt hk)] at a
    exact Bool.noConfusion a

theorem other_nz (c : UInt8) (h : otherB c = true) : zeroB c = false := by
  unfold otherB letterB zeroB at *
  simp only [Bool.or_eq_true, Bool.and_eq_true, decide_eq_true_eq, decide_eq_false_iff_not] at *
  omega
theorem letter_other (c : UInt8) (h : letterB c = true) : otherB c = true := by unfold otherB; rw [h]; rfl
theorem text_of_nz (l r : List UInt8) (h : l.all (fun c => !zeroB c) = true) : text (l ++ r) = l ++ text r := by
  unfold text
  rw [List.takeWhile_append_of_pos]
  simpa using h
theorem text_zeros (n : Nat) : text (List.replicate n 0) = [] := by
  unfold text
  cases n with
  | zero => rfl
  | succ n => rfl
theorem pad_short (l : List UInt8) (h : l.length ≤ 8) : pad l = l ++ List.replicate (8 - l.length) 0 := by
  unfold pad
  rw [List.take_append, List.take_of_length_le h, List.take_replicate, Nat.min_eq_left (by omega)]
theorem pad_length (l : List UInt8) (h : l.length ≤ 8) : (pad l).length = 8 := by rw [pad_short l h]; simp; omega
theorem all_nz (l : List UInt8) (h : l.all otherB = true) : l.all (fun c => !zeroB c) = true := by
  rw [List.all_eq_true] at *
  intro c hc
  rw [other_nz c (h c hc)]; rfl

/-- what the program asks of an array: its first byte, those ahead of the first zero, those behind it -/
theorem right_form (l : List UInt8) (hl : l.length = 8) : (letterB (l.getD 0 0) && ((l.take (sz l)).all otherB && (l.drop (sz l)).all zeroB)) = right l := by
  have hs := sz_le l
  unfold right
  rw [Bool.eq_iff_iff]
  constructor
  · intro h
    simp only [Bool.and_eq_true] at h
    obtain ⟨h1, h2, h3⟩ := h
    have hp : 0 < sz l := by
      apply Nat.pos_of_ne_zero
      intro e
      have := sz_at l (by omega)
      rw [e] at this
      have := other_nz _ (letter_other _ h1)
      simp_all
    have hd : l.drop (sz l) = List.replicate (8 - sz l) 0 := by
      rw [List.eq_replicate_iff]
      refine ⟨by simp [hl], fun c hc => ?_⟩
      have := List.all_eq_true.1 h3 c hc
      unfold zeroB at this
      exact UInt8.toNat_inj.1 (by simpa using this)
    simp only [Bool.and_eq_true, decide_eq_true_eq]
    refine ⟨?_, ?_⟩
    · unfold isName
      rw [text_take]
      simp only [Bool.and_eq_true, decide_eq_true_eq]
      refine ⟨⟨⟨?_, ?_⟩, ?_⟩, h2⟩
      · simp; omega
      · simp; omega
      · rw [List.getD_eq_getElem?_getD, List.getElem?_take_of_lt hp, ← List.getD_eq_getElem?_getD]; exact h1
    · rw [text_take, pad_short _ (by simp; omega), List.length_take, Nat.min_eq_left (by omega), ← hd, List.take_append_drop]
  · intro h
    simp only [Bool.and_eq_true, decide_eq_true_eq] at h
    obtain ⟨h1, h2⟩ := h
    unfold isName at h1
    simp only [Bool.and_eq_true, decide_eq_true_eq] at h1
    obtain ⟨⟨⟨a, b⟩, c⟩, d⟩ := h1
    have e : (text l).length = sz l := rfl
    simp only [Bool.and_eq_true]
    refine ⟨?_, ?_, ?_⟩
    · rw [text_take, List.getD_eq_getElem?_getD, List.getElem?_take_of_lt (by omega), ← List.getD_eq_getElem?_getD] at c; exact c
    · rw [← text_take]; exact d
    · have hd : l.drop (sz l) = List.replicate (8 - sz l) 0 := by
        rw [pad_short _ b, e] at h2
        have := congrArg (List.drop (sz l)) h2
        rw [← this, ← e, List.drop_left]
      rw [hd]; simp [zeroB]

/-- what the program asks of a text -/
theorem of_form (l : List UInt8) (h8 : l.length ≤ 8) : (decide (l ≠ []) && (decide (text (pad l) = l) && right (pad l))) = isName l := by
  have hp := pad_short l h8
  rw [Bool.eq_iff_iff]
  simp only [Bool.and_eq_true, decide_eq_true_eq]
  constructor
  · rintro ⟨h1, h2, h3⟩
    unfold right at h3
    rw [h2] at h3
    simp only [Bool.and_eq_true] at h3
    exact h3.1
  · intro h
    have h' := h
    unfold isName at h'
    simp only [Bool.and_eq_true, decide_eq_true_eq] at h'
    obtain ⟨⟨⟨a, b⟩, c⟩, d⟩ := h'
    have ht : text (pad l) = l := by rw [hp, text_of_nz _ _ (all_nz l d), text_zeros, List.append_nil]
    refine ⟨by intro e; subst e; simp at a, ht, ?_⟩
    unfold right
    rw [ht, h]; simp

theorem text_len (l : List UInt8) (h : l.length = 8) : (text l).length ≤ 8 := by have := sz_le l; unfold sz at this; omega
theorem right_back (l : List UInt8) (h : l.length = 8) (hr : right l = true) : isName (text l) = true ∧ pad (text l) = l := by
  unfold right at hr
  simpa using hr
theorem right_some (l : List UInt8) (h : l.length = 8) (hr : right l = true) : l ≠ List.replicate 8 0 := by
  intro e
  have := (right_back l h hr).1
  rw [e, text_zeros] at this
  simp [isName] at this
theorem all_step (l : List UInt8) (p : UInt8 → Bool) (k : Nat) (h : k < l.length) : (l.take (k + 1)).all p = ((l.take k).all p && p (l.getD k 0)) := by
  rw [List.take_succ_eq_append_getElem h, List.all_append, List.getD_eq_getElem?_getD, List.getElem?_eq_getElem h]; simp
theorem all_no (l : List UInt8) (p : UInt8 → Bool) (k : Nat) (h : k < l.length) (hv : p (l.getD k 0) = false) (ha : l.all p = true) : False := by
  have := List.all_eq_true.1 ha (l.getD k 0) (by rw [List.getD_eq_getElem?_getD, List.getElem?_eq_getElem h]; exact List.getElem_mem h)
  rw [hv] at this; exact Bool.noConfusion this
theorem zero_no (c : UInt8) (h : zeroB c = false) : ((c.toNat : Int) == 0) = false := by
  unfold zeroB at h; simp only [decide_eq_false_iff_not] at h; rw [beq_eq_false_iff_ne]; omega
theorem zero_yes (c : UInt8) (h : zeroB c = true) : ((c.toNat : Int) == 0) = true := by
  unfold zeroB at h; simp only [decide_eq_true_eq] at h; rw [beq_iff_eq]; omega
theorem getD_take (l : List UInt8) (k i : Nat) (h : i < k) : (l.take k).getD i 0 = l.getD i 0 := by
  rw [List.getD_eq_getElem?_getD, List.getElem?_take_of_lt h, ← List.getD_eq_getElem?_getD]
theorem getD_drop (l : List UInt8) (k i : Nat) : (l.drop k).getD i 0 = l.getD (k + i) 0 := by
  rw [List.getD_eq_getElem?_getD, List.getElem?_drop, ← List.getD_eq_getElem?_getD]
def str (l : List UInt8) : ByteArray := ⟨l.toArray⟩
theorem str_size (l : List UInt8) : (str l).size = l.length := by simp [str, ByteArray.size]
theorem str_of (s : ByteArray) : ∃ l : List UInt8, s = str l := ⟨s.data.toList, by simp [str]⟩
theorem str_inj (a b : List UInt8) : (str a = str b) ↔ a = b := by
  constructor
  · intro h; have := congrArg (fun s : ByteArray => s.data.toList) h; simpa [str] using this
  · intro h; rw [h]
theorem str_app (a b : List UInt8) : str a ++ str b = str (a ++ b) := by
  apply ByteArray.ext; simp [str]
/-- a number of eight bytes: one byte more -/
def step (x : BitVec 64) (c : UInt8) : BitVec 64 := x * 256#64 + BitVec.ofNat 64 c.toNat
def num (l : List UInt8) : BitVec 64 := l.foldl step 0#64
theorem step_toNat (x : BitVec 64) (c : UInt8) (h : x.toNat < 2 ^ 56) : (step x c).toNat = x.toNat * 256 + c.toNat := by
  have := c.toNat_lt
  unfold step
  rw [BitVec.toNat_add, BitVec.toNat_mul, BitVec.toNat_ofNat]
  simp; omega
theorem ofInt_nat (x : BitVec 64) : BitVec.ofInt 64 (x.toNat : Int) = x := by rw [BitVec.ofInt_natCast]; simp
theorem step_or (x : BitVec 64) (c : UInt8) : bits .or .u64 (IntKind.u64.wrap ((x.toNat : Int) * 256)) (c.toNat : Int) = ((step x c).toNat : Int) := by
  have hc := c.toNat_lt
  have e1 : IntKind.u64.wrap ((x.toNat : Int) * 256) = ((x.toNat * 256 % 2 ^ 64 : Nat) : Int) := by rw [IntKind.wrap_u64]; omega
  rw [e1, u64_or_nat _ _ (by omega) (by omega)]
  have e2 : (x.toNat * 256 % 2 ^ 64) ||| c.toNat = x.toNat * 256 % 2 ^ 64 + c.toNat := nat_join 8 _ _ (by omega) (by omega)
  rw [e2]
  unfold step
  rw [BitVec.toNat_add, BitVec.toNat_mul, BitVec.toNat_ofNat]
  simp; omega
theorem step_add (x : BitVec 64) (c : UInt8) : IntKind.u64.wrap (IntKind.u64.wrap (256 * (x.toNat : Int)) + (c.toNat : Int)) = ((step x c).toNat : Int) := by
  have hc := c.toNat_lt
  unfold step
  rw [IntKind.wrap_u64, IntKind.wrap_u64, BitVec.toNat_add, BitVec.toNat_mul, BitVec.toNat_ofNat]
  simp; omega
theorem wrap_byte (c : UInt8) : IntKind.u64.wrap (c.toNat : Int) = (c.toNat : Int) := by
  have := c.toNat_lt
  rw [IntKind.wrap_u64]; omega
def byteAt (x : BitVec 64) (i : Nat) : UInt8 := UInt8.ofNat (x.toNat / 2 ^ (8 * (7 - i)))
theorem byte0 (x : BitVec 64) : IntKind.u8.wrap ((x.toNat : Int) / 72057594037927936) = ((byteAt x 0).toNat : Int) := by
  unfold byteAt
  rw [IntKind.wrap_u8', UInt8.toNat_ofNat']
  simp
theorem byte1 (x : BitVec 64) : IntKind.u8.wrap ((x.toNat : Int) / 281474976710656) = ((byteAt x 1).toNat : Int) := by
  unfold byteAt
  rw [IntKind.wrap_u8', UInt8.toNat_ofNat']
  simp
theorem byte2 (x : BitVec 64) : IntKind.u8.wrap ((x.toNat : Int) / 1099511627776) = ((byteAt x 2).toNat : Int) := by
  unfold byteAt
  rw [IntKind.wrap_u8', UInt8.toNat_ofNat']
  simp
theorem byte3 (x : BitVec 64) : IntKind.u8.wrap ((x.toNat : Int) / 4294967296) = ((byteAt x 3).toNat : Int) := by
  unfold byteAt
  rw [IntKind.wrap_u8', UInt8.toNat_ofNat']
  simp
theorem byte4 (x : BitVec 64) : IntKind.u8.wrap ((x.toNat : Int) / 16777216) = ((byteAt x 4).toNat : Int) := by
  unfold byteAt
  rw [IntKind.wrap_u8', UInt8.toNat_ofNat']
  simp
theorem byte5 (x : BitVec 64) : IntKind.u8.wrap ((x.toNat : Int) / 65536) = ((byteAt x 5).toNat : Int) := by
  unfold byteAt
  rw [IntKind.wrap_u8', UInt8.toNat_ofNat']
  simp
theorem byte6 (x : BitVec 64) : IntKind.u8.wrap ((x.toNat : Int) / 256) = ((byteAt x 6).toNat : Int) := by
  unfold byteAt
  rw [IntKind.wrap_u8', UInt8.toNat_ofNat']
  simp
theorem byte7 (x : BitVec 64) : IntKind.u8.wrap ((x.toNat : Int)) = ((byteAt x 7).toNat : Int) := by
  unfold byteAt
  rw [IntKind.wrap_u8', UInt8.toNat_ofNat']
  simp
theorem size_list (s : ByteArray) : s.data.toList.length = s.size := Array.length_toList
theorem is_empty (s : ByteArray) (h : s.size < 1) : false = isName s.data.toList := by
  have e := size_list s
  unfold isName
  rw [decide_eq_false (by omega : ¬ 1 ≤ s.data.toList.length)]; rfl
theorem is_long (s : ByteArray) (h : 8 < s.size) : false = isName s.data.toList := by
  have e := size_list s
  unfold isName
  rw [decide_eq_false (by omega : ¬ s.data.toList.length ≤ 8)]; simp
theorem take_step (l : List UInt8) (k : Nat) (c : UInt8) (h : k < l.length) (hc : l.getD k 0 = c) : str (l.take (k + 1)) = str (l.take k ++ [c]) := by
  rw [List.take_succ_eq_append_getElem h, ← hc, List.getD_eq_getElem?_getD, List.getElem?_eq_getElem h]; rfl
theorem list_get (s : ByteArray) (k : Nat) (h : k < s.size) : s.data.toList.getD k 0 = s[k] := by
  rw [List.getD_eq_getElem?_getD, List.getElem?_eq_getElem (by rw [size_list]; exact h)]; rfl
theorem is_form (s : ByteArray) (h : 0 < s.size) (h8 : s.size ≤ 8) : isName s.data.toList = (letterB s[0] && s.data.toList.all otherB) := by
  unfold isName
  rw [size_list, decide_eq_true (by omega : 1 ≤ s.size), decide_eq_true h8, list_get s 0 h]; rfl
theorem eight (l : List UInt8) (h : l.length = 8) : ∃ p0 p1 p2 p3 p4 p5 p6 p7, l = [p0, p1, p2, p3, p4, p5, p6, p7] := by
  match l, h with
  | [a, b, c, d, e, f, g, i], _ => exact ⟨a, b, c, d, e, f, g, i, rfl⟩
theorem rbyte0 (x : BitVec 64) : (x.toNat : Int) / 256 / 256 / 256 / 256 / 256 / 256 / 256 % 256 = ((byteAt x 0).toNat : Int) := by
  unfold byteAt
  rw [UInt8.toNat_ofNat']
  have h : x.toNat / 2 ^ (8 * (7 - 0)) % 2 ^ 8 = x.toNat / 256 / 256 / 256 / 256 / 256 / 256 / 256 % 256 := by
    simp [Nat.div_div_eq_div_mul]
  rw [h]; simp
theorem rbyte1 (x : BitVec 64) : (x.toNat : Int) / 256 / 256 / 256 / 256 / 256 / 256 % 256 = ((byteAt x 1).toNat : Int) := by
  unfold byteAt
  rw [UInt8.toNat_ofNat']
  have h : x.toNat / 2 ^ (8 * (7 - 1)) % 2 ^ 8 = x.toNat / 256 / 256 / 256 / 256 / 256 / 256 % 256 := by
    simp [Nat.div_div_eq_div_mul]
  rw [h]; simp
theorem rbyte2 (x : BitVec 64) : (x.toNat : Int) / 256 / 256 / 256 / 256 / 256 % 256 = ((byteAt x 2).toNat : Int) := by
  unfold byteAt
  rw [UInt8.toNat_ofNat']
  have h : x.toNat / 2 ^ (8 * (7 - 2)) % 2 ^ 8 = x.toNat / 256 / 256 / 256 / 256 / 256 % 256 := by
    simp [Nat.div_div_eq_div_mul]
  rw [h]; simp
theorem rbyte3 (x : BitVec 64) : (x.toNat : Int) / 256 / 256 / 256 / 256 % 256 = ((byteAt x 3).toNat : Int) := by
  unfold byteAt
  rw [UInt8.toNat_ofNat']
  have h : x.toNat / 2 ^ (8 * (7 - 3)) % 2 ^ 8 = x.toNat / 256 / 256 / 256 / 256 % 256 := by
    simp [Nat.div_div_eq_div_mul]
  rw [h]; simp
theorem rbyte4 (x : BitVec 64) : (x.toNat : Int) / 256 / 256 / 256 % 256 = ((byteAt x 4).toNat : Int) := by
  unfold byteAt
  rw [UInt8.toNat_ofNat']
  have h : x.toNat / 2 ^ (8 * (7 - 4)) % 2 ^ 8 = x.toNat / 256 / 256 / 256 % 256 := by
    simp [Nat.div_div_eq_div_mul]
  rw [h]; simp
theorem rbyte5 (x : BitVec 64) : (x.toNat : Int) / 256 / 256 % 256 = ((byteAt x 5).toNat : Int) := by
  unfold byteAt
  rw [UInt8.toNat_ofNat']
  have h : x.toNat / 2 ^ (8 * (7 - 5)) % 2 ^ 8 = x.toNat / 256 / 256 % 256 := by
    simp [Nat.div_div_eq_div_mul]
  rw [h]; simp
theorem rbyte6 (x : BitVec 64) : (x.toNat : Int) / 256 % 256 = ((byteAt x 6).toNat : Int) := by
  unfold byteAt
  rw [UInt8.toNat_ofNat']
  have h : x.toNat / 2 ^ (8 * (7 - 6)) % 2 ^ 8 = x.toNat / 256 % 256 := by
    simp [Nat.div_div_eq_div_mul]
  rw [h]; simp
theorem rbyte7 (x : BitVec 64) : (x.toNat : Int) % 256 = ((byteAt x 7).toNat : Int) := by
  unfold byteAt
  rw [UInt8.toNat_ofNat']
  have h : x.toNat / 2 ^ (8 * (7 - 7)) % 2 ^ 8 = x.toNat % 256 := by
    simp [Nat.div_div_eq_div_mul]
  rw [h]; simp
theorem of_wf {n : Int} (h : (Lit.int .u64 n).wf = true) : ∃ x : BitVec 64, n = (x.toNat : Int) := by
  obtain ⟨h0, h1⟩ := bounds_u64 h
  refine ⟨BitVec.ofInt 64 n, ?_⟩
  rw [BitVec.toNat_ofInt]
  simp; omega
theorem num_nat (n0 n1 n2 n3 n4 n5 n6 n7 : UInt8) : (num [n0, n1, n2, n3, n4, n5, n6, n7]).toNat = ((((((n0.toNat * 256 + n1.toNat) * 256 + n2.toNat) * 256 + n3.toNat) * 256 + n4.toNat) * 256 + n5.toNat) * 256 + n6.toNat) * 256 + n7.toNat := by
  have h0 := n0.toNat_lt
  have h1 := n1.toNat_lt
  have h2 := n2.toNat_lt
  have h3 := n3.toNat_lt
  have h4 := n4.toNat_lt
  have h5 := n5.toNat_lt
  have h6 := n6.toNat_lt
  have h7 := n7.toNat_lt
  show (step (step (step (step (step (step (step (step 0#64 n0) n1) n2) n3) n4) n5) n6) n7).toNat = _
  have e0 := step_toNat 0#64 n0 (by decide)
  simp only [BitVec.toNat_ofNat, Nat.zero_mod, Nat.zero_mul, Nat.zero_add] at e0
  have e1 := step_toNat (step 0#64 n0) n1 (by omega)
  have e2 := step_toNat (step (step 0#64 n0) n1) n2 (by omega)
  have e3 := step_toNat (step (step (step 0#64 n0) n1) n2) n3 (by omega)
  have e4 := step_toNat (step (step (step (step 0#64 n0) n1) n2) n3) n4 (by omega)
  have e5 := step_toNat (step (step (step (step (step 0#64 n0) n1) n2) n3) n4) n5 (by omega)
  have e6 := step_toNat (step (step (step (step (step (step 0#64 n0) n1) n2) n3) n4) n5) n6 (by omega)
  have e7 := step_toNat (step (step (step (step (step (step (step 0#64 n0) n1) n2) n3) n4) n5) n6) n7 (by omega)
  rw [e7, e6, e5, e4, e3, e2, e1, e0]
theorem byteAt_num (n0 n1 n2 n3 n4 n5 n6 n7 : UInt8) (i : Nat) (hi : i < 8) : byteAt (num [n0, n1, n2, n3, n4, n5, n6, n7]) i = ([n0, n1, n2, n3, n4, n5, n6, n7] : List UInt8).getD i 0 := by
  have h0 := n0.toNat_lt
  have h1 := n1.toNat_lt
  have h2 := n2.toNat_lt
  have h3 := n3.toNat_lt
  have h4 := n4.toNat_lt
  have h5 := n5.toNat_lt
  have h6 := n6.toNat_lt
  have h7 := n7.toNat_lt
  unfold byteAt
  rw [num_nat]
  apply UInt8.toNat_inj.1
  rw [UInt8.toNat_ofNat']
  obtain rfl | rfl | rfl | rfl | rfl | rfl | rfl | rfl : i = 0 ∨ i = 1 ∨ i = 2 ∨ i = 3 ∨ i = 4 ∨ i = 5 ∨ i = 6 ∨ i = 7 := by omega
  all_goals
    simp only [List.getD_cons_zero, List.getD_cons_succ]
    omega
theorem num_inj (n0 n1 n2 n3 n4 n5 n6 n7 m0 m1 m2 m3 m4 m5 m6 m7 : UInt8) (h : (num [n0, n1, n2, n3, n4, n5, n6, n7]).toNat = (num [m0, m1, m2, m3, m4, m5, m6, m7]).toNat) : ([n0, n1, n2, n3, n4, n5, n6, n7] : List UInt8) = [m0, m1, m2, m3, m4, m5, m6, m7] := by
  have e := BitVec.eq_of_toNat_eq h
  have k : ∀ i, i < 8 → ([n0, n1, n2, n3, n4, n5, n6, n7] : List UInt8).getD i 0 = ([m0, m1, m2, m3, m4, m5, m6, m7] : List UInt8).getD i 0 := fun i hi => by rw [← byteAt_num _ _ _ _ _ _ _ _ i hi, ← byteAt_num _ _ _ _ _ _ _ _ i hi, e]
  have k0 : n0 = m0 := k 0 (by omega)
  have k1 : n1 = m1 := k 1 (by omega)
  have k2 : n2 = m2 := k 2 (by omega)
  have k3 : n3 = m3 := k 3 (by omega)
  have k4 : n4 = m4 := k 4 (by omega)
  have k5 : n5 = m5 := k 5 (by omega)
  have k6 : n6 = m6 := k 6 (by omega)
  have k7 : n7 = m7 := k 7 (by omega)
  rw [k0, k1, k2, k3, k4, k5, k6, k7]
end Pl
end Go.Proofs.Ytbhbcmngbdpfoaa
