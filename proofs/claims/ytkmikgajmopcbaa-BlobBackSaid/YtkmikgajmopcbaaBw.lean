/- The walk of the law BlobBack. -/
import Derived.Test.YtkmikgajmopcbaaPo
import Derived.Lib.Hide
import Derived.Test.YtkmikgajmopcbaaPw
namespace Go.Proofs.Ytkmikgajmopcbaa
open Go.RowKit
set_option linter.unusedVariables false
set_option linter.unusedSimpArgs false
def Aty (x : Addr) (k n : Nat) (v : Value) : Prop := ∃ y c, v = .slice (some y) n c ∧ (n = 0 ∨ y = x.add k)
theorem Aty.x (x : Addr) (k c n' n : Nat) (h : n' = n) (hx : n = 0 ∨ k = 0) : Aty x k n (.slice (some x) n' c) := by
  subst h
  refine ⟨_, _, rfl, ?_⟩
  rcases hx with h | rfl
  · exact .inl h
  · exact .inr (by simp [Addr.add])
theorem Aty.add (x : Addr) (k c n' n : Nat) (h : n' = n) : Aty x k n (.slice (some (x.add k)) n' c) := by
  subst h
  exact ⟨_, _, rfl, .inr rfl⟩
theorem piece_y (x : Addr) (len cap : Nat) (room : Int) (hlc : len ≤ cap) (hc : cap ≤ maxLen) (h1 : 1 ≤ room) (k : Nat) (hk : k ≤ len) (n : Nat) (hn : (n : Int) = room ∧ room ≤ (len : Int) - k ∨ n = len - k ∧ (len : Int) - k ≤ room) (w : World) :
    Calls Try.prog 15 #[.slice (some x) len cap, .int .i64 k, .int .i64 room] w fun e w' => ∃ v, e = .returned (.tuple #[v, .bool (decide (k + n = len)), .int .i64 0]) ∧ Aty x k n v ∧ w = w' := by
  unfold maxLen at hc
  have ho : (0 : Int) ≤ (k : Int) := by omega
  have hol : (k : Int) ≤ (len : Int) := by omega
  go_enter Try.func15, Try.ntmps15
  go_wp2
  · exact bodyPost_ret (v := .tuple #[.slice (some (x.add k)) ((↑k + room).toNat - k) ((↑k + room).toNat - k), .bool (↑k + room == ↑len), .int .i64 0]) (by simp [results, Try.results15, go_sem]) rfl ⟨_, tup _ _ _ (by first | (symm; apply decide_eq_true; omega) | (rw [Bool.eq_iff_iff]; simp only [beq_iff_eq, decide_eq_true_eq]; omega)), Aty.add _ _ _ _ _ (by omega), rfl⟩
  · exact bodyPost_ret (v := .tuple #[.slice (some x) 0 0, .bool true, .int .i64 0]) (by simp [results, Try.results15, go_sem]) rfl ⟨_, tup _ _ _ (by first | (symm; apply decide_eq_true; omega) | (rw [Bool.eq_iff_iff]; simp only [beq_iff_eq, decide_eq_true_eq]; omega)), Aty.x _ _ _ _ _ (by omega) (by omega), rfl⟩
  · exact bodyPost_ret (v := .tuple #[.slice (some (x.add k)) (len - k) (len - k), .bool true, .int .i64 0]) (by simp [results, Try.results15, go_sem]) rfl ⟨_, tup _ _ _ (by first | (symm; apply decide_eq_true; omega) | (rw [Bool.eq_iff_iff]; simp only [beq_iff_eq, decide_eq_true_eq]; omega)), Aty.add _ _ _ _ _ (by omega), rfl⟩
/-- How many pieces there are. -/
def cnt (len R : Nat) : Nat := 1 + (len - 1) / R
theorem cnt_le (len R : Nat) : (len - 1) / R ≤ len := Nat.le_trans (Nat.div_le_self _ _) (by omega)
theorem pieces_val (len : Nat) (hl : len ≤ 300) (room : Int) (h1 : 1 ≤ room) (w : World) : Calls Try.prog 17 #[.int .i64 len, .int .i64 room] w fun e w' => e = .returned (.int .i64 (cnt len room.toNat : Nat)) ∧ w = w' := by
  have hle := cnt_le len room.toNat
  have hq : 1 ≤ len → ((len : Int) - 1) / room = (((len - 1) / room.toNat : Nat) : Int) := fun h => by
    rw [Int.natCast_ediv, Int.toNat_of_nonneg (by omega)]
    congr 1; omega
  have hz : len < 1 → (len - 1) / room.toNat = 0 := fun h => by
    obtain rfl : len = 0 := by omega
    simp
  unfold cnt
  generalize (len - 1) / room.toNat = q at *
  have hl1 : (len : Int) ≤ 300 := by omega
  have hl0 : (0 : Int) ≤ (len : Int) := by omega
  go_enter Try.func17, Try.ntmps17
  go_wp2
  · have e := hz (by omega)
    go_ret
    exact ⟨by rw [e]; rfl, rfl⟩
  · have e := hq (by omega)
    rw [e]
    have e2 : ((1 + q : Nat) : Int) = 1 + (q : Int) := by omega
    go_ret
    exact ⟨by rw [e2]; rfl, rfl⟩
/-- The bytes of a row that came in, k of them. -/
def pre (zs : List Int) (k : Nat) : List Value := (zs.take k).map (Value.int .u8)
theorem pre_one (zs : List Int) (k : Nat) : ∀ u ∈ pre zs k, u.oneCell' = true := by
  intro u hu
  obtain ⟨b, _, rfl⟩ := List.mem_map.1 hu
  rfl
theorem pre_add (zs : List Int) (k m : Nat) : pre zs (k + m) = pre zs k ++ pre (zs.drop k) m := by
  unfold pre
  rw [List.take_add, List.map_append]
theorem pre_get (zs : List Int) (k j : Nat) (h : j < k) (hk : k ≤ zs.length) : (pre zs k)[j]? = some (.int .u8 (zs.getD j 0)) := by
  unfold pre
  simp [h, List.getD, List.getElem?_eq_getElem (show j < zs.length by omega)]
theorem pre_len (zs : List Int) (k : Nat) (hk : k ≤ zs.length) : (pre zs k).length = k := by simp [pre, hk]
theorem drop_get (zs : List Int) (k j : Nat) : (zs.drop k).getD j 0 = zs.getD (k + j) 0 := by
  simp [List.getD, List.getElem?_drop]
theorem cnt_step (len R k j : Nat) (hR : 1 ≤ R) (h : (len - 1 - k) / R + j = (len - 1) / R) (hk : k + R < len) : (len - 1 - (k + R)) / R + (j + 1) = (len - 1) / R := by
  have e := Nat.div_eq_sub_div (a := len - 1 - k) (b := R) (by omega) (by omega)
  have e2 : len - 1 - k - R = len - 1 - (k + R) := by omega
  rw [e2] at e
  omega
theorem cnt_last (len R k j : Nat) (h : (len - 1 - k) / R + j = (len - 1) / R) (hk : len ≤ k + R) (hR : 1 ≤ R) : j + 1 = cnt len R := by
  have e : (len - 1 - k) / R = 0 := Nat.div_eq_of_lt (by omega)
  unfold cnt
  omega
theorem row_cell {W : World} {base n cu : Nat} {au : Option Addr} {xs : List Value} (h : W.ownsRow base 5 1 (.slice au n cu) n xs) (i : Nat) (hi : i < n) (u : Value) (hx : xs[i]? = some u) : ∃ g, au = some g ∧ W.cell? (g.add i) = some u := by
  rcases h.2 with ⟨he, hn⟩ | ⟨g, cap, cur, he, _⟩
  · omega
  · cases he
    exact ⟨_, rfl, h.cells rfl i u hx⟩
/-- What a round leaves. -/
structure Rel (w : World) (zs : List Int) (len R : Nat) (j k : Nat) (all : Bool) (wr : World) : Prop where
  le : k ≤ len
  st : ∃ v, St wr w.heap.size (w.heap.size + 1) v k (pre zs k) all len
  below : Below w.heap.size w wr
  go : all = false → (len - 1 - k) / R + j = (len - 1) / R ∧ (k < len ∨ len = 0)
  done : all = true → k = len ∧ j = cnt len R
set_option maxHeartbeats 4000000 in
set_option maxRecDepth 100000 in
theorem back_row (x : Addr) (len cap : Nat) (zs : List Int) (room : Int) (hlc : len ≤ cap) (hc : cap ≤ maxLen) (hl : len ≤ 300) (h1 : 1 ≤ room) (h1' : room ≤ 9223372036854775807) (hzl : zs.length = cap) (w : World)
    (hz : ∀ i, i < zs.length → w.cell? (x.add i) = some (.int .u8 (zs.getD i 0))) :
    Calls Try.prog 5 #[.slice (some x) len cap, .int .i64 room] w fun e w' => e = .returned (.bool true) ∧ Below w.heap.size w w' := by
  have ca := fun W => alive_any W
  have c1 := fun W => new_any (len : Int) W
  have hmax : max (len : Int) 0 = (len : Int) := by omega
  rw [hmax] at c1
  have hl1 : (len : Int) ≤ 300 := by omega
  have hl0 : (0 : Int) ≤ (len : Int) := by omega
  go_enter Try.func5, Try.ntmps5
  go_wp2_with (go_at_call 7; ((with_reducible refine (c1 _).mono ?_); rintro e w' ⟨rfl, rfl⟩))
  go_loopw [6, 7] (fun nv ov wr => ∃ j k all, nv = .int .i64 (j : Nat) ∧ ov = .int .i64 (k : Nat) ∧ Rel w zs len room.toNat j k all wr) (fun nv ov wr => cnt len room.toNat + 1 - (intOf nv).toNat)
  case atStart =>
    refine ⟨0, 0, false, rfl, rfl, ⟨by omega, ⟨.slice none 0 0, ⟨?_, ?_, ?_, ?_, ?_, ?_, by omega, by simp⟩⟩, Below.alloc (Below.refl _ w) (Nat.le_refl _) _, fun _ => ⟨by simp, by omega⟩, fun h => by cases h⟩⟩
    · rw [World.cell?_alloc_new]; rfl
    · rw [World.cell?_alloc_new]; rfl
    · rw [World.cell?_alloc_new]; rfl
    · exact World.frozen?_alloc_new ..
    · exact World.frozen?_alloc_new ..
    · exact World.ownsRow_nil _ _ _ _
  case round =>
    obtain ⟨j, k, all, rfl, rfl, hr⟩ := hrel
    obtain ⟨hk, ⟨v, hst⟩, hb, hgo, hdone⟩ := hr
    have cw := whole_at wr w.heap.size all hst.c1
    cases all
    · obtain ⟨hcnt, hkl⟩ := hgo rfl
      clear hdone hgo
      have hR : 1 ≤ room.toNat := by omega
      have hjl' : j ≤ (len - 1) / room.toNat := by rw [← hcnt]; exact Nat.le_add_left _ _
      have hjn : j ≤ len := Nat.le_trans hjl' (cnt_le len room.toNat)
      have hjl : (j : Int) ≤ (len : Int) := by omega
      obtain ⟨m, hm⟩ : ∃ m : Nat, (m : Int) = room ∧ room ≤ (len : Int) - k ∨ m = len - k ∧ (len : Int) - k ≤ room := by
        by_cases hle : room ≤ (len : Int) - k
        · exact ⟨room.toNat, .inl ⟨by omega, hle⟩⟩
        · exact ⟨len - k, .inr ⟨rfl, by omega⟩⟩
      have hmr : (m : Int) ≤ room := by omega
      have hk0 : (0 : Int) ≤ (k : Int) := by omega
      have hk1 : (k : Int) ≤ 300 := by omega
      have hm0 : (0 : Int) ≤ (m : Int) := by omega
      have hm1 : (m : Int) ≤ 300 := by omega
      have hj0 : (0 : Int) ≤ (j : Int) := by omega
      have cp := piece_y x len cap room hlc hc h1 k hk m hm wr
      have cput : ∀ y c, (m = 0 ∨ y = x.add k) → Calls Try.prog 9 #[.pointer (some ⟨w.heap.size, 0, none⟩), .int .u32 (k : Int), .bool (decide (k + m = len)), .slice (some y) m c] wr fun e w' => e = .returned (.int .i64 0) ∧ ∃ v', St w' w.heap.size (w.heap.size + 1) v' (k + m) (pre zs k ++ pre (zs.drop k) m) (decide (k + m = len)) len ∧ Below w.heap.size wr w' :=
        fun y c hy => put_ok wr w.heap.size (w.heap.size + 1) k m c len v (pre zs k) (pre (zs.drop k) m) y (decide (k + m = len)) hst (by omega) (by omega) (pre_len _ _ (by simp; omega)) (fun i u hu => by
          have hi : i < m := by
            have := (List.getElem?_eq_some_iff.1 hu).1
            rw [pre_len _ _ (by simp; omega)] at this
            exact this
          rw [pre_get _ _ _ hi (by simp; omega)] at hu
          cases hu
          obtain rfl : y = x.add k := hy.resolve_left (by omega)
          rw [drop_get, add_twice]
          exact keepB hb (hz (k + i) (by omega))) (pre_one _ _)
      rw [← pre_add] at cput
      clear hz
      by_cases hlast : k + m = len
      · rw [decide_eq_true hlast] at cp cput
        have again : ∀ W1 v' u, St W1 w.heap.size (w.heap.size + 1) v' (k + m) (pre zs (k + m)) true len → Calls Try.prog 9 #[.pointer (some ⟨w.heap.size, 0, none⟩), .int .u32 (k : Int), .bool true, u] W1 fun e w' => e = .returned (.int .i64 13) ∧ W1 = w' := fun W1 v' u hs => put_all W1 _ k true u hs.c1
        have hc1 := cnt_last len room.toNat k j hcnt (by omega) hR
        have HA := Lib.hid hc1
        have HB := Lib.hid hlast
        have HC := Lib.hid hjl'
        clear hc1 hlast hjl' hcnt hkl hm hR hjn
        go_wp2_with (first | (go_at_call 12; ((with_reducible refine cw.mono ?_); rintro e w' ⟨rfl, rfl⟩)) | (go_at_call 15; ((with_reducible refine cp.mono ?_); rintro e w' ⟨p, rfl, ⟨y, c, rfl, hy⟩, rfl⟩; have cpu := cput y c hy; clear cput hy)) | (go_at_call 9; first | ((with_reducible refine cpu.mono ?_); rintro e W1 ⟨rfl, v', hst', hb1⟩; have cag := fun u => again W1 v' u hst'; clear cpu again) | ((with_reducible refine (cag _).mono ?_); rintro e w' ⟨rfl, rfl⟩)))
        all_goals
          have hc1 := HA.out
          have hlast := HB.out
          have hjl' := HC.out
          refine ⟨⟨j + 1, k + m, true, by simp, by simp, ⟨by omega, ⟨v', hst'⟩, hb.trans hb1, (fun h => by cases h), fun _ => ⟨hlast, hc1⟩⟩⟩, ?_⟩
          simp only [intOf]
          unfold cnt
          omega
      · rw [decide_eq_false hlast] at cp cput
        have again : ∀ W1 v' u, St W1 w.heap.size (w.heap.size + 1) v' (k + m) (pre zs (k + m)) false len → Calls Try.prog 9 #[.pointer (some ⟨w.heap.size, 0, none⟩), .int .u32 (k : Int), .bool false, u] W1 fun e w' => e = .returned (.int .i64 2) ∧ W1 = w' := fun W1 v' u hs => by
          obtain ⟨ao, cap', rfl⟩ := form hs.own
          exact put_off W1 _ (k + m) k ao cap' false u (by omega) (by omega) (by omega) hs.c0 hs.c1
        have hmR : m = room.toNat := by omega
        have hc2 := cnt_step len room.toNat k j hR hcnt (by omega)
        have HA := Lib.hid hc2
        have HB := Lib.hid hlast
        have HC := Lib.hid hjl'
        have HD := Lib.hid hmR
        have hkm : k + m ≤ len := by omega
        have HE := Lib.hid hkm
        clear hkm
        clear hc2 hlast hjl' hcnt hkl hm hR hjn hmR
        go_wp2_with (first | (go_at_call 12; ((with_reducible refine cw.mono ?_); rintro e w' ⟨rfl, rfl⟩)) | (go_at_call 15; ((with_reducible refine cp.mono ?_); rintro e w' ⟨p, rfl, ⟨y, c, rfl, hy⟩, rfl⟩; have cpu := cput y c hy; clear cput hy)) | (go_at_call 9; first | ((with_reducible refine cpu.mono ?_); rintro e W1 ⟨rfl, v', hst', hb1⟩; have cag := fun u => again W1 v' u hst'; clear cpu again) | ((with_reducible refine (cag _).mono ?_); rintro e w' ⟨rfl, rfl⟩)))
        all_goals
          have hc2 := HA.out
          have hlast := HB.out
          have hjl' := HC.out
          have hmR := HD.out
          have hkm := HE.out
          rw [← hmR] at hc2
          refine ⟨⟨j + 1, k + m, false, by simp, by simp, ⟨by omega, ⟨v', hst'⟩, hb.trans hb1, (fun _ => ⟨by rw [← hmR]; exact hc2, by omega⟩), fun h => by cases h⟩⟩, ?_⟩
          simp only [intOf]
          unfold cnt
          omega
    · obtain ⟨rfl, rfl⟩ := hdone rfl
      clear hdone hgo
      have cn1 := fun W => nil_clear W
      have cn2 := fun W => nil_put W
      have cn3 := fun W => nil_len W
      have cn4 := fun W => nil_whole W
      have cn5 := fun W => nil_bytes W
      have cpc := fun W => pieces_val k hl room h1 W
      have cby := bytes_ok wr w.heap.size (w.heap.size + 1) k k v (pre zs k) true hst hl (pre_one _ _)
      have csame : ∀ au cu w5, w5.ownsRow wr.heap.size 5 1 (.slice au k cu) k (pre zs k) → Below wr.heap.size wr w5 → Calls Try.prog 13 #[.slice au k cu, .slice (some x) k cap] w5 fun e w' => e = .returned (.bool true) ∧ Below w5.heap.size w5 w' := fun au cu w5 hu hb5 =>
        same_g au (some x) k cu cap (by omega) (fun i => zs.getD i 0) w5 (fun i hi => by
          obtain ⟨g, hg, hgc⟩ := row_cell hu i hi _ (pre_get zs k i hi (by omega))
          exact ⟨g, x, hg, rfl, hgc, keepB hb5 (keepB hb (hz i (by omega)))⟩)
      clear hz
      go_wp2_with (first | (go_at_call 12; first | ((with_reducible refine cw.mono ?_); rintro e w' ⟨rfl, rfl⟩; clear cw) | ((with_reducible refine (cn4 _).mono ?_); rintro e w' ⟨rfl, rfl⟩)) | (go_at_call 8; ((with_reducible refine (cn1 _).mono ?_); rintro e w' ⟨rfl, rfl⟩)) | (go_at_call 17; ((with_reducible refine (cpc _).mono ?_); rintro e w' ⟨rfl, rfl⟩)) | (go_at_call 14; first | ((with_reducible refine cby.mono ?_); rintro e w5 ⟨u, rfl, hu, hb5⟩; obtain ⟨au, cu, rfl⟩ := form hu; have cs := csame au cu w5 hu hb5; clear cby) | ((with_reducible refine (cn5 _).mono ?_); rintro e w' ⟨rfl, rfl⟩)) | (go_at_call 13; ((with_reducible refine cs.mono ?_); rintro e w6 ⟨rfl, hb6⟩)) | (go_at_call 9; ((with_reducible refine (cn2 _).mono ?_); rintro e w' ⟨rfl, rfl⟩)) | (go_at_call 11; ((with_reducible refine (cn3 _).mono ?_); rintro e w' ⟨rfl, rfl⟩)) | (go_at_call 6; ((with_reducible refine (ca _).mono ?_); rintro e w7 ⟨rfl, hb7⟩)))
      go_ret
      have s1 := hb.size
      have s5 := hb5.size
      have s6 := hb6.size
      exact ⟨rfl, hb.trans ((hb5.mono (by omega)).trans ((hb6.mono (by omega)).trans (hb7.mono (by omega))))⟩
set_option maxHeartbeats 4000000 in
set_option maxRecDepth 100000 in
theorem back_nil (room : Int) (h1 : 1 ≤ room) (h1' : room ≤ 9223372036854775807) (w : World) :
    Calls Try.prog 5 #[.slice none 0 0, .int .i64 room] w fun e w' => e = .returned (.bool true) ∧ Below w.heap.size w w' := by
  have ca := fun W => alive_any W
  have c1 : ∀ W : World, Calls Try.prog 7 #[.int .i64 0] W fun e w' => e = .returned (.pointer (some ⟨W.heap.size, 0, none⟩)) ∧ W.alloc (.cells #[.slice none 0 0, .bool false, .int .i64 0] 47) = w' := fun W => new_any 0 W
  go_enter Try.func5, Try.ntmps5
  go_wp2_with (go_at_call 7; ((with_reducible refine (c1 _).mono ?_); rintro e w' ⟨rfl, rfl⟩))
  go_loopw [6, 7] (fun nv ov wr => ∃ (j : Nat) (all : Bool), nv = .int .i64 (j : Nat) ∧ ov = .int .i64 0 ∧ j = (if all then 1 else 0) ∧ St wr w.heap.size (w.heap.size + 1) (.slice none 0 0) 0 [] all 0 ∧ Below w.heap.size w wr) (fun nv ov wr => 2 - (intOf nv).toNat)
  case atStart =>
    refine ⟨0, false, rfl, rfl, rfl, ⟨?_, ?_, ?_, ?_, ?_, ?_, by omega, by simp⟩, Below.alloc (Below.refl _ w) (Nat.le_refl _) _⟩
    · rw [World.cell?_alloc_new]; rfl
    · rw [World.cell?_alloc_new]; rfl
    · rw [World.cell?_alloc_new]; rfl
    · exact World.frozen?_alloc_new ..
    · exact World.frozen?_alloc_new ..
    · exact World.ownsRow_nil _ _ _ _
  case round =>
    obtain ⟨j, all, rfl, rfl, hj, hst, hb⟩ := hrel
    have cw := whole_at wr w.heap.size all hst.c1
    cases all
    · obtain rfl : j = 0 := hj
      have cp := fun W => piece_nil room h1 W
      have cpu := put_nil wr w.heap.size (w.heap.size + 1) 0 (by omega) (by omega) true hst
      go_wp2_with (first | (go_at_call 12; ((with_reducible refine cw.mono ?_); rintro e w' ⟨rfl, rfl⟩)) | (go_at_call 15; ((with_reducible refine (cp _).mono ?_); rintro e w' ⟨rfl, rfl⟩)) | (go_at_call 9; first | ((with_reducible refine cpu.mono ?_); rintro e W1 ⟨rfl, hst', hb1⟩; have cag := fun u => put_all W1 _ 0 true u hst'.c1; clear cpu) | ((with_reducible refine (cag _).mono ?_); rintro e w' ⟨rfl, rfl⟩)))
      all_goals
        refine ⟨⟨1, true, by simp, by simp, rfl, hst', hb.trans hb1⟩, ?_⟩
        simp only [intOf]
        omega
    · obtain rfl : j = 1 := hj
      have cn1 := fun W => nil_clear W
      have cn2 := fun W => nil_put W
      have cn3 := fun W => nil_len W
      have cn4 := fun W => nil_whole W
      have cn5 := fun W => nil_bytes W
      have cpc : ∀ W, Calls Try.prog 17 #[.int .i64 0, .int .i64 room] W fun e w' => e = .returned (.int .i64 1) ∧ W = w' := fun W => by
        have h := pieces_val 0 (by omega) room h1 W
        have e : cnt 0 room.toNat = 1 := by simp [cnt]
        rw [e] at h
        exact h
      have cby := bytes_ok wr w.heap.size (w.heap.size + 1) 0 0 (.slice none 0 0) [] true hst (by omega) (fun u hu => by cases hu)
      have csame : ∀ au cu w5, Calls Try.prog 13 #[.slice au 0 cu, .slice none 0 0] w5 fun e w' => e = .returned (.bool true) ∧ Below w5.heap.size w5 w' := fun au cu w5 =>
        same_g au none 0 cu 0 (by omega) (fun i => 0) w5 (fun i hi => by omega)
      go_wp2_with (first | (go_at_call 12; first | ((with_reducible refine cw.mono ?_); rintro e w' ⟨rfl, rfl⟩; clear cw) | ((with_reducible refine (cn4 _).mono ?_); rintro e w' ⟨rfl, rfl⟩)) | (go_at_call 8; ((with_reducible refine (cn1 _).mono ?_); rintro e w' ⟨rfl, rfl⟩)) | (go_at_call 17; ((with_reducible refine (cpc _).mono ?_); rintro e w' ⟨rfl, rfl⟩)) | (go_at_call 14; first | ((with_reducible refine cby.mono ?_); rintro e w5 ⟨u, rfl, hu, hb5⟩; obtain ⟨au, cu, rfl⟩ := form hu; have cs := csame au cu w5; clear cby) | ((with_reducible refine (cn5 _).mono ?_); rintro e w' ⟨rfl, rfl⟩)) | (go_at_call 13; ((with_reducible refine cs.mono ?_); rintro e w6 ⟨rfl, hb6⟩)) | (go_at_call 9; ((with_reducible refine (cn2 _).mono ?_); rintro e w' ⟨rfl, rfl⟩)) | (go_at_call 11; ((with_reducible refine (cn3 _).mono ?_); rintro e w' ⟨rfl, rfl⟩)) | (go_at_call 6; ((with_reducible refine (ca _).mono ?_); rintro e w7 ⟨rfl, hb7⟩)))
      go_ret
      have s1 := hb.size
      have s5 := hb5.size
      have s6 := hb6.size
      exact ⟨rfl, hb.trans ((hb5.mono (by omega)).trans ((hb6.mono (by omega)).trans (hb7.mono (by omega))))⟩
theorem back_walk (a0 : Option Addr) (len0 cap0 : Nat) (z0 : List Int) (room : Int) (w : World)
    (h : (a0 = none ∧ len0 = 0 ∧ cap0 = 0) ∨ ∃ x, a0 = some x ∧ len0 ≤ cap0 ∧ cap0 ≤ maxLen ∧ z0.length = cap0 ∧ ∀ i, i < z0.length → w.cell? (x.add i) = some (.int .u8 (z0.getD i 0)))
    (h2 : room ≤ 9223372036854775807) :
    Calls Try.prog 5 #[.slice a0 len0 cap0, .int .i64 room] w fun e w' => e = .returned (.bool true) ∧ Below w.heap.size w w' := by
  have ca := fun W => alive_any W
  have hm : (len0 : Int) ≤ 9223372036854775807 := by
    rcases h with ⟨_, h, _⟩ | ⟨x, _, h, h', _⟩
    · omega
    · unfold maxLen at h'; omega
  by_cases hl : 300 < len0
  · clear h
    go_enter Try.func5, Try.ntmps5
    go_wp2_with (go_at_call 6; ((with_reducible refine (ca _).mono ?_); rintro e w4 ⟨rfl, hb4⟩))
    go_ret
    exact ⟨rfl, hb4⟩
  · by_cases hr : room < 1
    · clear h
      go_enter Try.func5, Try.ntmps5
      go_wp2_with (go_at_call 6; ((with_reducible refine (ca _).mono ?_); rintro e w4 ⟨rfl, hb4⟩))
      go_ret
      exact ⟨rfl, hb4⟩
    · rcases h with ⟨rfl, rfl, rfl⟩ | ⟨x, rfl, hlc, hc, hzl, hz⟩
      · exact back_nil room (by omega) h2 w
      · exact back_row x len0 cap0 z0 room hlc hc (by omega) (by omega) h2 hzl w hz
end Go.Proofs.Ytkmikgajmopcbaa
