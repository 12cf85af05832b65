/- The walk of the law MixApart, where a group is changed. -/
import Derived.Test.YtokjafikgfapmaaAp
namespace Go.Proofs.Ytokjafikgfapmaa
open Go.RowKit
set_option linter.unusedVariables false
set_option linter.unusedSimpArgs false
theorem info5 : (Try.prog.info? 5).map (fun i => (i.zero, i.size, i.bytes)) = some (some (.int .u8 0), 1, 1) := by kernel_rfl
def bys (z : Nat → Nat) (n : Nat) : List Value := (List.range n).map fun i => .int .u8 (z i : Nat)
theorem bys_one (z : Nat → Nat) (n : Nat) : ∀ u ∈ bys z n, u.oneCell' = true := by
  intro u hu
  obtain ⟨b, _, rfl⟩ := List.mem_map.1 hu
  rfl
theorem bys_get (z : Nat → Nat) (n j : Nat) (u : Value) (h : (bys z n)[j]? = some u) : j < n ∧ u = .int .u8 (z j : Nat) := by
  unfold bys at h
  rw [List.getElem?_map, Option.map_eq_some_iff] at h
  obtain ⟨i, h1, h2⟩ := h
  obtain ⟨h3, h4⟩ := List.getElem?_eq_some_iff.1 h1
  simp at h3 h4
  subst h4
  exact ⟨h3, h2.symm⟩
/-- The copy in block G: its bytes are z; nothing of it is frozen. -/
def Cp (W : World) (G len : Nat) (z : Nat → Nat) : Prop := ∀ j, j < len → W.cell? ⟨G, j, none⟩ = some (.int .u8 (z j : Nat)) ∧ W.frozen? ⟨G, j, none⟩ = false
theorem Cp.step {W : World} {G len p i : Nat} {z g : Nat → Nat} (h : Cp W G len (upd z p g i)) : Cp (W.setCell ⟨G, p + i, none⟩ (.int .u8 (g i : Nat))) G len (upd z p g (i + 1)) := by
  intro j hj
  obtain ⟨k0, k1⟩ := h j hj
  refine ⟨?_, by rw [World.frozen?_setCell]; exact k1⟩
  by_cases e : j = p + i
  · subst e
    rw [World.cell?_setCell_same _ _ _ k0, upd_new]
  · have hne : (⟨G, p + i, none⟩ : Addr) ≠ ⟨G, j, none⟩ := fun h => e (by cases h; rfl)
    rw [World.cell?_setCell_other _ _ _ _ hne, k0, upd_old _ _ _ _ _ e]
theorem Cp.fin {W : World} {G len p i b : Nat} {z g : Nat → Nat} (h : Cp W G len (upd z p g i)) (hb : g i = b) (n : Nat) : Cp ((W.drewN n).setCell ⟨G, p + i, none⟩ (.int .u8 (b : Nat))) G len (upd z p g (i + 1)) := by
  subst hb
  have h2 : Cp (W.drewN n) G len (upd z p g i) := fun j hj => by
    obtain ⟨k0, k1⟩ := h j hj
    exact ⟨by simpa using k0, by simpa using k1⟩
  exact h2.step
/-- What is known on the way to the loop. -/
def Hd (w W : World) (g : Nat → Nat) : Prop := Below w.heap.size w W ∧ w.heap.size + 1 + 1 < W.heap.size ∧ ∀ j, j < 8 → W.cell? ⟨w.heap.size + 1 + 1, j, none⟩ = some (.int .u8 (g j : Nat))
theorem Hd.next {w W W' : World} {g : Nat → Nat} (h : Hd w W g) (k : Below W.heap.size W W') : Hd w W' g := by
  obtain ⟨h1, h2, h3⟩ := h
  exact ⟨h1.trans (k.mono h1.size), Nat.lt_of_lt_of_le h2 k.size, fun j hj => (k.cell (p := ⟨w.heap.size + 1 + 1, j, none⟩) h2).trans (h3 j hj)⟩
theorem Hd.start (w : World) (c1 c2 : Array Value) (t1 t2 : TypeId) (g : Nat → Nat) : Hd w (((w.alloc (.cells c1 t1)).alloc (.cells c2 t2)).alloc (.cells #[.int .u8 (g 0 : Nat), .int .u8 (g 1 : Nat), .int .u8 (g 2 : Nat), .int .u8 (g 3 : Nat), .int .u8 (g 4 : Nat), .int .u8 (g 5 : Nat), .int .u8 (g 6 : Nat), .int .u8 (g 7 : Nat)] 31)).drew.drew g := by
  refine ⟨by go_grown, by simp, ?_⟩
  intro j hj
  have e : w.heap.size + 1 + 1 = ((w.alloc (.cells c1 t1)).alloc (.cells c2 t2)).heap.size := by simp
  rw [e, World.cell?_drew, World.cell?_drew, World.cell?_alloc_new]
  match j, hj with
  | 0, _ => rfl
  | 1, _ => rfl
  | 2, _ => rfl
  | 3, _ => rfl
  | 4, _ => rfl
  | 5, _ => rfl
  | 6, _ => rfl
  | 7, _ => rfl
theorem own_cp {W : World} {base len p : Nat} {v : Value} {z g : Nat → Nat} (hl : 0 < len) (h : W.ownsRow base 5 1 v (0 + len) ([] ++ bys z len)) :
    ∃ G cap, v = .slice (some ⟨G, 0, none⟩) len cap ∧ base ≤ G ∧ G < W.heap.size ∧ len ≤ cap ∧ cap ≤ maxLen ∧ Cp W G len (upd z p g 0) := by
  rw [Nat.zero_add, List.nil_append] at h
  have h0 := h
  rcases h.2 with ⟨_, h⟩ | ⟨G, cap, cur, rfl, hG, hcur, hnc, hcm, _, _⟩
  · omega
  · refine ⟨G, cap, rfl, hG, (h0.lt G rfl).2, hnc, hcm, fun j hj => ⟨?_, h0.frozenAt j⟩⟩
    rw [h0.cellAt j (by omega), upd_zero]
    simp [bys, hj]
set_option maxRecDepth 100000 in
set_option maxHeartbeats 4000000 in
theorem apart_eq (s x y : BitVec 64) (x0 : Addr) (len c p : Nat) (g z : Nat → Nat) (hlc : len ≤ c) (hl : len ≤ 200) (hp8 : (p : Int) % 8 = 0) (hp : p + 8 ≤ len) (hzl : ∀ i, z i < 256) (hgl : ∀ i, g i < 256) (w : World)
    (hx0 : x0.block < w.heap.size) (hxy : x = y) (hz : ∀ i, i < len → w.cell? (x0.add i) = some (.int .u8 (z i : Nat))) :
    Calls Try.prog 5 #[.int .u64 s.toNat, .agg #[.int .u64 x.toNat, .int .u64 y.toNat], .agg #[.slice (some x0) len c, .int .i64 (p : Nat), .int .u8 (g 0 : Nat), .int .u8 (g 1 : Nat), .int .u8 (g 2 : Nat), .int .u8 (g 3 : Nat), .int .u8 (g 4 : Nat), .int .u8 (g 5 : Nat), .int .u8 (g 6 : Nat), .int .u8 (g 7 : Nat)]] w fun e w' => e = .returned (.bool true) ∧ Below w.heap.size w w' := by
  have hl1 : (len : Int) ≤ 200 := by omega
  have hl0 : (0 : Int) ≤ (len : Int) := by omega
  have hp0 : (0 : Int) ≤ (p : Int) := by omega
  have hp1 : (p : Int) ≤ (len : Int) - 8 := by omega
  obtain ⟨i0, hi, hz0, hz1, hz2⟩ := info_parts info5
  have up : ∀ {f : Nat} {args : Array Value} {v : Value} {W : World}, Hd w W g → Calls Try.prog f args W (fun e w' => e = .returned v ∧ Below W.heap.size W w') → Calls Try.prog f args W fun e w' => e = .returned v ∧ Hd w w' g := fun hb h => h.mono fun e w' ⟨he, h2⟩ => ⟨he, hb.next h2⟩
  have c1 := fun W hb => up hb (word_b s x W)
  have c2 := fun W hb => up hb (word_b s y W)
  have c3 := fun W hb => up hb (word_b x s W)
  have c4 := fun W hb => up hb (word_b y s W)
  clear up
  have hmade : ∀ W : World, (W.alloc (.cells #[] 5)).ownsRow W.heap.size 5 1 (.slice (some ⟨W.heap.size, 0, none⟩) 0 0) 0 [] := fun W => World.ownsRow_made W #[] 0 (Nat.le_refl _) (by unfold maxLen; omega) (by simp)
  have hnews : ∀ W, Hd w W g → ∀ j u, (bys z len)[j]? = some u → (W.alloc (.cells #[] 5)).cell? (x0.add j) = some u := fun W hb j u hj => by
    obtain ⟨h1, rfl⟩ := bys_get _ _ _ _ hj
    exact cell_alloc_l _ ((hb.1.cell (by rw [add_block]; exact hx0)).trans (hz j h1))
  have HN := Lib.hid hnews
  clear hnews
  have HZ := Lib.hid hz
  have HP := Lib.hid hp8
  clear hz
  subst hxy
  clear c2 c4
  generalize Pl.word s x = p1 at *
  generalize Pl.word x s = q1 at *
  go_enter Try.func5, Try.ntmps5
  go_wp2_with fail
  go_region
  go_wp2_with fail
  go_region
  go_wp2_with (first | (go_at_call 6; first | ((with_reducible refine (c1 _ hb).mono ?_); rintro e w1 ⟨rfl, hb⟩) | ((with_reducible refine (c3 _ hb).mono ?_); rintro e w1 ⟨rfl, hb⟩) | ((with_reducible refine (c1 _ (Hd.start _ _ _ _ _ _)).mono ?_); rintro e w1 ⟨rfl, hb⟩)) | (at_builtin; refine wpList_append_own _ rfl (.tmp 68) (.tmp 69) 26 rfl w1.heap.size 5 i0 (.int .u8 0) 1 1 Try.underlying26 hi hz0 hz1 hz2 rfl (by decide) _ 0 [] rfl (hmade w1) x0 len c (bys z len) rfl (by simp [bys]) (HN.out _ hb) (bys_one _ _) (by unfold maxLen; omega) (by omega) (by simp) ?_; intro v' W2 hown2 hgrow _; obtain ⟨G, cap, rfl, hG, hGz, hlc2, hcm, hcp⟩ := own_cp (p := p) (g := g) (by omega) hown2))
  have hB2 : Below w1.heap.size w1 W2 := (Below.alloc (Below.refl _ w1) (Nat.le_refl _) _).grown hgrow (by simp) (fun k hk => by cases hk; exact Nat.le_refl _)
  have hd2 : Hd w W2 g := hb.next hB2
  have hgb : w.heap.size + 1 + 1 < w1.heap.size := hb.2.1
  clear hown2 hgrow hB2 hz1 hz2 hz0 hi
  go_loopw [13, 14] (fun sv iv wr => ∃ i : Nat, i ≤ 8 ∧ iv = .int .i64 i ∧ sv = .bool (sm z g p i) ∧ Cp wr G len (upd z p g i) ∧ Below w1.heap.size W2 wr) (fun sv iv wr => 8 - (intOf iv).toNat)
  case atStart => exact ⟨0, by omega, rfl, rfl, hcp, Below.refl _ _⟩
  case round =>
    obtain ⟨i, hi8, rfl, rfl, hcp, hbr⟩ := hrel
    by_cases hlt : i < 8
    · obtain ⟨k0, k1⟩ := hcp (p + i) (by omega)
      rw [upd_at] at k0
      have hg := (hbr.cell (p := ⟨w.heap.size + 1 + 1, i, none⟩) hgb).trans (hd2.2.2 i hlt)
      have j0 : (0 : Int) ≤ (i : Int) := by omega
      have j1 : (i : Int) < 8 := by omega
      have j2 : (0 : Int) ≤ (p : Int) + (i : Int) := by omega
      have j3 : (p : Int) + (i : Int) < (len : Int) := by omega
      have hsm : sm z g p (i + 1) = (sm z g p i && (z (p + i) == g i)) := rfl
      have HC := Lib.hid hcp
      have HS := Lib.hid hsm
      have HR := Lib.hid hbr
      have HD := Lib.hid hd2
      clear hcp hsm hbr hd2
      obtain ⟨q, hq⟩ : ∃ q, sm z g p i = q := ⟨_, rfl⟩
      obtain ⟨a, hae⟩ : ∃ a, z (p + i) = a := ⟨_, rfl⟩
      obtain ⟨b, hbe⟩ : ∃ b, g i = b := ⟨_, rfl⟩
      rw [hbe] at hg
      rw [hae] at k0
      rw [hq]
      have HQ := Lib.hid (And.intro hq (And.intro hae hbe))
      clear hq hae hbe
      cases q
      · go_wp2_with (go_quiet (fail))
        obtain ⟨hq, hae, hbe⟩ := HQ.out
        refine ⟨⟨i + 1, by omega, by simp, by rw [HS.out, hq]; rfl, HC.out.fin hbe nq, (below_drewN HR.out nq).setCell hG _⟩, ?_⟩
        simp only [intOf]
        omega
      · by_cases hab : a = b
        · subst hab
          go_wp2_with (go_quiet (fail))
          obtain ⟨hq, hae, hbe⟩ := HQ.out
          refine ⟨⟨i + 1, by omega, by simp, by rw [HS.out, hq, hae, hbe]; simp, HC.out.fin hbe nq, (below_drewN HR.out nq).setCell hG _⟩, ?_⟩
          simp only [intOf]
          omega
        · have hne : ((a : Int) == (b : Int)) = false := beq_eq_false_iff_ne.2 (by omega)
          go_wp2_with (go_quiet (fail))
          obtain ⟨hq, hae, hbe⟩ := HQ.out
          have hab' : (a == b) = false := beq_eq_false_iff_ne.2 hab
          refine ⟨⟨i + 1, by omega, by simp, by rw [HS.out, hq, hae, hbe, hab']; rfl, HC.out.fin hbe nq, (below_drewN HR.out nq).setCell hG _⟩, ?_⟩
          simp only [intOf]
          omega
    · obtain rfl : i = 8 := by omega
      have hbw : Below w.heap.size w wr := hd2.1.trans (hbr.mono hb.1.size)
      have hby : Bys (fun b => b < wr.heap.size) wr (.slice (some x0) len c) len z := .inr ⟨x0, c, rfl, hlc, fun _ => Nat.lt_of_lt_of_le hx0 hbw.size, fun j hj => (hbw.cell (by rw [add_block]; exact hx0)).trans (HZ.out j hj)⟩
      have hgs : G < wr.heap.size := Nat.lt_of_lt_of_le hGz hbr.size
      have s1 := sum_any s (some x0) len c hl z hzl wr hby
      have s2 : ∀ W, Below wr.heap.size wr W → Calls Try.prog 10 #[.int .u64 s.toNat, .slice (some ⟨G, 0, none⟩) len cap] W fun e w' => e = .returned (.int .u64 (sumv (upd z p g 8) len (Pl.word s (BitVec.ofNat 64 len)) ((len + 7) / 8)).toNat) ∧ Below W.heap.size W w' := fun W hb2 =>
        sum_any s (some ⟨G, 0, none⟩) len cap hl (upd z p g 8) (upd_lt z p g 8 hzl hgl) W (.inr ⟨⟨G, 0, none⟩, cap, rfl, hlc2, fun _ => Nat.lt_of_lt_of_le hgs hb2.size, fun j hj => by
          have e : (⟨G, 0, none⟩ : Addr).add j = ⟨G, j, none⟩ := by
            by_cases hj0 : j = 0
            · subst hj0; simp [Addr.add]
            · simp [Addr.add, hj0]
          rw [e, hb2.cell (p := ⟨G, j, none⟩) hgs]
          exact (hcp j hj).1⟩)
      have hiff := sum_iff z g hzl hgl len (p / 8) (by omega) (Pl.word s (BitVec.ofNat 64 len)) ((len + 7) / 8) (by omega)
      rw [show 8 * (p / 8) = p by omega] at hiff
      have ca := fun W => alive_b W
      generalize sumv z len (Pl.word s (BitVec.ofNat 64 len)) ((len + 7) / 8) = r1 at *
      generalize sumv (upd z p g 8) len (Pl.word s (BitVec.ofNat 64 len)) ((len + 7) / 8) = r2 at *
      generalize sm z g p 8 = q at *
      have HW := Lib.hid hbw
      clear hby hcp hbw hbr hd2
      cases q
      · have hne : ((r1.toNat : Int) == (r2.toNat : Int)) = false := beq_eq_false_iff_ne.2 fun h => by
          have := hiff.1 (BitVec.eq_of_toNat_eq (by omega))
          cases this
        clear hiff
        go_wp2_with (first | (go_at_call 10; first | ((with_reducible refine s1.mono ?_); rintro e w3 ⟨rfl, hb3⟩) | ((with_reducible refine (s2 _ hb3).mono ?_); rintro e w4 ⟨rfl, hb4⟩)) | (go_at_call 9; ((with_reducible refine (ca _).mono ?_); rintro e w5 ⟨rfl, hb5⟩)))
        go_ret
        have z1 := HW.out.size
        have z2 := hb3.size
        have z3 := hb4.size
        exact ⟨rfl, HW.out.trans ((hb3.mono z1).trans ((hb4.mono (by omega)).trans (hb5.mono (by omega))))⟩
      · obtain rfl : r1 = r2 := hiff.2 rfl
        clear hiff
        go_wp2_with (first | (go_at_call 10; first | ((with_reducible refine s1.mono ?_); rintro e w3 ⟨rfl, hb3⟩) | ((with_reducible refine (s2 _ hb3).mono ?_); rintro e w4 ⟨rfl, hb4⟩)) | (go_at_call 9; ((with_reducible refine (ca _).mono ?_); rintro e w5 ⟨rfl, hb5⟩)))
        go_ret
        have z1 := HW.out.size
        have z2 := hb3.size
        have z3 := hb4.size
        exact ⟨rfl, HW.out.trans ((hb3.mono z1).trans ((hb4.mono (by omega)).trans (hb5.mono (by omega))))⟩
set_option maxRecDepth 100000 in
set_option maxHeartbeats 4000000 in
theorem apart_ne (s x y : BitVec 64) (x0 : Addr) (len c p : Nat) (g z : Nat → Nat) (hlc : len ≤ c) (hl : len ≤ 200) (hp8 : (p : Int) % 8 = 0) (hp : p + 8 ≤ len) (hzl : ∀ i, z i < 256) (hgl : ∀ i, g i < 256) (w : World)
    (hx0 : x0.block < w.heap.size) (hxy : ¬ x = y) (hz : ∀ i, i < len → w.cell? (x0.add i) = some (.int .u8 (z i : Nat))) :
    Calls Try.prog 5 #[.int .u64 s.toNat, .agg #[.int .u64 x.toNat, .int .u64 y.toNat], .agg #[.slice (some x0) len c, .int .i64 (p : Nat), .int .u8 (g 0 : Nat), .int .u8 (g 1 : Nat), .int .u8 (g 2 : Nat), .int .u8 (g 3 : Nat), .int .u8 (g 4 : Nat), .int .u8 (g 5 : Nat), .int .u8 (g 6 : Nat), .int .u8 (g 7 : Nat)]] w fun e w' => e = .returned (.bool true) ∧ Below w.heap.size w w' := by
  have hl1 : (len : Int) ≤ 200 := by omega
  have hl0 : (0 : Int) ≤ (len : Int) := by omega
  have hp0 : (0 : Int) ≤ (p : Int) := by omega
  have hp1 : (p : Int) ≤ (len : Int) - 8 := by omega
  obtain ⟨i0, hi, hz0, hz1, hz2⟩ := info_parts info5
  have up : ∀ {f : Nat} {args : Array Value} {v : Value} {W : World}, Hd w W g → Calls Try.prog f args W (fun e w' => e = .returned v ∧ Below W.heap.size W w') → Calls Try.prog f args W fun e w' => e = .returned v ∧ Hd w w' g := fun hb h => h.mono fun e w' ⟨he, h2⟩ => ⟨he, hb.next h2⟩
  have c1 := fun W hb => up hb (word_b s x W)
  have c2 := fun W hb => up hb (word_b s y W)
  have c3 := fun W hb => up hb (word_b x s W)
  have c4 := fun W hb => up hb (word_b y s W)
  clear up
  have hmade : ∀ W : World, (W.alloc (.cells #[] 5)).ownsRow W.heap.size 5 1 (.slice (some ⟨W.heap.size, 0, none⟩) 0 0) 0 [] := fun W => World.ownsRow_made W #[] 0 (Nat.le_refl _) (by unfold maxLen; omega) (by simp)
  have hnews : ∀ W, Hd w W g → ∀ j u, (bys z len)[j]? = some u → (W.alloc (.cells #[] 5)).cell? (x0.add j) = some u := fun W hb j u hj => by
    obtain ⟨h1, rfl⟩ := bys_get _ _ _ _ hj
    exact cell_alloc_l _ ((hb.1.cell (by rw [add_block]; exact hx0)).trans (hz j h1))
  have HN := Lib.hid hnews
  clear hnews
  have HZ := Lib.hid hz
  have HP := Lib.hid hp8
  clear hz
  have n1 : ¬ Pl.word s x = Pl.word s y := fun h => hxy (Pl.word_inj _ _ _ h)
  have n2 : ¬ Pl.word x s = Pl.word y s := fun h => hxy (Pl.word_inj' _ _ _ h)
  generalize Pl.word s x = p1 at *
  generalize Pl.word s y = p2 at *
  generalize Pl.word x s = q1 at *
  generalize Pl.word y s = q2 at *
  have m0 : ((x.toNat : Int) == (y.toNat : Int)) = false := beq_eq_false_iff_ne.2 fun h => hxy (BitVec.eq_of_toNat_eq (by omega))
  have m1 : ((p1.toNat : Int) == (p2.toNat : Int)) = false := beq_eq_false_iff_ne.2 fun h => n1 (BitVec.eq_of_toNat_eq (by omega))
  have m2 : ((q1.toNat : Int) == (q2.toNat : Int)) = false := beq_eq_false_iff_ne.2 fun h => n2 (BitVec.eq_of_toNat_eq (by omega))
  clear n1 n2 hxy
  go_enter Try.func5, Try.ntmps5
  go_wp2_with fail
  go_region
  go_wp2_with fail
  go_region
  go_wp2_with (first | (go_at_call 6; first | ((with_reducible refine (c1 _ (Hd.start _ _ _ _ _ _)).mono ?_); rintro e w1 ⟨rfl, hb⟩; clear c1) | ((with_reducible refine (c2 _ hb).mono ?_); rintro e w1 ⟨rfl, hb⟩; clear c2) | ((with_reducible refine (c3 _ hb).mono ?_); rintro e w1 ⟨rfl, hb⟩; clear c3) | ((with_reducible refine (c4 _ hb).mono ?_); rintro e w1 ⟨rfl, hb⟩; clear c4)) | (at_builtin; refine wpList_append_own _ rfl (.tmp 68) (.tmp 69) 26 rfl w1.heap.size 5 i0 (.int .u8 0) 1 1 Try.underlying26 hi hz0 hz1 hz2 rfl (by decide) _ 0 [] rfl (hmade w1) x0 len c (bys z len) rfl (by simp [bys]) (HN.out _ hb) (bys_one _ _) (by unfold maxLen; omega) (by omega) (by simp) ?_; intro v' W2 hown2 hgrow _; obtain ⟨G, cap, rfl, hG, hGz, hlc2, hcm, hcp⟩ := own_cp (p := p) (g := g) (by omega) hown2))
  clear m0 m1 m2
  have hB2 : Below w1.heap.size w1 W2 := (Below.alloc (Below.refl _ w1) (Nat.le_refl _) _).grown hgrow (by simp) (fun k hk => by cases hk; exact Nat.le_refl _)
  have hd2 : Hd w W2 g := hb.next hB2
  have hgb : w.heap.size + 1 + 1 < w1.heap.size := hb.2.1
  clear hown2 hgrow hB2 hz1 hz2 hz0 hi
  go_loopw [13, 14] (fun sv iv wr => ∃ i : Nat, i ≤ 8 ∧ iv = .int .i64 i ∧ sv = .bool (sm z g p i) ∧ Cp wr G len (upd z p g i) ∧ Below w1.heap.size W2 wr) (fun sv iv wr => 8 - (intOf iv).toNat)
  case atStart => exact ⟨0, by omega, rfl, rfl, hcp, Below.refl _ _⟩
  case round =>
    obtain ⟨i, hi8, rfl, rfl, hcp, hbr⟩ := hrel
    by_cases hlt : i < 8
    · obtain ⟨k0, k1⟩ := hcp (p + i) (by omega)
      rw [upd_at] at k0
      have hg := (hbr.cell (p := ⟨w.heap.size + 1 + 1, i, none⟩) hgb).trans (hd2.2.2 i hlt)
      have j0 : (0 : Int) ≤ (i : Int) := by omega
      have j1 : (i : Int) < 8 := by omega
      have j2 : (0 : Int) ≤ (p : Int) + (i : Int) := by omega
      have j3 : (p : Int) + (i : Int) < (len : Int) := by omega
      have hsm : sm z g p (i + 1) = (sm z g p i && (z (p + i) == g i)) := rfl
      have HC := Lib.hid hcp
      have HS := Lib.hid hsm
      have HR := Lib.hid hbr
      have HD := Lib.hid hd2
      clear hcp hsm hbr hd2
      obtain ⟨q, hq⟩ : ∃ q, sm z g p i = q := ⟨_, rfl⟩
      obtain ⟨a, hae⟩ : ∃ a, z (p + i) = a := ⟨_, rfl⟩
      obtain ⟨b, hbe⟩ : ∃ b, g i = b := ⟨_, rfl⟩
      rw [hbe] at hg
      rw [hae] at k0
      rw [hq]
      have HQ := Lib.hid (And.intro hq (And.intro hae hbe))
      clear hq hae hbe
      cases q
      · go_wp2_with (go_quiet (fail))
        obtain ⟨hq, hae, hbe⟩ := HQ.out
        refine ⟨⟨i + 1, by omega, by simp, by rw [HS.out, hq]; rfl, HC.out.fin hbe nq, (below_drewN HR.out nq).setCell hG _⟩, ?_⟩
        simp only [intOf]
        omega
      · by_cases hab : a = b
        · subst hab
          go_wp2_with (go_quiet (fail))
          obtain ⟨hq, hae, hbe⟩ := HQ.out
          refine ⟨⟨i + 1, by omega, by simp, by rw [HS.out, hq, hae, hbe]; simp, HC.out.fin hbe nq, (below_drewN HR.out nq).setCell hG _⟩, ?_⟩
          simp only [intOf]
          omega
        · have hne : ((a : Int) == (b : Int)) = false := beq_eq_false_iff_ne.2 (by omega)
          go_wp2_with (go_quiet (fail))
          obtain ⟨hq, hae, hbe⟩ := HQ.out
          have hab' : (a == b) = false := beq_eq_false_iff_ne.2 hab
          refine ⟨⟨i + 1, by omega, by simp, by rw [HS.out, hq, hae, hbe, hab']; rfl, HC.out.fin hbe nq, (below_drewN HR.out nq).setCell hG _⟩, ?_⟩
          simp only [intOf]
          omega
    · obtain rfl : i = 8 := by omega
      have hbw : Below w.heap.size w wr := hd2.1.trans (hbr.mono hb.1.size)
      have hby : Bys (fun b => b < wr.heap.size) wr (.slice (some x0) len c) len z := .inr ⟨x0, c, rfl, hlc, fun _ => Nat.lt_of_lt_of_le hx0 hbw.size, fun j hj => (hbw.cell (by rw [add_block]; exact hx0)).trans (HZ.out j hj)⟩
      have hgs : G < wr.heap.size := Nat.lt_of_lt_of_le hGz hbr.size
      have s1 := sum_any s (some x0) len c hl z hzl wr hby
      have s2 : ∀ W, Below wr.heap.size wr W → Calls Try.prog 10 #[.int .u64 s.toNat, .slice (some ⟨G, 0, none⟩) len cap] W fun e w' => e = .returned (.int .u64 (sumv (upd z p g 8) len (Pl.word s (BitVec.ofNat 64 len)) ((len + 7) / 8)).toNat) ∧ Below W.heap.size W w' := fun W hb2 =>
        sum_any s (some ⟨G, 0, none⟩) len cap hl (upd z p g 8) (upd_lt z p g 8 hzl hgl) W (.inr ⟨⟨G, 0, none⟩, cap, rfl, hlc2, fun _ => Nat.lt_of_lt_of_le hgs hb2.size, fun j hj => by
          have e : (⟨G, 0, none⟩ : Addr).add j = ⟨G, j, none⟩ := by
            by_cases hj0 : j = 0
            · subst hj0; simp [Addr.add]
            · simp [Addr.add, hj0]
          rw [e, hb2.cell (p := ⟨G, j, none⟩) hgs]
          exact (hcp j hj).1⟩)
      have hiff := sum_iff z g hzl hgl len (p / 8) (by omega) (Pl.word s (BitVec.ofNat 64 len)) ((len + 7) / 8) (by omega)
      rw [show 8 * (p / 8) = p by omega] at hiff
      have ca := fun W => alive_b W
      generalize sumv z len (Pl.word s (BitVec.ofNat 64 len)) ((len + 7) / 8) = r1 at *
      generalize sumv (upd z p g 8) len (Pl.word s (BitVec.ofNat 64 len)) ((len + 7) / 8) = r2 at *
      generalize sm z g p 8 = q at *
      have HW := Lib.hid hbw
      clear hby hcp hbw hbr hd2
      cases q
      · have hne : ((r1.toNat : Int) == (r2.toNat : Int)) = false := beq_eq_false_iff_ne.2 fun h => by
          have := hiff.1 (BitVec.eq_of_toNat_eq (by omega))
          cases this
        clear hiff
        go_wp2_with (first | (go_at_call 10; first | ((with_reducible refine s1.mono ?_); rintro e w3 ⟨rfl, hb3⟩) | ((with_reducible refine (s2 _ hb3).mono ?_); rintro e w4 ⟨rfl, hb4⟩)) | (go_at_call 9; ((with_reducible refine (ca _).mono ?_); rintro e w5 ⟨rfl, hb5⟩)))
        go_ret
        have z1 := HW.out.size
        have z2 := hb3.size
        have z3 := hb4.size
        exact ⟨rfl, HW.out.trans ((hb3.mono z1).trans ((hb4.mono (by omega)).trans (hb5.mono (by omega))))⟩
      · obtain rfl : r1 = r2 := hiff.2 rfl
        clear hiff
        go_wp2_with (first | (go_at_call 10; first | ((with_reducible refine s1.mono ?_); rintro e w3 ⟨rfl, hb3⟩) | ((with_reducible refine (s2 _ hb3).mono ?_); rintro e w4 ⟨rfl, hb4⟩)) | (go_at_call 9; ((with_reducible refine (ca _).mono ?_); rintro e w5 ⟨rfl, hb5⟩)))
        go_ret
        have z1 := HW.out.size
        have z2 := hb3.size
        have z3 := hb4.size
        exact ⟨rfl, HW.out.trans ((hb3.mono z1).trans ((hb4.mono (by omega)).trans (hb5.mono (by omega))))⟩
theorem apart_walk (s x y : BitVec 64) (ao : Option Addr) (len c : Nat) (a : Int) (g z : Nat → Nat) (ha : -9223372036854775808 ≤ a) (ha2 : a ≤ 9223372036854775807) (hlm : len ≤ maxLen) (hzl : ∀ i, z i < 256) (hgl : ∀ i, g i < 256) (w : World) (hB : Bys (fun b => b < w.heap.size) w (.slice ao len c) len z) :
    Calls Try.prog 5 #[.int .u64 s.toNat, .agg #[.int .u64 x.toNat, .int .u64 y.toNat], .agg #[.slice ao len c, .int .i64 a, .int .u8 (g 0 : Nat), .int .u8 (g 1 : Nat), .int .u8 (g 2 : Nat), .int .u8 (g 3 : Nat), .int .u8 (g 4 : Nat), .int .u8 (g 5 : Nat), .int .u8 (g 6 : Nat), .int .u8 (g 7 : Nat)]] w fun e w' => e = .returned (.bool true) ∧ Below w.heap.size w w' := by
  by_cases hl : len ≤ 200
  · by_cases hbad : a < 0 ∨ (0 ≤ a ∧ ¬ a % 8 = 0) ∨ (0 ≤ a ∧ a % 8 = 0 ∧ (len : Int) - 8 < a)
    · exact apart_bad s x y ao len c a g hl ha ha2 hbad w
    · obtain ⟨p, rfl⟩ : ∃ p : Nat, a = (p : Nat) := ⟨a.toNat, by omega⟩
      rcases hB with ⟨_, rfl⟩ | ⟨x0, cc, h, hlc, hx, hz⟩
      · exact absurd hbad (by omega)
      · simp only [Value.slice.injEq] at h
        obtain ⟨rfl, _, rfl⟩ := h
        by_cases hxy : x = y
        · exact apart_eq s x y x0 len c p g z hlc hl (by omega) (by omega) hzl hgl w (hx (by omega)) hxy hz
        · exact apart_ne s x y x0 len c p g z hlc hl (by omega) (by omega) hzl hgl w (hx (by omega)) hxy hz
  · exact apart_long s x y ao len c a g hlm hl w
end Go.Proofs.Ytokjafikgfapmaa
