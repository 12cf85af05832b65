/- The walk of the law BlobComes. -/
import Derived.Test.YtkmikgajmopcbaaSl
import Derived.Deep.RegionHeld3
import Derived.Laws.Rows
namespace Go.Proofs.Ytkmikgajmopcbaa
open Go.RowKit
set_option linter.unusedVariables false
set_option linter.unusedSimpArgs false
theorem alloc_new_at (w : World) (o : Obj) : (w.alloc o).heap[w.heap.size]? = some o := heap_alloc_new w o
/-- A step among the cells: at q the four fields; its bytes are ns. -/
structure Step1 (W : World) (q : Addr) (c l : Bool) (o : Nat) (A : Option Addr) (m k : Nat) (ns : List Int) : Prop where
  h0 : W.cell? q = some (.bool c)
  h1 : W.cell? ⟨q.block, q.off + 1, none⟩ = some (.int .u32 o)
  h2 : W.cell? ⟨q.block, q.off + 2, none⟩ = some (.bool l)
  h3 : W.cell? ⟨q.block, q.off + 3, none⟩ = some (.slice A m k)
  src : Src W A m k ns
  ob : o < 4294967296
  mb : m ≤ 9223372036854775807
theorem Src.below {W W' : World} {A : Option Addr} {m c : Nat} {ns : List Int} (h : Src W A m c ns) (hb : Below W.heap.size W W') : Src W' A m c ns := by
  rcases h with h | ⟨ad, e, hl, hc⟩
  · exact .inl h
  · exact .inr ⟨ad, e, hl, fun j hj => keepB hb (hc j hj)⟩
theorem Step1.below {W W' : World} {q : Addr} {c l : Bool} {o : Nat} {A : Option Addr} {m k : Nat} {ns : List Int} (h : Step1 W q c l o A m k ns) (hb : Below W.heap.size W W') : Step1 W' q c l o A m k ns :=
  ⟨keepB hb h.h0, keepB hb h.h1, keepB hb h.h2, keepB hb h.h3, h.src.below hb, h.ob, h.mb⟩
theorem putf_len (xs : List Int) (all : Bool) (most off : Int) (last : Bool) (ns : List Int) : (putf xs all most off last ns).2.1.length ≤ xs.length + ns.length := by
  unfold putf
  split
  · show xs.length ≤ _; omega
  · split
    · show xs.length ≤ _; omega
    · split
      · show xs.length ≤ _; omega
      · show (xs ++ ns).length ≤ _; rw [List.length_append]; omega
/-- Both receivers in one world: the program's at B, the document's at M; the same has come to both. -/
structure Both (w : World) (most : Int) (i M : Nat) (v v2 : Value) (zs : List Int) (all : Bool) (W : World) : Prop where
  x : Mt W w.heap.size 47 v all (max most 0)
  m : Mt W M 29 v2 all most
  ox : W.ownsRow (w.heap.size + 1) 5 1 v zs.length (vals zs)
  om : W.ownsRow (w.heap.size + 1) 5 1 v2 zs.length (vals zs)
  sep : ∀ g, v.ownBlock = some g → v2.ownBlock ≠ some g
  len : zs.length ≤ 100 * i
  lt : w.heap.size < M
  b : Below w.heap.size w W
def Inv (w : World) (most : Int) (i M : Nat) (W : World) : Prop := ∃ v v2 zs all, Both w most i M v v2 zs all W
/-- A call that leaves alone what lies keeps both. -/
theorem Both.kept {w : World} {most : Int} {i M : Nat} {v v2 : Value} {zs : List Int} {all : Bool} {W W' : World} (h : Both w most i M v v2 zs all W) (hb : Below W.heap.size W W') : Both w most i M v v2 zs all W' := by
  have hk : Kept (fun _ => False) W W' := Kept.of_below hb
  exact ⟨h.x.kept hk id, h.m.kept hk id, own_kept h.ox fun g hg => hb.block g (h.ox.lt g hg).2, own_kept h.om fun g hg => hb.block g (h.om.lt g hg).2, h.sep, h.len, h.lt, h.b.trans (hb.mono h.b.size)⟩
/-- What the program's Put leaves of the other. -/
theorem Both.put1 {w : World} {most : Int} {i M : Nat} {v v2 : Value} {zs : List Int} {all : Bool} {W W1 : World} (h : Both w most i M v v2 zs all W) (hk : Kept (fun k => k = w.heap.size ∨ v.ownBlock = some k) W W1) :
    Mt W1 M 29 v2 all most ∧ W1.ownsRow (w.heap.size + 1) 5 1 v2 zs.length (vals zs) ∧ Below w.heap.size W W1 := by
  refine ⟨h.m.kept hk ?_, own_kept h.om fun g hg => hk.block g (h.om.lt g hg).2 ?_, hk.below h.b.size ?_⟩
  · rintro (e | e)
    · exact h.x.ne h.m (by decide) e.symm
    · exact h.m.not_own h.ox (by decide) e
  · rintro (e | e)
    · rw [e] at hg
      exact h.x.not_own h.om (by decide) hg
    · exact h.sep g e hg
  · rintro k (e | e)
    · omega
    · have := (h.ox.lt k e).1
      omega
theorem Both.put2 {w : World} {most : Int} {i M : Nat} {v v2 v' v2' : Value} {zs zs1 : List Int} {all all1 : Bool} {W W1 W2 : World} (h : Both w most i M v v2 zs all W) (hl : zs1.length ≤ 100 * (i + 1)) (hk : Kept (fun k => k = w.heap.size ∨ v.ownBlock = some k) W W1)
    (hx : Mt W1 w.heap.size 47 v' all1 (max most 0)) (ho : W1.ownsRow (w.heap.size + 1) 5 1 v' zs1.length (vals zs1)) (hat : v'.ownBlock = v.ownBlock ∨ ∀ g, v'.ownBlock = some g → W.heap.size ≤ g)
    (hk2 : Kept (fun k => k = M) W1 W2) (hm : Mt W2 M 29 v2' all1 most) (ho2 : W2.ownsRow (w.heap.size + 1) 5 1 v2' zs1.length (vals zs1)) (hat2 : v2'.ownBlock = v2.ownBlock ∨ ∀ g, v2'.ownBlock = some g → W1.heap.size ≤ g) :
    Both w most (i + 1) M v' v2' zs1 all1 W2 := by
  obtain ⟨hm1, ho1, hb1⟩ := h.put1 hk
  refine ⟨hx.kept hk2 (hx.ne hm1 (by decide)), hm, own_kept ho fun g hg => hk2.block g (ho.lt g hg).2 fun e => ?_, ho2, ?_, hl, h.lt, (h.b.trans hb1).trans (hk2.below (Nat.le_trans h.b.size hb1.size) fun k e => by have := h.lt; omega)⟩
  · rw [e] at hg
    exact hm1.not_own ho (by decide) hg
  · intro g hg e
    rcases hat2 with q | q
    · rw [q] at e
      rcases hat with p | p
      · rw [p] at hg
        exact h.sep g hg e
      · have a := p g hg
        have b := (h.om.lt g e).2
        omega
    · have a := q g e
      have b := (ho.lt g hg).2
      omega
set_option maxRecDepth 100000 in
set_option maxHeartbeats 4000000 in
theorem comes_row (most : Int) (x : Addr) (len cap : Nat) (hl : len ≤ 60) (hm0 : -9223372036854775808 ≤ most) (hm1 : most ≤ 9223372036854775807) (w : World) (hst : ∀ i, i < len → ∃ c l o A m k ns, Step1 w (x.add (i * 4)) c l o A m k ns) :
    Calls Try.prog 3 #[.int .i64 most, .slice (some x) len cap] w fun e w' => e = .returned (.bool true) ∧ Below w.heap.size w w' := by
  have ca := fun W => alive_any W
  have c1 := fun W => new_any most W
  have hl0 : (0 : Int) ≤ (len : Int) := by omega
  have hl1 : (len : Int) ≤ 60 := by omega
  have HST := Lib.hid hst
  clear hst
  go_enter Try.func3, Try.ntmps3
  go_wp2_with (go_at_call 7; ((with_reducible refine (c1 _).mono ?_); rintro e w' ⟨rfl, rfl⟩))
  go_loopw [6, 7] (fun mv iv wr => ∃ i M : Nat, iv = .int .i64 i ∧ i ≤ len ∧ mv = .pointer (some ⟨M, 0, none⟩) ∧ Inv w most i M wr) (fun mv iv wr => len - (intOf iv).toNat)
  case atStart =>
    refine ⟨0, w.heap.size + 1, rfl, by omega, rfl, .slice none 0 0, .slice none 0 0, [], false, ⟨?_, ?_, World.ownsRow_nil _ _ _ _, World.ownsRow_nil _ _ _ _, fun g hg => (by cases hg), Nat.zero_le _, by omega, by go_grown⟩⟩
    · exact (Below.heap_alloc _ _ _ (by simp)).trans (alloc_new_at w _)
    · have h := alloc_new_at (w.alloc (.cells #[.slice none 0 0, .bool false, .int .i64 (max most 0)] 47)) (.cells #[.slice none 0 0, .bool false, .int .i64 most] 29)
      rw [World.size_alloc] at h
      exact h
  case round =>
    obtain ⟨i, M, rfl, hi, rfl, hinv⟩ := hrel
    by_cases hlt : i < len
    · have hi0 : (0 : Int) ≤ (i : Int) := by omega
      have hi1 : (i : Int) < (len : Int) := by omega
      obtain ⟨v, v2, zs, all, hb⟩ := hinv
      obtain ⟨c, l, o, A, m, k, ns, hs0⟩ := HST.out i hlt
      have hs := hs0.below hb.b
      obtain ⟨h0, h1, h2, h3, hsrc, hob, hmb⟩ := hs
      obtain ⟨q, hq⟩ : ∃ q, x.add (i * 4) = q := ⟨_, rfl⟩
      rw [hq] at h0 h1 h2 h3
      by_cases hmm : 100 < m
      · have hm2 : (100 : Int) < (m : Int) := by omega
        have HB := Lib.hid hb
        clear hsrc hob hb hs0
        go_wp2_with (go_at_call 6; ((with_reducible refine (ca _).mono ?_); rintro e w3 ⟨rfl, hb3⟩))
        go_ret
        exact ⟨rfl, HB.out.b.trans (hb3.mono HB.out.b.size)⟩
      · have hm2 : (m : Int) ≤ 100 := by omega
        cases c
        case' true =>
          have hMx := hb.x
          have cc := clear_at wr w.heap.size v all (max most 0) hMx
          have HB := Lib.hid hb
          clear hsrc hob hb hs0 hMx
          go_wp2_with (go_at_call 8; ((with_reducible refine cc.mono ?_); rintro e W1 ⟨rfl, hx1, hk1⟩))
          have hb := HB.out
          have hb1 : Below w.heap.size wr W1 := hk1.below hb.b.size (fun k hk => by rw [hk]; exact Nat.le_refl _)
          have hW1 : w.heap.size < W1.heap.size := hx1.lt
          obtain ⟨W, hW⟩ : ∃ W, W1.alloc (.cells #[.slice none 0 0, .bool false, .int .i64 most] 29) = W := ⟨_, rfl⟩
          obtain ⟨M1, hM1⟩ : ∃ M1, W1.heap.size = M1 := ⟨_, rfl⟩
          have hbW : Both w most (i + 1) M1 (.slice none 0 0) (.slice none 0 0) [] false W := by
            rw [← hW, ← hM1]
            exact ⟨(Below.heap_alloc _ _ _ hW1).trans hx1, alloc_new_at W1 _, World.ownsRow_nil _ _ _ _, World.ownsRow_nil _ _ _ _, fun g hg => (by cases hg), Nat.zero_le _, hW1, (hb.b.trans hb1).alloc (by omega) _⟩
          rw [hW, hM1]
          clear hW hM1 hb hb1 hk1 hx1 HB hW1
          obtain ⟨v', hv⟩ : ∃ v', Value.slice none 0 0 = v' := ⟨_, rfl⟩
          obtain ⟨zs1, hzs⟩ : ∃ zs1 : List Int, [] = zs1 := ⟨_, rfl⟩
          obtain ⟨all1, hall⟩ : ∃ all1, false = all1 := ⟨_, rfl⟩
          rw [hzs, hall] at hbW
          clear hzs hall hv
        case' false =>
          obtain ⟨code, zs1, all1, hr⟩ : ∃ code zs1 all1, putf zs all (max most 0) o l ns = (code, zs1, all1) := ⟨_, _, _, rfl⟩
          have hzl : zs1.length ≤ 100 * (i + 1) := by
            have h := putf_len zs all (max most 0) o l ns
            rw [hr] at h
            have h2 : zs1.length ≤ zs.length + ns.length := h
            have := hb.len
            have := hsrc.len
            omega
          have cx : ∀ W, Both w most i M v v2 zs all W → Src W A m k ns → Calls Try.prog 9 #[.pointer (some ⟨w.heap.size, 0, none⟩), .int .u32 o, .bool l, .slice A m k] W fun e w' => e = .returned (.int .i64 code) ∧ ∃ v', Mt w' w.heap.size 47 v' all1 (max most 0) ∧ w'.ownsRow (w.heap.size + 1) 5 1 v' zs1.length (vals zs1) ∧ Kept (fun k => k = w.heap.size ∨ v.ownBlock = some k) W w' ∧ (v'.ownBlock = v.ownBlock ∨ ∀ g, v'.ownBlock = some g → W.heap.size ≤ g) := fun W h hsr => by
            have h1 := xput W w.heap.size (w.heap.size + 1) m k (max most 0) v zs ns A all l o h.x h.ox (by have := h.x.lt; omega) (by have := h.len; omega) (by omega) (by omega) (by omega) hob hsr
            rw [hr] at h1
            exact h1
          have cm : ∀ W, Mt W M 29 v2 all most → W.ownsRow (w.heap.size + 1) 5 1 v2 zs.length (vals zs) → w.heap.size < W.heap.size → Src W A m k ns → Calls Try.prog 10 #[.pointer (some ⟨M, 0, none⟩), .int .u32 o, .bool l, .slice A m k] W fun e w' => e = .returned (.int .i64 code) ∧ ∃ v', Mt w' M 29 v' all1 most ∧ w'.ownsRow (w.heap.size + 1) 5 1 v' zs1.length (vals zs1) ∧ Kept (fun k => k = M) W w' ∧ (v'.ownBlock = v2.ownBlock ∨ ∀ g, v'.ownBlock = some g → W.heap.size ≤ g) := fun W h1 h2 h3 hsr => by
            have h1 := mput W M (w.heap.size + 1) m k most v2 zs ns A all l o h1 h2 (by omega) (by have := hb.len; omega) (by omega) hm0 hm1 hob hsr
            rw [hr] at h1
            exact h1
          have hbd : Both w most i M v v2 zs all wr.drew := hb.kept (Below.refl _ _).drew
          have hsd : Src wr.drew A m k ns := hsrc
          have hS : wr.cell? ⟨q.block, q.off + 1, none⟩ = some (.int .u32 o) ∧ wr.cell? ⟨q.block, q.off + 2, none⟩ = some (.bool l) ∧ wr.cell? ⟨q.block, q.off + 3, none⟩ = some (.slice A m k) := ⟨h1, h2, h3⟩
          have s1 : ∀ W1, Below w.heap.size wr.drew W1 → Step1 W1 q false l o A m k ns := fun W1 h => by
            rw [← hq]
            exact hs0.below (hb.b.trans ((Below.refl _ wr).drew.trans h))
          have HB := Lib.hid hbd
          have HS := Lib.hid hS
          have HD := Lib.hid hsd
          have HL := Lib.hid hzl
          have HR := Lib.hid hr
          clear hbd hS hsd hzl hr hsrc hb hs0 hob
          go_wp2
          go_region_held3 (fun w' => w'.cell? ⟨q.block, q.off + 1, none⟩ = some (.int .u32 o) ∧ w'.cell? ⟨q.block, q.off + 2, none⟩ = some (.bool l) ∧ w'.cell? ⟨q.block, q.off + 3, none⟩ = some (.slice A m k)) (first | exact HS.out | exact HS1.out | exact HS2.out)
            (first | (go_at_call 9; refine (cx _ HB.out HD.out).mono ?_; rintro e W1 ⟨rfl, v', hx1, ho1, hk1, hat1⟩; obtain ⟨hm1, hq1, hb1⟩ := HB.out.put1 hk1; have st1 := s1 _ hb1; have HS1 := Lib.hid (And.intro st1.h1 (And.intro st1.h2 st1.h3)); have HD1 := Lib.hid st1.src; have hz1 : w.heap.size < W1.heap.size := hx1.lt; have HH1 := Lib.hid (And.intro hx1 (And.intro ho1 (And.intro hk1 (And.intro hat1 (And.intro hm1 (And.intro hq1 hb1)))))); clear hx1 ho1 hk1 hat1 hm1 hq1 hb1 st1) | (go_at_call 10; refine (cm _ HH1.out.2.2.2.2.1 HH1.out.2.2.2.2.2.1 hz1 HD1.out).mono ?_; rintro e W2 ⟨rfl, v3, hx2, ho2, hk2, hat2⟩; have hb2 := HB.out.put2 HL.out HH1.out.2.2.1 HH1.out.1 HH1.out.2.1 HH1.out.2.2.2.1 hk2 hx2 ho2 hat2; have hbb := HH1.out.2.2.2.2.2.2.trans (hk2.below (Nat.le_of_lt hz1) (fun k e => by have := hb2.lt; omega)); have st2 := s1 _ hbb; have HS2 := Lib.hid (And.intro st2.h1 (And.intro st2.h2 st2.h3)); have HB2 := Lib.hid hb2; clear hx2 ho2 hk2 hat2 hb2 hbb st2))
          go_wp2
          have hbW := HB2.out
          obtain ⟨W, hW⟩ : ∃ W, W2 = W := ⟨_, rfl⟩
          obtain ⟨M1, hM1⟩ : ∃ M1, M = M1 := ⟨_, rfl⟩
          rw [hW, hM1] at hbW
          rw [hW, hM1]
          clear hW hM1
        all_goals
          obtain ⟨vx, vm, hbW⟩ : ∃ vx vm, Both w most (i + 1) M1 vx vm zs1 all1 W := ⟨_, _, hbW⟩
          obtain ⟨ax, kx, rfl⟩ := form hbW.ox
          obtain ⟨am, km, rfl⟩ := form hbW.om
          have cl := fun W' (h : Both w most (i + 1) M1 (.slice ax zs1.length kx) (.slice am zs1.length km) zs1 all1 W') => len_at W' _ _ _ _ _ _ h.x
          have cw := fun W' (h : Both w most (i + 1) M1 (.slice ax zs1.length kx) (.slice am zs1.length km) zs1 all1 W') => whole_at W' _ _ h.x.cell.2.1
          have cb := fun W' (h : Both w most (i + 1) M1 (.slice ax zs1.length kx) (.slice am zs1.length km) zs1 all1 W') => bytes_at W' _ _ _ _ _ _ h.x h.ox (by have := h.len; omega)
          have hn6 : zs1.length ≤ 6000 := by have := hbW.len; omega
          have hS : W.cell? ⟨M1, 0, none⟩ = some (.slice am zs1.length km) ∧ W.cell? ⟨M1, 1, none⟩ = some (.bool all1) := ⟨hbW.m.cell.1, hbW.m.cell.2.1⟩
          have hbd : Both w most (i + 1) M1 (.slice ax zs1.length kx) (.slice am zs1.length km) zs1 all1 W.drew := hbW.kept (Below.refl _ _).drew
          have HB := Lib.hid hbW
          have HS := Lib.hid hS
          have HD := Lib.hid hbd
          clear hbW hS hbd
          go_region_held3 (fun w' => w'.cell? ⟨M1, 0, none⟩ = some (.slice am zs1.length km) ∧ w'.cell? ⟨M1, 1, none⟩ = some (.bool all1)) (first | exact HS.out | exact HS5.out | exact HS6.out)
            (first | (go_at_call 11; refine (cl _ HD.out).mono ?_; rintro e w' ⟨rfl, rfl⟩) | (go_at_call 12; refine (cw _ HD.out).mono ?_; rintro e w' ⟨rfl, rfl⟩) | (go_at_call 14; refine (cb _ HD.out).mono ?_; rintro e W5 ⟨u, rfl, hu, hb5⟩; have hB5 := HD.out.kept hb5; have HS5 := Lib.hid (And.intro hB5.m.cell.1 hB5.m.cell.2.1); obtain ⟨au, ku, rfl⟩ := form hu; have cs := same_own W5 _ _ 0 _ _ _ _ zs1 hn6 hu hB5.om; have HB5 := Lib.hid hB5; clear hB5 hu) | (go_at_call 13; refine cs.mono ?_; rintro e W6 ⟨rfl, hb6⟩; have hB6 := HB5.out.kept hb6; have HS6 := Lib.hid (And.intro hB6.m.cell.1 hB6.m.cell.2.1); have HB6 := Lib.hid hB6; clear hB6))
          go_wp2
          refine ⟨⟨i + 1, M1, by simp, by omega, rfl, _, _, _, _, HB6.out⟩, ?_⟩
          simp only [intOf]
          omega
    · obtain rfl : i = len := by omega
      obtain ⟨v, v2, zs, all, hb⟩ := hinv
      have HB := Lib.hid hb
      clear hb
      go_wp2_with (go_at_call 6; ((with_reducible refine (ca _).mono ?_); rintro e w3 ⟨rfl, hb3⟩))
      go_ret
      exact ⟨rfl, HB.out.b.trans (hb3.mono HB.out.b.size)⟩
set_option maxRecDepth 100000 in
theorem comes_nil (most : Int) (w : World) : Calls Try.prog 3 #[.int .i64 most, .slice none 0 0] w fun e w' => e = .returned (.bool true) ∧ Below w.heap.size w w' := by
  have ca := fun W => alive_any W
  have c1 := fun W => new_any most W
  go_enter Try.func3, Try.ntmps3
  go_wp2_with (go_at_call 7; ((with_reducible refine (c1 _).mono ?_); rintro e w' ⟨rfl, rfl⟩))
  go_loopw [6, 7] (fun mv iv wr => iv = .int .i64 0 ∧ Below w.heap.size w wr) (fun mv iv wr => 0)
  case atStart => exact ⟨rfl, by go_grown⟩
  case round =>
    obtain ⟨rfl, hb⟩ := hrel
    have HB := Lib.hid hb
    clear hb
    go_wp2_with (go_at_call 6; ((with_reducible refine (ca _).mono ?_); rintro e w3 ⟨rfl, hb3⟩))
    go_ret
    exact ⟨rfl, HB.out.trans (hb3.mono HB.out.size)⟩
set_option maxRecDepth 100000 in
theorem comes_long (most : Int) (a : Option Addr) (len cap : Nat) (hl : ¬ len ≤ 60) (hm : len ≤ maxLen) (w : World) : Calls Try.prog 3 #[.int .i64 most, .slice a len cap] w fun e w' => e = .returned (.bool true) ∧ Below w.heap.size w w' := by
  have ca := fun W => alive_any W
  unfold maxLen at hm
  have hl1 : ¬ (len : Int) ≤ 60 := by omega
  go_enter Try.func3, Try.ntmps3
  go_wp2_with (go_at_call 6; ((with_reducible refine (ca _).mono ?_); rintro e w3 ⟨rfl, hb3⟩))
  go_ret
  exact ⟨rfl, hb3⟩
theorem comes_walk (most : Int) (a : Option Addr) (len cap : Nat) (hm0 : -9223372036854775808 ≤ most) (hm1 : most ≤ 9223372036854775807) (w : World)
    (h : (a = none ∧ len = 0 ∧ cap = 0) ∨ ∃ x, a = some x ∧ len ≤ maxLen ∧ ∀ i, i < len → ∃ c l o A m k ns, Step1 w (x.add (i * 4)) c l o A m k ns) :
    Calls Try.prog 3 #[.int .i64 most, .slice a len cap] w fun e w' => e = .returned (.bool true) ∧ Below w.heap.size w w' := by
  rcases h with ⟨rfl, rfl, rfl⟩ | ⟨x, rfl, hlm, hst⟩
  · exact comes_nil most w
  · by_cases hl : len ≤ 60
    · exact comes_row most x len cap hl hm0 hm1 w hst
    · exact comes_long most (some x) len cap hl hlm w
end Go.Proofs.Ytkmikgajmopcbaa
