/- The walk of the law NetTimes. -/
import Derived.Test.YtlaicijacoblbaaIw
import Derived.Deep.DeepCutAuto
import Derived.Deep.CutRange
namespace Go.Proofs.Ytlaicijacoblbaa
open Go.RowKit
set_option linter.unusedVariables false
set_option linter.unusedSimpArgs false
set_option maxRecDepth 100000 in
set_option maxHeartbeats 8000000 in
theorem times_row (x : Addr) (len cap : Nat) (hlm : len ≤ 9223372036854775807) (w : World) (hst : ∀ i, i < len → ∃ dd at_ pl by_ tt A m k ns, Step1 w (x.add (i * 6)) dd at_ pl by_ tt A m k ns) :
    Calls Try.prog 3 #[.slice (some x) len cap] w fun e w' => e = .returned (.bool true) ∧ Below w.heap.size w w' := by
  have ca := fun W => alive_any W
  have cl := light_row x len cap hlm w hst
  have HST := Lib.hid hst
  clear hst
  have up : ∀ {f : Nat} {args : Array Value} {v : Value} {W : World}, Below w.heap.size w W → Calls Try.prog f args W (fun e w' => e = .returned v ∧ Below W.heap.size W w') → Calls Try.prog f args W fun e w' => e = .returned v ∧ Below w.heap.size w w' := fun hb h => h.mono fun e w' ⟨he, h2⟩ => ⟨he, hb.trans (h2.mono hb.size)⟩
  have c6 := fun W hb => up hb (come_nil W 0)
  have c7 := fun W hb => up hb (get_nil W)
  have c8 := fun W => put_nil W
  have c9 := fun W hb => up hb (lose_nil W 0)
  have c10 := fun W => twice_nil W
  have c11 := fun W hb => up hb (spoil_nil W)
  have c12 := fun W hb => up hb (waits_nil W)
  have c13 := fun W => len_nil W
  have c14 := fun W => new_any W
  clear up
  go_enter Try.func3, Try.ntmps3
  go_wp2_with fail
  refine cl.mono ?_
  clear cl
  rintro e w' ⟨b, rfl, rfl, hlt⟩
  cases b
  · go_wp2_with (go_at_call 5; ((with_reducible refine (ca _).mono ?_); rintro e w3 ⟨rfl, hb3⟩))
    go_ret
    exact ⟨rfl, hb3⟩
  · obtain ⟨hl8, hm6⟩ := hlt rfl
    have hl0 : (0 : Int) ≤ (len : Int) := by omega
    have hl1 : (len : Int) ≤ 80 := by omega
    have HM := Lib.hid hm6
    clear hlt hm6 hlm
    have hb : Below w.heap.size w w := Below.refl _ _
    go_wp2_with (first | (go_at_call 6; refine (c6 _ hb).mono ?_; rintro e w1 ⟨rfl, hb⟩; clear c6) | (go_at_call 7; refine (c7 _ hb).mono ?_; rintro e w2 ⟨rfl, hb⟩; have hb := fun o => hb.alloc hb.size o; clear c7) | (go_at_call 8; refine (c8 _).mono ?_; rintro e w' ⟨rfl, rfl⟩) | (go_at_call 9; refine (c9 _ (hb _)).mono ?_; rintro e w3 ⟨rfl, hb⟩) | (go_at_call 10; refine (c10 _).mono ?_; rintro e w' ⟨rfl, rfl⟩) | (go_at_call 11; refine (c11 _ hb).mono ?_; rintro e w4 ⟨rfl, hb⟩) | (go_at_call 12; refine (c12 _ hb).mono ?_; rintro e w5 ⟨rfl, hb⟩) | (go_at_call 13; refine (c13 _).mono ?_; rintro e w' ⟨rfl, rfl⟩) | (go_at_call 14; refine (c14 _).mono ?_; rintro e w' ⟨rfl, rfl⟩))
    obtain ⟨NB, hNB⟩ : ∃ NB, w5.heap.size = NB := ⟨_, rfl⟩
    have hNI : NI w NB [] [] [] (.slice none 0 0) (.slice none 0 0) (.slice none 0 0) (w5.alloc (.cells #[.slice none 0 0] 52)) := by
      rw [← hNB]
      exact ⟨hb.alloc hb.size _, Lies.new w5 52 _, hb.size, World.ownsRow_nil _ _ _ _, World.ownsRow_nil _ _ _ _, World.ownsRow_nil _ _ _ _, fun p hp => (by cases hp), List.nodup_nil, by simp⟩
    obtain ⟨W0, hW0⟩ : ∃ W0, w5.alloc (.cells #[.slice none 0 0] 52) = W0 := ⟨_, rfl⟩
    rw [hW0] at hNI
    rw [hNB, hW0]
    have H0 := Lib.hid hNI
    clear hNI hNB hW0 hb c8 c9 c10 c11 c12 c13 c14
    go_loopw [10, 11, 12] (fun pv tv iv wr => ∃ (i : Nat) (ps : List Pn) (v vP vT : Value), iv = .int .i64 i ∧ pv = vP ∧ tv = vT ∧ i ≤ len ∧ ps.length ≤ i ∧ NI w NB ps (ps.map Pn.q) (ps.map Pn.t) v vP vT wr) (fun pv tv iv wr => len - (intOf iv).toNat)
    case atStart => exact ⟨0, [], .slice none 0 0, _, _, rfl, rfl, rfl, by omega, by simp, H0.out⟩
    case round =>
      obtain ⟨i, ps, v, vP, vT, rfl, rfl, rfl, hi, hpl, hN⟩ := hrel
      obtain ⟨n, hn⟩ : ∃ n, ps.length = n := ⟨_, rfl⟩
      have hoq := hN.oq
      have hot := hN.ot
      rw [List.length_map, hn] at hoq hot
      obtain ⟨aP, cP, rfl⟩ := formE hoq
      obtain ⟨aT, cT, rfl⟩ := formE hot
      have hn80 : n ≤ 80 := by rw [← hn]; exact hN.ln
      have HE := Lib.hid hn
      rw [hn] at hpl
      clear hn
      by_cases hlt : i < len
      · have hi0 : (0 : Int) ≤ (i : Int) := by omega
        have hi1 : (i : Int) < (len : Int) := by omega
        obtain ⟨dd, at_, pl, by_, tt, A, m, k, ns, hs0⟩ := HST.out i hlt
        have hm6 : m ≤ 60 := HM.out i hlt _ _ _ _ _ _ _ _ _ hs0
        have hs := hs0.below hN.b
        obtain ⟨h0, h1, h2, h3, h4, h5, hsrc, ha0, ha1, hmb⟩ := hs
        have HN := Lib.hid hN
        have HS := Lib.hid hs0.src
        obtain ⟨q, hq⟩ : ∃ q, x.add (i * 6) = q := ⟨_, rfl⟩
        rw [hq] at h0 h1 h2 h3 h4 h5
        clear hs0 hsrc hN
        have hb1 : Below wr.heap.size wr (wr.alloc (.cells #[.int .i64 dd, .int .i64 at_, .int .i64 pl, .int .u8 by_, .int .u8 tt, .slice A m k] 43)) := (Below.refl _ wr).alloc (Nat.le_refl _) _
        have hS := Lies.new wr 43 #[.int .i64 dd, .int .i64 at_, .int .i64 pl, .int .u8 by_, .int .u8 tt, .slice A m k]
        have hN1 := HN.out.below hb1
        obtain ⟨W1, hW1⟩ : ∃ W1, wr.alloc (.cells #[.int .i64 dd, .int .i64 at_, .int .i64 pl, .int .u8 by_, .int .u8 tt, .slice A m k] 43) = W1 := ⟨_, rfl⟩
        obtain ⟨S, hSz⟩ : ∃ S, wr.heap.size = S := ⟨_, rfl⟩
        rw [hW1, hSz] at hS
        rw [hW1] at hN1
        go_upto_region 15 with (fail)
        have s0 : W1.cell? ⟨S, 0, none⟩ = some (.int .i64 dd) := hS.cell 0
        have s1 : W1.cell? ⟨S, 1, none⟩ = some (.int .i64 at_) := hS.cell 1
        have s4 : W1.cell? ⟨S, 4, none⟩ = some (.int .u8 tt) := hS.cell 4
        have s5 : W1.cell? ⟨S, 5, none⟩ = some (.slice A m k) := hS.cell 5
        have HN1 := Lib.hid hN1
        have HS1 := Lib.hid hS
        clear hW1 hSz hN1 hS hb1 h0 h1 h2 h3 h4 h5 HN hoq hot
        have hn0 : (0 : Int) ≤ (n : Int) := by omega
        have hn1 : (n : Int) ≤ 80 := by omega
        go_cut [14] from 70 to 183 (fun s14 wx => s14 = .bool (there ps at_) ∧ wx = W1)
        case first =>
          by_cases hneg : at_ < 0
          · have hth : there ps at_ = false := there_neg hneg
            have HT := Lib.hid hth
            clear hth
            go_wp2
            go_meet
            exact ⟨by rw [HT.out], rfl⟩
          · have hpos : 0 ≤ at_ := by omega
            by_cases hbig : (n : Int) ≤ at_
            · have hth : there ps at_ = false := there_big (by have := HE.out; omega)
              have HT := Lib.hid hth
              clear hth hneg
              go_wp2
              go_meet
              exact ⟨by rw [HT.out], rfl⟩
            · have hlt2 : at_ < (n : Int) := by omega
              have hjl : at_.toNat < ps.length := by have := HE.out; omega
              obtain ⟨p, hp⟩ : ∃ p, ps[at_.toNat]? = some p := ⟨_, List.getElem?_eq_getElem hjl⟩
              have hth : there ps at_ = decide (0 < p.t) := by
                have := there_at_ hp
                rwa [Int.toNat_of_nonneg hpos] at this
              have hot := HN1.out.ot
              obtain ⟨g, cap', hv, _, _⟩ := hot.form (by rw [List.length_map]; omega)
              simp only [Value.slice.injEq] at hv
              obtain ⟨rfl, hq1, hq2⟩ := hv
              clear hq1 hq2
              have hcT : W1.cell? ⟨g, at_.toNat, none⟩ = some (.int .i64 p.t) := by
                have e := hot.cells (g := g) rfl at_.toNat (num p.t) (by rw [List.getElem?_map, List.getElem?_map, hp]; rfl)
                rwa [plain_add] at e
              have HT := Lib.hid hth
              obtain ⟨t, het⟩ : ∃ t, p.t = t := ⟨_, rfl⟩
              rw [het] at hcT HT
              clear hth hneg hbig hot hjl hp het
              by_cases ht : 0 < t
              · have HT2 := Lib.hid (HT.out.trans (decide_eq_true ht))
                go_wp2
                go_meet
                exact ⟨by rw [HT2.out], rfl⟩
              · have HT2 := Lib.hid (HT.out.trans (decide_eq_false ht))
                go_wp2
                go_meet
                exact ⟨by rw [HT2.out], rfl⟩
        case rest =>
          obtain ⟨rfl, rfl⟩ := hcut
          obtain ⟨th, hth⟩ : ∃ th, there ps at_ = th := ⟨_, rfl⟩
          rw [hth]
          have hN1 := HN1.out
          have hNB : NB < wc.heap.size := hN1.n.lt
          by_cases d0 : dd = 0
          · subst d0
            have c8 := put_at wc NB w.heap.size m k tt v (ps.map Pn.blk) ns A hN1.n hN1.on hN1.b.size (by rw [List.length_map]; exact hN1.ln) hm6 (HS.out.below hN1.b)
            clear hth hN1
            have e1 : (ps.map Pn.q).length = n := by rw [List.length_map]; exact HE.out
            have e2 : (ps.map Pn.t).length = n := by rw [List.length_map]; exact HE.out
            obtain ⟨i26, hj1, hj2, hj3, hj4⟩ := info_parts info26
            obtain ⟨i3, hk1, hk2, hk3, hk4⟩ := info_parts info3
            have H12 := Lib.hid (And.intro e1 e2)
            clear e1 e2
            go_wp2_with (first | (go_at_call 8; refine c8.mono ?_; rintro e W2 ⟨rfl, hp2⟩; have hS2 := put_S HN1.out HS1.out hp2; obtain ⟨v', P, sl, hN2⟩ := HN1.out.put HS.out hm6 (by have := HE.out; omega) hp2; have t5 : W2.cell? ⟨S, 5, none⟩ = some (.slice A m k) := hS2.cell 5; have hwz2 := hN2.b.size; have hoq2 : ∀ o, (W2.alloc o).ownsRow w.heap.size 26 1 (.slice aP n cP) n (ps.map Pn.q) := (fun o => by have h := hN2.oq; rw [H12.out.1] at h; exact h.alloc o); have HN2 := Lib.hid hN2; clear hp2 hN2 hS2 c8) | (at_builtin; first | (refine wpList_app rfl (.tmp 108) (.tmp 111) 41 rfl w.heap.size 26 i26 (.slice none 0 0) 1 24 Try.underlying41 hj1 hj2 hj3 hj4 rfl (by decide) (.slice aP n cP) n (ps.map Pn.q) rfl (hoq2 _) (some ⟨W2.heap.size, 0, none⟩) 1 1 [.slice A m k] rfl (.inr ⟨_, rfl, rfl, new_cell1 W2 _ _⟩) (fun u hu => by cases List.mem_singleton.1 hu; rfl) (by unfold maxLen; omega) (by omega) (by simp; omega) ?_; intro vP' W3 hown3 hg3 _; have hN3 := HN2.out.qapp hg3 (by rw [H12.out.1]; exact hown3); have hwz3 := hN3.b.size; have hot3 : ∀ o, (W3.alloc o).ownsRow w.heap.size 3 1 (.slice aT n cT) n ((ps.map Pn.t).map num) := (fun o => by have h := hN3.ot; rw [H12.out.2] at h; exact h.alloc o); have HN3 := Lib.hid hN3; obtain ⟨aP', cP', rfl⟩ := formE hown3; clear hN3 hown3 hg3 hoq2) | (refine wpList_app rfl (.tmp 113) (.tmp 114) 37 rfl w.heap.size 3 i3 (.int .i64 0) 1 8 Try.underlying37 hk1 hk2 hk3 hk4 rfl (by decide) (.slice aT n cT) n ((ps.map Pn.t).map num) rfl (hot3 _) (some ⟨W3.heap.size, 0, none⟩) 1 1 [.int .i64 1] rfl (.inr ⟨_, rfl, rfl, new_cell1 W3 _ _⟩) (fun u hu => by cases List.mem_singleton.1 hu; rfl) (by unfold maxLen; omega) (by omega) (by simp; omega) ?_; intro vT' W4 hown4 hg4 _; have hN4 := HN3.out.tapp (x := 1) hg4 (by rw [H12.out.2]; exact hown4); have HN4 := Lib.hid hN4; obtain ⟨aT', cT', rfl⟩ := formE hown4; clear hN4 hown4 hg4 hot3)))
            refine ⟨⟨i + 1, ps ++ [⟨P, tt, 1, sl, A, m, k, ns⟩], v', _, _, by simp, rfl, rfl, by omega, ?_, by simpa [Pn.q] using HN4.out⟩, ?_⟩
            · have := HE.out
              simp
              omega
            · simp only [intOf]
              omega
          · have hd0 : (dd == 0) = false := beq_eq_false_iff_ne.2 d0
            cases th
            · have c6 := come_not hN1 hth
              have c9 := lose_not hN1 hth
              have c10 := twice_not hN1 hth
              clear hth hN1
              have hend : ∀ W, Below wc.heap.size wc W → NI w NB ps (ps.map Pn.q) (ps.map Pn.t) v (.slice aP n cP) (.slice aT n cT) W := fun W hb => HN1.out.below hb
              by_cases d1 : dd = 1
              · subst d1
                clear hd0 d0 c9 c10
                go_wp2_with (go_at_call 6; refine c6.mono ?_; rintro e W2 ⟨rfl, hb2⟩)
                refine ⟨⟨i + 1, ps, v, _, _, by simp, rfl, rfl, by omega, by have := HE.out; omega, hend _ hb2⟩, ?_⟩
                simp only [intOf]
                omega
              · have hd1 : (dd == 1) = false := beq_eq_false_iff_ne.2 d1
                by_cases d2 : dd = 2
                · subst d2
                  clear hd0 hd1 d0 d1 c6 c10
                  go_wp2_with (go_at_call 9; refine c9.mono ?_; rintro e W2 ⟨rfl, hb2⟩)
                  refine ⟨⟨i + 1, ps, v, _, _, by simp, rfl, rfl, by omega, by have := HE.out; omega, hend _ hb2⟩, ?_⟩
                  simp only [intOf]
                  omega
                · have hd2 : (dd == 2) = false := beq_eq_false_iff_ne.2 d2
                  by_cases d3 : dd = 3
                  · subst d3
                    clear hd0 hd1 hd2 d0 d1 d2 c6 c9
                    go_wp2_with (go_at_call 10; refine c10.mono ?_; rintro e w' ⟨rfl, rfl⟩)
                    refine ⟨⟨i + 1, ps, v, _, _, by simp, rfl, rfl, by omega, by have := HE.out; omega, HN1.out⟩, ?_⟩
                    simp only [intOf]
                    omega
                  · have hd3 : (dd == 3) = false := beq_eq_false_iff_ne.2 d3
                    clear c6 c9 c10
                    go_wp2
                    refine ⟨⟨i + 1, ps, v, _, _, by simp, rfl, rfl, by omega, by have := HE.out; omega, HN1.out⟩, ?_⟩
                    simp only [intOf]
                    omega
            · obtain ⟨p, hp, ha, ht⟩ := there_live hth
              have hjl : at_.toNat < ps.length := (List.getElem?_eq_some_iff.1 hp).1
              have hlt2 : at_ < (n : Int) := by have := HE.out; omega
              have hf := hN1.fl p (List.mem_of_getElem? hp)
              have ht1 := hf.t1
              obtain ⟨gP, cap1, hv, _, _⟩ := hN1.oq.form (by rw [List.length_map]; omega)
              simp only [Value.slice.injEq] at hv
              obtain ⟨rfl, hq1, hq2⟩ := hv
              clear hq1 hq2
              obtain ⟨gT, cap2, hv, _, _⟩ := hN1.ot.form (by rw [List.length_map]; omega)
              simp only [Value.slice.injEq] at hv
              obtain ⟨rfl, hq1, hq2⟩ := hv
              clear hq1 hq2
              have hcells : ∀ {W : World} {ps' : List Pn} {v' : Value}, NI w NB ps' (ps.map Pn.q) (ps.map Pn.t) v' (.slice (some ⟨gP, 0, none⟩) n cP) (.slice (some ⟨gT, 0, none⟩) n cT) W → W.cell? ⟨gP, at_.toNat, none⟩ = some (.slice p.A p.m p.c) ∧ W.cell? ⟨gT, at_.toNat, none⟩ = some (.int .i64 p.t) ∧ W.frozen? ⟨gT, at_.toNat, none⟩ = false := fun h => by
                have e1 := h.oq.cells (g := gP) rfl at_.toNat p.q (by rw [List.getElem?_map, hp]; rfl)
                have e2 := h.ot.cells (g := gT) rfl at_.toNat (num p.t) (by rw [List.getElem?_map, List.getElem?_map, hp]; rfl)
                rw [plain_add] at e1 e2
                have hot := h.ot
                rw [List.length_map, HE.out] at hot
                exact ⟨e1, e2, hot.frozenAt _⟩
              have hSk : ∀ {W : World}, Kept (fun k => k = p.blk) wc W → Lies W S 43 #[.int .i64 dd, .int .i64 at_, .int .i64 pl, .int .u8 by_, .int .u8 tt, .slice A m k] := fun hk => HS1.out.kept hk fun e => HS1.out.ne hf.lies (by decide) e
              have hsrc := hf.src
              have hm60 := hf.m60
              have c6 := come_live hN1 hp ha ht
              have c9 := lose_live hN1 hp ha ht
              have c10 := fun h => twice_live hN1 hp ha ht h
              have c10f := fun h => twice_full hN1 hp ha h
              have hend : ∀ (W : World) (x : Int), NI w NB (ps.set at_.toNat { p with t := x }) (ps.map Pn.q) (ps.map Pn.t) v (.slice (some ⟨gP, 0, none⟩) n cP) (.slice (some ⟨gT, 0, none⟩) n cT) W → NI w NB (ps.set at_.toNat { p with t := x }) ((ps.set at_.toNat { p with t := x }).map Pn.q) ((ps.set at_.toNat { p with t := x }).map Pn.t) v (.slice (some ⟨gP, 0, none⟩) n cP) (.slice (some ⟨gT, 0, none⟩) n cT) (W.setCell ⟨gT, at_.toNat, none⟩ (.int .i64 x)) := fun W x h => by
                rw [← HE.out] at h ⊢
                exact NI.end_ hp x h
              have hlen : ∀ x : Pn, (ps.set at_.toNat x).length ≤ i + 1 := fun x => by
                rw [List.length_set]
                have := HE.out
                omega
              have HF := Lib.hid hf
              have HP := Lib.hid hp
              clear hth hN1 hf hp hjl
              by_cases d1 : dd = 1
              · subst d1
                clear hd0 d0 c9 c10 c10f
                go_wp2_with (first | (go_at_call 6; refine c6.mono ?_; rintro e W2 ⟨ao, cu, rfl, hu, hN2, hk2⟩; have t1 : W2.cell? ⟨S, 1, none⟩ = some (.int .i64 at_) := (hSk hk2).cell 1; obtain ⟨t2, t3, t4⟩ := hcells hN2; have HN2 := Lib.hid hN2; have c15 := same_src W2 _ cu p.c ao p.A p.bs p.m hm60 hu (hsrc.below HN2.out.b); have HS2 := Lib.hid (hSk hk2); clear hN2 hu hk2 c6) | (go_at_call 15; refine c15.mono ?_; rintro e W3 ⟨rfl, hb3⟩; have r1 : W3.cell? ⟨S, 1, none⟩ = some (.int .i64 at_) := (HS2.out.below hb3).cell 1; have hN3 := HN2.out.below hb3; obtain ⟨r2, r3, r4⟩ := hcells hN3; have HN3 := Lib.hid hN3; clear hN3 hb3 c15))
                refine ⟨⟨i + 1, _, v, _, _, by simp, rfl, rfl, by omega, hlen _, hend _ _ HN3.out⟩, ?_⟩
                simp only [intOf]
                omega
              · have hd1 : (dd == 1) = false := beq_eq_false_iff_ne.2 d1
                by_cases d2 : dd = 2
                · subst d2
                  clear hd0 hd1 d0 d1 c6 c10 c10f
                  go_wp2_with (go_at_call 9; refine c9.mono ?_; rintro e W2 ⟨rfl, hN2, hk2⟩; have t1 : W2.cell? ⟨S, 1, none⟩ = some (.int .i64 at_) := (hSk hk2).cell 1; obtain ⟨t2, t3, t4⟩ := hcells hN2; have HN2 := Lib.hid hN2; clear hN2 hk2 c9)
                  refine ⟨⟨i + 1, _, v, _, _, by simp, rfl, rfl, by omega, hlen _, hend _ _ HN2.out⟩, ?_⟩
                  simp only [intOf]
                  omega
                · have hd2 : (dd == 2) = false := beq_eq_false_iff_ne.2 d2
                  by_cases d3 : dd = 3
                  · subst d3
                    clear hd0 hd1 hd2 d0 d1 d2 c6 c9
                    by_cases h1000 : p.t < 1000
                    · have c10 := c10 h1000
                      clear c10f
                      go_wp2_with (go_at_call 10; refine c10.mono ?_; rintro e W2 ⟨rfl, hN2, hk2⟩; have t1 : W2.cell? ⟨S, 1, none⟩ = some (.int .i64 at_) := (hSk hk2).cell 1; obtain ⟨t2, t3, t4⟩ := hcells hN2; have HN2 := Lib.hid hN2; clear hN2 hk2 c10)
                      refine ⟨⟨i + 1, _, v, _, _, by simp, rfl, rfl, by omega, hlen _, hend _ _ HN2.out⟩, ?_⟩
                      simp only [intOf]
                      omega
                    · have c10f := c10f h1000
                      clear c10
                      go_wp2_with (go_at_call 10; refine c10f.mono ?_; rintro e w' ⟨rfl, rfl⟩)
                      refine ⟨⟨i + 1, ps, v, _, _, by simp, rfl, rfl, by omega, by have := HE.out; omega, HN1.out⟩, ?_⟩
                      simp only [intOf]
                      omega
                  · have hd3 : (dd == 3) = false := beq_eq_false_iff_ne.2 d3
                    clear c6 c9 c10 c10f
                    go_wp2
                    refine ⟨⟨i + 1, ps, v, _, _, by simp, rfl, rfl, by omega, by have := HE.out; omega, HN1.out⟩, ?_⟩
                    simp only [intOf]
                    omega
      · obtain rfl : i = len := by omega
        have hon := hN.on
        rw [List.length_map, HE.out] at hon
        obtain ⟨av, cv, rfl⟩ := formE hon
        have c13 := len_at wr NB n cv av hN.n
        have HN := Lib.hid hN
        clear hN hon hoq hot
        go_wp2_with (first | (go_at_call 13; refine c13.mono ?_; rintro e w' ⟨rfl, rfl⟩) | (go_at_call 5; ((with_reducible refine (ca _).mono ?_); rintro e w7 ⟨rfl, hb7⟩)))
        go_ret
        exact ⟨rfl, HN.out.b.trans (hb7.mono HN.out.b.size)⟩
end Go.Proofs.Ytlaicijacoblbaa
