/- The walks of Come, of Lose, of Twice. -/
import Derived.Test.YtlaicijacoblbaaCp
namespace Go.Proofs.Ytlaicijacoblbaa
open Go.RowKit
set_option linter.unusedVariables false
set_option linter.unusedSimpArgs false
set_option maxHeartbeats 2000000 in
theorem come_gen (w : World) (n : Value) (k i : Int) (Q : Nat → Option Addr → Nat → Nat → World → Prop)
    (c : Calls Try.prog 16 #[n, .int .i64 k, .func (.func 17) #[] #[.pointer (some ⟨w.heap.size, 0, none⟩), .pointer (some ⟨w.heap.size + 1, 0, none⟩)]] ((w.alloc (.cells #[.int .u8 0] 5)).alloc (.cells #[.slice none 0 0] 26)) fun e w' => e = .returned (.int .i64 i) ∧ ∃ a ao m c, Lies w' w.heap.size 5 #[.int .u8 (a : Nat)] ∧ Lies w' (w.heap.size + 1) 26 #[.slice ao m c] ∧ Q a ao m c w') :
    Calls Try.prog 6 #[n, .int .i64 k] w fun e w' => ∃ a ao m c W1, e = .returned (.tuple #[.int .u8 (a : Nat), .slice ao m c, .int .i64 i]) ∧ Q a ao m c W1 ∧ Kept (fun k => k = w.heap.size ∨ k = w.heap.size + 1) W1 w' := by
  go_enter Try.func6, Try.ntmps6
  go_wp2_with (go_at_call 16; refine c.mono ?_; rintro e W1 ⟨rfl, a, ao, m, cc, h4, h5, hq⟩)
  have q4 : W1.cell? ⟨w.heap.size, 0, none⟩ = some (.int .u8 a) := h4.cell 0
  have q5 : W1.cell? ⟨w.heap.size + 1, 0, none⟩ = some (.slice ao m cc) := h5.cell 0
  have f4 := h4.free 0
  have f5 := h5.free 0
  have HH := Lib.hid (And.intro h4 h5)
  clear h4 h5 c
  go_region
  go_wp2
  have h4 := HH.out.1
  have h5 := HH.out.2
  have ne : w.heap.size ≠ w.heap.size + 1 := by omega
  have r4 : (((W1.setCell ⟨w.heap.size, 0, none⟩ (.int .u8 a)).setCell ⟨w.heap.size + 1, 0, none⟩ (.slice ao m cc)).drew).cell? ⟨w.heap.size, 0, none⟩ = some (.int .u8 a) := ((h4.set 0 (.int .u8 a)).far (p := ⟨w.heap.size + 1, 0, none⟩) ne _).cell 0
  have r5 : (((W1.setCell ⟨w.heap.size, 0, none⟩ (.int .u8 a)).setCell ⟨w.heap.size + 1, 0, none⟩ (.slice ao m cc)).drew).cell? ⟨w.heap.size + 1, 0, none⟩ = some (.slice ao m cc) := ((h5.far (p := ⟨w.heap.size, 0, none⟩) (Ne.symm ne) (.int .u8 a)).set 0 _).cell 0
  have hk : Kept (fun k => k = w.heap.size ∨ k = w.heap.size + 1) W1 (((W1.setCell ⟨w.heap.size, 0, none⟩ (.int .u8 a)).setCell ⟨w.heap.size + 1, 0, none⟩ (.slice ao m cc)).drew) := (((Kept.refl (fun k => k = w.heap.size ∨ k = w.heap.size + 1) W1).setCell (p := ⟨w.heap.size, 0, none⟩) (.inl rfl) _).setCell (p := ⟨w.heap.size + 1, 0, none⟩) (.inr rfl) _).drew
  generalize ((W1.setCell ⟨w.heap.size, 0, none⟩ (.int .u8 a)).setCell ⟨w.heap.size + 1, 0, none⟩ (.slice ao m cc)).drew = W2 at *
  exact bodyPost_ret (v := .tuple #[.int .u8 a, .slice ao m cc, .int .i64 i]) (by simp [results, Try.results6, go_sem, r4, r5]) rfl ⟨a, ao, m, cc, W1, rfl, hq, hk⟩
theorem At.below {W W' : World} {NB base : Nat} {v : Value} {l : List Nat} {j P to : Nat} {t : Int} {sl : Value} {ns : List Int} (h : At W NB base v l j P to t sl ns) (hb : Below W.heap.size W W') : At W' NB base v l j P to t sl ns :=
  ⟨h.n.below hb, own_kept h.own fun g hg => hb.block g (h.own.lt g hg).2, h.lt, h.p, h.lies.below hb, own_kept h.osl fun g hg => hb.block g (h.osl.lt g hg).2, Nat.le_trans h.le hb.size⟩
theorem boxes (w : World) : Below w.heap.size w ((w.alloc (.cells #[.int .u8 0] 5)).alloc (.cells #[.slice none 0 0] 26)) ∧ Lies ((w.alloc (.cells #[.int .u8 0] 5)).alloc (.cells #[.slice none 0 0] 26)) w.heap.size 5 #[.int .u8 (0 : Nat)] ∧ Lies ((w.alloc (.cells #[.int .u8 0] 5)).alloc (.cells #[.slice none 0 0] 26)) (w.heap.size + 1) 26 #[.slice none 0 0] ∧ ((w.alloc (.cells #[.int .u8 0] 5)).alloc (.cells #[.slice none 0 0] 26)).heap.size = w.heap.size + 1 + 1 := by
  refine ⟨((Below.refl _ w).alloc (Nat.le_refl _) _).alloc (by simp) _, (Below.heap_alloc _ _ _ (by simp)).trans (Lies.new w 5 _), ?_, by simp⟩
  have k := Lies.new (w.alloc (.cells #[.int .u8 0] 5)) 26 #[.slice none 0 0]
  rw [World.size_alloc] at k
  exact k
theorem come_ok (w : World) (NB base : Nat) (v : Value) (l : List Nat) (j P to : Nat) (t : Int) (sl : Value) (ns : List Int) (h : At w NB base v l j P to t sl ns) (ht0 : 0 < t) (ht1 : t ≤ 1000) (hn : ns.length ≤ 60) (hl : l.length ≤ 80) :
    Calls Try.prog 6 #[.pointer (some ⟨NB, 0, none⟩), .int .i64 j] w fun e w' => ∃ ao c, e = .returned (.tuple #[.int .u8 to, .slice ao ns.length c, .int .i64 0]) ∧ w'.ownsRow w.heap.size 5 1 (.slice ao ns.length c) ns.length (vals ns) ∧ Lies w' P 48 #[.int .u8 to, .int .i64 (t - 1), sl] ∧ Kept (fun k => k = P) w w' := by
  obtain ⟨hb, h4, h5, hz⟩ := boxes w
  refine (come_gen w _ _ 0 (fun a ao m c W1 => a = to ∧ m = ns.length ∧ W1.ownsRow (w.heap.size + 1 + 1) 5 1 (.slice ao m c) ns.length (vals ns) ∧ Lies W1 P 48 #[.int .u8 to, .int .i64 (t - 1), sl] ∧ Kept (fun k => k = P ∨ k = w.heap.size ∨ k = w.heap.size + 1) ((w.alloc (.cells #[.int .u8 0] 5)).alloc (.cells #[.slice none 0 0] 26)) W1) ?_).mono ?_
  · have hat := h.below hb
    refine with17 _ NB base v l j P to t sl ns hat ht0 hl _ _ 0 _ ?_
    refine (comef _ P w.heap.size (w.heap.size + 1) to t sl _ _ ns base hat.lies h4 h5 ht0 ht1 hat.osl (fun e => by have := (h.osl.lt _ e).2; omega) hn).mono ?_
    rintro e w' ⟨he, u, k4, k5, ku, kP, kk⟩
    obtain ⟨au, cu, rfl⟩ := formE ku
    rw [hz] at ku
    exact ⟨he, to, au, ns.length, cu, k4, k5, rfl, rfl, ku, kP, kk⟩
  · rintro e w' ⟨a, ao, m, c, W1, he, ⟨rfl, rfl, ku, kP, kk⟩, k2⟩
    have hP := h.lies.lt
    refine ⟨ao, c, he, own_base (own_keptX ku k2 fun g hg e => ?_) (by omega), kP.kept k2 (by omega), ?_⟩
    · have := (ku.lt g hg).1
      omega
    · have hb0 : Kept (fun k => k = P) w ((w.alloc (.cells #[.int .u8 0] 5)).alloc (.cells #[.slice none 0 0] 26)) := Kept.of_below hb
      have hs1 := hb.size
      have hs2 := kk.size
      refine ⟨(k2.os.trans kk.os).trans hb.os, (k2.tape.trans kk.tape).trans hb.tape, (k2.output.trans kk.output).trans hb.output, Nat.le_trans hs1 (Nat.le_trans hs2 k2.size), fun k hk hx => ?_⟩
      exact ((k2.block k (by omega) (by omega)).trans (kk.block k (by omega) (by omega))).trans (hb.block k hk)
theorem come_no (w : World) (n : Value) (k i : Int) (c : ∀ W, Below w.heap.size w W → Calls Try.prog 16 #[n, .int .i64 k, .func (.func 17) #[] #[.pointer (some ⟨w.heap.size, 0, none⟩), .pointer (some ⟨w.heap.size + 1, 0, none⟩)]] W fun e w' => e = .returned (.int .i64 i) ∧ W = w') :
    Calls Try.prog 6 #[n, .int .i64 k] w fun e w' => e = .returned (.tuple #[.int .u8 0, .slice none 0 0, .int .i64 i]) ∧ Below w.heap.size w w' := by
  obtain ⟨hb, h4, h5, hz⟩ := boxes w
  refine (come_gen w _ _ i (fun a ao m c W1 => a = 0 ∧ ao = none ∧ m = 0 ∧ c = 0 ∧ Below w.heap.size w W1) ?_).mono ?_
  · refine (c _ hb).mono ?_
    rintro e w' ⟨he, rfl⟩
    exact ⟨he, 0, none, 0, 0, h4, h5, rfl, rfl, rfl, rfl, hb⟩
  · rintro e w' ⟨a, ao, m, c, W1, he, ⟨rfl, rfl, rfl, rfl, hb1⟩, k2⟩
    exact ⟨he, hb1.trans (k2.below hb1.size fun k hk => by omega)⟩
theorem come_spent (w : World) (NB base : Nat) (v : Value) (l : List Nat) (j P to : Nat) (t : Int) (sl : Value) (ns : List Int) (h : At w NB base v l j P to t sl ns) (ht0 : ¬ 0 < t) (hl : l.length ≤ 80) :
    Calls Try.prog 6 #[.pointer (some ⟨NB, 0, none⟩), .int .i64 j] w fun e w' => e = .returned (.tuple #[.int .u8 0, .slice none 0 0, .int .i64 6]) ∧ Below w.heap.size w w' :=
  come_no w _ _ 6 fun W hb => with_spent W NB base v l j P to t sl ns (h.below hb) ht0 hl _
theorem come_out (w : World) (NB n cap : Nat) (ao : Option Addr) (hN : Lies w NB 52 #[.slice ao n cap]) (k : Int) (hk : k < 0 ∨ (n : Int) ≤ k) :
    Calls Try.prog 6 #[.pointer (some ⟨NB, 0, none⟩), .int .i64 k] w fun e w' => e = .returned (.tuple #[.int .u8 0, .slice none 0 0, .int .i64 6]) ∧ Below w.heap.size w w' :=
  come_no w _ _ 6 fun W hb => with_out W NB n cap ao (hN.below hb) k hk _
theorem come_nil (w : World) (k : Int) : Calls Try.prog 6 #[.pointer none, .int .i64 k] w fun e w' => e = .returned (.tuple #[.int .u8 0, .slice none 0 0, .int .i64 1]) ∧ Below w.heap.size w w' :=
  come_no w _ _ 1 fun W hb => with_nil W k _
theorem lose_of (w : World) (n : Value) (k i : Int) (Q : World → Prop) (c : Calls Try.prog 6 #[n, .int .i64 k] w fun e w' => ∃ a : Nat, ∃ ao m c, e = .returned (.tuple #[.int .u8 a, .slice ao m c, .int .i64 i]) ∧ Q w') :
    Calls Try.prog 9 #[n, .int .i64 k] w fun e w' => e = .returned (.int .i64 i) ∧ Q w' := by
  go_enter Try.func9, Try.ntmps9
  go_wp2_with (go_at_call 6; refine c.mono ?_; rintro e w' ⟨a, ao, m, cc, rfl, hq⟩)
  go_ret
  exact ⟨rfl, hq⟩
theorem lose_ok (w : World) (NB base : Nat) (v : Value) (l : List Nat) (j P to : Nat) (t : Int) (sl : Value) (ns : List Int) (h : At w NB base v l j P to t sl ns) (ht0 : 0 < t) (ht1 : t ≤ 1000) (hn : ns.length ≤ 60) (hl : l.length ≤ 80) :
    Calls Try.prog 9 #[.pointer (some ⟨NB, 0, none⟩), .int .i64 j] w fun e w' => e = .returned (.int .i64 0) ∧ Lies w' P 48 #[.int .u8 to, .int .i64 (t - 1), sl] ∧ Kept (fun k => k = P) w w' :=
  lose_of w _ _ 0 _ ((come_ok w NB base v l j P to t sl ns h ht0 ht1 hn hl).mono fun e w' ⟨ao, c, he, _, h2, h3⟩ => ⟨to, ao, ns.length, c, he, h2, h3⟩)
theorem lose_spent (w : World) (NB base : Nat) (v : Value) (l : List Nat) (j P to : Nat) (t : Int) (sl : Value) (ns : List Int) (h : At w NB base v l j P to t sl ns) (ht0 : ¬ 0 < t) (hl : l.length ≤ 80) :
    Calls Try.prog 9 #[.pointer (some ⟨NB, 0, none⟩), .int .i64 j] w fun e w' => e = .returned (.int .i64 6) ∧ Below w.heap.size w w' :=
  lose_of w _ _ 6 _ ((come_spent w NB base v l j P to t sl ns h ht0 hl).mono fun e w' ⟨he, h2⟩ => ⟨0, none, 0, 0, he, h2⟩)
theorem lose_out (w : World) (NB n cap : Nat) (ao : Option Addr) (hN : Lies w NB 52 #[.slice ao n cap]) (k : Int) (hk : k < 0 ∨ (n : Int) ≤ k) :
    Calls Try.prog 9 #[.pointer (some ⟨NB, 0, none⟩), .int .i64 k] w fun e w' => e = .returned (.int .i64 6) ∧ Below w.heap.size w w' :=
  lose_of w _ _ 6 _ ((come_out w NB n cap ao hN k hk).mono fun e w' ⟨he, h2⟩ => ⟨0, none, 0, 0, he, h2⟩)
theorem lose_nil (w : World) (k : Int) : Calls Try.prog 9 #[.pointer none, .int .i64 k] w fun e w' => e = .returned (.int .i64 1) ∧ Below w.heap.size w w' :=
  lose_of w _ _ 1 _ ((come_nil w k).mono fun e w' ⟨he, h2⟩ => ⟨0, none, 0, 0, he, h2⟩)
theorem twicef (w : World) (P to : Nat) (t : Int) (sl : Value) (hP : Lies w P 48 #[.int .u8 to, .int .i64 t, sl]) (ht0 : 0 < t) (ht1 : t < 1000) :
    Calls Try.prog 18 #[.pointer (some ⟨P, 0, none⟩)] w fun e w' => e = .returned (.int .i64 0) ∧ Lies w' P 48 #[.int .u8 to, .int .i64 (t + 1), sl] ∧ Kept (fun k => k = P) w w' := by
  have p1 : w.cell? ⟨P, 1, none⟩ = some (.int .i64 t) := hP.cell 1
  have pf : w.frozen? ⟨P, 1, none⟩ = false := hP.free 1
  have HP := Lib.hid hP
  clear hP
  go_enter Try.func18, Try.ntmps18
  go_wp2
  go_ret
  exact ⟨rfl, HP.out.set 1 _, (Kept.refl (fun k => k = P) w).setCell (p := ⟨P, 1, none⟩) rfl _⟩
theorem twicef_full (w : World) (P to : Nat) (t : Int) (sl : Value) (hP : Lies w P 48 #[.int .u8 to, .int .i64 t, sl]) (ht1 : 1000 ≤ t) :
    Calls Try.prog 18 #[.pointer (some ⟨P, 0, none⟩)] w fun e w' => e = .returned (.int .i64 7) ∧ w = w' := by
  have p1 : w.cell? ⟨P, 1, none⟩ = some (.int .i64 t) := hP.cell 1
  clear hP
  go_enter Try.func18, Try.ntmps18
  go_wp2
  go_ret
  exact ⟨rfl, rfl⟩
theorem twice_of (w : World) (n : Value) (k i : Int) (Q : World → Prop) (c : Calls Try.prog 16 #[n, .int .i64 k, .func (.func 18) #[] #[]] w fun e w' => e = .returned (.int .i64 i) ∧ Q w') :
    Calls Try.prog 10 #[n, .int .i64 k] w fun e w' => e = .returned (.int .i64 i) ∧ Q w' := by
  go_enter Try.func10, Try.ntmps10
  go_wp2_with (go_at_call 16; refine c.mono ?_; rintro e w' ⟨rfl, hq⟩)
  go_ret
  exact ⟨rfl, hq⟩
end Go.Proofs.Ytlaicijacoblbaa
