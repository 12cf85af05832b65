/- The walk of Put, of Clear, of Len, at any state of the receiver. -/
import Derived.Test.YtkmikgajmopcbaaSt
namespace Go.Proofs.Ytkmikgajmopcbaa
open Go.RowKit
set_option linter.unusedVariables false
set_option linter.unusedSimpArgs false
def vals (l : List Int) : List Value := l.map (Value.int .u8)
theorem vals_one (l : List Int) : ∀ u ∈ vals l, u.oneCell' = true := by
  intro u hu
  obtain ⟨b, _, rfl⟩ := List.mem_map.1 hu
  rfl
theorem vals_len (l : List Int) : (vals l).length = l.length := by simp [vals]
theorem vals_get (l : List Int) (j : Nat) (u : Value) (h : (vals l)[j]? = some u) : j < l.length ∧ u = .int .u8 (l.getD j 0) := by
  unfold vals at h
  rw [List.getElem?_map, Option.map_eq_some_iff] at h
  obtain ⟨i, h1, h2⟩ := h
  obtain ⟨h3, h4⟩ := List.getElem?_eq_some_iff.1 h1
  refine ⟨h3, ?_⟩
  rw [List.getD, h1, ← h2]
  rfl
theorem vals_app (l k : List Int) : vals (l ++ k) = vals l ++ vals k := by simp [vals]
/-- The bytes ns stand where a slice leads; or it is nil. -/
def Src (W : World) (A : Option Addr) (m c : Nat) (ns : List Int) : Prop :=
  (A = none ∧ m = 0 ∧ c = 0 ∧ ns = []) ∨ ∃ ad, A = some ad ∧ ns.length = m ∧ ∀ j, j < m → W.cell? (ad.add j) = some (.int .u8 (ns.getD j 0))
theorem Src.len {W : World} {A : Option Addr} {m c : Nat} {ns : List Int} (h : Src W A m c ns) : ns.length = m := by
  rcases h with ⟨_, rfl, _, rfl⟩ | ⟨_, _, h, _⟩
  · rfl
  · exact h
/-- What Put answers; what has come then; whether it is all. -/
def putf (xs : List Int) (all : Bool) (most off : Int) (last : Bool) (ns : List Int) : Int × List Int × Bool :=
  if all then (13, xs, all) else if off ≠ xs.length then (2, xs, all) else if most - xs.length < ns.length then (15, xs, all) else (0, xs ++ ns, last)
/-- What Put leaves. -/
def PutPost (X : Nat → Prop) (w : World) (B t base : Nat) (v : Value) (most : Int) (r : Int × List Int × Bool) (e : Ending) (w' : World) : Prop :=
  e = .returned (.int .i64 r.1) ∧ ∃ v', Mt w' B t v' r.2.2 most ∧ w'.ownsRow base 5 1 v' r.2.1.length (vals r.2.1) ∧ Kept X w w' ∧ (v'.ownBlock = v.ownBlock ∨ ∀ g, v'.ownBlock = some g → w.heap.size ≤ g)
theorem putf_all (xs : List Int) (most off : Int) (last : Bool) (ns : List Int) : putf xs true most off last ns = (13, xs, true) := rfl
theorem putf_off (xs : List Int) (most off : Int) (last : Bool) (ns : List Int) (h : off ≠ xs.length) : putf xs false most off last ns = (2, xs, false) := by unfold putf; rw [if_neg (by decide), if_pos h]
theorem putf_big (xs : List Int) (most off : Int) (last : Bool) (ns : List Int) (h : off = xs.length) (hb : most - xs.length < ns.length) : putf xs false most off last ns = (15, xs, false) := by
  unfold putf; rw [if_neg (by decide), if_neg (by simpa using h), if_pos hb]
theorem putf_ok (xs : List Int) (most off : Int) (last : Bool) (ns : List Int) (h : off = xs.length) (hb : ¬ most - xs.length < ns.length) : putf xs false most off last ns = (0, xs ++ ns, last) := by
  unfold putf; rw [if_neg (by decide), if_neg (by simpa using h), if_neg hb]
theorem put_fin {X : Nat → Prop} {w W2 : World} {B t base m : Nat} {v v' : Value} {most : Int} {xs ns : List Int} {last all0 : Bool} (hM2 : Mt W2 B t v all0 most) (hown2 : W2.ownsRow base 5 1 v' (xs.length + m) (vals xs ++ vals ns)) (hl : ns.length = m) (hk : Kept X w W2) (hX : X B)
    (hat : v'.ownBlock = v.ownBlock ∨ ∀ g, v'.ownBlock = some g → w.heap.size ≤ g) (hno : v.ownBlock ≠ some B) (hB : B < w.heap.size) :
    PutPost X w B t base v most (0, xs ++ ns, last) (.returned (.int .i64 0)) ((W2.setCell ⟨B, 0, none⟩ v').setCell ⟨B, 1, none⟩ (.bool last)) := by
  have hne : v'.ownBlock ≠ some B := fun e => by
    rcases hat with h | h
    · exact hno (h ▸ e)
    · have := h B e
      omega
  refine ⟨rfl, v', (hM2.set0 _).set1 _, ?_, (hk.setCell (p := ⟨B, 0, none⟩) hX _).setCell (p := ⟨B, 1, none⟩) hX _, hat⟩
  have e1 : (xs ++ ns).length = xs.length + m := by rw [List.length_append, hl]
  show World.ownsRow _ base 5 1 v' (xs ++ ns).length (vals (xs ++ ns))
  rw [e1, vals_app]
  exact ownsRow_setCell_other (ownsRow_setCell_other hown2 hne _) hne _
set_option maxRecDepth 100000 in
set_option maxHeartbeats 2000000 in
theorem xput (w : World) (B base m c : Nat) (most : Int) (v : Value) (xs ns : List Int) (A : Option Addr) (all last : Bool) (off : Nat) (hM : Mt w B 47 v all most) (hown : w.ownsRow base 5 1 v xs.length (vals xs)) (hle : base ≤ w.heap.size)
    (hn : xs.length ≤ 6000) (hm : m ≤ 100) (hmost : 0 ≤ most) (hmost2 : most ≤ 9223372036854775807) (hoff : off < 4294967296) (hs : Src w A m c ns) :
    Calls Try.prog 9 #[.pointer (some ⟨B, 0, none⟩), .int .u32 off, .bool last, .slice A m c] w (PutPost (fun k => k = B ∨ v.ownBlock = some k) w B 47 base v most (putf xs all most off last ns)) := by
  obtain ⟨i0, hi, hz0, hz1, hz2⟩ := info_parts info5
  obtain ⟨h0, h1, h2, f0, f1⟩ := hM.cell
  obtain ⟨ao, cap, rfl⟩ := form hown
  have hnl := hs.len
  cases all
  · by_cases ho : off = xs.length
    · subst ho
      by_cases hb : most - xs.length < ns.length
      · rw [putf_big _ _ _ _ _ rfl hb]
        rw [hnl] at hb
        have HL := Lib.hid hnl
        have HO := Lib.hid hown
        clear hnl hs hown
        have j0 : (0 : Int) ≤ (xs.length : Int) := by omega
        have j1 : (xs.length : Int) ≤ 6000 := by omega
        have j2 : (0 : Int) ≤ (m : Int) := by omega
        have j3 : (m : Int) ≤ 100 := by omega
        go_enter Try.func9, Try.ntmps9
        go_wp2_with (go_quiet (fail))
        go_ret
        exact ⟨rfl, _, hM, HO.out, (Kept.refl _ _).drewN _, .inl rfl⟩
      · rw [putf_ok _ _ _ _ _ rfl hb]
        rw [hnl] at hb
        have hB : B < w.heap.size := hM.lt
        have hno := hM.not_own hown (by decide)
        have j0 : (0 : Int) ≤ (xs.length : Int) := by omega
        have j1 : (xs.length : Int) ≤ 6000 := by omega
        have j2 : (0 : Int) ≤ (m : Int) := by omega
        have j3 : (m : Int) ≤ 100 := by omega
        have j4 : (m : Int) ≤ most - (xs.length : Int) := by omega
        rcases hs with ⟨rfl, rfl, rfl, rfl⟩ | ⟨ad, rfl, _, hc⟩
        · clear hnl hb
          go_enter Try.func9, Try.ntmps9
          go_wp2_with (first | (at_builtin; refine wpList_append_own_none rfl (.tmp 50) (.tmp 51) 27 rfl base 5 i0 1 Try.underlying27 hi (.slice ao xs.length cap) xs.length (vals xs) rfl hown rfl ?_) | go_quiet (fail))
          go_ret
          exact put_fin (m := 0) (ns := []) (show Mt (w.drewN nq) B 47 _ false most from hM) (by have h : (w.drewN nq).ownsRow base 5 1 (.slice ao xs.length cap) xs.length (vals xs) := hown; simpa [vals] using h) rfl ((Kept.refl _ w).drewN nq) (.inl rfl) (.inl rfl) hno hB
        · have hnews : ∀ j u, (vals ns)[j]? = some u → w.cell? (ad.add j) = some u := fun j u hj => by
            obtain ⟨h1, rfl⟩ := vals_get _ _ _ hj
            exact hc j (by omega)
          have hlv : (vals ns).length = m * 1 := by rw [vals_len, hnl, Nat.mul_one]
          have HL := Lib.hid hnl
          clear hc hnl hb
          go_enter Try.func9, Try.ntmps9
          go_wp2_with (first | (at_builtin; refine wpList_append_own_at _ rfl (.tmp 50) (.tmp 51) 27 rfl base 5 i0 (.int .u8 0) 1 1 Try.underlying27 hi hz0 hz1 hz2 rfl (by decide) (.slice ao xs.length cap) xs.length (vals xs) rfl hown ad m c (vals ns) rfl hlv hnews (vals_one _) (by unfold maxLen; omega) (by omega) hle ?_; intro v' W2 hown2 hgrow _ hat; obtain ⟨ao', cap', rfl⟩ := form hown2; have hk := (((Kept.refl (fun k => k = B ∨ (Value.slice ao xs.length cap).ownBlock = some k) w).drewN nq).grown hgrow (fun k e => .inl (.inr e))); obtain hM2 := Mt.kept (X := fun k => (Value.slice ao xs.length cap).ownBlock = some k) hM (((Kept.refl _ w).drewN nq).grown hgrow (fun k e => .inl e)) hno; obtain ⟨e0, e1, e2, e3, e4⟩ := hM2.cell) | go_quiet (fail))
          go_ret
          exact put_fin hM2 hown2 HL.out hk (.inl rfl) (hat.imp id fun e g hg => by rw [e] at hg; cases hg; exact Nat.le_refl _) hno hB
    · rw [putf_off _ _ _ _ _ (by omega)]
      have HO := Lib.hid hown
      clear hs hown hnl
      have j0 : (0 : Int) ≤ (xs.length : Int) := by omega
      have j1 : (xs.length : Int) ≤ 6000 := by omega
      have j2 : (0 : Int) ≤ (off : Int) := by omega
      have j3 : IntKind.u64.wrap (off : Int) = (off : Int) := by simp only [IntKind.wrap_u64]; omega
      have hne : ¬ (off : Int) = (xs.length : Int) := by omega
      clear hoff
      go_enter Try.func9, Try.ntmps9
      go_wp2
      go_ret
      exact ⟨rfl, _, hM, HO.out, Kept.refl _ _, .inl rfl⟩
  · rw [putf_all]
    exact (put_all w B off last _ h1).mono fun e w' ⟨he, hw⟩ => by
      subst hw
      exact ⟨he, _, hM, hown, Kept.refl _ _, .inl rfl⟩
end Go.Proofs.Ytkmikgajmopcbaa
