/- The walks of layer 6's functions on arrays (name) and of the document's answers (handcartref06). -/
import Derived.Test.YtbhbcmngbdpfoaaBw
import Derived.Laws.BytesArg
namespace Go.Proofs.Ytbhbcmngbdpfoaa
open Go.RowKit
set_option linter.unusedVariables false
set_option linter.unusedSimpArgs false

theorem all_other (l : List UInt8) (b off cap : Nat) (hcap : l.length ≤ cap) (hbd : cap ≤ 8) (w : World) (hc : ∀ i, i < l.length → w.cell? ⟨b, off + i, none⟩ = some (.int .u8 ((l.getD i 0).toNat : Int))) :
    Calls Try.prog 24 #[.slice (some ⟨b, off, none⟩) l.length cap, .func (.func 25) #[] #[]] w fun e w' => e = .returned (.bool (l.all Pl.otherB)) ∧ w = w' := by
  have HC := Lib.hid hc
  clear hc
  rcases hall : l.all Pl.otherB with _ | _
  all_goals
    have HA := Lib.hid hall
    clear hall
    go_enter Try.func24, Try.ntmps24
    go_wp2
    go_loop [9] (fun v => ∃ k : Nat, k ≤ l.length ∧ v = .int .i64 k ∧ (l.take k).all Pl.otherB = true) (fun v => l.length - (intOf v).toNat)
    case atStart => exact ⟨0, by omega, rfl, rfl⟩
    case round =>
      obtain ⟨k, hk, rfl, hpre⟩ := hrel
      have HP := Lib.hid hpre
      clear hpre
      by_cases hlt : k < l.length
      · obtain ⟨c, hce⟩ : ∃ c, l.getD k 0 = c := ⟨_, rfl⟩
        have hck := HC.out k hlt
        have hp := other_any c w
        have HS := Lib.hid (Pl.all_step l Pl.otherB k hlt)
        rw [hce] at hck
        have HE := Lib.hid hce
        clear hce
        rcases hv : Pl.otherB c with _ | _
        · rw [hv] at hp
          have HV := Lib.hid hv
          clear hv
          go_wp2_with (go_at_call 25; ((with_reducible refine hp.mono ?_); rintro e w' ⟨rfl, rfl⟩))
          go_ret
          refine ⟨ret_bool ?_, rfl⟩
          first | rfl | (exfalso; exact Pl.all_no l Pl.otherB k hlt (by rw [HE.out]; exact HV.out) HA.out)
        · rw [hv] at hp
          have HV := Lib.hid hv
          clear hv
          go_wp2_with (go_at_call 25; ((with_reducible refine hp.mono ?_); rintro e w' ⟨rfl, rfl⟩))
          go_round
          case rel => exact ⟨k + 1, by omega, by go_num, by rw [HS.out, HP.out, HE.out, HV.out]; rfl⟩
          case measure => simp [intOf]; omega
      · go_wp2
        go_ret
        refine ⟨ret_bool ?_, rfl⟩
        have e : (l.take k).all Pl.otherB = l.all Pl.otherB := by rw [List.take_of_length_le (by omega)]
        exact HP.out.symm.trans (e.trans HA.out)
theorem all_zero (l : List UInt8) (b off cap : Nat) (hcap : l.length ≤ cap) (hbd : cap ≤ 8) (w : World) (hc : ∀ i, i < l.length → w.cell? ⟨b, off + i, none⟩ = some (.int .u8 ((l.getD i 0).toNat : Int))) :
    Calls Try.prog 24 #[.slice (some ⟨b, off, none⟩) l.length cap, .func (.func 26) #[] #[]] w fun e w' => e = .returned (.bool (l.all Pl.zeroB)) ∧ w = w' := by
  have HC := Lib.hid hc
  clear hc
  rcases hall : l.all Pl.zeroB with _ | _
  all_goals
    have HA := Lib.hid hall
    clear hall
    go_enter Try.func24, Try.ntmps24
    go_wp2
    go_loop [9] (fun v => ∃ k : Nat, k ≤ l.length ∧ v = .int .i64 k ∧ (l.take k).all Pl.zeroB = true) (fun v => l.length - (intOf v).toNat)
    case atStart => exact ⟨0, by omega, rfl, rfl⟩
    case round =>
      obtain ⟨k, hk, rfl, hpre⟩ := hrel
      have HP := Lib.hid hpre
      clear hpre
      by_cases hlt : k < l.length
      · obtain ⟨c, hce⟩ : ∃ c, l.getD k 0 = c := ⟨_, rfl⟩
        have hck := HC.out k hlt
        have hp := zero_any c w
        have HS := Lib.hid (Pl.all_step l Pl.zeroB k hlt)
        rw [hce] at hck
        have HE := Lib.hid hce
        clear hce
        rcases hv : Pl.zeroB c with _ | _
        · rw [hv] at hp
          have HV := Lib.hid hv
          clear hv
          go_wp2_with (go_at_call 26; ((with_reducible refine hp.mono ?_); rintro e w' ⟨rfl, rfl⟩))
          go_ret
          refine ⟨ret_bool ?_, rfl⟩
          first | rfl | (exfalso; exact Pl.all_no l Pl.zeroB k hlt (by rw [HE.out]; exact HV.out) HA.out)
        · rw [hv] at hp
          have HV := Lib.hid hv
          clear hv
          go_wp2_with (go_at_call 26; ((with_reducible refine hp.mono ?_); rintro e w' ⟨rfl, rfl⟩))
          go_round
          case rel => exact ⟨k + 1, by omega, by go_num, by rw [HS.out, HP.out, HE.out, HV.out]; rfl⟩
          case measure => simp [intOf]; omega
      · go_wp2
        go_ret
        refine ⟨ret_bool ?_, rfl⟩
        have e : (l.take k).all Pl.zeroB = l.all Pl.zeroB := by rw [List.take_of_length_le (by omega)]
        exact HP.out.symm.trans (e.trans HA.out)

theorem all_other' (l : List UInt8) (len : Nat) (hlen : l.length = len) (b off cap : Nat) (hcap : len ≤ cap) (hbd : cap ≤ 8) (w : World) (hc : ∀ i, i < len → w.cell? ⟨b, off + i, none⟩ = some (.int .u8 ((l.getD i 0).toNat : Int))) :
    Calls Try.prog 24 #[.slice (some ⟨b, off, none⟩) len cap, .func (.func 25) #[] #[]] w fun e w' => e = .returned (.bool (l.all Pl.otherB)) ∧ w = w' := by
  subst hlen
  exact all_other l b off cap hcap hbd w hc
theorem all_zero' (l : List UInt8) (len : Nat) (hlen : l.length = len) (b off cap : Nat) (hcap : len ≤ cap) (hbd : cap ≤ 8) (w : World) (hc : ∀ i, i < len → w.cell? ⟨b, off + i, none⟩ = some (.int .u8 ((l.getD i 0).toNat : Int))) :
    Calls Try.prog 24 #[.slice (some ⟨b, off, none⟩) len cap, .func (.func 26) #[] #[]] w fun e w' => e = .returned (.bool (l.all Pl.zeroB)) ∧ w = w' := by
  subst hlen
  exact all_zero l b off cap hcap hbd w hc

section
variable (n0 n1 n2 n3 n4 n5 n6 n7 : UInt8)

theorem index_any (k : Nat) (hk : k < 8) (w : World) : (Instr.index 23 (.agg #[.int .u8 (n0.toNat : Int), .int .u8 (n1.toNat : Int), .int .u8 (n2.toNat : Int), .int .u8 (n3.toNat : Int), .int .u8 (n4.toNat : Int), .int .u8 (n5.toNat : Int), .int .u8 (n6.toNat : Int), .int .u8 (n7.toNat : Int)]) (.int .i64 k)).run Try.prog w = .ok (.int .u8 (([n0, n1, n2, n3, n4, n5, n6, n7] : List UInt8).getD k 0).toNat) w := by
  obtain rfl | rfl | rfl | rfl | rfl | rfl | rfl | rfl : k = 0 ∨ k = 1 ∨ k = 2 ∨ k = 3 ∨ k = 4 ∨ k = 5 ∨ k = 6 ∨ k = 7 := by omega
  all_goals kernel_rfl

theorem size_any (w : World) : Calls Try.prog 22 #[.agg #[.int .u8 (n0.toNat : Int), .int .u8 (n1.toNat : Int), .int .u8 (n2.toNat : Int), .int .u8 (n3.toNat : Int), .int .u8 (n4.toNat : Int), .int .u8 (n5.toNat : Int), .int .u8 (n6.toNat : Int), .int .u8 (n7.toNat : Int)]] w fun e w' => e = .returned (.int .i64 (Pl.sz [n0, n1, n2, n3, n4, n5, n6, n7])) ∧ w.alloc (.cells #[.int .u8 (n0.toNat : Int), .int .u8 (n1.toNat : Int), .int .u8 (n2.toNat : Int), .int .u8 (n3.toNat : Int), .int .u8 (n4.toNat : Int), .int .u8 (n5.toNat : Int), .int .u8 (n6.toNat : Int), .int .u8 (n7.toNat : Int)] 23) = w' := by
  obtain ⟨z, hz⟩ : ∃ z, Pl.sz [n0, n1, n2, n3, n4, n5, n6, n7] = z := ⟨_, rfl⟩
  have hz8 : z ≤ 8 := by rw [← hz]; exact Pl.sz_le _
  rw [hz]
  have hlt0 : ∀ k, k < z → Hid (Pl.zeroB (([n0, n1, n2, n3, n4, n5, n6, n7] : List UInt8).getD k 0) = false) := fun k h => Pl.sz_lt _ k (by rw [hz]; exact h)
  have hat : z < 8 → Hid (Pl.zeroB (([n0, n1, n2, n3, n4, n5, n6, n7] : List UInt8).getD z 0) = true) := fun h => by have := Pl.sz_at [n0, n1, n2, n3, n4, n5, n6, n7] (by rw [hz]; exact h); rw [hz] at this; exact this
  have hix := index_any n0 n1 n2 n3 n4 n5 n6 n7
  have HT := Lib.hid hlt0
  have HA := Lib.hid hat
  have HX := Lib.hid hix
  clear hlt0 hat hix hz
  go_enter Try.func22, Try.ntmps22
  go_wp2
  go_loop [6] (fun v => ∃ k : Nat, k ≤ z ∧ v = .int .i64 k) (fun v => 8 - (intOf v).toNat)
  case atStart => exact ⟨0, by omega, rfl⟩
  case round =>
    obtain ⟨k, hk, rfl⟩ := hrel
    by_cases hlt : k < z
    · have hx := HX.out k (by omega)
      have hz := HT.out k hlt
      obtain ⟨c, hce⟩ : ∃ c, ([n0, n1, n2, n3, n4, n5, n6, n7] : List UInt8).getD k 0 = c := ⟨_, rfl⟩
      rw [hce] at hx hz
      have hc0 := Pl.zero_no c hz.out
      have hk8 : k < 8 := by omega
      clear hce hz
      go_wp2
      go_round
      case rel => exact ⟨k + 1, by omega, by go_num⟩
      case measure => simp [intOf]; omega
    · obtain rfl : k = z := by omega
      by_cases h8 : k < 8
      · have hx := HX.out k h8
        have hz := HA.out h8
        obtain ⟨c, hce⟩ : ∃ c, ([n0, n1, n2, n3, n4, n5, n6, n7] : List UInt8).getD k 0 = c := ⟨_, rfl⟩
        rw [hce] at hx hz
        have hc0 := Pl.zero_yes c hz.out
        clear hce hz
        go_wp2
        go_ret
        exact ⟨rfl, rfl⟩
      · obtain rfl : k = 8 := by omega
        go_wp2
        go_ret
        exact ⟨rfl, rfl⟩
end
end Go.Proofs.Ytbhbcmngbdpfoaa
