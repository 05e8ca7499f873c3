/- leaf.Decode. -/
import Derived.Test.YtfmbbpfklhkljaaWB
set_option linter.unusedVariables false
set_option linter.unusedSimpArgs false
namespace Go.Proofs.Ytfmbbpfklhkljaa
open Go.RowKit
set_option maxHeartbeats 400000 in
theorem c72 (x : UInt8) (w : World) : Calls Try.prog 72 #[.int .u8 x.toNat] w fun e w' => e = .returned (.bool (x != 0)) ∧ w = w' := by
  have hx : ((x.toNat : Int) != 0) = (x != 0) := by
    rw [Bool.eq_iff_iff, bne_iff_ne, bne_iff_ne, Ne, Ne, ← UInt8.toNat_inj]
    simp
  go_enter Try.func72, Try.ntmps72
  go_wp2
  go_ret
  exact ⟨rfl, rfl⟩
set_option maxHeartbeats 400000 in
theorem c97 {A : Nat → Prop} {w : World} {v : Value} {l : List UInt8} (h : Bs A w v l) :
    Calls Try.prog 97 #[v, .func (.func 72) #[] #[]] w fun e w' => ∃ k : Int, e = .returned (.int .i64 k) ∧ decide (0 ≤ k) = l.any (· != 0) ∧ w = w' := by
  have hlim : l.length ≤ 140737488351232 := h.2
  obtain ⟨a, c, rfl, hc, _, H⟩ := h.at
  have H : Hid _ := H
  clear h
  go_enter Try.func97, Try.ntmps97
  go_wp2_with fail
  go_loop [8] (fun i => ∃ k : Nat, k ≤ l.length ∧ i = .int .i64 k ∧ Hid ((l.take k).any (· != 0) = false)) (fun i => l.length - (intOf i).toNat)
  case atStart => exact ⟨0, by omega, rfl, Hid.mk' (by simp)⟩
  case round =>
    obtain ⟨k, hk, rfl, HL⟩ := hrel
    by_cases hlt : k < l.length
    · have hlt' : (k : Int) < (l.length : Int) := by omega
      have hl' : (l.length : Int) ≤ 140737488351232 := by omega
      obtain ⟨b', o, rfl, _, hu⟩ := H.out k hlt
      have HC := Hid.mk' (c72 l[k])
      have HT := Hid.mk' (any_take (fun x : UInt8 => x != 0) l k hlt)
      have HA := Hid.mk' (any_of_get (fun x : UInt8 => x != 0) l k hlt)
      generalize l[k] = y at *
      cases hd : y != 0 with
      | true =>
        rw [hd] at HC
        have HA2 := Hid.mk' (HA.out hd)
        clear hd HT
        go_wp2_with fail
        refine (HC.out _).mono ?_
        rintro e w' ⟨rfl, rfl⟩
        go_wp2_with fail
        go_ret
        exact ⟨_, rfl, by rw [HA2.out]; simp, rfl⟩
      | false =>
        rw [hd] at HC
        have HT2 : Hid ((l.take (k + 1)).any (· != 0) = false) := by show _ = _; rw [HT.out, hd, Bool.or_false]; exact HL.out
        clear hd HT
        go_wp2_with fail
        refine (HC.out _).mono ?_
        rintro e w' ⟨rfl, rfl⟩
        go_wp2_with fail
        go_round
        case rel => exact ⟨k + 1, by omega, by go_num, HT2⟩
        case measure => simp [intOf]; omega
    · obtain rfl : k = l.length := by omega
      have HL2 : Hid (l.any (· != 0) = false) := by have := HL.out; rwa [List.take_length] at this
      go_wp2_with fail
      go_ret
      exact ⟨_, rfl, by rw [HL2.out]; rfl, rfl⟩
set_option maxHeartbeats 400000 in
theorem c71 {A : Nat → Prop} {w : World} {v : Value} {l : List UInt8} (h : Bs A w v l) :
    Calls Try.prog 71 #[v, .func (.func 72) #[] #[]] w fun e w' => e = .returned (.bool (l.any (· != 0))) ∧ w = w' := by
  have HC := Hid.mk' (c97 h)
  clear h
  go_enter Try.func71, Try.ntmps71
  go_wp2_with fail
  refine HC.out.mono ?_
  rintro e w' ⟨k, rfl, hk, rfl⟩
  go_wp2_with fail
  go_ret
  exact ⟨rfl, rfl⟩
end Go.Proofs.Ytfmbbpfklhkljaa
