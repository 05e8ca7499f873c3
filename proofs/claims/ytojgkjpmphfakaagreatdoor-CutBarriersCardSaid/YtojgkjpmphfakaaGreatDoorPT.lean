/- pack, plain: what was put is read back. -/
import Derived.Test.YtojgkjpmphfakaaGreatDoorPQ
set_option linter.unusedVariables false
set_option linter.unusedSimpArgs false
namespace Go.Proofs.YtojgkjpmphfakaaGreatDoor
open Go.RowKit
theorem vl_be (n : Nat) : vl 0 (be n) = n := by
  induction n using Nat.strongRecOn with
  | _ n ih =>
    by_cases h : n = 0
    · subst h; rw [be_zero]; rfl
    · rw [be_pos h, vl_app, ih (n / 256) (by omega)]
      show n / 256 * 256 + (UInt8.ofNat (n % 256)).toNat = n
      rw [UInt8.toNat_ofNat']
      omega
theorem be_head {n : Nat} (h : n ≠ 0) : ∃ c r, be n = c :: r ∧ c ≠ 0 := by
  induction n using Nat.strongRecOn with
  | _ n ih =>
    by_cases h0 : n / 256 = 0
    · refine ⟨UInt8.ofNat (n % 256), [], by rw [be_pos h, h0, be_zero]; rfl, fun e => ?_⟩
      have := congrArg UInt8.toNat e
      rw [UInt8.toNat_ofNat'] at this
      have h2 : (0 : UInt8).toNat = 0 := rfl
      omega
    · obtain ⟨c, r, h1, h2⟩ := ih (n / 256) (by omega) h0
      exact ⟨c, r ++ [UInt8.ofNat (n % 256)], by rw [be_pos h, h1]; rfl, h2⟩
/-- a number is read back where it was put -/
theorem tk_nm (pre post : List UInt8) {n : Nat} (h : n < 18446744073709551616) : tkP (pre ++ (nm n ++ post)) pre.length = (n, pre.length + (nm n).length, 0) := by
  have hk := be_len 8 n h
  unfold nm
  by_cases h1 : n ≤ 247
  · rw [if_pos h1]
    have hg : ((pre ++ ([UInt8.ofNat n] ++ post)).getD pre.length 0).toNat = n := by
      simp [List.getD]
      omega
    unfold tkP
    rw [if_neg (by simp), if_neg (by simp), if_pos (by rw [hg]; exact h1), hg]
    rfl
  · rw [if_neg h1]
    obtain ⟨c, r, e, hc⟩ := be_head (show n ≠ 0 by omega)
    have hk1 : 0 < (be n).length := by rw [e]; simp
    have hg : ((pre ++ (UInt8.ofNat (247 + (be n).length) :: be n ++ post)).getD pre.length 0).toNat = 247 + (be n).length := by
      simp [List.getD]
      omega
    have hl : (pre ++ (UInt8.ofNat (247 + (be n).length) :: be n ++ post)).length = pre.length + 1 + (be n).length + post.length := by simp; omega
    have hd : ((pre ++ (UInt8.ofNat (247 + (be n).length) :: be n ++ post)).drop (pre.length + 1)).take (be n).length = be n := by
      rw [List.drop_append, List.drop_eq_nil_of_le (by omega), List.nil_append, show pre.length + 1 - pre.length = 1 by omega]
      simp
    have hh : (pre ++ (UInt8.ofNat (247 + (be n).length) :: be n ++ post)).getD (pre.length + 1) 0 = c := by
      rw [e]
      simp [List.getD]
    unfold tkP
    rw [if_neg (by omega), if_neg (by omega), if_neg (by rw [hg]; omega), hg, Nat.add_sub_cancel_left, if_neg (by omega), hd, vl_be, hh, if_neg (by intro h; rcases h with h | h; omega; exact hc h)]
    simp
    omega
end Go.Proofs.YtojgkjpmphfakaaGreatDoor
