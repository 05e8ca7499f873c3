/- Walks: strings.Trim at "*". -/
import Derived.Test.YtojgkjpmphfakaaGreatDoorL2
set_option linter.unusedVariables false
set_option linter.unusedSimpArgs false
namespace Go.Proofs.YtojgkjpmphfakaaGreatDoor
open Go.RowKit
open PL
/-- without the last bytes that are c -/
def trimR (s : List UInt8) (c : UInt8) : List UInt8 := (s.reverse.dropWhile (· == c)).reverse
theorem trimR_snoc (s : List UInt8) (x c : UInt8) : trimR (s ++ [x]) c = if x = c then trimR s c else s ++ [x] := by
  unfold trimR
  rw [List.reverse_append, List.reverse_singleton, List.singleton_append, List.dropWhile_cons]
  by_cases h : x = c
  · rw [if_pos (by simpa using h), if_pos h]
  · rw [if_neg (by simpa using h), if_neg h]; simp
theorem last_split (s : List UInt8) (h : 0 < s.length) : s = s.take (s.length - 1) ++ [s[s.length - 1]] := by
  conv => lhs; rw [← List.take_append_drop (s.length - 1) s]
  rw [List.drop_eq_getElem_cons (by omega), List.drop_of_length_le (by omega)]
set_option maxRecDepth 100000 in
set_option maxHeartbeats 1000000 in
theorem trimRightByte_any (s : List UInt8) (c : UInt8) (hm : s.length ≤ 100000) (w : World) : Calls Tryz.prog 67 #[.string ⟨s.toArray⟩, .int .u8 (c.toNat : Int)] w fun e w' => e = .returned (.string ⟨(trimR s c).toArray⟩) ∧ w = w' := by
  go_enter Tryz.func67, Tryz.ntmps67
  go_wp2
  go_loopw [0] (fun v wr => ∃ x : List UInt8, v = .string ⟨x.toArray⟩ ∧ x.length ≤ s.length ∧ Eqw w wr ∧ Hid (trimR s c = trimR x c)) (fun v _ => strLen v)
  case atStart => exact ⟨s, rfl, Nat.le_refl _, Eqw.refl _, Hid.mk' rfl⟩
  case round =>
    obtain ⟨x, rfl, hx, hw, HX⟩ := hrel
    obtain rfl : w = wr := hw
    by_cases h0 : 0 < x.length
    · have hsp := last_split x h0
      have htr := trimR_snoc (x.take (x.length - 1)) x[x.length - 1] c
      rw [← hsp] at htr
      have hl1 : (1 : Int) ≤ (x.length : Int) := by omega
      have hl2 : (0 : Int) < (x.length : Int) := by omega
      have ht := ba_take x (x.length - 1)
      have hn : ((x.length : Int) - 1).toNat = x.length - 1 := by omega
      by_cases hy : x[x.length - 1] = c
      · have HR : Hid (trimR s c = trimR (x.take (x.length - 1)) c) := by show _ = _; rw [HX.out, htr, if_pos hy]
        have hg : ∀ h, ((⟨x.toArray⟩ : ByteArray)[x.length - 1]'h).toNat = c.toNat := fun _ => by show x[x.length - 1].toNat = _; rw [hy]
        clear hsp htr hy
        go_wp2_with fail
        go_roundw
        case rel => exact ⟨x.take (x.length - 1), by rw [← ht], by simp; omega, Eqw.refl _, HR⟩
        case measure => simp [strLen, ByteArray.size]; omega
      · have HR : Hid (trimR s c = x) := by show _ = _; rw [HX.out, htr, if_neg hy]
        have hne : (((((⟨x.toArray⟩ : ByteArray)[x.length - 1]'(by show x.length - 1 < x.length; omega)).toNat : Nat) : Int) == (c.toNat : Int)) = false := by
          rw [beq_eq_false_iff_ne]; intro e; exact hy (UInt8.toNat_inj.1 (by show x[x.length - 1].toNat = _; exact Int.ofNat.inj e))
        clear hsp htr hy
        go_wp2_with fail
        go_ret
        exact ⟨ret_s HR.out.symm, rfl⟩
    · have hx0 : x = [] := List.eq_nil_of_length_eq_zero (by omega)
      subst hx0
      go_wp2_with fail
      go_ret
      exact ⟨ret_s (by rw [HX.out]; rfl), rfl⟩
def trimS (s : List UInt8) : List UInt8 := (trimR s 42).dropWhile (· == 42)
theorem dropWhile_nil (s : List UInt8) (c : UInt8) : s.dropWhile (· == c) = [] ↔ s.all (· == c) = true := by
  induction s with
  | nil => simp
  | cons x s ih => rw [List.dropWhile_cons]; by_cases h : x = c <;> simp [h, ih]
theorem trimS_nil (s : List UInt8) : trimS s = [] ↔ s.all (· == 42) = true := by
  unfold trimS
  rw [dropWhile_nil]
  unfold trimR
  rw [List.all_reverse]
  constructor
  · intro h
    have h1 : s.reverse.dropWhile (· == (42 : UInt8)) = [] := by
      cases hd : s.reverse.dropWhile (· == (42 : UInt8)) with
      | nil => rfl
      | cons x r =>
        have h2 := List.head?_dropWhile_not (· == (42 : UInt8)) s.reverse
        rw [hd] at h h2
        simp at h h2
        exact absurd h.1 h2
    have := (dropWhile_nil _ _).1 h1
    rwa [List.all_reverse] at this
  · intro h
    have : s.reverse.dropWhile (· == (42 : UInt8)) = [] := (dropWhile_nil _ _).2 (by rw [List.all_reverse]; exact h)
    rw [this]; rfl
set_option maxRecDepth 100000 in
set_option maxHeartbeats 1000000 in
/-- strings.Trim at the cutset "*" -/
theorem trim_any (s : List UInt8) (hm : s.length ≤ 100000) (w : World) : Calls Tryz.prog 52 #[.string ⟨s.toArray⟩, .string ⟨#[42]⟩] w fun e w' => e = .returned (.string ⟨(trimS s).toArray⟩) ∧ Dn w w' := by
  by_cases h0 : s = []
  · subst h0
    go_enter Tryz.func52, Tryz.ntmps52
    go_wp2_with fail
    go_ret
    exact ⟨rfl, Dn.refl _⟩
  · have hem : (s == []) = false := by cases s <;> simp at h0 ⊢
    have hem' : s.isEmpty = false := by cases s <;> simp at h0 ⊢
    have hR := Hid.mk' (trimRightByte_any s 42 hm)
    have hL := Hid.mk' (trimLeftByte_any (trimR s 42) 42 (by unfold trimR; have := (List.dropWhile_suffix (l := s.reverse) (· == (42 : UInt8))).length_le; rw [List.length_reverse] at this; rw [List.length_reverse]; unfold maxLen; omega))
    go_enter Tryz.func52, Tryz.ntmps52
    go_wp2_with fail
    go_quiet ((first | (go_at_call 67; exact quiet_flip (hR.out _)) | (go_at_call 66; exact quiet_flip (hL.out _))))
    go_wp2_with fail
    go_ret
    exact ⟨rfl, by repeat (first | exact Dn.refl _ | apply Dn.more)⟩
end Go.Proofs.YtojgkjpmphfakaaGreatDoor
