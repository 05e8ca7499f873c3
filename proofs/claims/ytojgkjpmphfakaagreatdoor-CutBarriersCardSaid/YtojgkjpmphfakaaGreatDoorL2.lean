/- Walks of layer 2: pieces; the library's small functions. -/
import Derived.Test.YtojgkjpmphfakaaGreatDoorL1
import Derived.Lib.Bytealg
set_option linter.unusedVariables false
set_option linter.unusedSimpArgs false
namespace Go.Proofs.YtojgkjpmphfakaaGreatDoor
open Go.RowKit
open PL
theorem tw_iff (s : List UInt8) (k : Nat) (h : k ≤ (s.takeWhile dgt).length) (hk : k < s.length) : dgt s[k] = true ↔ k < (s.takeWhile dgt).length := by
  constructor
  · intro hd
    by_cases he : k = (s.takeWhile dgt).length
    · exfalso
      have h1 : s.drop k = s.dropWhile dgt := by
        have := List.takeWhile_append_dropWhile (p := dgt) (l := s)
        conv => lhs; rw [← this, he, List.drop_left]
      have h2 : s.drop k = s[k] :: s.drop (k + 1) := List.drop_eq_getElem_cons hk
      have h3 := List.head?_dropWhile_not dgt s
      rw [← h1, h2] at h3
      simp [List.getElem?_eq_getElem hk, hd] at h3
    · omega
  · intro hl
    have : (s.takeWhile dgt)[k]? = s[k]? := by
      have := List.takeWhile_append_dropWhile (p := dgt) (l := s)
      conv => rhs; rw [← this, List.getElem?_append_left hl]
    have h2 : (s.takeWhile dgt)[k] = s[k] := by
      rw [List.getElem?_eq_getElem hl, List.getElem?_eq_getElem hk] at this
      exact Option.some.inj this
    rw [← h2]
    exact List.all_eq_true.1 (List.all_takeWhile (p := dgt) (l := s)) _ (List.getElem_mem hl)
def orI (a b : Int) : Int := if a ≠ 0 then a else b
/-- three ways -/
def ic (a b : Int) : Int := if a < b then -1 else if b < a then 1 else 0
def strLen (v : Value) : Nat := match v with | .string s => s.size | _ => 0
set_option maxRecDepth 100000 in
set_option maxHeartbeats 1000000 in
theorem trimLeftByte_any (s : List UInt8) (c : UInt8) (hm : s.length ≤ maxLen) (w : World) : Calls Tryz.prog 66 #[.string ⟨s.toArray⟩, .int .u8 (c.toNat : Int)] w fun e w' => e = .returned (.string ⟨(s.dropWhile (· == c)).toArray⟩) ∧ w = w' := by
  unfold maxLen at hm
  go_enter Tryz.func66, Tryz.ntmps66
  go_wp2
  go_loopw [0] (fun v wr => ∃ x : List UInt8, v = .string ⟨x.toArray⟩ ∧ x.length ≤ s.length ∧ Eqw w wr ∧ Hid (s.dropWhile (· == c) = x.dropWhile (· == c))) (fun v _ => strLen v)
  case atStart => exact ⟨s, rfl, Nat.le_refl _, Eqw.refl _, Hid.mk' rfl⟩
  case round =>
    obtain ⟨x, rfl, hx, hw, HX⟩ := hrel
    obtain rfl : w = wr := hw
    cases x with
    | nil =>
      go_wp2
      go_ret
      exact ⟨ret_s (by rw [HX.out]; rfl), rfl⟩
    | cons y r =>
      by_cases hy : y = c
      · subst hy
        have HR : Hid (s.dropWhile (· == y) = r.dropWhile (· == y)) := by show _ = _; rw [HX.out, List.dropWhile_cons, if_pos (by simp)]
        have hg : ∀ h, ((⟨(y :: r).toArray⟩ : ByteArray)[0]'h).toNat = y.toNat := fun _ => rfl
        have hl : ((y :: r).length : Int) = r.length + 1 := by simp
        have hd := ba_drop (y :: r) 1
        simp only [List.length_cons, List.drop_succ_cons, List.drop_zero] at hd
        clear HX
        go_wp2
        go_roundw
        case rel => exact ⟨r, by rw [← hd], by simp at hx; omega, Eqw.refl _, HR⟩
        case measure => simp [strLen, ByteArray.size]
      · have HR : Hid (s.dropWhile (· == c) = y :: r) := by show _ = _; rw [HX.out, List.dropWhile_cons, if_neg (by simpa using hy)]
        have hne : ((y.toNat : Int) == (c.toNat : Int)) = false := by rw [beq_eq_false_iff_ne]; intro e; exact hy (UInt8.toNat_inj.1 (by omega))
        have hg : ∀ h, ((⟨(y :: r).toArray⟩ : ByteArray)[0]'h).toNat = y.toNat := fun _ => rfl
        clear HX hy
        go_wp2
        go_ret
        exact ⟨ret_s HR.out.symm, rfl⟩
end Go.Proofs.YtojgkjpmphfakaaGreatDoor
