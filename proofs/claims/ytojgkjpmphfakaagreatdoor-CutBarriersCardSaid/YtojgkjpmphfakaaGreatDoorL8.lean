/- Walks: the reference's names. -/
import Derived.Test.YtojgkjpmphfakaaGreatDoorL1
set_option linter.unusedVariables false
set_option linter.unusedSimpArgs false
namespace Go.Proofs.YtojgkjpmphfakaaGreatDoor
open Go.RowKit
open PL
theorem rdigit_t (x : UInt8) (h : dgt x = true) (w : World) : Calls Tryz.prog 39 #[.int .u8 (x.toNat : Int)] w fun e w' => e = .returned (.bool true) ∧ w = w' := by
  simp only [dgt, Bool.and_eq_true, decide_eq_true_eq] at h
  have h1 : (48 : Int) ≤ x.toNat := by omega
  have h2 : (x.toNat : Int) ≤ 57 := by omega
  clear h
  go_enter Tryz.func39, Tryz.ntmps39
  go_wp2
  go_ret
  exact ⟨rfl, rfl⟩
theorem rdigit_f (x : UInt8) (h : dgt x = false) (w : World) : Calls Tryz.prog 39 #[.int .u8 (x.toNat : Int)] w fun e w' => e = .returned (.bool false) ∧ w = w' := by
  simp only [dgt, Bool.and_eq_false_iff, decide_eq_false_iff_not] at h
  by_cases h1 : (48 : Int) ≤ x.toNat
  · have h2 : (57 : Int) < x.toNat := by omega
    clear h
    go_enter Tryz.func39, Tryz.ntmps39
    go_wp2
    go_ret
    exact ⟨ret_b (by simp; omega), rfl⟩
  · have h2 : (x.toNat : Int) < 48 := by omega
    clear h h1
    go_enter Tryz.func39, Tryz.ntmps39
    go_wp2
    go_ret
    exact ⟨rfl, rfl⟩
/-- how far the reference has come -/
def VI (s : List UInt8) (k : Nat) : Prop := (s.take k).all nmb = true ∧ (0 < k → ∀ h : 0 < s.length, ltr s[0] = true)
theorem VI_next {s : List UInt8} {k : Nat} (h : VI s k) (hk : k < s.length) (hn : nmb s[k] = true) (h0 : k = 0 → ltr s[k] = true) : VI s (k + 1) := by
  refine ⟨by rw [List.take_succ_eq_append_getElem hk, List.all_append, h.1]; simp [hn], fun _ hp => ?_⟩
  rcases Nat.eq_zero_or_pos k with rfl | hk0
  · exact h0 rfl
  · exact h.2 hk0 hp
theorem valid_split (s : List UInt8) (hp : 0 < s.length) : validB s = (decide (s.length ≤ 16) && ltr s[0] && s.all nmb) := by cases s <;> simp [validB] at hp ⊢
theorem VI_no {s : List UInt8} {k : Nat} (hk : k < s.length) (hn : nmb s[k] = false) : validB s = false := by
  rw [valid_split s (by omega)]
  have : s.all nmb = false := by rw [List.all_eq_false]; exact ⟨s[k], List.getElem_mem hk, by simp [hn]⟩
  simp [this]
theorem VI_no0 {s : List UInt8} (hp : 0 < s.length) (hn : ltr s[0] = false) : validB s = false := by
  rw [valid_split s hp]; simp [hn]
theorem VI_end {s : List UInt8} {k : Nat} (h : VI s k) (hk : s.length ≤ k) (hp : 0 < s.length) : validB s = decide (s.length ≤ 16) := by
  rw [valid_split s hp, h.2 (by omega) hp]
  have := h.1; rw [List.take_of_length_le hk] at this
  rw [this]; simp
set_option maxRecDepth 100000 in
set_option maxHeartbeats 1000000 in
/-- groyneref02.Valid -/
theorem rvalid_any (s : List UInt8) (hm : s.length ≤ maxLen) (w : World) : Calls Tryz.prog 23 #[.string ⟨s.toArray⟩] w fun e w' => e = .returned (.bool (validB s)) ∧ w = w' := by
  unfold maxLen at hm
  go_enter Tryz.func23, Tryz.ntmps23
  go_wp2
  go_loopw [3] (fun i wr => ∃ k : Nat, k ≤ s.length ∧ i = .int .i64 k ∧ Eqw w wr ∧ Hid (VI s k)) (fun i _ => s.length - (intOf i).toNat)
  case atStart => exact ⟨0, by omega, rfl, Eqw.refl _, Hid.mk' ⟨by simp, by omega⟩⟩
  case round =>
    obtain ⟨k, hk, rfl, hw, HA⟩ := hrel
    obtain rfl : w = wr := hw
    by_cases hlt : k < s.length
    · have hlt' : (k : Int) < (s.length : Int) := by omega
      cases hl : ltr s[k]
      · have hl2 := hl
        simp only [ltr, Bool.and_eq_false_iff, decide_eq_false_iff_not] at hl2
        rcases Nat.eq_zero_or_pos k with rfl | hk0
        · have HR := Hid.mk' (VI_no0 hlt hl)
          clear hl
          by_cases h1 : (97 : Int) ≤ (((⟨s.toArray⟩ : ByteArray)[0]'hlt).toNat : Int)
          · have h2 : ¬ (((⟨s.toArray⟩ : ByteArray)[0]'hlt).toNat : Int) ≤ 122 := by
              show ¬ (s[0].toNat : Int) ≤ 122
              have : (97 : Int) ≤ (s[0].toNat : Int) := h1
              omega
            clear hl2
            go_wp2_with fail
            go_ret
            exact ⟨ret_b (by rw [HR.out]), rfl⟩
          · clear hl2
            go_wp2_with fail
            go_ret
            exact ⟨ret_b (by rw [HR.out]), rfl⟩
        · have hk0' : ¬ (k : Int) = 0 := by omega
          cases hd : dgt s[k]
          · by_cases h45 : s[k] = 45
            · have HN := Hid.mk' (VI_next HA.out hlt (by simp [nmb, h45]) (by omega))
              have HD := Hid.mk' hd
              have h1 : ¬ (97 : Int) ≤ (((⟨s.toArray⟩ : ByteArray)[k]'hlt).toNat : Int) := by
                show ¬ (97 : Int) ≤ (s[k].toNat : Int)
                have e : s[k].toNat = 45 := by rw [h45]; rfl
                omega
              have H45 := Hid.mk' h45
              clear hl hl2 hd h45
              go_wp2_with fail
              refine (rdigit_f s[k] HD.out _).mono ?_
              rintro e w' ⟨rfl, rfl⟩
              have h2 : ((⟨s.toArray⟩ : ByteArray)[k]'hlt).toNat = 45 := by show s[k].toNat = 45; rw [H45.out]; rfl
              go_wp2_with fail
              go_roundw
              case rel => exact ⟨k + 1, by omega, by go_num, Eqw.refl _, HN⟩
              case measure => simp [intOf]; omega
            · have HR := Hid.mk' (VI_no hlt (s := s) (by simp [nmb, hl, hd, h45]))
              have HD := Hid.mk' hd
              have h2 : ¬ (((⟨s.toArray⟩ : ByteArray)[k]'hlt).toNat : Int) = 45 := by
                show ¬ (s[k].toNat : Int) = 45
                intro e; apply h45; apply UInt8.toNat_inj.1; show s[k].toNat = 45; omega
              have h2b : ((((⟨s.toArray⟩ : ByteArray)[k]'hlt).toNat : Int) != 45) = true := by simpa using h2
              clear hl hd h45
              by_cases h1 : (97 : Int) ≤ (((⟨s.toArray⟩ : ByteArray)[k]'hlt).toNat : Int)
              · have h3 : ¬ (((⟨s.toArray⟩ : ByteArray)[k]'hlt).toNat : Int) ≤ 122 := by
                  show ¬ (s[k].toNat : Int) ≤ 122
                  have : (97 : Int) ≤ (s[k].toNat : Int) := h1
                  omega
                clear hl2
                go_wp2_with fail
                refine (rdigit_f s[k] HD.out _).mono ?_
                rintro e w' ⟨rfl, rfl⟩
                go_wp2_with fail
                go_ret
                exact ⟨ret_b (by rw [HR.out]), rfl⟩
              · clear hl2
                go_wp2_with fail
                refine (rdigit_f s[k] HD.out _).mono ?_
                rintro e w' ⟨rfl, rfl⟩
                go_wp2_with fail
                go_ret
                exact ⟨ret_b (by rw [HR.out]), rfl⟩
          · have HN := Hid.mk' (VI_next HA.out hlt (by simp [nmb, hd]) (by omega))
            have HD := Hid.mk' hd
            have hd2 := hd
            simp only [dgt, Bool.and_eq_true, decide_eq_true_eq] at hd2
            have h1 : ¬ (97 : Int) ≤ (((⟨s.toArray⟩ : ByteArray)[k]'hlt).toNat : Int) := by show ¬ (97 : Int) ≤ (s[k].toNat : Int); omega
            clear hl hl2 hd hd2
            go_wp2_with fail
            refine (rdigit_t s[k] HD.out _).mono ?_
            rintro e w' ⟨rfl, rfl⟩
            go_wp2_with fail
            go_roundw
            case rel => exact ⟨k + 1, by omega, by go_num, Eqw.refl _, HN⟩
            case measure => simp [intOf]; omega
      · have HN := Hid.mk' (VI_next HA.out hlt (by simp [nmb, hl]) (fun _ => hl))
        have hl2 := hl
        simp only [ltr, Bool.and_eq_true, decide_eq_true_eq] at hl2
        have h1 : (97 : Int) ≤ (((⟨s.toArray⟩ : ByteArray)[k]'hlt).toNat : Int) := by show (97 : Int) ≤ (s[k].toNat : Int); omega
        have h2 : (((⟨s.toArray⟩ : ByteArray)[k]'hlt).toNat : Int) ≤ 122 := by show (s[k].toNat : Int) ≤ 122; omega
        clear hl hl2
        go_wp2_with fail
        go_roundw
        case rel => exact ⟨k + 1, by omega, by go_num, Eqw.refl _, HN⟩
        case measure => simp [intOf]; omega
    · have hlt' : (s.length : Int) ≤ (k : Int) := by omega
      by_cases hp : 0 < s.length
      · have HR := Hid.mk' (VI_end HA.out (by omega) hp)
        have hp' : (1 : Int) ≤ (s.length : Int) := by omega
        by_cases h16 : (s.length : Int) ≤ 16
        · go_wp2_with fail
          go_ret
          exact ⟨ret_b (by rw [HR.out]; simp; omega), rfl⟩
        · go_wp2_with fail
          go_ret
          exact ⟨ret_b (by rw [HR.out]; simp; omega), rfl⟩
      · have : s = [] := List.eq_nil_of_length_eq_zero (by omega)
        subst this
        go_wp2_with fail
        go_ret
        exact ⟨rfl, rfl⟩
end Go.Proofs.YtojgkjpmphfakaaGreatDoor
