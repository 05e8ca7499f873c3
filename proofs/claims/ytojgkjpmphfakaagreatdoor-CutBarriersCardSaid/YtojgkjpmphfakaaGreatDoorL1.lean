/- Walks of layer 2: names. -/
import Derived.Test.YtojgkjpmphfakaaGreatDoorVD
import Derived.Test.YtojgkjpmphfakaaGreatDoorPL
set_option linter.unusedVariables false
set_option linter.unusedSimpArgs false
namespace Go.Proofs.YtojgkjpmphfakaaGreatDoor
open Go.RowKit
open PL
theorem digit_t (x : UInt8) (h : dgt x = true) (w : World) : Calls Tryz.prog 41 #[.int .u8 (x.toNat : Int)] w fun e w' => e = .returned (.bool true) ∧ w = w' := by
  simp only [dgt, Bool.and_eq_true, decide_eq_true_eq] at h
  have h1 : (48 : Int) ≤ x.toNat := by omega
  have h2 : (x.toNat : Int) ≤ 57 := by omega
  clear h
  go_enter Tryz.func41, Tryz.ntmps41
  go_wp2
  go_ret
  exact ⟨rfl, rfl⟩
theorem digit_f (x : UInt8) (h : dgt x = false) (w : World) : Calls Tryz.prog 41 #[.int .u8 (x.toNat : Int)] w fun e w' => e = .returned (.bool false) ∧ w = w' := by
  simp only [dgt, Bool.and_eq_false_iff, decide_eq_false_iff_not] at h
  by_cases h1 : (48 : Int) ≤ x.toNat
  · have h2 : (57 : Int) < x.toNat := by omega
    clear h
    go_enter Tryz.func41, Tryz.ntmps41
    go_wp2
    go_ret
    exact ⟨ret_b (by simp; omega), rfl⟩
  · have h2 : (x.toNat : Int) < 48 := by omega
    clear h h1
    go_enter Tryz.func41, Tryz.ntmps41
    go_wp2
    go_ret
    exact ⟨rfl, rfl⟩
theorem letter_t (x : UInt8) (h : ltr x = true) (w : World) : Calls Tryz.prog 40 #[.int .u8 (x.toNat : Int)] w fun e w' => e = .returned (.bool true) ∧ w = w' := by
  simp only [ltr, Bool.and_eq_true, decide_eq_true_eq] at h
  have h1 : (97 : Int) ≤ x.toNat := by omega
  have h2 : (x.toNat : Int) ≤ 122 := by omega
  clear h
  go_enter Tryz.func40, Tryz.ntmps40
  go_wp2
  go_ret
  exact ⟨rfl, rfl⟩
theorem letter_f (x : UInt8) (h : ltr x = false) (w : World) : Calls Tryz.prog 40 #[.int .u8 (x.toNat : Int)] w fun e w' => e = .returned (.bool false) ∧ w = w' := by
  simp only [ltr, Bool.and_eq_false_iff, decide_eq_false_iff_not] at h
  by_cases h1 : (97 : Int) ≤ x.toNat
  · have h2 : (122 : Int) < x.toNat := by omega
    clear h
    go_enter Tryz.func40, Tryz.ntmps40
    go_wp2
    go_ret
    exact ⟨ret_b (by simp; omega), rfl⟩
  · have h2 : (x.toNat : Int) < 97 := by omega
    clear h h1
    go_enter Tryz.func40, Tryz.ntmps40
    go_wp2
    go_ret
    exact ⟨rfl, rfl⟩
/-- a byte of a name behind its first -/
def nmb (x : UInt8) : Bool := ltr x || dgt x || x == 45
def validB (s : List UInt8) : Bool :=
  match s with
  | [] => false
  | c :: r => decide (s.length ≤ 16) && ltr c && s.all nmb
set_option maxRecDepth 100000 in
set_option maxHeartbeats 1000000 in
/-- label.Valid -/
theorem valid_any (s : List UInt8) (w : World) : Calls Tryz.prog 24 #[.string ⟨s.toArray⟩] w fun e w' => e = .returned (.bool (validB s)) ∧ w = w' := by
  by_cases h0 : s = []
  · subst h0
    go_enter Tryz.func24, Tryz.ntmps24
    go_wp2_with fail
    go_ret
    exact ⟨rfl, rfl⟩
  have hp : 0 < s.length := by cases s <;> simp at h0 ⊢
  have hv : validB s = (decide (s.length ≤ 16) && ltr s[0] && s.all nmb) := by cases s <;> simp [validB] at h0 ⊢
  rw [hv]
  clear hv
  have hp' : (0 : Int) < (s.length : Int) := by omega
  have hem : (s == []) = false := by cases s <;> simp at h0 ⊢
  have hem' : s.isEmpty = false := by cases s <;> simp at h0 ⊢
  by_cases h16 : s.length ≤ 16
  · have h1 : (s.length : Int) ≤ 16 := by omega
    cases hc : ltr s[0]
    · have HC := Hid.mk' hc
      clear hc
      go_enter Tryz.func24, Tryz.ntmps24
      go_wp2_with (go_at_call 40; go_must (refine (letter_f s[0] HC.out _).mono ?_; rintro e w' ⟨rfl, rfl⟩))
      go_ret
      exact ⟨ret_b (by simp), rfl⟩
    · have HC := Hid.mk' hc
      clear hc
      have HD : Hid (decide (s.length ≤ 16) = true) := Hid.mk' (by simpa using h16)
      go_enter Tryz.func24, Tryz.ntmps24
      go_wp2_with (go_at_call 40; go_must (refine (letter_t s[0] HC.out _).mono ?_; rintro e w' ⟨rfl, rfl⟩))
      go_loopw [20] (fun i wr => ∃ k : Nat, k ≤ s.length ∧ i = .int .i64 k ∧ Eqw w wr ∧ Hid (s.all nmb = (s.drop k).all nmb)) (fun i _ => s.length - (intOf i).toNat)
      case atStart => exact ⟨0, by omega, rfl, Eqw.refl _, Hid.mk' rfl⟩
      case round =>
        obtain ⟨k, hk, rfl, hw, HA⟩ := hrel
        obtain rfl : w = wr := hw
        by_cases hlt : k < s.length
        · have hd : (s.drop k).all nmb = (nmb s[k] && (s.drop (k + 1)).all nmb) := by rw [List.drop_eq_getElem_cons hlt]; rfl
          have HS : Hid (s.all nmb = (nmb s[k] && (s.drop (k + 1)).all nmb)) := by show _ = _; rw [HA.out, hd]
          clear hd HA
          cases hl : ltr s[k]
          · cases hg : dgt s[k]
            · by_cases h45 : s[k] = 45
              · have HL := Hid.mk' hl
                have HG := Hid.mk' hg
                have H45 := Hid.mk' h45
                clear hl hg h45
                go_wp2_with fail
                refine (letter_f s[k] HL.out _).mono ?_
                rintro e w' ⟨rfl, rfl⟩
                go_wp2_with fail
                refine (digit_f s[k] HG.out _).mono ?_
                rintro e w' ⟨rfl, rfl⟩
                have hb : ((⟨s.toArray⟩ : ByteArray)[k]'hlt).toNat = 45 := by show s[k].toNat = 45; rw [H45.out]; rfl
                go_wp2_with fail
                go_roundw
                case rel => exact ⟨k + 1, by omega, by go_num, Eqw.refl _, Hid.mk' (by rw [HS.out, H45.out]; rfl)⟩
                case measure => simp [intOf]; omega
              · have HL := Hid.mk' hl
                have HG := Hid.mk' hg
                have H45 := Hid.mk' h45
                clear hl hg h45
                go_wp2_with fail
                refine (letter_f s[k] HL.out _).mono ?_
                rintro e w' ⟨rfl, rfl⟩
                go_wp2_with fail
                refine (digit_f s[k] HG.out _).mono ?_
                rintro e w' ⟨rfl, rfl⟩
                have hb : ¬ (((⟨s.toArray⟩ : ByteArray)[k]'hlt).toNat : Int) = 45 := by
                  show ¬ (s[k].toNat : Int) = 45
                  intro e; apply H45.out; apply UInt8.toNat_inj.1; show s[k].toNat = 45; omega
                go_wp2_with fail
                go_ret
                exact ⟨ret_b (by rw [HS.out]; simp [nmb, HL.out, HG.out, H45.out]), rfl⟩
            · have HL := Hid.mk' hl
              have HG := Hid.mk' hg
              clear hl hg
              go_wp2_with (first | (go_at_call 40; go_must (refine (letter_f s[k] HL.out _).mono ?_; rintro e w' ⟨rfl, rfl⟩)) | (go_at_call 41; go_must (refine (digit_t s[k] HG.out _).mono ?_; rintro e w' ⟨rfl, rfl⟩)))
              go_roundw
              case rel => exact ⟨k + 1, by omega, by go_num, Eqw.refl _, Hid.mk' (by rw [HS.out]; simp [nmb, HG.out])⟩
              case measure => simp [intOf]; omega
          · have HL := Hid.mk' hl
            clear hl
            go_wp2_with (go_at_call 40; go_must (refine (letter_t s[k] HL.out _).mono ?_; rintro e w' ⟨rfl, rfl⟩))
            go_roundw
            case rel => exact ⟨k + 1, by omega, by go_num, Eqw.refl _, Hid.mk' (by rw [HS.out]; simp [nmb, HL.out])⟩
            case measure => simp [intOf]; omega
        · have HS : Hid (s.all nmb = true) := by show _ = _; rw [HA.out, List.drop_of_length_le (by omega)]; rfl
          clear HA
          go_wp2
          go_ret
          exact ⟨ret_b (by rw [HS.out]; simp [HD.out, HC.out]), rfl⟩
  · have h1 : (16 : Int) < (s.length : Int) := by omega
    have HD : Hid (decide (s.length ≤ 16) = false) := Hid.mk' (by simpa using h16)
    go_enter Tryz.func24, Tryz.ntmps24
    go_wp2_with fail
    go_ret
    exact ⟨ret_b (by simp [HD.out]), rfl⟩
end Go.Proofs.YtojgkjpmphfakaaGreatDoor
