/- Walks of layer 2: Next. -/
import Derived.Test.YtahmihlpnlfefaaDoorL5
set_option linter.unusedVariables false
set_option linter.unusedSimpArgs false
namespace Go.Proofs.YtahmihlpnlfefaaDoor
open Go.RowKit
open PL

theorem raiseL_len (d : List UInt8) : (raiseL d).length ≤ d.length + 1 := by
  unfold raiseL; split
  · simp [inc_len]
  · rw [inc_len]; omega
def cutN (s : List UInt8) : Nat := s.length - (s.reverse.takeWhile dgt).length
theorem cutN_eq (s : List UInt8) (m : Nat) (hm : m < s.length) (hd : (s.drop (m + 1)).all dgt = true) (hn : dgt s[m] = false) : cutN s = m + 1 := by
  have h1 : s = s.take m ++ s[m] :: s.drop (m + 1) := by
    conv => lhs; rw [← List.take_append_drop m s, List.drop_eq_getElem_cons hm]
  have h2 : s.reverse = (s.drop (m + 1)).reverse ++ (s[m] :: (s.take m).reverse) := by
    conv => lhs; rw [h1]
    simp
  have h3 : s.reverse.takeWhile dgt = (s.drop (m + 1)).reverse := by
    rw [h2, List.takeWhile_append_of_pos (by intro x hx; exact List.all_eq_true.1 hd x (by simpa using hx)), List.takeWhile_cons, if_neg (by simp [hn])]
    simp
  unfold cutN
  rw [h3]
  simp; omega
def nextR (s : List UInt8) : List UInt8 := if cutN s < s.length then s.take (cutN s) ++ raiseL (s.drop (cutN s)) else s ++ [45, 50]
def nextO (s : List UInt8) : Option (List UInt8) := if validB s && validB (nextR s) then some (nextR s) else none
def nextV (o : Option (List UInt8)) : Value := match o with
  | some r => .tuple #[.string ⟨r.toArray⟩, .bool true]
  | none => .tuple #[.string ⟨#[]⟩, .bool false]
theorem valid_facts (s : List UInt8) (h : validB s = true) : ∃ hp : 0 < s.length, s.length ≤ 16 ∧ dgt s[0] = false := by
  cases s with
  | nil => simp [validB] at h
  | cons c r =>
    simp only [validB, Bool.and_eq_true, decide_eq_true_eq] at h
    refine ⟨by simp, h.1.1, ?_⟩
    have := h.1.2
    simp only [ltr, Bool.and_eq_true, decide_eq_true_eq] at this
    simp only [dgt, List.getElem_cons_zero, Bool.and_eq_false_iff, decide_eq_false_iff_not]
    omega
theorem run_nextV (s : List UInt8) (hv : validB s = true) : nextO s = if validB (nextR s) then some (nextR s) else none := by unfold nextO; simp [hv]
set_option maxRecDepth 100000 in
set_option maxHeartbeats 1000000 in
/-- label.Next -/
theorem next_any (s : List UInt8) (w : World) : Calls Tryd.prog 11 #[.string ⟨s.toArray⟩] w fun e w' => e = .returned (nextV (nextO s)) ∧ Below w.heap.size w w' := by
  cases hv : validB s
  · have HR : Hid (nextO s = none) := by show _ = _; unfold nextO; rw [hv]; rfl
    have HV := Hid.mk' hv
    clear hv
    go_enter Tryd.func11, Tryd.ntmps11
    go_wp2_with (go_at_call 12; go_must (refine (valid_any s _).mono ?_; rintro e w' ⟨rfl, rfl⟩; rw [HV.out]))
    go_ret2
    exact ⟨by rw [HR.out]; rfl, Below.refl _ _⟩
  · obtain ⟨hp, h16, h0⟩ := valid_facts s hv
    have HO := Hid.mk' (run_nextV s hv)
    have HV := Hid.mk' hv
    have H0 := Hid.mk' h0
    clear hv h0
    have h16' : (s.length : Int) ≤ 16 := by omega
    have hp' : (1 : Int) ≤ (s.length : Int) := by omega
    go_enter Tryd.func11, Tryd.ntmps11
    go_wp2_with (go_at_call 12; go_must (refine (valid_any s _).mono ?_; rintro e w' ⟨rfl, rfl⟩; rw [HV.out]))
    go_loopw [4] (fun i wr => ∃ m : Nat, m < s.length ∧ i = .int .i64 ((m : Int) + 1) ∧ Eqw w wr ∧ Hid ((s.drop (m + 1)).all dgt = true)) (fun i _ => (intOf i).toNat)
    case atStart => exact ⟨s.length - 1, by omega, by go_num, Eqw.refl _, Hid.mk' (by rw [List.drop_of_length_le (by omega)]; rfl)⟩
    case round =>
      obtain ⟨m, hm, rfl, hw, HA⟩ := hrel
      obtain rfl : w = wr := hw
      cases hg : dgt s[m]
      · have hcut := cutN_eq s m hm HA.out hg
        have HG := Hid.mk' hg
        by_cases hlt : m + 1 < s.length
        · have HN : Hid (nextR s = s.take (m + 1) ++ raiseL (s.drop (m + 1))) := by show _ = _; unfold nextR; rw [hcut, if_pos hlt]
          have hlt' : (m : Int) + 1 < (s.length : Int) := by omega
          have hdl : (s.drop (m + 1)).length ≤ 100 := by simp; omega
          have hd := ba_drop s (m + 1)
          have hd0 := ba_take s (m + 1)
          have hz1 : (0 : Int) ≤ (m : Int) + 1 := by omega
          have hz2 : (m : Int) + 1 ≤ (s.length : Int) := by omega
          have hz4 : (raiseL (s.drop (m + 1))).length ≤ 100 := by have := raiseL_len (s.drop (m + 1)); simp at this ⊢; omega
          have hz5 : (s.take (m + 1)).length ≤ 100 := by simp; omega
          have hz6 : ¬ 9223372036854775807 < min (m + 1) s.length + (raiseL (s.drop (m + 1))).length := by simp at hz5; omega
          generalize hrx : raiseL (s.drop (m + 1)) = rx at *
          have HRX := Hid.mk' hrx
          clear hrx
          have hz3 : ((m : Int) + 1).toNat = m + 1 := by omega
          clear hcut hg hlt
          go_wp2_with (go_at_call 29; go_must (refine (digit_f s[m] HG.out _).mono ?_; rintro e w' ⟨rfl, rfl⟩))
          go_region_held3 (fun w' => True) (trivial) (first | (go_at_call 30; refine (raise_any (s.drop (m + 1)) hdl _).mono ?_; rintro e w' ⟨rfl, hb⟩; have HB := Hid.mk' hb; clear hb; rw [HRX.out]) | fail)
          have hap := ba_app (s.take (m + 1)) rx
          have HB3 : Hid (Below w.heap.size w w') := ((Dn.refl w).drew.below _).trans HB.out
          clear HB
          cases hvr : validB (nextR s)
          · have HVR := Hid.mk' hvr
            rw [HN.out] at hvr
            have HVR2 := Hid.mk' hvr
            clear hvr
            go_wp2_with fail
            refine (valid_any (s.take (m + 1) ++ rx) _).mono ?_
            rintro e w3 ⟨rfl, rfl⟩
            rw [HVR2.out]
            go_wp2_with fail
            go_ret2
            exact ⟨by rw [HO.out, HVR.out]; rfl, HB3.out⟩
          · have HVR := Hid.mk' hvr
            rw [HN.out] at hvr
            have HVR2 := Hid.mk' hvr
            clear hvr
            go_wp2_with fail
            refine (valid_any (s.take (m + 1) ++ rx) _).mono ?_
            rintro e w3 ⟨rfl, rfl⟩
            rw [HVR2.out]
            go_wp2_with fail
            go_ret2
            exact ⟨by rw [HO.out, HVR.out, HN.out]; rfl, HB3.out⟩
        · have HN : Hid (nextR s = s ++ [45, 50]) := by show _ = _; unfold nextR; rw [hcut, if_neg hlt]
          have hlt' : (s.length : Int) ≤ (m : Int) + 1 := by omega
          have hba : (⟨s.toArray⟩ : ByteArray) ++ ⟨#[45, 50]⟩ = ⟨(s ++ [45, 50]).toArray⟩ := ba_app s [45, 50]
          clear hcut hg hlt
          go_wp2_with (go_at_call 29; go_must (refine (digit_f s[m] HG.out _).mono ?_; rintro e w' ⟨rfl, rfl⟩))
          cases hvr : validB (nextR s)
          · have HVR := Hid.mk' hvr
            rw [HN.out] at hvr
            have HVR2 := Hid.mk' hvr
            clear hvr
            refine (valid_any (s ++ [45, 50]) _).mono ?_
            rintro e w' ⟨rfl, rfl⟩
            rw [HVR2.out]
            go_wp2_with fail
            go_ret2
            exact ⟨by rw [HO.out, HVR.out]; rfl, Below.refl _ _⟩
          · have HVR := Hid.mk' hvr
            rw [HN.out] at hvr
            have HVR2 := Hid.mk' hvr
            clear hvr
            refine (valid_any (s ++ [45, 50]) _).mono ?_
            rintro e w' ⟨rfl, rfl⟩
            rw [HVR2.out]
            go_wp2_with fail
            go_ret2
            exact ⟨by rw [HO.out, HVR.out, HN.out]; rfl, Below.refl _ _⟩
      · have hm0 : 0 < m := by
          rcases Nat.eq_zero_or_pos m with h | h
          · subst h; rw [H0.out] at hg; cases hg
          · exact h
        have HG := Hid.mk' hg
        have HB : Hid ((s.drop (m - 1 + 1)).all dgt = true) := by
          show _ = _
          rw [show m - 1 + 1 = m from by omega, List.drop_eq_getElem_cons hm, List.all_cons, hg, HA.out]
          rfl
        clear hg
        go_wp2_with (go_at_call 29; go_must (refine (digit_t s[m] HG.out _).mono ?_; rintro e w' ⟨rfl, rfl⟩))
        go_roundw
        case rel => exact ⟨m - 1, by omega, by go_num, Eqw.refl _, HB⟩
        case measure => simp [intOf]
end Go.Proofs.YtahmihlpnlfefaaDoor
