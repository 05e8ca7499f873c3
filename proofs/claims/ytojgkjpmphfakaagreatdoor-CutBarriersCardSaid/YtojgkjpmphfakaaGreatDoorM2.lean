/- Walks: Match. -/
import Derived.Test.YtojgkjpmphfakaaGreatDoorMT
import Derived.Test.YtojgkjpmphfakaaGreatDoorM1
set_option linter.unusedVariables false
set_option linter.unusedSimpArgs false
namespace Go.Proofs.YtojgkjpmphfakaaGreatDoor
open Go.RowKit
open PL
theorem ne_facts' {x : List UInt8} (h : x ≠ []) : (x == []) = false ∧ x.isEmpty = false := by cases x <;> simp at h ⊢
theorem mul_step (N M f k f' k' : Nat) (hf : f' ≤ N) (h : (f < f' ∧ k' ≤ M) ∨ (f ≤ f' ∧ k < k' ∧ k' ≤ M) ) (hk : k ≤ M) : (N - f') * (M + 2) + (M - k') < (N - f) * (M + 2) + (M - k) := by
  rcases h with ⟨h1, h2⟩ | ⟨h1, h2, h3⟩
  · have : (N - f') + 1 ≤ N - f := by omega
    have h3 := Nat.mul_le_mul_right (M + 2) this
    rw [Nat.add_mul] at h3
    omega
  · have : N - f' ≤ N - f := by omega
    have h4 := Nat.mul_le_mul_right (M + 2) this
    omega
theorem MI_st {s p : List UInt8} {i k f : Nat} {st : Int} (h : MI s p i k st f) : (st = -1 ∧ f = 0) ∨ ∃ a : Nat, st = a ∧ a < k ∧ f ≤ i := by
  obtain ⟨_, _, ⟨h1, h2, _⟩ | ⟨a, h, h1, h2, _⟩⟩ := h
  · exact .inl ⟨h1, h2⟩
  · exact .inr ⟨a, h, h1, h2⟩
set_option maxRecDepth 100000 in
set_option maxHeartbeats 4000000 in
/-- label.Match -/
theorem match_any (s p : List UInt8) (hs : s.length ≤ 1000) (hp : p.length ≤ 1000) (w : World) : Calls Tryz.prog 35 #[.string ⟨s.toArray⟩, .string ⟨p.toArray⟩] w fun e w' => e = .returned (.bool (PL.mt s p)) ∧ Dn w w' := by
  have hs' : (s.length : Int) ≤ 1000 := by omega
  have hp' : (p.length : Int) ≤ 1000 := by omega
  go_enter Tryz.func35, Tryz.ntmps35
  go_wp2
  go_loopw [5, 6, 7, 8] (fun u5 u6 u7 u8 wr => ∃ (i k f : Nat) (st : Int), u5 = .int .i64 i ∧ u6 = .int .i64 k ∧ u7 = .int .i64 st ∧ u8 = .int .i64 f ∧ Dn w wr ∧ Hid (MI s p i k st f)) (fun u5 u6 u7 u8 _ => (s.length - (intOf u8).toNat) * (p.length + 2) + (p.length - (intOf u6).toNat))
  case atStart => exact ⟨0, 0, 0, -1, rfl, rfl, rfl, rfl, Dn.refl _, MI_start s p⟩
  case round =>
    obtain ⟨i, k, f, st, rfl, rfl, rfl, rfl, ⟨n, rfl⟩, HI⟩ := hrel
    have hi := HI.out.1
    have hk := HI.out.2.1
    have hst := MI_st HI.out
    have hfi : f ≤ i := by rcases hst with ⟨_, h⟩ | ⟨a, _, _, h⟩ <;> omega
    have HST : Hid ((st = -1 ∧ f = 0) ∨ ∃ a : Nat, st = a ∧ a < k ∧ f ≤ i) := hst
    clear hst
    by_cases hlt : i < s.length
    · have hlt' : (i : Int) < (s.length : Int) := by omega
      by_cases hkt : k < p.length
      · have hkt' : (k : Int) < (p.length : Int) := by omega
        by_cases h42 : p[k] = 42
        · have HN := Hid.mk' (MI_star HI.out hkt h42)
          have e42 : ∀ h, ((⟨p.toArray⟩ : ByteArray)[k]'h).toNat = 42 := fun _ => by show p[k].toNat = 42; rw [h42]; rfl
          have hms := mul_step s.length p.length f k i (k + 1) hi (.inr ⟨hfi, by omega, by omega⟩) hk
          have HMS := Hid.mk' hms
          clear h42 hms
          go_wp2_with fail
          go_roundw
          case rel => exact ⟨i, k + 1, i, k, rfl, by go_num, rfl, rfl, (Dn.refl w).more n, HN⟩
          case measure => have := HMS.out; simp [intOf]; go_num
        · have e42 : ((((⟨p.toArray⟩ : ByteArray)[k]'hkt).toNat : Int) == 42) = false := by
            rw [beq_eq_false_iff_ne]; intro e; apply h42; apply UInt8.toNat_inj.1; show p[k].toNat = 42; exact Int.ofNat.inj e
          have H42 := Hid.mk' h42
          clear h42
          by_cases h63 : p[k] = 63
          · have HN := Hid.mk' (MI_one HI.out hlt hkt H42.out (.inl h63))
            have e63 : ((((⟨p.toArray⟩ : ByteArray)[k]'hkt).toNat : Int) == 63) = true := by
              rw [beq_iff_eq]; show (p[k].toNat : Int) = 63; rw [h63]; rfl
            have HMS := Hid.mk' (mul_step s.length p.length f k f (k + 1) (by omega) (.inr ⟨by omega, by omega, by omega⟩) hk)
            clear h63
            go_wp2_with fail
            go_quiet (fail)
            go_wp2_with fail
            go_roundw
            case rel => exact ⟨i + 1, k + 1, f, st, by go_num, by go_num, rfl, rfl, (by repeat (first | exact Dn.refl _ | apply Dn.more)), HN⟩
            case measure => have := HMS.out; simp [intOf]; go_num
          · have e63 : ((((⟨p.toArray⟩ : ByteArray)[k]'hkt).toNat : Int) == 63) = false := by
              rw [beq_eq_false_iff_ne]; intro e; apply h63; apply UInt8.toNat_inj.1; show p[k].toNat = 63; exact Int.ofNat.inj e
            have H63 := Hid.mk' h63
            clear h63
            by_cases hc : p[k] = s[i]
            · have HN := Hid.mk' (MI_one HI.out hlt hkt H42.out (.inr hc))
              have ec : ((((⟨p.toArray⟩ : ByteArray)[k]'hkt).toNat : Int) == (((⟨s.toArray⟩ : ByteArray)[i]'hlt).toNat : Int)) = true := by
                rw [beq_iff_eq]; show (p[k].toNat : Int) = s[i].toNat; rw [hc]
              have HMS := Hid.mk' (mul_step s.length p.length f k f (k + 1) (by omega) (.inr ⟨by omega, by omega, by omega⟩) hk)
              clear hc
              go_wp2_with fail
              go_quiet (fail)
              go_wp2_with fail
              go_roundw
              case rel => exact ⟨i + 1, k + 1, f, st, by go_num, by go_num, rfl, rfl, (by repeat (first | exact Dn.refl _ | apply Dn.more)), HN⟩
              case measure => have := HMS.out; simp [intOf]; go_num
            · have ec : ((((⟨p.toArray⟩ : ByteArray)[k]'hkt).toNat : Int) == (((⟨s.toArray⟩ : ByteArray)[i]'hlt).toNat : Int)) = false := by
                rw [beq_eq_false_iff_ne]; intro e; apply hc; apply UInt8.toNat_inj.1; exact Int.ofNat.inj e
              have HNO : Hid (∀ hk : k < p.length, p[k] ≠ 42 ∧ p[k] ≠ 63 ∧ p[k] ≠ s[i]) := fun _ => ⟨H42.out, H63.out, hc⟩
              clear hc
              rcases HST.out with ⟨h1, h2⟩ | ⟨a, h1, h2, h3⟩
              · subst h1
                have HF := Hid.mk' (MI_fail HI.out hlt HNO.out)
                go_wp2_with fail
                go_quiet (fail)
                go_wp2_with fail
                go_ret
                exact ⟨ret_b (by rw [HF.out]), (by repeat (first | exact Dn.refl _ | apply Dn.more))⟩
              · subst h1
                have HN := Hid.mk' (MI_back HI.out hlt HNO.out).1
                have HMS := Hid.mk' (mul_step s.length p.length f k (f + 1) (a + 1) (by omega) (.inl ⟨by omega, by omega⟩) hk)
                have ha0 : (0 : Int) ≤ (a : Int) := by omega
                go_wp2_with fail
                go_quiet (fail)
                go_wp2_with fail
                go_roundw
                case rel => exact ⟨f + 1, a + 1, f + 1, a, by go_num, by go_num, rfl, by go_num, (by repeat (first | exact Dn.refl _ | apply Dn.more)), HN⟩
                case measure => have := HMS.out; simp [intOf]; go_num
      · have hkt' : (p.length : Int) ≤ (k : Int) := by omega
        have HNO : Hid (∀ hk : k < p.length, p[k] ≠ 42 ∧ p[k] ≠ 63 ∧ p[k] ≠ s[i]) := fun h => absurd h hkt
        rcases HST.out with ⟨h1, h2⟩ | ⟨a, h1, h2, h3⟩
        · subst h1
          have HF := Hid.mk' (MI_fail HI.out hlt HNO.out)
          go_wp2_with fail
          go_quiet (fail)
          go_wp2_with fail
          go_ret
          exact ⟨ret_b (by rw [HF.out]), (by repeat (first | exact Dn.refl _ | apply Dn.more))⟩
        · subst h1
          have HN := Hid.mk' (MI_back HI.out hlt HNO.out).1
          have HMS := Hid.mk' (mul_step s.length p.length f k (f + 1) (a + 1) (by omega) (.inl ⟨by omega, by omega⟩) hk)
          have ha0 : (0 : Int) ≤ (a : Int) := by omega
          go_wp2_with fail
          go_quiet (fail)
          go_wp2_with fail
          go_roundw
          case rel => exact ⟨f + 1, a + 1, f + 1, a, by go_num, by go_num, rfl, by go_num, (by repeat (first | exact Dn.refl _ | apply Dn.more)), HN⟩
          case measure => have := HMS.out; simp [intOf]; go_num
    · have hlt' : (s.length : Int) ≤ (i : Int) := by omega
      have hie : i = s.length := by omega
      have HE : Hid (PL.mt s p = (p.drop k).all (· == 42)) := by have h := HI.out; rw [hie] at h; exact MI_end h
      have hd := ba_drop p k
      have hk' : (k : Int) ≤ (p.length : Int) := by omega
      have HT := Hid.mk' (trim_any (p.drop k) (by simp; omega))
      have hz := trimS_nil (p.drop k)
      clear hie
      cases hall : (p.drop k).all (· == 42)
      · have hne : trimS (p.drop k) ≠ [] := fun e => by rw [hz.1 e] at hall; cases hall
        have HR : Hid (PL.mt s p = false) := by show _ = _; rw [HE.out, hall]
        have e1 := (ne_facts' hne).1
        have e2 := (ne_facts' hne).2
        clear hall hz hne HE
        generalize trimS (p.drop k) = z at *
        go_wp2_with fail
        refine (HT.out _).mono ?_
        rintro e w1 ⟨rfl, hdn⟩
        have HD := Hid.mk' (((Dn.refl w).more n).trans hdn)
        clear hdn
        go_wp2_with fail
        go_ret
        exact ⟨ret_b (by rw [HR.out]), HD.out⟩
      · have hne := hz.2 hall
        have HR : Hid (PL.mt s p = true) := by show _ = _; rw [HE.out, hall]
        rw [hne] at HT
        clear hall hz hne HE
        go_wp2_with fail
        refine (HT.out _).mono ?_
        rintro e w1 ⟨rfl, hdn⟩
        have HD := Hid.mk' (((Dn.refl w).more n).trans hdn)
        clear hdn
        go_wp2_with fail
        go_ret
        exact ⟨ret_b (by rw [HR.out]), HD.out⟩
end Go.Proofs.YtojgkjpmphfakaaGreatDoor
