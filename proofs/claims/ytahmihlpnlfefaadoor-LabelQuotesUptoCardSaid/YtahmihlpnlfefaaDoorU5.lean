/- Walks: the reference's Unquote. -/
import Derived.Test.YtahmihlpnlfefaaDoorU4
set_option linter.unusedVariables false
set_option linter.unusedSimpArgs false
namespace Go.Proofs.YtahmihlpnlfefaaDoor
open Go.RowKit
open PL
theorem uq_nil (acc : List UInt8) : uq [] acc = .error 5 := by rw [uq]
theorem uq_34 (r acc : List UInt8) : uq (34 :: r) acc = if r = [] then .ok acc else .error 3 := by rw [uq]; simp
theorem uq_bad (c : UInt8) (r acc : List UInt8) (h34 : c ≠ 34) (h : c.toNat < 32 ∨ 126 < c.toNat) : uq (c :: r) acc = .error 3 := by
  have hp : plain c = false := by unfold plain; rcases h with h | h <;> simp <;> omega
  have h92 : c ≠ 92 := by rintro rfl; simp at h
  rw [uq, if_neg h34, if_neg (by simp [hp]), if_neg h92]
theorem uq_plain (c : UInt8) (r acc : List UInt8) (h34 : c ≠ 34) (h92 : c ≠ 92) (h : 32 ≤ c.toNat ∧ c.toNat ≤ 126) : uq (c :: r) acc = uq r (acc ++ [c]) := uq_one c r acc (by unfold plain; simp [h34, h92, h])
theorem esc_90 (c : UInt8) (r : List UInt8) (h : c = 34 ∨ c = 92) : esc (c :: r) = .ok (c, 1) := by unfold esc; simp [h]
theorem esc_x (r : List UInt8) : esc (120 :: r) = er 1 0 r := by rw [esc_er _ _ (by decide) (by decide), er]; simp
theorem esc_nx (c : UInt8) (r : List UInt8) (h1 : c ≠ 34) (h2 : c ≠ 92) (h : c ≠ 120) : esc (c :: r) = .error 3 := by rw [esc_er _ _ h1 h2, er]; simp [h]
theorem er_nil (k n : Nat) (h : k < 3) : er k n [] = .error 5 := by
  have : k = 0 ∨ k = 1 ∨ k = 2 := by omega
  rcases this with rfl | rfl | rfl <;> rfl
theorem er_end (n : Nat) (r : List UInt8) : er 3 n r = if 32 ≤ n ∧ n ≤ 126 then .error 3 else .ok (UInt8.ofNat n, 3) := by rw [er]
theorem drop_at (s : List UInt8) (i : Nat) (h : i < s.length) : s.drop i = s[i] :: s.drop (i + 1) := List.drop_eq_getElem_cons h
theorem neb (c : UInt8) (n : Nat) (k : Int) (hk : k = n) (hn : n < 256) (h : c ≠ UInt8.ofNat n) : ((c.toNat : Int) == k) = false ∧ ((c.toNat : Int) != k) = true := by
  subst hk
  have : c.toNat ≠ n := fun e => h (UInt8.toNat_inj.1 (by rw [e]; simp; omega))
  exact ⟨by rw [beq_eq_false_iff_ne]; omega, by rw [bne_iff_ne]; omega⟩
set_option maxRecDepth 100000 in
set_option maxHeartbeats 4000000 in
/-- groyneref02.Unquote -/
theorem runquote_any (s : List UInt8) (hm : s.length ≤ lim) (w : World) : Calls Tryd.prog 25 #[.string ⟨s.toArray⟩] w (UqPost (unquote s) w) := by
  have hmm : (s.length : Int) ≤ 140737488351232 := by unfold lim at hm; omega
  by_cases h0 : s = []
  · subst h0
    go_enter Tryd.func25, Tryd.ntmps25
    go_wp2_with fail
    go_ret2
    exact ⟨rfl, Below.refl _ _⟩
  · obtain ⟨n1, n2, n3⟩ := ne_facts h0
    have n3' : (0 : Int) < (s.length : Int) := by omega
    have n3b : ((s.length : Int) == 0) = false := by rw [beq_eq_false_iff_ne]; omega
    have hcs : s[0] :: s.drop 1 = s := by have := List.drop_eq_getElem_cons n3; simpa using this.symm
    by_cases h34 : s[0] = 34
    · have HU : Hid (unquote s = uq (s.drop 1) []) := by
        show _ = _
        rw [← hcs]; unfold unquote; dsimp only; rw [if_pos h34]; rfl
      have hg : ∀ h, ((⟨s.toArray⟩ : ByteArray)[0]'h).toNat = 34 := fun _ => by show s[0].toNat = _; rw [h34]; rfl
      clear h34 hcs h0
      go_enter Tryd.func25, Tryd.ntmps25
      go_wp2_with fail
      go_loopw [4, 5, 6, 7, 8, 9] (fun u4 u5 _ _ _ _ wr => ∃ (i : Nat) (acc : List UInt8), u5 = .int .i64 i ∧ 1 ≤ i ∧ acc.length ≤ i ∧ i ≤ s.length ∧ Hid (Below w.heap.size w wr) ∧ Hid (Ob 5 w.heap.size wr u4 acc) ∧ Hid (unquote s = uq (s.drop i) acc)) (fun _ u5 _ _ _ _ _ => s.length - (intOf u5).toNat)
      case atStart => exact ⟨1, [], rfl, by simp, by simp, by omega, Hid.mk' (Below.refl _ _), Hid.mk' ob_nil, HU⟩
      case round =>
        obtain ⟨i, acc, rfl, hi1, hacc, his, HB, HO, HX⟩ := hrel
        clear n1 n2 hg HU n3b n3'
        by_cases hlt : i < s.length
        · have hlt' : (i : Int) < (s.length : Int) := by omega
          have hdr := drop_at s i hlt
          obtain ⟨c, hcc⟩ : ∃ c : UInt8, s[i] = c := ⟨_, rfl⟩
          have hg : ∀ h, ((⟨s.toArray⟩ : ByteArray)[i]'h).toNat = c.toNat := fun _ => by show s[i].toNat = _; rw [hcc]
          have hc0 : (0 : Int) ≤ (c.toNat : Int) := by omega
          have hc1 : (c.toNat : Int) < 256 := by have := c.toNat_lt; omega
          have HX2 : Hid (unquote s = uq (c :: s.drop (i + 1)) acc) := by show _ = _; rw [HX.out, hdr, hcc]
          clear hdr HX hcc
          by_cases h34 : c = 34
          · subst h34
            by_cases he : i = s.length - 1
            · have HR : Hid (unquote s = .ok acc) := by
                show _ = _
                rw [HX2.out, uq_34, if_pos (by rw [List.drop_of_length_le (by omega)])]
              have he' : ((i : Int) == (s.length : Int) - 1) = true := by simp; omega
              clear he
              go_wp2_with fail
              go_ret2
              show UqPost _ _ _ _
              rw [HR.out]
              exact ⟨_, rfl, HB.out, HO.out⟩
            · have HR : Hid (unquote s = .error 3) := by
                show _ = _
                rw [HX2.out, uq_34, if_neg (by intro h; have := congrArg List.length h; simp at this; omega)]
              have he' : ((i : Int) == (s.length : Int) - 1) = false := by simp; omega
              clear he
              go_wp2_with fail
              go_ret2
              show UqPost _ _ _ _
              rw [HR.out]
              exact ⟨rfl, HB.out⟩
          · have e34 := (neb c 34 34 rfl (by omega) h34).1
            by_cases hb : c.toNat < 32 ∨ 126 < c.toNat
            · have HR : Hid (unquote s = .error 3) := by show _ = _; rw [HX2.out, uq_bad c _ _ h34 hb]
              have hb' : (c.toNat : Int) < 32 ∨ ¬ (c.toNat : Int) < 32 ∧ (126 : Int) < (c.toNat : Int) := by omega
              clear hb h34
              rcases hb' with hb' | ⟨hb', hb2⟩
              all_goals
                go_wp2_with fail
                go_ret2
                show UqPost _ _ _ _
                rw [HR.out]
                exact ⟨rfl, HB.out⟩
            · have hb1 : ¬ (c.toNat : Int) < 32 := by omega
              have hb2 : ¬ (126 : Int) < (c.toNat : Int) := by omega
              by_cases h92 : c = 92
              · subst h92
                have HX3 : Hid (unquote s = match esc (s.drop (i + 1)) with | .error e => .error e | .ok (b, n) => uq ((s.drop (i + 1)).drop n) (acc ++ [b])) := by
                  show _ = _; rw [HX2.out, uq_esc]; cases esc (List.drop (i + 1) s) <;> rfl
                clear HX2 hb h34 e34 hb1 hb2
                by_cases he : i + 1 = s.length
                · have HR : Hid (unquote s = .error 5) := by show _ = _; rw [HX3.out, List.drop_of_length_le (by omega)]; rfl
                  have he' : ((i : Int) + 1 == (s.length : Int)) = true := by simp; omega
                  clear he
                  go_wp2_with fail
                  go_ret2
                  show UqPost _ _ _ _
                  rw [HR.out]
                  exact ⟨rfl, HB.out⟩
                · have hlt2 : i + 1 < s.length := by omega
                  have hlt2' : (i : Int) + 1 < (s.length : Int) := by omega
                  have he' : ((i : Int) + 1 == (s.length : Int)) = false := by simp; omega
                  have hdr := drop_at s (i + 1) hlt2
                  obtain ⟨d, hdd⟩ : ∃ c : UInt8, s[i + 1] = c := ⟨_, rfl⟩
                  have hg1 : ∀ h, ((⟨s.toArray⟩ : ByteArray)[i + 1]'h).toNat = d.toNat := fun _ => by show s[i + 1].toNat = _; rw [hdd]
                  have hd0 : (0 : Int) ≤ (d.toNat : Int) := by omega
                  have hd1 : (d.toNat : Int) < 256 := by have := d.toNat_lt; omega
                  rw [hdd] at hdr
                  clear hdd he
                  rw [hdr] at HX3
                  clear hdr
                  by_cases hq : d = 34 ∨ d = 92
                  · have HN : Hid (unquote s = uq (s.drop (i + 2)) (acc ++ [d])) := by show _ = _; rw [HX3.out, esc_90 d _ hq]; simp
                    have hq' : ((d.toNat : Int) == 34) = true ∨ (((d.toNat : Int) == 34) = false ∧ ((d.toNat : Int) == 92) = true) := by
                      rcases hq with rfl | rfl
                      · exact .inl rfl
                      · exact .inr ⟨rfl, rfl⟩
                    clear hq HX3
                    rcases hq' with hq' | ⟨hq', hq2⟩
                    all_goals
                      go_wp2_with (at_builtin; go_must (refine app31 rfl (.tmp 62) (.tmp 67) rfl rfl (by exact (Ob.alloc HO.out _)) rfl (bs_row [d] rfl rfl (by simp)) (by unfold lim; simp; omega) (by have := HB.out.size; simp; omega) ?_); intro v' w2 ho hgr hn hb; have HO2 := Hid.mk' ho; have HB2 := Hid.mk' (below_app (HB.out.alloc HB.out.size _) (Ob.alloc HO.out _) hgr (Nat.le_refl _) (by have := HB.out.size; simp; omega)); clear ho hgr hn hb)
                      go_roundw
                      case rel => exact ⟨i + 2, acc ++ [d], by go_num, by omega, by simp; omega, by omega, HB2, HO2, HN⟩
                      case measure => simp [intOf]; omega
                  · have q1 := (neb d 34 34 rfl (by omega) (fun e => hq (.inl e))).1
                    have q2 := (neb d 92 92 rfl (by omega) (fun e => hq (.inr e))).1
                    by_cases hx : d = 120
                    · subst hx
                      have HX4 : Hid (unquote s = match er 1 0 (s.drop (i + 2)) with | .error e => .error e | .ok (b, n) => uq ((120 :: s.drop (i + 2)).drop n) (acc ++ [b])) := by
                        show _ = _; rw [HX3.out, esc_x]
                      clear HX3 hq
                      go_wp2_with fail
                      obtain ⟨wo, rfl⟩ : ∃ wo : World, wo = wr := ⟨_, rfl⟩
                      go_loopw [7, 8, 9] (fun u7 u8 _ wi => ∃ k n : Nat, 2 ≤ k ∧ k ≤ 4 ∧ u8 = .int .i64 k ∧ u7 = .int .i64 n ∧ n < 256 ∧ (k ≤ 3 → n < 16) ∧ (k = 2 → n = 0) ∧ i + k ≤ s.length ∧ Eqw wo wi ∧ Hid (er 1 0 (s.drop (i + 2)) = er (k - 1) n (s.drop (i + k)))) (fun _ u8 _ _ => 4 - (intOf u8).toNat)
                      case atStart => exact ⟨2, 0, by omega, by omega, rfl, rfl, by omega, by omega, by omega, by omega, Eqw.refl _, rfl⟩
                      case round =>
                        obtain ⟨k, n, hk2, hk4, rfl, rfl, hn, hn16, hn0, hks, hw, HE⟩ := hrel
                        obtain rfl : wo = wr := hw
                        by_cases hk : k < 4
                        · have hk' : (k : Int) < 4 := by omega
                          by_cases hend : i + k < s.length
                          · have hend' : ¬ (s.length : Int) ≤ (i : Int) + k := by omega
                            have hend2 : (i : Int) + k < (s.length : Int) := by omega
                            have hdr := drop_at s (i + k) hend
                            obtain ⟨y, hyy⟩ : ∃ c : UInt8, s[i + k] = c := ⟨_, rfl⟩
                            have hgk : ∀ h, ((⟨s.toArray⟩ : ByteArray)[i + k]'h).toNat = y.toNat := fun _ => by show s[i + k].toNat = _; rw [hyy]
                            have HX := Hid.mk' (hexOf_any y)
                            rw [hyy] at hdr
                            cases hx0 : hx y with
                            | none =>
                              have HR : Hid (unquote s = .error 3) := by
                                show _ = _
                                rw [HX4.out, HE.out, hdr, er_none (by omega) (by omega) hx0]
                              rw [hxI_none hx0] at HX
                              clear hx0 hdr hyy
                              go_wp2_with fail
                              refine (HX.out _).mono ?_
                              rintro e w' ⟨rfl, rfl⟩
                              go_wp2_with fail
                              go_ret2
                              show UqPost _ _ _ _
                              rw [HR.out]
                              exact ⟨rfl, HB.out⟩
                            | some x =>
                              have hx16 := hx_bd hx0
                              have HN : Hid (er 1 0 (s.drop (i + 2)) = er (k + 1 - 1) (n * 16 + x) (s.drop (i + (k + 1)))) := by
                                show _ = _
                                rw [HE.out, hdr, er_some (by omega) (by omega) hx0]
                                rw [show k - 1 + 1 = k + 1 - 1 from by omega]; rfl
                              rw [hxI_some hx0] at HX
                              clear hx0 hdr hyy
                              have hn16' : (n : Int) < 16 := by have := hn16 (by omega); omega
                              go_wp2_with fail
                              refine (HX.out _).mono ?_
                              rintro e w' ⟨rfl, rfl⟩
                              go_wp2_with fail
                              go_roundw
                              case rel => exact ⟨k + 1, n * 16 + x, by omega, by omega, by go_num, by go_num, by omega, (fun h => by have : n = 0 := hn0 (by omega); omega), by omega, by omega, Eqw.refl _, HN⟩
                              case measure => simp [intOf]; omega
                          · have hend' : (s.length : Int) ≤ (i : Int) + k := by omega
                            have HR : Hid (unquote s = .error 5) := by
                              show _ = _
                              rw [HX4.out, HE.out, List.drop_of_length_le (by omega), er_nil _ _ (by omega)]
                            go_wp2_with fail
                            go_ret2
                            show UqPost _ _ _ _
                            rw [HR.out]
                            exact ⟨rfl, HB.out⟩
                        · obtain rfl : k = 4 := by omega
                          have hw8 : IntKind.u8.wrap (n : Int) = (n : Int) := by rw [IntKind.wrap_u8]; omega
                          have hee := HE.out
                          rw [show (4 - 1 : Nat) = 3 from rfl, er_end] at hee
                          by_cases hr : 32 ≤ n ∧ n ≤ 126
                          · rw [if_pos hr] at hee
                            have HR : Hid (unquote s = .error 3) := by show _ = _; rw [HX4.out, hee]
                            have r1 : (32 : Int) ≤ (n : Int) := by omega
                            have r2 : (n : Int) < 127 := by omega
                            clear hee hr
                            go_wp2_with fail
                            go_ret2
                            show UqPost _ _ _ _
                            rw [HR.out]
                            exact ⟨rfl, HB.out⟩
                          · rw [if_neg hr] at hee
                            have HN : Hid (unquote s = uq (s.drop (i + 4)) (acc ++ [UInt8.ofNat n])) := by
                              show _ = _; rw [HX4.out, hee]; simp [Nat.add_assoc]
                            have r1 : (n : Int) < 32 ∨ (32 : Int) ≤ (n : Int) ∧ ¬ (n : Int) < 127 := by omega
                            have hof := ofNat_lt n hn
                            have HF := Hid.mk' hof
                            clear hee hr hof
                            rcases r1 with r1 | ⟨r1, r2⟩
                            all_goals
                              go_wp2_with (at_builtin; go_must (refine app31 rfl (.tmp 104) (.tmp 107) rfl rfl (by exact (Ob.alloc HO.out _)) rfl (bs_row [UInt8.ofNat n] (by simp only [bv, List.map_cons, List.map_nil, HF.out]) rfl (by simp)) (by unfold lim; simp; omega) (by have := HB.out.size; simp; omega) ?_); intro v' w2 ho hgr hn hb; have HO2 := Hid.mk' ho; have HB2 := Hid.mk' (below_app (HB.out.alloc HB.out.size _) (Ob.alloc HO.out _) hgr (Nat.le_refl _) (by have := HB.out.size; simp; omega)); clear ho hgr hn hb)
                              go_roundw
                              case rel => exact ⟨i + 4, acc ++ [UInt8.ofNat n], by go_num, by omega, by simp; omega, by omega, HB2, HO2, HN⟩
                              case measure => simp [intOf]; omega
                    · have HR : Hid (unquote s = .error 3) := by
                        show _ = _
                        rw [HX3.out, esc_nx d _ (fun e => hq (.inl e)) (fun e => hq (.inr e)) hx]
                      have q3 := (neb d 120 120 rfl (by omega) hx).2
                      clear hq hx HX3
                      go_wp2_with fail
                      go_ret2
                      show UqPost _ _ _ _
                      rw [HR.out]
                      exact ⟨rfl, HB.out⟩
              · have e92 := (neb c 92 92 rfl (by omega) h92).2
                have HN : Hid (unquote s = uq (s.drop (i + 1)) (acc ++ [c])) := by show _ = _; rw [HX2.out, uq_plain c _ _ h34 h92 (by omega)]
                clear h34 h92 hb HX2
                go_wp2_with (at_builtin; go_must (refine app31 rfl (.tmp 39) (.tmp 41) rfl rfl (by exact (Ob.alloc HO.out _)) rfl (bs_row [c] rfl rfl (by simp)) (by unfold lim; simp; omega) (by have := HB.out.size; simp; omega) ?_); intro v' w2 ho hgr hn hb; have HO2 := Hid.mk' ho; have HB2 := Hid.mk' (below_app (HB.out.alloc HB.out.size _) (Ob.alloc HO.out _) hgr (Nat.le_refl _) (by have := HB.out.size; simp; omega)); clear ho hgr hn hb)
                go_roundw
                case rel => exact ⟨i + 1, acc ++ [c], by go_num, by omega, by simp; omega, by omega, HB2, HO2, HN⟩
                case measure => simp [intOf]; omega
        · have HR : Hid (unquote s = .error 5) := by
            show _ = _
            rw [HX.out, List.drop_of_length_le (by omega), uq_nil]
          go_wp2_with fail
          go_ret2
          show UqPost _ _ _ _
          rw [HR.out]
          exact ⟨rfl, HB.out⟩
    · have HR : Hid (unquote s = .error 3) := by
        show _ = _
        rw [← hcs]; unfold unquote; dsimp only; rw [if_neg h34]
      have e34 : ((((⟨s.toArray⟩ : ByteArray)[0]'n3).toNat : Int) != 34) = true := by
        rw [bne_iff_ne]; intro e; exact h34 (UInt8.toNat_inj.1 (show s[0].toNat = 34 from Int.ofNat.inj e))
      clear h34 hcs h0
      go_enter Tryd.func25, Tryd.ntmps25
      go_wp2_with fail
      go_ret2
      show UqPost _ _ _ _
      rw [HR.out]
      exact ⟨rfl, Below.refl _ _⟩
end Go.Proofs.YtahmihlpnlfefaaDoor
