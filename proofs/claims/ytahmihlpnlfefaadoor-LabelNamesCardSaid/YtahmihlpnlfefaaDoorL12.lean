/- Walks: the reference's Next. -/
import Derived.Test.YtahmihlpnlfefaaDoorL9
set_option linter.unusedVariables false
set_option linter.unusedSimpArgs false
namespace Go.Proofs.YtahmihlpnlfefaaDoor
open Go.RowKit
open PL
def nextS (o : Option (List UInt8)) : List UInt8 := match o with
  | some r => r
  | none => []
set_option maxRecDepth 100000 in
set_option maxHeartbeats 4000000 in
/-- groyneref02.Next -/
theorem rnext_any (s : List UInt8) (hm : s.length ≤ maxLen) (w : World) : Calls Tryd.prog 14 #[.string ⟨s.toArray⟩] w fun e w' => e = .returned (.string ⟨(nextS (nextO s)).toArray⟩) ∧ Below w.heap.size w w' := by
  cases hv : validB s
  · have HR : Hid (nextO s = none) := by show _ = _; unfold nextO; rw [hv]; rfl
    have HV := Hid.mk' hv
    clear hv
    go_enter Tryd.func14, Tryd.ntmps14
    go_wp2_with (go_at_call 13; go_must (refine (rvalid_any s hm _).mono ?_; rintro e w' ⟨rfl, rfl⟩; rw [HV.out]))
    go_ret
    exact ⟨ret_s (by rw [HR.out]; rfl), Below.refl _ _⟩
  · obtain ⟨hp, h16, h0⟩ := valid_facts s hv
    have HO := Hid.mk' (run_nextV s hv)
    have HV := Hid.mk' hv
    have H0 := Hid.mk' h0
    clear hv h0
    have h16' : (s.length : Int) ≤ 16 := by omega
    have hp' : (1 : Int) ≤ (s.length : Int) := by omega
    go_enter Tryd.func14, Tryd.ntmps14
    go_wp2_with (go_at_call 13; go_must (refine (rvalid_any s hm _).mono ?_; rintro e w' ⟨rfl, rfl⟩; rw [HV.out]))
    go_loopw [3] (fun i wr => ∃ m : Nat, m < s.length ∧ i = .int .i64 ((m : Int) + 1) ∧ Eqw w wr ∧ Hid ((s.drop (m + 1)).all dgt = true)) (fun i _ => (intOf i).toNat)
    case atStart => exact ⟨s.length - 1, by omega, by go_num, Eqw.refl _, Hid.mk' (by rw [List.drop_of_length_le (by omega)]; rfl)⟩
    case round =>
      obtain ⟨m, hm, rfl, hw, HA⟩ := hrel
      obtain rfl : w = wr := hw
      cases hg : dgt s[m]
      · have hcut := cutN_eq s m hm HA.out hg
        have HG := Hid.mk' hg
        by_cases hlt : m + 1 < s.length
        · have HN : Hid (nextR s = s.take (m + 1) ++ raiseL (s.drop (m + 1))) := by show _ = _; unfold nextR; rw [hcut, if_pos hlt]
          have hlt' : (m : Int) + 1 < (s.length : Int) := by omega
          have hne : ((m : Int) + 1 == (s.length : Int)) = false := by simp; omega
          have hdl : (s.drop (m + 1)).length ≤ 100 := by simp; omega
          have hdp : 0 < (s.drop (m + 1)).length := by simp; omega
          have hd := ba_drop s (m + 1)
          have hd0 := ba_take s (m + 1)
          have hz1 : (0 : Int) ≤ (m : Int) + 1 := by omega
          have hz2 : (m : Int) + 1 ≤ (s.length : Int) := by omega
          have hz3 : ((m : Int) + 1).toNat = m + 1 := by omega
          have hz5 : (s.take (m + 1)).length ≤ 100 := by simp; omega
          generalize hpre : s.take (m + 1) = pre at *
          generalize hdd : s.drop (m + 1) = d at *
          have HDA : Hid (d.all dgt = true) := HA.out
          clear hcut hg hlt hpre hdd HA
          obtain ⟨c, w1, hr, ho, hc, hb, hz⟩ := run_bytes (P := Tryd.prog) 9 31 Tryd.underlying9 Tryd.underlying31 Tryd.underlying5 d w
          have HOm := Hid.mk' ho
          have HB := Hid.mk' hb
          clear ho hb hz
          have hdl' : (d.length : Int) ≤ 100 := by omega
          go_wp2_with (go_at_call 32; go_must (refine (rdigit_f s[m] HG.out _).mono ?_; rintro e w' ⟨rfl, rfl⟩))
          go_loopw [5] (fun i wr => ∃ k : Nat, k ≤ d.length ∧ i = .int .i64 ((k : Int) - 1) ∧ Hid (Below w.heap.size w wr) ∧ Hid (Om 5 w.heap.size wr (d.take k ++ List.replicate (d.length - k) 48)) ∧ Hid (inc (d.drop k) = (List.replicate (d.length - k) 48, true))) (fun i _ => (intOf i + 1).toNat)
          case atStart => exact ⟨d.length, by omega, by simp, HB, by simpa using HOm, Hid.mk' (by simp [inc])⟩
          case round =>
            obtain ⟨k, hk, rfl, HB2, HO2, HI⟩ := hrel
            have hlt := HO2.out.lt
            cases k with
            | zero =>
              have hi : inc d = (List.replicate d.length 48, true) := by have := HI.out; simpa using this
              have hO : Om 5 w.heap.size wr (List.replicate d.length 48) := by have := HO2.out; simpa using this
              have HR : Hid (raiseL d = 49 :: List.replicate d.length 48) := by show _ = _; unfold raiseL; rw [hi]; rfl
              have hs := run_str (P := Tryd.prog) 31 9 Tryd.underlying31 Tryd.underlying5 Tryd.underlying9 (hO.bs (c := c) (by simpa using hc) (by simp [lim]; omega))
              rw [List.length_replicate] at hs
              have hs2 : ∀ n, (convert 31 9 (.slice (some ⟨w.heap.size, 0, none⟩) d.length c)).run Tryd.prog (wr.drewN n) = .ok (.string ⟨(List.replicate d.length (48 : UInt8)).toArray⟩) (wr.drewN n) := fun n => by
                have := run_str (P := Tryd.prog) 31 9 Tryd.underlying31 Tryd.underlying5 Tryd.underlying9 (w := wr.drewN n) ((show Om 5 w.heap.size (wr.drewN n) (List.replicate d.length 48) from hO.keep (((Dn.refl wr).more n).below _) hlt).bs (c := c) (by simpa using hc) (by simp [lim]; omega))
                rw [List.length_replicate] at this; exact this
              clear hi hO
              generalize hx : List.replicate d.length (48 : UInt8) = x at *
              have HX : Hid (x.length = d.length) := by show _ = _; rw [← hx]; simp
              have hx2 : x.length ≤ 100 := by rw [HX.out]; exact hdl
              have HN2 : Hid (nextR s = pre ++ 49 :: x) := by show _ = _; rw [HN.out, HR.out]
              have ha1 : (⟨pre.toArray⟩ : ByteArray) ++ ⟨#[49]⟩ = ⟨(pre ++ [49]).toArray⟩ := ba_app pre [49]
              have ha2 := ba_app (pre ++ [49]) x
              have hl1 : (pre ++ [49]).length ≤ 101 := by simp; omega
              clear hx
              go_wp2_with fail
              go_quiet (fail)
              go_wp2_with fail
              refine (rvalid_any (pre ++ 49 :: x) (by unfold maxLen; simp at hl1 ⊢; omega) _).mono ?_
              rintro e w' ⟨rfl, rfl⟩
              rw [← HN2.out]
              cases hvr : validB (nextR s)
              · have HVR := Hid.mk' hvr
                clear hvr
                go_wp2_with fail
                go_ret
                exact ⟨ret_s (by rw [HO.out, HVR.out]; rfl), HB2.out.trans (((Dn.refl wr).more _).below _)⟩
              · have HVR := Hid.mk' hvr
                clear hvr
                go_wp2_with fail
                go_ret
                exact ⟨ret_s (by rw [HO.out, HVR.out]; rfl), HB2.out.trans (((Dn.refl wr).more _).below _)⟩
            | succ j =>
              have hj : j < d.length := by omega
              have hlen : (d.take (j + 1) ++ List.replicate (d.length - (j + 1)) 48).length = d.length := by simp; omega
              have hc1 : wr.cell? ⟨w.heap.size, j, none⟩ = some (.int .u8 (d[j].toNat : Int)) := by
                rw [HO2.out.cell j (by omega), List.getElem_append_left (by simp; omega), List.getElem_take]
              have hc2 := HO2.out.frozen j (by omega)
              have HD := Hid.mk' (List.drop_eq_getElem_cons hj)
              have hslot : ((j + 1 : Nat) : Int) - 1 = (j : Int) := by omega
              rw [hslot]
              clear hlen hslot
              have hdg : dgt d[j] = true := List.all_eq_true.1 HDA.out _ (List.getElem_mem hj)
              simp only [dgt, Bool.and_eq_true, decide_eq_true_eq] at hdg
              by_cases h9 : d[j].toNat = 57
              · have HR : Hid (inc (d.drop j) = (List.replicate (d.length - j) 48, true)) := by
                  show _ = _
                  rw [HD.out, inc, HI.out, show d.length - j = d.length - (j + 1) + 1 from by omega]
                  simp [List.replicate_succ]; omega
                go_wp2
                go_roundw
                case rel =>
                  refine ⟨j, by omega, by go_num, HB2.out.setCell (Nat.le_refl _) _, ?_, HR⟩
                  have := HO2.out.set j 48 48 rfl
                  rw [List.set_append_left _ _ (by simp; omega), List.take_succ_eq_append_getElem hj, List.set_append_right _ _ (by simp; omega), List.length_take, Nat.min_eq_left (by omega), Nat.sub_self, List.append_assoc] at this
                  rw [show d.length - j = d.length - (j + 1) + 1 from by omega, List.replicate_succ]
                  exact this
                case measure => simp [intOf]
              · have h9' : ¬ (d[j].toNat : Int) = 57 := by omega
                have h9b : ((d[j].toNat : Int) == 57) = false := by simpa using h9'
                have HR : Hid (raiseL d = d.take j ++ (UInt8.ofNat (d[j].toNat + 1) :: List.replicate (d.length - (j + 1)) 48)) := by
                  show _ = _
                  have h1 : inc (d.drop j) = (UInt8.ofNat (d[j].toNat + 1) :: List.replicate (d.length - (j + 1)) 48, false) := by
                    rw [HD.out, inc, HI.out]; simp; omega
                  have h2 := inc_stop (d.take j) (d.drop j) (by rw [h1])
                  rw [List.take_append_drop, h1] at h2
                  unfold raiseL; rw [h2]; rfl
                have hset := HO2.out.set j (UInt8.ofNat (d[j].toNat + 1)) ((d[j].toNat : Int) + 1) (by simp; omega)
                rw [List.set_append_left _ _ (by simp; omega), List.take_succ_eq_append_getElem hj, List.set_append_right _ _ (by simp; omega), List.length_take, Nat.min_eq_left (by omega), Nat.sub_self, List.append_assoc] at hset
                have hl : (d.take j ++ ([d[j]].set 0 (UInt8.ofNat (d[j].toNat + 1)) ++ List.replicate (d.length - (j + 1)) 48) : List UInt8).length = d.length := by simp; omega
                have hx1 : d.take j ++ ([d[j]].set 0 (UInt8.ofNat (d[j].toNat + 1)) ++ List.replicate (d.length - (j + 1)) 48) = raiseL d := by rw [HR.out]; rfl
                rw [hx1] at hset hl
                have HSB := Hid.mk' (HB2.out.setCell (p := ⟨w.heap.size, j, none⟩) (Nat.le_refl _) (.int .u8 ((d[j].toNat : Int) + 1)))
                have hs2 : ∀ n, (convert 31 9 (.slice (some ⟨w.heap.size, 0, none⟩) d.length c)).run Tryd.prog ((wr.setCell ⟨w.heap.size, j, none⟩ (.int .u8 ((d[j].toNat : Int) + 1))).drewN n) = .ok (.string ⟨(raiseL d).toArray⟩) ((wr.setCell ⟨w.heap.size, j, none⟩ (.int .u8 ((d[j].toNat : Int) + 1))).drewN n) := fun n => by
                  have := run_str (P := Tryd.prog) 31 9 Tryd.underlying31 Tryd.underlying5 Tryd.underlying9 ((hset.keep (((Dn.refl _).more n).below _) (by simpa [World.setCell] using hlt)).bs (c := c) (by omega) (by unfold lim; omega))
                  rw [hl] at this; exact this
                have hx2 : (raiseL d).length ≤ 100 := by omega
                clear hset hx1
                have ha2 := ba_app pre (raiseL d)
                generalize raiseL d = x at *
                have h9c : (d[j].toNat : Int) < 57 := by omega
                have HN2 : Hid (nextR s = pre ++ x) := HN
                have hl2 : (pre ++ x).length ≤ 200 := by simp; omega
                go_wp2_with fail
                go_quiet (fail)
                go_wp2_with fail
                refine (rvalid_any (pre ++ x) (by unfold maxLen; omega) _).mono ?_
                rintro e w' ⟨rfl, rfl⟩
                rw [← HN2.out]
                cases hvr : validB (nextR s)
                · have HVR := Hid.mk' hvr
                  clear hvr
                  go_wp2_with fail
                  go_ret
                  exact ⟨ret_s (by rw [HO.out, HVR.out]; rfl), HSB.out.trans (((Dn.refl _).more _).below _)⟩
                · have HVR := Hid.mk' hvr
                  clear hvr
                  go_wp2_with fail
                  go_ret
                  exact ⟨ret_s (by rw [HO.out, HVR.out]; rfl), HSB.out.trans (((Dn.refl _).more _).below _)⟩
        · have HN : Hid (nextR s = s ++ [45, 50]) := by show _ = _; unfold nextR; rw [hcut, if_neg hlt]
          have hlt' : ((m : Int) + 1 == (s.length : Int)) = true := by simp; omega
          have hba : (⟨s.toArray⟩ : ByteArray) ++ ⟨#[45, 50]⟩ = ⟨(s ++ [45, 50]).toArray⟩ := ba_app s [45, 50]
          clear hcut hg hlt
          go_wp2_with (go_at_call 32; go_must (refine (rdigit_f s[m] HG.out _).mono ?_; rintro e w' ⟨rfl, rfl⟩))
          refine (rvalid_any (s ++ [45, 50]) (by unfold maxLen; simp; omega) _).mono ?_
          rintro e w' ⟨rfl, rfl⟩
          rw [← HN.out]
          cases hvr : validB (nextR s)
          · have HVR := Hid.mk' hvr
            clear hvr
            go_wp2_with fail
            go_ret
            exact ⟨ret_s (by rw [HO.out, HVR.out]; rfl), Below.refl _ _⟩
          · have HVR := Hid.mk' hvr
            clear hvr
            go_wp2_with fail
            go_ret
            exact ⟨ret_s (by rw [HO.out, HVR.out]; rfl), Below.refl _ _⟩
      · have hm0 : 0 < m := by
          rcases Nat.eq_zero_or_pos m with h | h
          · subst h; rw [H0.out] at hg; cases hg
          · exact h
        have HG := Hid.mk' hg
        have HB : Hid ((s.drop (m - 1 + 1)).all dgt = true) := by
          show _ = _
          rw [show m - 1 + 1 = m from by omega, List.drop_eq_getElem_cons hm, List.all_cons, hg, HA.out]
          rfl
        clear hg
        go_wp2_with (go_at_call 32; go_must (refine (rdigit_t s[m] HG.out _).mono ?_; rintro e w' ⟨rfl, rfl⟩))
        go_roundw
        case rel => exact ⟨m - 1, by omega, by go_num, Eqw.refl _, HB⟩
        case measure => simp [intOf]
end Go.Proofs.YtahmihlpnlfefaaDoor
