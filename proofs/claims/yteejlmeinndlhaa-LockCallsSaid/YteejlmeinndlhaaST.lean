/- sameTxns. -/
import Derived.Test.YteejlmeinndlhaaHE
set_option linter.unusedVariables false
set_option linter.unusedSimpArgs false
namespace Go.Proofs.Yteejlmeinndlhaa
open Go.RowKit Go.Maps
attribute [local go_sem ↓] Go.wp_at_zero Go.wp_at_succ
set_option maxRecDepth 100000 in
set_option maxHeartbeats 4000000 in
/-- sameTxns -/
theorem same_any {A A' : Nat → Prop} {w : World} {v u : Value} {l m : List Tx} (h : Txr A w v l) (h' : Txr A' w u m) : Calls Try.prog 17 #[v, u] w fun e w' => e = .returned (.bool (decide (l = m))) ∧ Dn w w' := by
  obtain ⟨a, c, rfl, hc, H⟩ := h.at
  obtain ⟨a', c', rfl, hc', H'⟩ := h'.at
  have H := Hid.mk' H
  have H' := Hid.mk' H'
  have hl : (l.length : Int) ≤ 140737488351232 := by have := h.2; unfold lim at this; omega
  have hm : (m.length : Int) ≤ 140737488351232 := by have := h'.2; unfold lim at this; omega
  have HR : Hid (decide (l = m) = decide (l.drop 0 = m.drop 0)) := rfl
  clear h h'
  generalize decide (l = m) = R at *
  by_cases hlen : l.length = m.length
  case neg =>
    have h1 : ((l.length : Int) == (m.length : Int)) = false := by rw [beq_eq_false_iff_ne]; omega
    have h2 : ((l.length : Int) != (m.length : Int)) = true := by rw [bne_iff_ne]; omega
    have HR2 : Hid (R = false) := by show _ = _; rw [HR.out]; simp only [List.drop_zero]; exact decide_eq_false fun e => hlen (by rw [e])
    clear HR hlen
    go_enter Try.func17, Try.ntmps17
    go_wp2_with fail
    go_ret
    exact ⟨by rw [HR2.out] <;> rfl, Dn.refl _⟩
  have h1 : ((l.length : Int) == (m.length : Int)) = true := by rw [beq_iff_eq]; omega
  have h2 : ((l.length : Int) != (m.length : Int)) = false := by rw [bne_eq_false_iff_eq]; omega
  have HLEN := Hid.mk' hlen
  clear hlen
  go_enter Try.func17, Try.ntmps17
  go_wp2_with fail
  clear h1 h2
  go_loopw [13] (fun i wr => ∃ k : Nat, k ≤ l.length ∧ i = .int .i64 k ∧ Hid (R = decide (l.drop k = m.drop k)) ∧ Hid (Dn w wr)) (fun i _ => l.length - (intOf i).toNat)
  case atStart => exact ⟨0, by omega, rfl, HR, Dn.refl _⟩
  case round =>
    clear HR
    obtain ⟨k, hk, rfl, HF, HD⟩ := hrel
    by_cases hlt : k < l.length
    · have hlt' : (k : Int) < (l.length : Int) := by omega
      have hlm : k < m.length := by have := HLEN.out; omega
      have hlm' : (k : Int) < (m.length : Int) := by omega
      obtain ⟨b, o, rfl, _, c0, c1, c2⟩ := H.out k hlt
      obtain ⟨b', o', rfl, _, d0, d1, d2⟩ := H'.out k hlm
      have c0 := cell_up c0 (HD.out.below w.heap.size)
      have c1 := cell_up c1 (HD.out.below w.heap.size)
      have c2 := cell_up c2 (HD.out.below w.heap.size)
      have d0 := cell_up d0 (HD.out.below w.heap.size)
      have d1 := cell_up d1 (HD.out.below w.heap.size)
      have d2 := cell_up d2 (HD.out.below w.heap.size)
      have hcs := tx_cases l[k] m[k]
      have HT : Hid (decide (l[k] = m[k]) = true → R = decide (l.drop (k + 1) = m.drop (k + 1))) := fun e => by
        have h := of_decide_eq_true e
        rw [HF.out, List.drop_eq_getElem_cons hlt, List.drop_eq_getElem_cons hlm, decide_eq_decide]
        exact ⟨fun h2 => (List.cons.inj h2).2, fun h2 => by rw [h, h2]⟩
      have HN : Hid (decide (l[k] = m[k]) = false → R = false) := fun e => by
        rw [HF.out, List.drop_eq_getElem_cons hlt, List.drop_eq_getElem_cons hlm]
        exact decide_eq_false fun h => of_decide_eq_false e (List.cons.inj h).1
      clear HF
      generalize decide (l[k] = m[k]) = dd at *
      generalize (l[k].1.toNat : Int) = n1 at *
      generalize (l[k].2.1.toNat : Int) = n2 at *
      generalize (l[k].2.2.toNat : Int) = n3 at *
      generalize (m[k].1.toNat : Int) = m1 at *
      generalize (m[k].2.1.toNat : Int) = m2 at *
      generalize (m[k].2.2.toNat : Int) = m3 at *
      rcases hcs with ⟨rfl, rfl, rfl, rfl⟩ | ⟨rfl, hcs⟩
      · have HT2 := Hid.mk' (HT.out rfl)
        clear HT HN
        go_wp2_with fail
        go_quiet (fail)
        go_wp2_with fail
        go_roundw
        case rel => exact ⟨k + 1, by omega, by go_num, HT2, HD.out.more _⟩
        case measure => simp [intOf]; omega
      · have HN2 := Hid.mk' (HN.out rfl)
        clear HT HN
        rcases hcs with hn1 | ⟨rfl, hn1⟩ | ⟨rfl, rfl, hn1⟩
        all_goals
          go_wp2_with fail
          go_quiet (fail)
          go_wp2_with fail
          go_ret
          exact ⟨by rw [HN2.out] <;> rfl, HD.out.more _⟩
    · obtain rfl : k = l.length := by omega
      have HT : Hid (R = true) := by show _ = _; rw [HF.out, List.drop_length, HLEN.out, List.drop_length]; rfl
      go_wp2_with fail
      go_ret
      exact ⟨by rw [HT.out] <;> rfl, HD.out⟩
end Go.Proofs.Yteejlmeinndlhaa
