/- sameNumbers, slices.Equal of numbers. -/
import Derived.Test.YtojgkjpmphfakaaGreatDoorNU
set_option linter.unusedVariables false
set_option linter.unusedSimpArgs false
namespace Go.Proofs.YtojgkjpmphfakaaGreatDoor
open Go.RowKit
attribute [local go_sem ↓] Go.wp_at_zero Go.wp_at_succ
theorem cell_up {w w' : World} {b o : Nat} {v : Value} (h : w.cell? ⟨b, o, none⟩ = some v) (hb : Below w.heap.size w w') : w'.cell? ⟨b, o, none⟩ = some v := cell_later hb h
set_option maxRecDepth 100000 in
set_option maxHeartbeats 4000000 in
/-- sameNumbers -/
theorem sameN_any {A A' : Nat → Prop} {w : World} {v u : Value} {l m : List Nat} (h : Us A w v l) (h' : Us A' w u m) : Calls Tryz.prog 15 #[v, u] w fun e w' => e = .returned (.bool (decide (l = m))) ∧ Dn w w' := by
  obtain ⟨a, c, rfl, hc, _, H⟩ := h.at
  obtain ⟨a', c', rfl, hc', _, H'⟩ := h'.at
  have H := Hid.mk' H
  have H' := Hid.mk' H'
  have hl : (l.length : Int) ≤ 140737488351232 := by have := h.2.2; unfold lim at this; omega
  have hm : (m.length : Int) ≤ 140737488351232 := by have := h'.2.2; unfold lim at this; omega
  have HR : Hid (decide (l = m) = decide (l.drop 0 = m.drop 0)) := rfl
  clear h h'
  generalize decide (l = m) = R at *
  by_cases hlen : l.length = m.length
  case neg =>
    have h1 : ((l.length : Int) == (m.length : Int)) = false := by rw [beq_eq_false_iff_ne]; omega
    have h2 : ((l.length : Int) != (m.length : Int)) = true := by rw [bne_iff_ne]; omega
    have HR2 : Hid (R = false) := by show _ = _; rw [HR.out]; simp only [List.drop_zero]; exact decide_eq_false fun e => hlen (by rw [e])
    clear HR hlen
    go_enter Tryz.func15, Tryz.ntmps15
    go_wp2_with fail
    go_ret
    exact ⟨by rw [HR2.out] <;> rfl, Dn.refl _⟩
  have h1 : ((l.length : Int) == (m.length : Int)) = true := by rw [beq_iff_eq]; omega
  have h2 : ((l.length : Int) != (m.length : Int)) = false := by rw [bne_eq_false_iff_eq]; omega
  have HLEN := Hid.mk' hlen
  clear hlen
  go_enter Tryz.func15, Tryz.ntmps15
  go_wp2_with fail
  clear h1 h2
  go_loopw [13] (fun i wr => ∃ k : Nat, k ≤ l.length ∧ i = .int .i64 k ∧ Hid (R = decide (l.drop k = m.drop k)) ∧ Hid (Dn w wr)) (fun i _ => l.length - (intOf i).toNat)
  case atStart => exact ⟨0, by omega, rfl, HR, Dn.refl _⟩
  case round =>
    clear HR
    obtain ⟨k, hk, rfl, HF, HD⟩ := hrel
    by_cases hlt : k < l.length
    · have hlt' : (k : Int) < (l.length : Int) := by omega
      have hlm : k < m.length := by have := HLEN.out; omega
      have hlm' : (k : Int) < (m.length : Int) := by omega
      obtain ⟨b, o, rfl, _, c0⟩ := H.out k hlt
      obtain ⟨b', o', rfl, _, d0⟩ := H'.out k hlm
      have c0 := cell_up c0 (HD.out.below w.heap.size)
      have d0 := cell_up d0 (HD.out.below w.heap.size)
      have HT : Hid (l[k] = m[k] → R = decide (l.drop (k + 1) = m.drop (k + 1))) := fun h => by
        rw [HF.out, List.drop_eq_getElem_cons hlt, List.drop_eq_getElem_cons hlm, decide_eq_decide]
        exact ⟨fun h2 => (List.cons.inj h2).2, fun h2 => by rw [h, h2]⟩
      have HN : Hid (l[k] ≠ m[k] → R = false) := fun e => by
        rw [HF.out, List.drop_eq_getElem_cons hlt, List.drop_eq_getElem_cons hlm]
        exact decide_eq_false fun h => e (List.cons.inj h).1
      clear HF
      generalize l[k] = x at *
      generalize m[k] = y at *
      by_cases hxy : x = y
      · have HT2 := Hid.mk' (HT.out hxy)
        have h1 : ((x : Int) == (y : Int)) = true := by rw [beq_iff_eq]; omega
        have h2 : ((x : Int) != (y : Int)) = false := by rw [bne_eq_false_iff_eq]; omega
        clear HT HN hxy
        go_wp2_with fail
        go_quiet (fail)
        go_wp2_with fail
        go_roundw
        case rel => exact ⟨k + 1, by omega, by go_num, HT2, HD.out.more _⟩
        case measure => simp [intOf]; omega
      · have HN2 := Hid.mk' (HN.out hxy)
        have h1 : ((x : Int) == (y : Int)) = false := by rw [beq_eq_false_iff_ne]; omega
        have h2 : ((x : Int) != (y : Int)) = true := by rw [bne_iff_ne]; omega
        clear HT HN hxy
        go_wp2_with fail
        go_quiet (fail)
        go_wp2_with fail
        go_ret
        exact ⟨by rw [HN2.out] <;> rfl, HD.out.more _⟩
    · obtain rfl : k = l.length := by omega
      have HT : Hid (R = true) := by show _ = _; rw [HF.out, List.drop_length, HLEN.out, List.drop_length]; rfl
      go_wp2_with fail
      go_ret
      exact ⟨by rw [HT.out] <;> rfl, HD.out⟩
set_option maxRecDepth 100000 in
set_option maxHeartbeats 4000000 in
/-- slices.Equal of numbers -/
theorem equalN_any {A A' : Nat → Prop} {w : World} {v u : Value} {l m : List Nat} (h : Us A w v l) (h' : Us A' w u m) : Calls Tryz.prog 42 #[v, u] w fun e w' => e = .returned (.bool (decide (l = m))) ∧ Dn w w' := by
  obtain ⟨a, c, rfl, hc, _, H⟩ := h.at
  obtain ⟨a', c', rfl, hc', _, H'⟩ := h'.at
  have H := Hid.mk' H
  have H' := Hid.mk' H'
  have hl : (l.length : Int) ≤ 140737488351232 := by have := h.2.2; unfold lim at this; omega
  have hm : (m.length : Int) ≤ 140737488351232 := by have := h'.2.2; unfold lim at this; omega
  have HR : Hid (decide (l = m) = decide (l.drop 0 = m.drop 0)) := rfl
  clear h h'
  generalize decide (l = m) = R at *
  by_cases hlen : l.length = m.length
  case neg =>
    have h1 : ((l.length : Int) == (m.length : Int)) = false := by rw [beq_eq_false_iff_ne]; omega
    have h2 : ((l.length : Int) != (m.length : Int)) = true := by rw [bne_iff_ne]; omega
    have HR2 : Hid (R = false) := by show _ = _; rw [HR.out]; simp only [List.drop_zero]; exact decide_eq_false fun e => hlen (by rw [e])
    clear HR hlen
    go_enter Tryz.func42, Tryz.ntmps42
    go_wp2_with fail
    go_ret
    exact ⟨by rw [HR2.out] <;> rfl, Dn.refl _⟩
  have h1 : ((l.length : Int) == (m.length : Int)) = true := by rw [beq_iff_eq]; omega
  have h2 : ((l.length : Int) != (m.length : Int)) = false := by rw [bne_eq_false_iff_eq]; omega
  have HLEN := Hid.mk' hlen
  clear hlen
  go_enter Tryz.func42, Tryz.ntmps42
  go_wp2_with fail
  clear h1 h2
  go_loopw [13] (fun i wr => ∃ k : Nat, k ≤ l.length ∧ i = .int .i64 k ∧ Hid (R = decide (l.drop k = m.drop k)) ∧ Hid (Dn w wr)) (fun i _ => l.length - (intOf i).toNat)
  case atStart => exact ⟨0, by omega, rfl, HR, Dn.refl _⟩
  case round =>
    clear HR
    obtain ⟨k, hk, rfl, HF, HD⟩ := hrel
    by_cases hlt : k < l.length
    · have hlt' : (k : Int) < (l.length : Int) := by omega
      have hlm : k < m.length := by have := HLEN.out; omega
      have hlm' : (k : Int) < (m.length : Int) := by omega
      obtain ⟨b, o, rfl, _, c0⟩ := H.out k hlt
      obtain ⟨b', o', rfl, _, d0⟩ := H'.out k hlm
      have c0 := cell_up c0 (HD.out.below w.heap.size)
      have d0 := cell_up d0 (HD.out.below w.heap.size)
      have HT : Hid (l[k] = m[k] → R = decide (l.drop (k + 1) = m.drop (k + 1))) := fun h => by
        rw [HF.out, List.drop_eq_getElem_cons hlt, List.drop_eq_getElem_cons hlm, decide_eq_decide]
        exact ⟨fun h2 => (List.cons.inj h2).2, fun h2 => by rw [h, h2]⟩
      have HN : Hid (l[k] ≠ m[k] → R = false) := fun e => by
        rw [HF.out, List.drop_eq_getElem_cons hlt, List.drop_eq_getElem_cons hlm]
        exact decide_eq_false fun h => e (List.cons.inj h).1
      clear HF
      generalize l[k] = x at *
      generalize m[k] = y at *
      by_cases hxy : x = y
      · have HT2 := Hid.mk' (HT.out hxy)
        have h1 : ((x : Int) == (y : Int)) = true := by rw [beq_iff_eq]; omega
        have h2 : ((x : Int) != (y : Int)) = false := by rw [bne_eq_false_iff_eq]; omega
        clear HT HN hxy
        go_wp2_with fail
        go_quiet (fail)
        go_wp2_with fail
        go_roundw
        case rel => exact ⟨k + 1, by omega, by go_num, HT2, HD.out.more _⟩
        case measure => simp [intOf]; omega
      · have HN2 := Hid.mk' (HN.out hxy)
        have h1 : ((x : Int) == (y : Int)) = false := by rw [beq_eq_false_iff_ne]; omega
        have h2 : ((x : Int) != (y : Int)) = true := by rw [bne_iff_ne]; omega
        clear HT HN hxy
        go_wp2_with fail
        go_quiet (fail)
        go_wp2_with fail
        go_ret
        exact ⟨by rw [HN2.out] <;> rfl, HD.out.more _⟩
    · obtain rfl : k = l.length := by omega
      have HT : Hid (R = true) := by show _ = _; rw [HF.out, List.drop_length, HLEN.out, List.drop_length]; rfl
      go_wp2_with fail
      go_ret
      exact ⟨by rw [HT.out] <;> rfl, HD.out⟩
set_option maxRecDepth 100000 in
set_option maxHeartbeats 4000000 in
/-- the reference: numbers -/
theorem numbersR_any {A A' : Nat → Prop} {w : World} {v u : Value} {l m : List Nat} (h : Us A w v l) (h' : Us A' w u m) : Calls Tryz.prog 30 #[v, u] w fun e w' => e = .returned (.bool (decide (l = m))) ∧ Dn w w' := by
  obtain ⟨a, c, rfl, hc, _, H⟩ := h.at
  obtain ⟨a', c', rfl, hc', _, H'⟩ := h'.at
  have H := Hid.mk' H
  have H' := Hid.mk' H'
  have hl : (l.length : Int) ≤ 140737488351232 := by have := h.2.2; unfold lim at this; omega
  have hm : (m.length : Int) ≤ 140737488351232 := by have := h'.2.2; unfold lim at this; omega
  have HR : Hid (decide (l = m) = decide (l.drop 0 = m.drop 0)) := rfl
  clear h h'
  generalize decide (l = m) = R at *
  by_cases hlen : l.length = m.length
  case neg =>
    have h1 : ((l.length : Int) == (m.length : Int)) = false := by rw [beq_eq_false_iff_ne]; omega
    have h2 : ((l.length : Int) != (m.length : Int)) = true := by rw [bne_iff_ne]; omega
    have HR2 : Hid (R = false) := by show _ = _; rw [HR.out]; simp only [List.drop_zero]; exact decide_eq_false fun e => hlen (by rw [e])
    clear HR hlen
    go_enter Tryz.func30, Tryz.ntmps30
    go_wp2_with fail
    go_ret
    exact ⟨by rw [HR2.out] <;> rfl, Dn.refl _⟩
  have h1 : ((l.length : Int) == (m.length : Int)) = true := by rw [beq_iff_eq]; omega
  have h2 : ((l.length : Int) != (m.length : Int)) = false := by rw [bne_eq_false_iff_eq]; omega
  have HLEN := Hid.mk' hlen
  clear hlen
  go_enter Tryz.func30, Tryz.ntmps30
  go_wp2_with fail
  clear h1 h2
  go_loopw [5] (fun i wr => ∃ k : Nat, k ≤ l.length ∧ i = .int .i64 k ∧ Hid (R = decide (l.drop k = m.drop k)) ∧ Hid (Dn w wr)) (fun i _ => l.length - (intOf i).toNat)
  case atStart => exact ⟨0, by omega, rfl, HR, Dn.refl _⟩
  case round =>
    clear HR
    obtain ⟨k, hk, rfl, HF, HD⟩ := hrel
    by_cases hlt : k < l.length
    · have hlt' : (k : Int) < (l.length : Int) := by omega
      have hlm : k < m.length := by have := HLEN.out; omega
      have hlm' : (k : Int) < (m.length : Int) := by omega
      obtain ⟨b, o, rfl, _, c0⟩ := H.out k hlt
      obtain ⟨b', o', rfl, _, d0⟩ := H'.out k hlm
      have c0 := cell_up c0 (HD.out.below w.heap.size)
      have d0 := cell_up d0 (HD.out.below w.heap.size)
      have HT : Hid (l[k] = m[k] → R = decide (l.drop (k + 1) = m.drop (k + 1))) := fun h => by
        rw [HF.out, List.drop_eq_getElem_cons hlt, List.drop_eq_getElem_cons hlm, decide_eq_decide]
        exact ⟨fun h2 => (List.cons.inj h2).2, fun h2 => by rw [h, h2]⟩
      have HN : Hid (l[k] ≠ m[k] → R = false) := fun e => by
        rw [HF.out, List.drop_eq_getElem_cons hlt, List.drop_eq_getElem_cons hlm]
        exact decide_eq_false fun h => e (List.cons.inj h).1
      clear HF
      generalize l[k] = x at *
      generalize m[k] = y at *
      by_cases hxy : x = y
      · have HT2 := Hid.mk' (HT.out hxy)
        have h1 : ((x : Int) == (y : Int)) = true := by rw [beq_iff_eq]; omega
        have h2 : ((x : Int) != (y : Int)) = false := by rw [bne_eq_false_iff_eq]; omega
        clear HT HN hxy
        go_wp2_with fail
        go_quiet (fail)
        go_wp2_with fail
        go_roundw
        case rel => exact ⟨k + 1, by omega, by go_num, HT2, HD.out.more _⟩
        case measure => simp [intOf]; omega
      · have HN2 := Hid.mk' (HN.out hxy)
        have h1 : ((x : Int) == (y : Int)) = false := by rw [beq_eq_false_iff_ne]; omega
        have h2 : ((x : Int) != (y : Int)) = true := by rw [bne_iff_ne]; omega
        clear HT HN hxy
        go_wp2_with fail
        go_quiet (fail)
        go_wp2_with fail
        go_ret
        exact ⟨by rw [HN2.out] <;> rfl, HD.out.more _⟩
    · obtain rfl : k = l.length := by omega
      have HT : Hid (R = true) := by show _ = _; rw [HF.out, List.drop_length, HLEN.out, List.drop_length]; rfl
      go_wp2_with fail
      go_ret
      exact ⟨by rw [HT.out] <;> rfl, HD.out⟩
end Go.Proofs.YtojgkjpmphfakaaGreatDoor
