/- groyneref06.SameRanges of two that are the same. -/
import Derived.Test.YteejlmeinndlhaaHE
set_option linter.unusedVariables false
set_option linter.unusedSimpArgs false
namespace Go.Proofs.Yteejlmeinndlhaa
open Go.RowKit Go.Maps
attribute [local go_sem ↓] Go.wp_at_zero Go.wp_at_succ
set_option maxRecDepth 100000 in
set_option maxHeartbeats 4000000 in
theorem sameR_any {A A' : Nat → Prop} {w : World} {v u : Value} {l : List Rg} (h : Rgs A w v l) (h' : Rgs A' w u l) : Calls Try.prog 26 #[v, u] w fun e w' => e = .returned (.bool true) ∧ Dn w w' := by
  obtain ⟨a, c, rfl, hc, _, hz, H⟩ := h.at
  obtain ⟨a', c', rfl, hc', _, _, H'⟩ := h'.at
  have H := Hid.mk' H
  have H' := Hid.mk' H'
  have hl : (l.length : Int) ≤ 140737488351232 := by unfold lim at hz; omega
  have HD0 : Hid (Dn w w) := Dn.refl _
  clear h h' hz
  go_enter Try.func26, Try.ntmps26
  go_wp2_with fail
  go_loopw [5] (fun i wr => ∃ k : Nat, k ≤ l.length ∧ i = .int .i64 k ∧ Hid (Dn w wr)) (fun i _ => l.length - (intOf i).toNat)
  case atStart => exact ⟨0, by omega, rfl, HD0⟩
  case round =>
    clear HD0
    obtain ⟨k, hk, rfl, HD⟩ := hrel
    by_cases hlt : k < l.length
    · have hlt' : (k : Int) < (l.length : Int) := by omega
      obtain ⟨b, o, fa, fc, ta, tc, rfl, _, ⟨c0, c1, c2⟩, h3, h4⟩ := H.out k hlt
      obtain ⟨b', o', fa', fc', ta', tc', rfl, _, ⟨d0, d1, d2⟩, h5, h6⟩ := H'.out k hlt
      have c0 := cell_up c0 (HD.out.below w.heap.size)
      have c1 := cell_up c1 (HD.out.below w.heap.size)
      have c2 := cell_up c2 (HD.out.below w.heap.size)
      have d0 := cell_up d0 (HD.out.below w.heap.size)
      have d1 := cell_up d1 (HD.out.below w.heap.size)
      have d2 := cell_up d2 (HD.out.below w.heap.size)
      have Q1 : Hid (∀ n, Calls Try.prog 32 #[.slice fa l[k].lo.length fc, .slice fa' l[k].lo.length fc'] (wr.drewN n) fun e w' => e = .returned (.bool true) ∧ Dn (wr.drewN n) w') := fun n => by
        have := requal_any _ _ l[k].lo l[k].lo (wr.drewN n) (h3.up ((HD.out.more n).below _)) (h5.up ((HD.out.more n).below _))
        rw [beq_self_eq_true] at this; exact this
      have Q2 : Hid (∀ n, Calls Try.prog 32 #[.slice ta l[k].hi.length tc, .slice ta' l[k].hi.length tc'] (wr.drewN n) fun e w' => e = .returned (.bool true) ∧ Dn (wr.drewN n) w') := fun n => by
        have := requal_any _ _ l[k].hi l[k].hi (wr.drewN n) (h4.up ((HD.out.more n).below _)) (h6.up ((HD.out.more n).below _))
        rw [beq_self_eq_true] at this; exact this
      clear h3 h4 h5 h6
      generalize l[k].lo.length = n1 at *
      generalize l[k].hi.length = n2 at *
      generalize l[k].xc = xc at *
      go_wp2_with fail
      go_quiet ((go_at_call 32; first | exact quiet_dn (Q1.out _) | exact quiet_dn (Q2.out _)))
      go_wp2_with fail
      go_roundw
      case rel => exact ⟨k + 1, by omega, by go_num, HD.out.more _⟩
      case measure => simp [intOf]; omega
    · obtain rfl : k = l.length := by omega
      go_wp2_with fail
      go_ret
      exact ⟨rfl, HD.out⟩
end Go.Proofs.Yteejlmeinndlhaa
