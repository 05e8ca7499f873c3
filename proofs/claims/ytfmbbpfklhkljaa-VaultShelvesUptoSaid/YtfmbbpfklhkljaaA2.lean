/- groyneref01.Equal, Equals; structs of four cells. -/
import Derived.Test.YtfmbbpfklhkljaaA1
set_option linter.unusedVariables false
set_option linter.unusedSimpArgs false
namespace Go.Proofs.Ytfmbbpfklhkljaa
open Go.RowKit
theorem cmp_zero : ∀ (a b : List UInt8), cmp a b = 0 ↔ a = b
  | [], [] => by simp [cmp]
  | [], _ :: _ => by simp [cmp]
  | _ :: _, [] => by simp [cmp]
  | x :: a, y :: b => by
    rw [cmp]
    by_cases h1 : x.toNat < y.toNat
    · rw [if_pos h1]; simp; rintro rfl; omega
    · rw [if_neg h1]
      by_cases h2 : y.toNat < x.toNat
      · rw [if_pos h2]; simp; rintro rfl; omega
      · rw [if_neg h2, cmp_zero a b]
        have : x = y := UInt8.toNat_inj.1 (by omega)
        simp [this]
set_option maxHeartbeats 400000 in
/-- groyneref01.Equal -/
theorem requal_any {A A' : Nat → Prop} (v u : Value) (l m : List UInt8) (w : World) (h : Bs A w v l) (h' : Bs A' w u m) : Calls Try.prog 25 #[v, u] w fun e w' => e = .returned (.bool (l == m)) ∧ Dn w w' := by
  have HC := Hid.mk' (cmp_any v u l m w h h')
  have HZ : Hid ((cmp l m == 0) = (l == m)) := by
    show _ = _
    rw [Bool.eq_iff_iff]; simp [cmp_zero]
  clear h h'
  go_enter Try.func25, Try.ntmps25
  go_wp2_with fail
  refine HC.out.mono ?_
  rintro e w' ⟨rfl, hd⟩
  have HD := Hid.mk' hd
  clear hd
  go_wp2_with fail
  go_ret
  exact ⟨ret_b HZ.out, HD.out⟩
theorem eqs_snoc {l m : List (List UInt8)} {k : Nat} (hl : k < l.length) (hm : k < m.length) (h : l.take k = m.take k) (he : l[k] = m[k]) : l.take (k + 1) = m.take (k + 1) := by
  rw [List.take_succ_eq_append_getElem hl, List.take_succ_eq_append_getElem hm, h, he]
set_option maxHeartbeats 1000000 in
/-- groyneref01.Equals -/
theorem equals_any {A A' : Nat → Prop} (v u : Value) (l m : List (List UInt8)) (w : World) (h : Bss A w v l) (h' : Bss A' w u m) : Calls Try.prog 73 #[v, u] w fun e w' => e = .returned (.bool (l == m)) ∧ Dn w w' := by
  obtain ⟨a, c, rfl, hc, _, H⟩ := h.at
  obtain ⟨a', c', rfl, hc', _, H'⟩ := h'.at
  have H : Hid _ := H
  have H' : Hid _ := H'
  have hlim : l.length * 24 ≤ 140737488351232 := by obtain ⟨_, _, _, h3⟩ := h; exact h3
  clear h h'
  by_cases hlen : l.length = m.length
  · have HL := Hid.mk' hlen
    have hne : ((l.length : Int) != (m.length : Int)) = false := by simp [hlen]
    clear hlen
    go_enter Try.func73, Try.ntmps73
    go_wp2_with fail
    go_loopw [5] (fun i wr => ∃ k : Nat, k ≤ l.length ∧ i = .int .i64 k ∧ Hid (Dn w wr) ∧ Hid (l.take k = m.take k)) (fun i _ => l.length - (intOf i).toNat)
    case atStart => exact ⟨0, by omega, rfl, Hid.mk' (Dn.refl _), Hid.mk' (by simp)⟩
    case round =>
      obtain ⟨k, hk, rfl, HW, HE⟩ := hrel
      by_cases hlt : k < l.length
      · have hlt' : (k : Int) < (l.length : Int) := by omega
        have hltm : (k : Int) < (m.length : Int) := by have := HL.out; omega
        have hl' : (l.length : Int) ≤ 140737488351232 := by omega
        have hkm : k < m.length := by have := HL.out; omega
        obtain ⟨b, o, x, rfl, _, hu, hx⟩ := H.out k hlt
        obtain ⟨b', o', y, rfl, _, hu', hy⟩ := H'.out k hkm
        have g1 : wr.cell? ⟨b, o + k, none⟩ = some x := cell_later (HW.out.below _) hu
        have g2 : wr.cell? ⟨b', o' + k, none⟩ = some y := cell_later (HW.out.below _) hu'
        have HC := Hid.mk' (fun n => requal_any x y l[k] m[k] (wr.drewN n) (hx.up ((HW.out.more n).below _)) (hy.up ((HW.out.more n).below _)))
        have HS := Hid.mk' (fun e => eqs_snoc hlt hkm HE.out e)
        have HN : Hid (l[k] ≠ m[k] → (l == m) = false) := fun hne => by
          rw [beq_eq_false_iff_ne]; rintro rfl; exact hne rfl
        clear hx hy hu hu'
        generalize l[k] = s at *
        generalize m[k] = t at *
        by_cases he : s = t
        · have h1 : (s == t) = true := by simp [he]
          have HS2 := Hid.mk' (HS.out he)
          rw [h1] at HC
          clear he h1
          go_wp2_with fail
          go_quiet ((go_at_call 25; exact quiet_dn (HC.out _)))
          go_wp2_with fail
          go_roundw
          case rel => exact ⟨k + 1, by omega, by go_num, Hid.mk' (HW.out.more _), HS2⟩
          case measure => simp [intOf]; omega
        · have h1 : (s == t) = false := by simp [he]
          have HS2 := Hid.mk' (HN.out he)
          rw [h1] at HC
          clear he h1
          go_wp2_with fail
          go_quiet ((go_at_call 25; exact quiet_dn (HC.out _)))
          go_wp2_with fail
          go_ret
          exact ⟨ret_b HS2.out.symm, HW.out.more _⟩
      · have HEQ : Hid ((l == m) = true) := by
          show _ = _
          have h1 := HE.out
          have h2 := HL.out
          rw [List.take_of_length_le (by omega), List.take_of_length_le (by omega)] at h1
          simp [h1]
        go_wp2_with fail
        go_ret
        exact ⟨ret_b HEQ.out.symm, HW.out⟩
  · have hne : ((l.length : Int) != (m.length : Int)) = true := by rw [bne_iff_ne]; omega
    have hlm : (l == m) = false := by rw [beq_eq_false_iff_ne]; intro e; exact hlen (by rw [e])
    have HLM := Hid.mk' hlm
    clear hlen hlm
    go_enter Try.func73, Try.ntmps73
    go_wp2_with fail
    go_ret
    exact ⟨ret_b HLM.out.symm, Dn.refl _⟩
end Go.Proofs.Ytfmbbpfklhkljaa
