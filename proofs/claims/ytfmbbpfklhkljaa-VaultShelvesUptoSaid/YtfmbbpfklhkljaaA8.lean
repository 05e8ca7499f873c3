/- groyneref08.Check. -/
import Derived.Test.YtfmbbpfklhkljaaA7
set_option linter.unusedVariables false
set_option linter.unusedSimpArgs false
namespace Go.Proofs.Ytfmbbpfklhkljaa
open Go.RowKit
theorem badKid_formed {n : Nd} (h : n.kids.any badKid = true) : formed n = false := by
  unfold formed
  cases hl : n.leaf with
  | true =>
    have : n.kids.length ≠ 0 := by rintro e; rw [List.eq_nil_of_length_eq_zero e] at h; simp at h
    simp [this]
  | false => simp [h]
theorem check_long {n : Nd} (h : long 64 n.keys = true ∨ long 128 n.vals = true) : check n = 2 := by unfold check; rcases h with h | h <;> simp [h]
theorem check_form {n : Nd} (h1 : long 64 n.keys = false) (h2 : long 128 n.vals = false) : check n = if formed n then 0 else 3 := by unfold check; simp [h1, h2]
set_option maxRecDepth 100000 in
set_option maxHeartbeats 4000000 in
/-- groyneref08.Check -/
theorem rcheck_any {A : Nat → Prop} {w : World} {v : Value} {n : Nd} (h : RN A w v n) : Calls Try.prog 22 #[v] w fun e w' => e = .returned (.int .i64 (check n)) ∧ Below w.heap.size w w' := by
  obtain ⟨k, u, c, rfl, h1, h2, h3⟩ := h
  have hl1 : n.keys.length * 24 ≤ 140737488351232 := by obtain ⟨_, _, _, h⟩ := h1; exact h
  have hl2 : n.vals.length * 24 ≤ 140737488351232 := by obtain ⟨_, _, _, h⟩ := h2; exact h
  have hl3 : n.kids.length * 8 ≤ 140737488351232 := h3.2.1
  obtain ⟨a1, c1, rfl, g1, _, _⟩ := h1.at
  obtain ⟨a2, c2, rfl, g2, _, _⟩ := h2.at
  obtain ⟨a3, c3, rfl, g3, _, _⟩ := h3.at
  go_enter Try.func22, Try.ntmps22
  go_wp2_with fail
  obtain ⟨W, hW, ⟨b0, b1, b2, b3⟩, bf, hbW, hsz⟩ := box4 w (.bool n.leaf) (.slice a1 n.keys.length c1) (.slice a2 n.vals.length c2) (.slice a3 n.kids.length c3) 31
  rw [← hW]
  clear hW
  obtain ⟨_, _, e1, _, _, H1⟩ := (h1.up hbW).at
  cases e1
  obtain ⟨_, _, e1, _, _, H2⟩ := (h2.up hbW).at
  cases e1
  obtain ⟨_, _, e1, _, _, H3⟩ := (h3.up hbW).at
  cases e1
  have H1 := Hid.mk' H1
  have H2 := Hid.mk' H2
  have H3 := Hid.mk' H3
  have HB := Hid.mk' hbW
  clear h1 h2 h3 hbW hsz bf
  go_loop [3] (fun i => ∃ k : Nat, k ≤ n.keys.length ∧ i = .int .i64 k ∧ Hid (long 64 (n.keys.take k) = false)) (fun i => n.keys.length - (intOf i).toNat)
  case atStart => exact ⟨0, by omega, rfl, Hid.mk' (by simp [long])⟩
  case round =>
    obtain ⟨k, hk, rfl, HL⟩ := hrel
    by_cases hlt : k < n.keys.length
    · obtain ⟨b', o, x, rfl, _, hu, hx⟩ := H1.out k hlt
      obtain ⟨a4, c4, rfl, _, _, _⟩ := hx.at
      have HT := Hid.mk' (any_take (fun x : List UInt8 => decide (64 < x.length)) n.keys k hlt)
      have HA := Hid.mk' (any_of_get (fun x : List UInt8 => decide (64 < x.length)) n.keys k hlt)
      clear hx
      generalize n.keys[k] = y at *
      by_cases hd : 64 < y.length
      · have HA2 : Hid (check n = 2) := check_long (.inl (HA.out (by simpa using hd)))
        have hd' : (64 : Int) < (y.length : Int) := by omega
        go_wp2_with fail
        go_ret
        exact ⟨ret_i HA2.out.symm, HB.out⟩
      · have HT2 : Hid (long 64 (n.keys.take (k + 1)) = false) := by show _ = _; rw [long, HT.out]; simp only [Bool.or_eq_false_iff]; exact ⟨HL.out, by simpa using hd⟩
        have hd' : ¬ (64 : Int) < (y.length : Int) := by omega
        go_wp2_with fail
        go_round
        case rel => exact ⟨k + 1, by omega, by go_num, HT2⟩
        case measure => simp [intOf]; omega
    · obtain rfl : k = n.keys.length := by omega
      have K1 : Hid (long 64 n.keys = false) := by have := HL.out; rwa [List.take_length] at this
      clear HL
      go_wp2_with fail
      go_loop [4] (fun i => ∃ k : Nat, k ≤ n.vals.length ∧ i = .int .i64 k ∧ Hid (long 128 (n.vals.take k) = false)) (fun i => n.vals.length - (intOf i).toNat)
      case atStart => exact ⟨0, by omega, rfl, Hid.mk' (by simp [long])⟩
      case round =>
        obtain ⟨k, hk, rfl, HL⟩ := hrel
        by_cases hlt : k < n.vals.length
        · obtain ⟨b', o, x, rfl, _, hu, hx⟩ := H2.out k hlt
          obtain ⟨a4, c4, rfl, _, _, _⟩ := hx.at
          have HT := Hid.mk' (any_take (fun x : List UInt8 => decide (128 < x.length)) n.vals k hlt)
          have HA := Hid.mk' (any_of_get (fun x : List UInt8 => decide (128 < x.length)) n.vals k hlt)
          clear hx
          generalize n.vals[k] = y at *
          by_cases hd : 128 < y.length
          · have HA2 : Hid (check n = 2) := check_long (.inr (HA.out (by simpa using hd)))
            have hd' : (128 : Int) < (y.length : Int) := by omega
            go_wp2_with fail
            go_ret
            exact ⟨ret_i HA2.out.symm, HB.out⟩
          · have HT2 : Hid (long 128 (n.vals.take (k + 1)) = false) := by show _ = _; rw [long, HT.out]; simp only [Bool.or_eq_false_iff]; exact ⟨HL.out, by simpa using hd⟩
            have hd' : ¬ (128 : Int) < (y.length : Int) := by omega
            go_wp2_with fail
            go_round
            case rel => exact ⟨k + 1, by omega, by go_num, HT2⟩
            case measure => simp [intOf]; omega
        · obtain rfl : k = n.vals.length := by omega
          have K2 : Hid (long 128 n.vals = false) := by have := HL.out; rwa [List.take_length] at this
          have HC := Hid.mk' (check_form K1.out K2.out)
          have BW := Hid.mk' (And.intro b0 (And.intro b1 (And.intro b2 b3)))
          have HF : Hid (asc n.keys = false → check n = 3) := fun h => by rw [HC.out]; unfold formed; rw [h]; rfl
          clear HL
          go_wp2_with fail
          clear b0 b1 b2 b3
          go_loopw [5] (fun i wr => ∃ k : Nat, 1 ≤ k ∧ (k ≤ n.keys.length ∨ k = 1) ∧ i = .int .i64 k ∧ Hid (Dn W wr) ∧ Hid (AscTo n.keys k)) (fun i _ => n.keys.length + 1 - (intOf i).toNat)
          case atStart => exact ⟨1, by omega, by omega, rfl, Hid.mk' (Dn.refl _), Hid.mk' (ascTo_one _)⟩
          case round =>
            obtain ⟨k, hk1, hk, rfl, HW, HA⟩ := hrel
            obtain ⟨b0, b1, b2, b3⟩ : wr.cell? ⟨w.heap.size, 0, none⟩ = some (.bool n.leaf) ∧ wr.cell? ⟨w.heap.size, 1, none⟩ = some (.slice a1 n.keys.length c1) ∧ wr.cell? ⟨w.heap.size, 2, none⟩ = some (.slice a2 n.vals.length c2) ∧ wr.cell? ⟨w.heap.size, 3, none⟩ = some (.slice a3 n.kids.length c3) :=
              ⟨cell_later (HW.out.below _) BW.out.1, cell_later (HW.out.below _) BW.out.2.1, cell_later (HW.out.below _) BW.out.2.2.1, cell_later (HW.out.below _) BW.out.2.2.2⟩
            by_cases hlt : k < n.keys.length
            · have hlt' : (k : Int) < (n.keys.length : Int) := by omega
              have hl' : (n.keys.length : Int) ≤ 140737488351232 := by omega
              obtain ⟨b, o, x, rfl, _, hu, hx⟩ := H1.out (k - 1) (by omega)
              obtain ⟨b', o', y, e, _, hv, hy⟩ := H1.out k hlt
              cases e
              have g1 : wr.cell? ⟨b, o + (k - 1), none⟩ = some x := cell_later (HW.out.below _) hu
              have g2 : wr.cell? ⟨b, o + k, none⟩ = some y := cell_later (HW.out.below _) hv
              have HC := Hid.mk' (fun m => cmp_any x y _ _ (wr.drewN m) (hx.up ((HW.out.more m).below _)) (hy.up ((HW.out.more m).below _)))
              have HS : Hid (cmp (n.keys[k - 1]'(by omega)) n.keys[k] < 0 → AscTo n.keys (k + 1)) := fun e => ascTo_succ (by omega) hlt HA.out e
              have HN : Hid (0 ≤ cmp (n.keys[k - 1]'(by omega)) n.keys[k] → asc n.keys = false) := fun e => asc_bad (by omega) hlt e
              clear hx hy hu hv
              generalize n.keys[k - 1] = s at *
              generalize n.keys[k] = t at *
              by_cases he : cmp s t < 0
              · have h1 : decide (0 ≤ cmp s t) = false := by simp; omega
                have HS2 := Hid.mk' (HS.out he)
                clear he HN HS
                go_wp2_with fail
                go_quiet ((go_at_call 33; exact quiet_dn (HC.out _)))
                go_wp2_with fail
                go_roundw
                case rel => exact ⟨k + 1, by omega, by omega, by go_num, Hid.mk' (HW.out.more _), HS2⟩
                case measure => simp [intOf]; omega
              · have h1 : decide (0 ≤ cmp s t) = true := by simp; omega
                have HN2 := Hid.mk' (HF.out (HN.out (by omega)))
                clear he HN HS
                go_wp2_with fail
                go_quiet ((go_at_call 33; exact quiet_dn (HC.out _)))
                go_wp2_with fail
                go_ret
                exact ⟨ret_i HN2.out.symm, bt HB.out ((HW.out.more _).below _)⟩
            · have KA : Hid (asc n.keys = true) := ascTo_all HA.out (by omega)
              have hlt' : ¬ (k : Int) < (n.keys.length : Int) := by omega
              have HW2 := Hid.mk' (bt HB.out (HW.out.below _))
              have HBad : Hid (n.kids.any badKid = true → check n = 3) := fun h => by rw [HC.out, badKid_formed h]; rfl
              have H3w : Hid (∀ j (hj : j < n.kids.length), ∃ b o, a3 = some ⟨b, o, none⟩ ∧ wr.cell? ⟨b, o + j, none⟩ = some (.int .i64 n.kids[j])) := fun j hj => by
                obtain ⟨b, o, h1, _, h2⟩ := H3.out j hj
                exact ⟨b, o, h1, cell_later (HW.out.below _) h2⟩
              clear HA HF
              go_wp2_with fail
              go_loop [6] (fun i => ∃ k : Nat, k ≤ n.kids.length ∧ i = .int .i64 k ∧ Hid ((n.kids.take k).any badKid = false)) (fun i => n.kids.length - (intOf i).toNat)
              case atStart => exact ⟨0, by omega, rfl, Hid.mk' (by simp)⟩
              case round =>
                obtain ⟨k, hk, rfl, HL⟩ := hrel
                by_cases hlt : k < n.kids.length
                · obtain ⟨b', o, rfl, hu⟩ := H3w.out k hlt
                  have HT := Hid.mk' (any_take badKid n.kids k hlt)
                  have HA := Hid.mk' (any_of_get badKid n.kids k hlt)
                  generalize n.kids[k] = y at *
                  by_cases hd : y < 0
                  · have HA2 : Hid (check n = 3) := HBad.out (HA.out (by unfold badKid; simp [hd]))
                    have hd' : decide (y < 0) = true := by simp [hd]
                    clear hd
                    go_wp2_with fail
                    go_ret
                    exact ⟨ret_i HA2.out.symm, HW2.out⟩
                  · have hd' : decide (y < 0) = false := by simp; omega
                    by_cases hd2 : 65535 < y
                    · have HA2 : Hid (check n = 3) := HBad.out (HA.out (by unfold badKid; simp [hd2]))
                      clear hd
                      go_wp2_with fail
                      go_ret
                      exact ⟨ret_i HA2.out.symm, HW2.out⟩
                    · have HT2 : Hid ((n.kids.take (k + 1)).any badKid = false) := by show _ = _; rw [HT.out, HL.out]; unfold badKid; simp [hd, hd2]
                      clear hd
                      go_wp2_with fail
                      go_round
                      case rel => exact ⟨k + 1, by omega, by go_num, HT2⟩
                      case measure => simp [intOf]; omega
                · obtain rfl : k = n.kids.length := by omega
                  have K3 : Hid (n.kids.any badKid = false) := by have := HL.out; rwa [List.take_length] at this
                  cases hlf : n.leaf with
                  | true =>
                    rw [hlf] at b0
                    have HT3 : Hid (check n = if (((n.vals.length : Int) == (n.keys.length : Int)) && ((n.kids.length : Int) == 0)) then 0 else 3) := by show _ = _; rw [HC.out]; unfold formed; rw [KA.out, hlf, if_pos rfl, beqi, beqi0 n.kids.length]; rfl
                    clear hlf HC HL K1 K2 K3 KA
                    by_cases hg : (n.vals.length : Int) = (n.keys.length : Int)
                    · have hg' : ((n.vals.length : Int) != (n.keys.length : Int)) = false := by simp [hg]
                      by_cases hg2 : (0 : Int) < n.kids.length
                      · have HT4 : Hid (check n = 3) := by show _ = _; rw [HT3.out, if_neg (by simp only [Bool.and_eq_true, beq_iff_eq]; omega)]
                        have hg3 : decide ((0 : Int) < n.kids.length) = true := decide_eq_true (by omega)
                        have hg4 : decide (0 < n.kids.length) = true := decide_eq_true (by omega)
                        clear hg hg2
                        go_wp2_with fail
                        go_ret
                        exact ⟨ret_i HT4.out.symm, HW2.out⟩
                      · have HT4 : Hid (check n = 0) := by show _ = _; rw [HT3.out, if_pos (by simp only [Bool.and_eq_true, beq_iff_eq]; omega)]
                        have hg3 : decide ((0 : Int) < n.kids.length) = false := decide_eq_false (by omega)
                        have hg4 : decide (0 < n.kids.length) = false := decide_eq_false (by omega)
                        clear hg hg2
                        go_wp2_with fail
                        go_ret
                        exact ⟨ret_i HT4.out.symm, HW2.out⟩
                    · have hg' : ((n.vals.length : Int) != (n.keys.length : Int)) = true := by rw [bne_iff_ne]; exact hg
                      have HT4 : Hid (check n = 3) := by show _ = _; rw [HT3.out, if_neg (by simp only [Bool.and_eq_true, beq_iff_eq]; omega)]
                      clear hg
                      go_wp2_with fail
                      go_ret
                      exact ⟨ret_i HT4.out.symm, HW2.out⟩
                  | false =>
                    rw [hlf] at b0
                    have HT3 : Hid (check n = if (((n.vals.length : Int) == 0) && ((n.kids.length : Int) == (n.keys.length : Int) + 1)) then 0 else 3) := by show _ = _; rw [HC.out]; unfold formed; rw [KA.out, hlf, K3.out, beqi0 n.vals.length, beqi1]; rfl
                    clear hlf HC HL K1 K2 K3 KA
                    by_cases hg : (0 : Int) < n.vals.length
                    · have hg' : decide ((0 : Int) < n.vals.length) = true := decide_eq_true (by omega)
                      have hg4 : decide (0 < n.vals.length) = true := decide_eq_true (by omega)
                      have HT4 : Hid (check n = 3) := by show _ = _; rw [HT3.out, if_neg (by simp only [Bool.and_eq_true, beq_iff_eq]; omega)]
                      clear hg
                      go_wp2_with fail
                      go_ret
                      exact ⟨ret_i HT4.out.symm, HW2.out⟩
                    · have hg' : decide ((0 : Int) < n.vals.length) = false := decide_eq_false (by omega)
                      have hg4 : decide (0 < n.vals.length) = false := decide_eq_false (by omega)
                      by_cases hg2 : (n.kids.length : Int) = (n.keys.length : Int) + 1
                      · have HT4 : Hid (check n = 0) := by show _ = _; rw [HT3.out, if_pos (by simp only [Bool.and_eq_true, beq_iff_eq]; omega)]
                        have hg3 : ((n.kids.length : Int) != (n.keys.length : Int) + 1) = false := by rw [bne_eq_false_iff_eq]; exact hg2
                        clear hg hg2
                        go_wp2_with fail
                        go_ret
                        exact ⟨ret_i HT4.out.symm, HW2.out⟩
                      · have HT4 : Hid (check n = 3) := by show _ = _; rw [HT3.out, if_neg (by simp only [Bool.and_eq_true, beq_iff_eq]; omega)]
                        have hg3 : ((n.kids.length : Int) != (n.keys.length : Int) + 1) = true := by rw [bne_iff_ne]; exact hg2
                        clear hg hg2
                        go_wp2_with fail
                        go_ret
                        exact ⟨ret_i HT4.out.symm, HW2.out⟩
end Go.Proofs.Ytfmbbpfklhkljaa
