/- slices.Index, slices.Contains of names; Clear's two function literals; IndexFunc and DeleteFunc with them. Printed by gendg.py. -/
import Derived.Test.YtpgpncngamagdaaSR
set_option linter.unusedVariables false
set_option linter.unusedSimpArgs false
namespace Go.Proofs.Ytpgpncngamagdaa
open Go.RowKit
attribute [local go_sem ↓] Go.wp_at_zero Go.wp_at_succ
theorem filter_P {P : List UInt8 → Bool} {l : List (List UInt8)} (h : ∀ s ∈ l, P s = true) : l.filter P = l := List.filter_eq_self.2 h
def DelP (P : List UInt8 → Bool) (l l' : List (List UInt8)) (i j : Nat) : Prop := l'.length = l.length ∧ i < j ∧ j ≤ l.length ∧ l'.take i = (l.take j).filter P ∧ l'.drop j = l.drop j
theorem DelP.skip {P : List UInt8 → Bool} {l l' : List (List UInt8)} {i j : Nat} (h : DelP P l l' i j) (hj : j < l.length) (hp : P l[j] = false) : DelP P l l' i (j + 1) := by
  obtain ⟨h1, h2, h3, h4, h5⟩ := h
  refine ⟨h1, by omega, by omega, ?_, ?_⟩
  · rw [h4, List.take_succ_eq_append_getElem hj, List.filter_append]; simp [hp]
  · rw [← List.drop_drop, h5, List.drop_drop]
theorem DelP.put {P : List UInt8 → Bool} {l l' : List (List UInt8)} {i j : Nat} (h : DelP P l l' i j) (hj : j < l.length) (hp : P l[j] = true) : DelP P l (l'.set i l[j]) (i + 1) (j + 1) := by
  obtain ⟨h1, h2, h3, h4, h5⟩ := h
  refine ⟨by rw [List.length_set]; exact h1, by omega, by omega, ?_, ?_⟩
  · rw [List.take_succ_eq_append_getElem (by rw [List.length_set]; omega), List.take_set_of_le (Nat.le_refl _), h4, List.getElem_set_self, List.take_succ_eq_append_getElem hj, List.filter_append]; simp [hp]
  · rw [List.drop_set_of_lt (by omega), ← List.drop_drop, h5, List.drop_drop]
theorem DelP.get {P : List UInt8 → Bool} {l l' : List (List UInt8)} {i j : Nat} (h : DelP P l l' i j) (hj : j < l.length) : ∃ h' : j < l'.length, l'[j] = l[j] := by
  obtain ⟨h1, h2, h3, h4, h5⟩ := h
  have h' : j < l'.length := by omega
  refine ⟨h', ?_⟩
  have := congrArg (fun x => x[0]?) h5
  simp only [List.getElem?_drop, Nat.add_zero] at this
  rw [List.getElem?_eq_getElem h', List.getElem?_eq_getElem hj] at this
  exact Option.some.inj this
def hasB (l : List (List UInt8)) (s : List UInt8) : Bool := l.contains s
/-- slices.Index -/
theorem index_any {A : Nat → Prop} {w : World} {v : Value} {l : List (List UInt8)} (s : List UInt8) (h : Ss A w v l) : Calls Try.prog 78 #[v, .string ⟨s.toArray⟩] w fun e w' => (∃ k : Int, e = .returned (.int .i64 k) ∧ Hid (k = -1 ∧ hasB l s = false ∨ 0 ≤ k ∧ hasB l s = true)) ∧ w = w' := by
  obtain ⟨a, c, rfl, hc, _, H⟩ := h.at
  have H : Hid _ := H
  have hlim : l.length * 16 ≤ 140737488351232 := h.2
  have hl' : (l.length : Int) ≤ 140737488351232 := by omega
  clear h
  go_enter Try.func78, Try.ntmps78
  go_wp2_with fail
  go_loop [8] (fun i => ∃ k : Nat, k ≤ l.length ∧ i = .int .i64 k ∧ Hid ((l.take k).contains s = false)) (fun i => l.length - (intOf i).toNat)
  case atStart => exact ⟨0, by omega, rfl, rfl⟩
  case round =>
    obtain ⟨k, hk, rfl, HF⟩ := hrel
    by_cases hlt : k < l.length
    · have hlt' : (k : Int) < (l.length : Int) := by omega
      obtain ⟨b', o, rfl, _, hu⟩ := H.out k hlt
      have HT : Hid ((l.take (k + 1)).contains s = (s == l[k])) := by
        show _ = _
        have h1 := HF.out
        rw [List.take_succ_eq_append_getElem hlt]
        simp only [List.contains_eq_any_beq, List.any_append, List.any_cons, List.any_nil, Bool.or_false] at h1 ⊢
        rw [h1]; simp
      have HM : Hid ((s == l[k]) = true → hasB l s = true) := fun h1 => by
        unfold hasB
        rw [List.contains_iff_mem]
        have : s = l[k] := by simpa using h1
        rw [this]; exact List.getElem_mem hlt
      generalize l[k] = x at *
      cases hd : (s == x) with
      | true =>
        have HR : Hid ((k : Int) = -1 ∧ hasB l s = false ∨ 0 ≤ (k : Int) ∧ hasB l s = true) := .inr ⟨by omega, HM.out hd⟩
        go_wp2_with fail
        go_ret
        exact ⟨⟨_, rfl, HR⟩, rfl⟩
      | false =>
        have HT2 : Hid ((l.take (k + 1)).contains s = false) := by show _ = _; rw [HT.out, hd]
        go_wp2_with fail
        go_round
        case rel => exact ⟨k + 1, by omega, by go_num, HT2⟩
        case measure => simp [intOf]; omega
    · obtain rfl : k = l.length := by omega
      have HL2 : Hid (hasB l s = false) := by have := HF.out; rw [List.take_length] at this; exact this
      go_wp2_with fail
      go_ret
      exact ⟨⟨_, rfl, Hid.mk' (.inl ⟨rfl, HL2.out⟩)⟩, rfl⟩
/-- slices.Contains -/
theorem contains_any {A : Nat → Prop} {w : World} {v : Value} {l : List (List UInt8)} (s : List UInt8) (h : Ss A w v l) : Calls Try.prog 67 #[v, .string ⟨s.toArray⟩] w fun e w' => e = .returned (.bool (hasB l s)) ∧ w = w' := by
  have HI := Hid.mk' (index_any s h)
  obtain ⟨a, c, rfl, _⟩ := h.at
  clear h
  go_enter Try.func67, Try.ntmps67
  go_wp2_with fail
  refine HI.out.mono ?_
  rintro e w1 ⟨⟨k, rfl, HK⟩, rfl⟩
  rcases HK.out with ⟨rfl, hk⟩ | ⟨hk0, hk⟩
  · have HK2 := Hid.mk' hk
    clear HK hk HI
    go_wp2_with fail
    go_ret
    exact ⟨by rw [HK2.out]; rfl, rfl⟩
  · have HK2 := Hid.mk' hk
    clear HK hk HI
    go_wp2_with fail
    go_ret
    exact ⟨by rw [HK2.out]; rfl, rfl⟩
theorem c66 {A : Nat → Prop} {b : Nat} {w : World} {v : Value} {l : List (List UInt8)} (s : List UInt8) (h : Ss A w v l) (hc : w.cell? ⟨b, 0, none⟩ = some v) : Calls Try.prog 66 #[.string ⟨s.toArray⟩, .pointer (some ⟨b, 0, none⟩)] w fun e w' => e = .returned (.bool (hasB l s)) ∧ w = w' := by
  have HC := Hid.mk' (contains_any s h)
  obtain ⟨a, c, rfl, _⟩ := h.at
  clear h
  go_enter Try.func66, Try.ntmps66
  go_wp2_with fail
  refine HC.out.mono ?_
  rintro e w1 ⟨rfl, rfl⟩
  go_wp2_with fail
  go_ret
  exact ⟨rfl, rfl⟩
theorem c68 {A : Nat → Prop} {b : Nat} {w : World} {v : Value} {l : List (List UInt8)} (s : List UInt8) (h : Ss A w v l) (hc : w.cell? ⟨b, 0, none⟩ = some v) : Calls Try.prog 68 #[.string ⟨s.toArray⟩, .pointer (some ⟨b, 0, none⟩)] w fun e w' => e = .returned (.bool (!hasB l s)) ∧ w = w' := by
  have HC := Hid.mk' (contains_any s h)
  obtain ⟨a, c, rfl, _⟩ := h.at
  clear h
  go_enter Try.func68, Try.ntmps68
  go_wp2_with fail
  refine HC.out.mono ?_
  rintro e w1 ⟨rfl, rfl⟩
  go_wp2_with fail
  go_ret
  exact ⟨rfl, rfl⟩
set_option maxHeartbeats 400000 in
/-- IndexFunc with that -/
theorem ix66 {A : Nat → Prop} {w : World} {v : Value} {l : List (List UInt8)} {b : Nat} {P : List UInt8 → Bool} (h : Ss A w v l) (hl : ∀ s ∈ l, s.length ≤ maxLen) (hP : ∀ w', (∀ k, k < w.heap.size → v.ownBlock ≠ some k → w'.heap[k]? = w.heap[k]?) → ∀ s ∈ l, Calls Try.prog 66 #[.string ⟨s.toArray⟩, .pointer (some ⟨b, 0, none⟩)] w' fun e w'' => e = .returned (.bool (!P s)) ∧ w' = w'') :
    Calls Try.prog 76 #[v, .func (.func 66) #[] #[.pointer (some ⟨b, 0, none⟩)]] w fun e w' => (∃ k : Int, e = .returned (.int .i64 k) ∧ Hid (k = -1 ∧ (∀ s ∈ l, P s = true) ∨ ∃ j : Nat, k = j ∧ ∃ h : j < l.length, P l[j] = false ∧ ∀ s ∈ l.take j, P s = true)) ∧ w = w' := by
  obtain ⟨a, c, rfl, hc, _, H⟩ := h.at
  have H : Hid _ := H
  have hlim : l.length * 16 ≤ 140737488351232 := h.2
  have HL := Hid.mk' hl
  have HPP := Hid.mk' hP
  clear h hl hP
  go_enter Try.func76, Try.ntmps76
  go_wp2_with fail
  go_loop [8] (fun i => ∃ k : Nat, k ≤ l.length ∧ i = .int .i64 k ∧ Hid (∀ s ∈ l.take k, P s = true)) (fun i => l.length - (intOf i).toNat)
  case atStart => exact ⟨0, by omega, rfl, Hid.mk' (by simp)⟩
  case round =>
    obtain ⟨k, hk, rfl, HF⟩ := hrel
    by_cases hlt : k < l.length
    · have hlt' : (k : Int) < (l.length : Int) := by omega
      have hl' : (l.length : Int) ≤ 140737488351232 := by omega
      obtain ⟨b', o, rfl, _, hu⟩ := H.out k hlt
      have HC := Hid.mk' (HPP.out w (fun _ _ _ => rfl) l[k] (List.getElem_mem hlt))
      cases hd : P l[k] with
      | false =>
        rw [hd] at HC
        have HR : Hid ((k : Int) = -1 ∧ (∀ s ∈ l, P s = true) ∨ ∃ j : Nat, (k : Int) = j ∧ ∃ h : j < l.length, P l[j] = false ∧ ∀ s ∈ l.take j, P s = true) := .inr ⟨k, rfl, hlt, hd, HF.out⟩
        clear hd
        go_wp2_with fail
        refine HC.out.mono ?_
        rintro e w' ⟨rfl, rfl⟩
        go_wp2_with fail
        go_ret
        exact ⟨⟨_, rfl, HR⟩, rfl⟩
      | true =>
        rw [hd] at HC
        have HT2 : Hid (∀ s ∈ l.take (k + 1), P s = true) := fun s hs => by
          rw [List.take_succ_eq_append_getElem hlt, List.mem_append, List.mem_singleton] at hs
          rcases hs with hs | rfl
          · exact HF.out s hs
          · exact hd
        clear hd
        go_wp2_with fail
        refine HC.out.mono ?_
        rintro e w' ⟨rfl, rfl⟩
        go_wp2_with fail
        go_round
        case rel => exact ⟨k + 1, by omega, by go_num, HT2⟩
        case measure => simp [intOf]; omega
    · obtain rfl : k = l.length := by omega
      have HL2 : Hid (∀ s ∈ l, P s = true) := by have := HF.out; rwa [List.take_length] at this
      go_wp2_with fail
      go_ret
      exact ⟨⟨_, rfl, Hid.mk' (.inl ⟨rfl, HL2.out⟩)⟩, rfl⟩
set_option maxRecDepth 100000 in
set_option maxHeartbeats 2000000 in
/-- DeleteFunc with that -/
theorem df66 {B b : Nat} {w : World} {v : Value} {l : List (List UInt8)} {P : List UInt8 → Bool} (h : So 9 B w v l) (hlm : l.length * 16 ≤ lim) (hl : ∀ s ∈ l, s.length ≤ maxLen) (hP : ∀ w', (∀ k, k < w.heap.size → v.ownBlock ≠ some k → w'.heap[k]? = w.heap[k]?) → ∀ s ∈ l, Calls Try.prog 66 #[.string ⟨s.toArray⟩, .pointer (some ⟨b, 0, none⟩)] w' fun e w'' => e = .returned (.bool (!P s)) ∧ w' = w'') (hb : True) :
    Calls Try.prog 63 #[v, .func (.func 66) #[] #[.pointer (some ⟨b, 0, none⟩)]] w fun e w' => ∃ v', e = .returned v' ∧ So 9 B w' v' (l.filter P) ∧ Wb (fun k => v.ownBlock = some k) w w' := by
  have HI := Hid.mk' (ix66 (h.ss hlm) hl hP)
  have HL := Hid.mk' hl
  have HPP := Hid.mk' hP
  have HS := Hid.mk' h
  obtain ⟨ao, c, rfl⟩ := h.slice
  have hlim : l.length * 16 ≤ 140737488351232 := hlm
  clear h hl hP
  go_enter Try.func63, Try.ntmps63
  go_wp2_with fail
  refine HI.out.mono ?_
  rintro e w' ⟨⟨k, rfl, HK⟩, rfl⟩
  clear HI
  rcases HK.out with ⟨rfl, hall⟩ | ⟨j, rfl, hj, hjp, hbef⟩
  · have HA := Hid.mk' (filter_P hall)
    clear HK hall
    go_wp2_with fail
    go_ret
    exact ⟨_, rfl, by rw [HA.out]; exact HS.out, Wb.refl _ _⟩
  · have HR : Hid (DelP P l l j (j + 1)) := ⟨rfl, by omega, by omega, by rw [List.take_succ_eq_append_getElem hj, List.filter_append, filter_P hbef]; simp [hjp], rfl⟩
    have hj' : (j : Int) < (l.length : Int) := by omega
    have hl' : (l.length : Int) ≤ 140737488351232 := by omega
    have hne : ((j : Int) == -1) = false := by rw [beq_eq_false_iff_ne]; omega
    obtain ⟨g, cap, ef, hcap⟩ := HS.out.form (by omega)
    simp only [Value.slice.injEq, true_and] at ef
    obtain ⟨rfl, rfl⟩ := ef
    have HG : Hid (B ≤ g ∧ g < w.heap.size) := HS.out.lt g rfl
    clear HK hbef hjp
    go_wp2_with fail
    go_loopw [5, 6] (fun i t wr => ∃ (i' t' : Nat) (l' : List (List UInt8)), i = .int .i64 i' ∧ t = .int .i64 t' ∧ t' ≤ l.length ∧ i' < t' ∧ Hid (DelP P l l' i' t') ∧ Hid (So 9 B wr (.slice (some ⟨g, 0, none⟩) l.length c) l') ∧ Hid (Wb (fun k => k = g) w wr)) (fun _ t _ => l.length - (intOf t).toNat)
    case atStart => exact ⟨j, j + 1, l, rfl, by go_num, by omega, by omega, HR, HS, Wb.refl _ _⟩
    case round =>
      clear HR HS hj hj' hne
      obtain ⟨i, t, l', rfl, rfl, hts, hit, HR, HS, HW⟩ := hrel
      by_cases hlt : t < l.length
      · have hlt' : (t : Int) < (l.length : Int) := by omega
        have hit' : (i : Int) < (l.length : Int) := by omega
        obtain ⟨h5, h6⟩ := HR.out.get hlt
        have hc := HS.out.cell t h5
        rw [h6] at hc
        have HC := Hid.mk' (HPP.out wr (fun j hj hn => HW.out.block j hj (fun e => hn (by rw [e]; rfl))) l[t] (List.getElem_mem hlt))
        obtain ⟨z, hz⟩ : ∃ z, wr.cell? ⟨g, i, none⟩ = some z := ⟨_, HS.out.cell i (by rw [HR.out.1]; omega)⟩
        have hf := HS.out.frozen i
        cases hd : P l[t] with
        | true =>
          rw [hd] at HC
          have HR2 := Hid.mk' (HR.out.put hlt hd)
          have HS2 := Hid.mk' (HS.out.set i l[t])
          have HW2 := Hid.mk' (HW.out.trans (Wb.set (X := fun k => k = g) wr g i (.string ⟨l[t].toArray⟩) rfl))
          clear hd h6
          go_wp2_with fail
          refine HC.out.mono ?_
          rintro e w' ⟨rfl, rfl⟩
          go_wp2_with fail
          go_roundw
          case rel => exact ⟨i + 1, t + 1, _, by go_num, by go_num, by omega, by omega, HR2, HS2, HW2⟩
          case measure => simp [intOf]; omega
        | false =>
          rw [hd] at HC
          have HR2 := Hid.mk' (HR.out.skip hlt hd)
          clear hd h6
          go_wp2_with fail
          refine HC.out.mono ?_
          rintro e w' ⟨rfl, rfl⟩
          go_wp2_with fail
          go_roundw
          case rel => exact ⟨i, t + 1, l', rfl, by go_num, by omega, by omega, HR2, HS, HW⟩
          case measure => simp [intOf]; omega
      · obtain rfl : t = l.length := by omega
        have S1 := s75_lo wr g l.length c i hit hcap
        have hi3 : i < l'.length := by rw [HR.out.1]; exact hit
        have HLN : Hid (l'.length = l.length) := HR.out.1
        have C1 : ∀ ty, (Builtin.clear_ #[60] ty #[.slice (some ⟨g, i, none⟩) (l.length - i) (c - i)]).run Try.prog wr = .ok (.tuple #[]) (wr.setCells g i (List.replicate (l.length - i) (.string ⟨#[]⟩))) := fun ty =>
          Lib.run_clear_slice wr 60 9 ty _ Try.underlying60 zero9 rfl rfl g i (l.length - i) (c - i) (by omega) (fun t ht => by rw [HS.out.cell (i + t) (by rw [HLN.out]; omega)]; rfl) (fun t ht => HS.out.frozen _)
        obtain ⟨l2, hs2, hl2, ht2⟩ := So.cleared (l.length - i) wr l' i HS.out (by rw [HLN.out]; omega)
        have X2 := HW.out.trans (setCells_wb (b := g) (List.replicate (l.length - i) (.string ⟨#[]⟩)) i wr)
        obtain ⟨W2, hW2⟩ : ∃ W2, W2 = wr.setCells g i (List.replicate (l.length - i) (.string ⟨#[]⟩)) := ⟨_, rfl⟩
        rw [← hW2] at C1 hs2 X2
        have S2 := s75_hi W2 g l.length c i (by omega) hcap (by omega)
        have HF : Hid (So 9 B W2 (.slice (some ⟨g, 0, none⟩) i c) (l.filter P)) := by
          have h7 := hs2.pre (m := i) (by rw [hl2, HLN.out]; omega)
          rw [ht2, HR.out.2.2.2.1, List.take_length] at h7
          exact h7
        have X2 := Hid.mk' X2
        clear hW2 hs2 hl2 ht2
        go_wp2_with fail
        go_ret
        exact ⟨_, rfl, HF.out, X2.out.mono fun k hk => by subst hk; rfl⟩
set_option maxHeartbeats 400000 in
/-- IndexFunc with that -/
theorem ix68 {A : Nat → Prop} {w : World} {v : Value} {l : List (List UInt8)} {b : Nat} {P : List UInt8 → Bool} (h : Ss A w v l) (hl : ∀ s ∈ l, s.length ≤ maxLen) (hP : ∀ w', (∀ k, k < w.heap.size → v.ownBlock ≠ some k → w'.heap[k]? = w.heap[k]?) → ∀ s ∈ l, Calls Try.prog 68 #[.string ⟨s.toArray⟩, .pointer (some ⟨b, 0, none⟩)] w' fun e w'' => e = .returned (.bool (!P s)) ∧ w' = w'') :
    Calls Try.prog 76 #[v, .func (.func 68) #[] #[.pointer (some ⟨b, 0, none⟩)]] w fun e w' => (∃ k : Int, e = .returned (.int .i64 k) ∧ Hid (k = -1 ∧ (∀ s ∈ l, P s = true) ∨ ∃ j : Nat, k = j ∧ ∃ h : j < l.length, P l[j] = false ∧ ∀ s ∈ l.take j, P s = true)) ∧ w = w' := by
  obtain ⟨a, c, rfl, hc, _, H⟩ := h.at
  have H : Hid _ := H
  have hlim : l.length * 16 ≤ 140737488351232 := h.2
  have HL := Hid.mk' hl
  have HPP := Hid.mk' hP
  clear h hl hP
  go_enter Try.func76, Try.ntmps76
  go_wp2_with fail
  go_loop [8] (fun i => ∃ k : Nat, k ≤ l.length ∧ i = .int .i64 k ∧ Hid (∀ s ∈ l.take k, P s = true)) (fun i => l.length - (intOf i).toNat)
  case atStart => exact ⟨0, by omega, rfl, Hid.mk' (by simp)⟩
  case round =>
    obtain ⟨k, hk, rfl, HF⟩ := hrel
    by_cases hlt : k < l.length
    · have hlt' : (k : Int) < (l.length : Int) := by omega
      have hl' : (l.length : Int) ≤ 140737488351232 := by omega
      obtain ⟨b', o, rfl, _, hu⟩ := H.out k hlt
      have HC := Hid.mk' (HPP.out w (fun _ _ _ => rfl) l[k] (List.getElem_mem hlt))
      cases hd : P l[k] with
      | false =>
        rw [hd] at HC
        have HR : Hid ((k : Int) = -1 ∧ (∀ s ∈ l, P s = true) ∨ ∃ j : Nat, (k : Int) = j ∧ ∃ h : j < l.length, P l[j] = false ∧ ∀ s ∈ l.take j, P s = true) := .inr ⟨k, rfl, hlt, hd, HF.out⟩
        clear hd
        go_wp2_with fail
        refine HC.out.mono ?_
        rintro e w' ⟨rfl, rfl⟩
        go_wp2_with fail
        go_ret
        exact ⟨⟨_, rfl, HR⟩, rfl⟩
      | true =>
        rw [hd] at HC
        have HT2 : Hid (∀ s ∈ l.take (k + 1), P s = true) := fun s hs => by
          rw [List.take_succ_eq_append_getElem hlt, List.mem_append, List.mem_singleton] at hs
          rcases hs with hs | rfl
          · exact HF.out s hs
          · exact hd
        clear hd
        go_wp2_with fail
        refine HC.out.mono ?_
        rintro e w' ⟨rfl, rfl⟩
        go_wp2_with fail
        go_round
        case rel => exact ⟨k + 1, by omega, by go_num, HT2⟩
        case measure => simp [intOf]; omega
    · obtain rfl : k = l.length := by omega
      have HL2 : Hid (∀ s ∈ l, P s = true) := by have := HF.out; rwa [List.take_length] at this
      go_wp2_with fail
      go_ret
      exact ⟨⟨_, rfl, Hid.mk' (.inl ⟨rfl, HL2.out⟩)⟩, rfl⟩
set_option maxRecDepth 100000 in
set_option maxHeartbeats 2000000 in
/-- DeleteFunc with that -/
theorem df68 {B b : Nat} {w : World} {v : Value} {l : List (List UInt8)} {P : List UInt8 → Bool} (h : So 9 B w v l) (hlm : l.length * 16 ≤ lim) (hl : ∀ s ∈ l, s.length ≤ maxLen) (hP : ∀ w', (∀ k, k < w.heap.size → v.ownBlock ≠ some k → w'.heap[k]? = w.heap[k]?) → ∀ s ∈ l, Calls Try.prog 68 #[.string ⟨s.toArray⟩, .pointer (some ⟨b, 0, none⟩)] w' fun e w'' => e = .returned (.bool (!P s)) ∧ w' = w'') (hb : True) :
    Calls Try.prog 63 #[v, .func (.func 68) #[] #[.pointer (some ⟨b, 0, none⟩)]] w fun e w' => ∃ v', e = .returned v' ∧ So 9 B w' v' (l.filter P) ∧ Wb (fun k => v.ownBlock = some k) w w' := by
  have HI := Hid.mk' (ix68 (h.ss hlm) hl hP)
  have HL := Hid.mk' hl
  have HPP := Hid.mk' hP
  have HS := Hid.mk' h
  obtain ⟨ao, c, rfl⟩ := h.slice
  have hlim : l.length * 16 ≤ 140737488351232 := hlm
  clear h hl hP
  go_enter Try.func63, Try.ntmps63
  go_wp2_with fail
  refine HI.out.mono ?_
  rintro e w' ⟨⟨k, rfl, HK⟩, rfl⟩
  clear HI
  rcases HK.out with ⟨rfl, hall⟩ | ⟨j, rfl, hj, hjp, hbef⟩
  · have HA := Hid.mk' (filter_P hall)
    clear HK hall
    go_wp2_with fail
    go_ret
    exact ⟨_, rfl, by rw [HA.out]; exact HS.out, Wb.refl _ _⟩
  · have HR : Hid (DelP P l l j (j + 1)) := ⟨rfl, by omega, by omega, by rw [List.take_succ_eq_append_getElem hj, List.filter_append, filter_P hbef]; simp [hjp], rfl⟩
    have hj' : (j : Int) < (l.length : Int) := by omega
    have hl' : (l.length : Int) ≤ 140737488351232 := by omega
    have hne : ((j : Int) == -1) = false := by rw [beq_eq_false_iff_ne]; omega
    obtain ⟨g, cap, ef, hcap⟩ := HS.out.form (by omega)
    simp only [Value.slice.injEq, true_and] at ef
    obtain ⟨rfl, rfl⟩ := ef
    have HG : Hid (B ≤ g ∧ g < w.heap.size) := HS.out.lt g rfl
    clear HK hbef hjp
    go_wp2_with fail
    go_loopw [5, 6] (fun i t wr => ∃ (i' t' : Nat) (l' : List (List UInt8)), i = .int .i64 i' ∧ t = .int .i64 t' ∧ t' ≤ l.length ∧ i' < t' ∧ Hid (DelP P l l' i' t') ∧ Hid (So 9 B wr (.slice (some ⟨g, 0, none⟩) l.length c) l') ∧ Hid (Wb (fun k => k = g) w wr)) (fun _ t _ => l.length - (intOf t).toNat)
    case atStart => exact ⟨j, j + 1, l, rfl, by go_num, by omega, by omega, HR, HS, Wb.refl _ _⟩
    case round =>
      clear HR HS hj hj' hne
      obtain ⟨i, t, l', rfl, rfl, hts, hit, HR, HS, HW⟩ := hrel
      by_cases hlt : t < l.length
      · have hlt' : (t : Int) < (l.length : Int) := by omega
        have hit' : (i : Int) < (l.length : Int) := by omega
        obtain ⟨h5, h6⟩ := HR.out.get hlt
        have hc := HS.out.cell t h5
        rw [h6] at hc
        have HC := Hid.mk' (HPP.out wr (fun j hj hn => HW.out.block j hj (fun e => hn (by rw [e]; rfl))) l[t] (List.getElem_mem hlt))
        obtain ⟨z, hz⟩ : ∃ z, wr.cell? ⟨g, i, none⟩ = some z := ⟨_, HS.out.cell i (by rw [HR.out.1]; omega)⟩
        have hf := HS.out.frozen i
        cases hd : P l[t] with
        | true =>
          rw [hd] at HC
          have HR2 := Hid.mk' (HR.out.put hlt hd)
          have HS2 := Hid.mk' (HS.out.set i l[t])
          have HW2 := Hid.mk' (HW.out.trans (Wb.set (X := fun k => k = g) wr g i (.string ⟨l[t].toArray⟩) rfl))
          clear hd h6
          go_wp2_with fail
          refine HC.out.mono ?_
          rintro e w' ⟨rfl, rfl⟩
          go_wp2_with fail
          go_roundw
          case rel => exact ⟨i + 1, t + 1, _, by go_num, by go_num, by omega, by omega, HR2, HS2, HW2⟩
          case measure => simp [intOf]; omega
        | false =>
          rw [hd] at HC
          have HR2 := Hid.mk' (HR.out.skip hlt hd)
          clear hd h6
          go_wp2_with fail
          refine HC.out.mono ?_
          rintro e w' ⟨rfl, rfl⟩
          go_wp2_with fail
          go_roundw
          case rel => exact ⟨i, t + 1, l', rfl, by go_num, by omega, by omega, HR2, HS, HW⟩
          case measure => simp [intOf]; omega
      · obtain rfl : t = l.length := by omega
        have S1 := s75_lo wr g l.length c i hit hcap
        have hi3 : i < l'.length := by rw [HR.out.1]; exact hit
        have HLN : Hid (l'.length = l.length) := HR.out.1
        have C1 : ∀ ty, (Builtin.clear_ #[60] ty #[.slice (some ⟨g, i, none⟩) (l.length - i) (c - i)]).run Try.prog wr = .ok (.tuple #[]) (wr.setCells g i (List.replicate (l.length - i) (.string ⟨#[]⟩))) := fun ty =>
          Lib.run_clear_slice wr 60 9 ty _ Try.underlying60 zero9 rfl rfl g i (l.length - i) (c - i) (by omega) (fun t ht => by rw [HS.out.cell (i + t) (by rw [HLN.out]; omega)]; rfl) (fun t ht => HS.out.frozen _)
        obtain ⟨l2, hs2, hl2, ht2⟩ := So.cleared (l.length - i) wr l' i HS.out (by rw [HLN.out]; omega)
        have X2 := HW.out.trans (setCells_wb (b := g) (List.replicate (l.length - i) (.string ⟨#[]⟩)) i wr)
        obtain ⟨W2, hW2⟩ : ∃ W2, W2 = wr.setCells g i (List.replicate (l.length - i) (.string ⟨#[]⟩)) := ⟨_, rfl⟩
        rw [← hW2] at C1 hs2 X2
        have S2 := s75_hi W2 g l.length c i (by omega) hcap (by omega)
        have HF : Hid (So 9 B W2 (.slice (some ⟨g, 0, none⟩) i c) (l.filter P)) := by
          have h7 := hs2.pre (m := i) (by rw [hl2, HLN.out]; omega)
          rw [ht2, HR.out.2.2.2.1, List.take_length] at h7
          exact h7
        have X2 := Hid.mk' X2
        clear hW2 hs2 hl2 ht2
        go_wp2_with fail
        go_ret
        exact ⟨_, rfl, HF.out, X2.out.mono fun k hk => by subst hk; rfl⟩
end Go.Proofs.Ytpgpncngamagdaa
