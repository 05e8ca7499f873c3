/- groyneref10: Get, List, Lose, Put; groynelaw10.same; vault.Lose. -/
import Derived.Test.YtfmbbpfklhkljaaVP
set_option linter.unusedVariables false
set_option linter.unusedSimpArgs false
namespace Go.Proofs.Ytfmbbpfklhkljaa
open Go.RowKit
theorem bs_nil {A : Nat → Prop} {w : World} : Bs A w (.slice none 0 0) [] := ⟨⟨rfl, none, 0, rfl, Nat.le_refl _, fun _ => rfl, fun j u hj => by simp [bv] at hj⟩, by simp⟩
theorem tget_drop (l : List Th) (s : List UInt8) (k : Nat) (h : k < l.length) : tget (l.drop k) s = if l[k].1 = s then some l[k].2 else tget (l.drop (k + 1)) s := by
  rw [List.drop_eq_getElem_cons h, tget_cons]
set_option maxRecDepth 100000 in
set_option maxHeartbeats 1000000 in
/-- groyneref10.Get -/
theorem rget_any {A : Nat → Prop} {w : World} {v : Value} {l : List Th} (s : List UInt8) (h : Ts A w v l) : Calls Try.prog 52 #[v, .string ⟨s.toArray⟩] w fun e w' => (∃ u, e = .returned (.tuple #[u, .int .i64 (getC (tget l) s)]) ∧ Bs A w u ((tget l s).getD [])) ∧ w = w' := by
  obtain ⟨a, c, rfl, hc, _, hm, H⟩ := h.at
  have H := Hid.mk' H
  have hm' : (l.length : Int) ≤ 1000000 := by omega
  clear h
  go_enter Try.func52, Try.ntmps52
  go_wp2_with fail
  go_loop [6] (fun i => ∃ k : Nat, k ≤ l.length ∧ i = .int .i64 k ∧ Hid (tget l s = tget (l.drop k) s)) (fun i => l.length - (intOf i).toNat)
  case atStart => exact ⟨0, by omega, rfl, rfl⟩
  case round =>
    obtain ⟨k, hk, rfl, HT⟩ := hrel
    by_cases hlt : k < l.length
    · have hlt' : (k : Int) < (l.length : Int) := by omega
      obtain ⟨b, o, u, rfl, _, h1, h2, h3⟩ := H.out k hlt
      have HS := Hid.mk' (tget_drop l s k hlt)
      obtain ⟨ua, uc, rfl, _⟩ := h3.at
      have H3 := Hid.mk' h3
      clear h3
      generalize l[k] = t at *
      cases hd : (t.1 == s) with
      | true =>
        have HV : Hid (tget l s = some t.2) := by show _ = _; rw [HT.out, HS.out, if_pos (by simpa using hd)]
        go_wp2_with fail
        go_ret2
        refine ⟨⟨.slice ua t.2.length uc, ?_, by rw [HV.out]; exact H3.out⟩, rfl⟩
        rw [show getC (tget l) s = 0 by unfold getC; rw [HV.out]]; rfl
      | false =>
        have HV : Hid (tget l s = tget (l.drop (k + 1)) s) := by show _ = _; rw [HT.out, HS.out, if_neg (by simpa using hd)]
        go_wp2_with fail
        go_round
        case rel => exact ⟨k + 1, by omega, by go_num, HV⟩
        case measure => simp [intOf]; omega
    · obtain rfl : k = l.length := by omega
      have HV : Hid (tget l s = none) := by show _ = _; rw [HT.out, List.drop_length]; rfl
      go_wp2_with fail
      go_ret2
      refine ⟨⟨.slice none 0 0, ?_, by rw [HV.out]; exact bs_nil⟩, rfl⟩
      rw [show getC (tget l) s = 6 by unfold getC; rw [HV.out]]; rfl
set_option maxRecDepth 100000 in
set_option maxHeartbeats 1000000 in
/-- groynelaw10.same -/
theorem same10_any {A A' : Nat → Prop} {w : World} {v u : Value} {l m : List (List UInt8)} (h : Ss A w v l) (h' : Ss A' w u m) : Calls Try.prog 54 #[v, u] w fun e w' => e = .returned (.bool (l == m)) ∧ Dn w w' := by
  have hl : l.length * 16 ≤ 140737488351232 := h.2
  have hm : m.length * 16 ≤ 140737488351232 := h'.2
  obtain ⟨a, c, rfl, hc, _, H⟩ := h.at
  obtain ⟨a', c', rfl, hc', _, H'⟩ := h'.at
  have H := Hid.mk' H
  have H' := Hid.mk' H'
  clear h h'
  by_cases hne : l.length = m.length
  · have hne' : ((l.length : Int) == (m.length : Int)) = true := by rw [beq_iff_eq]; omega
    have hne2 : ((l.length : Int) != (m.length : Int)) = false := by simp [hne]
    have HN := Hid.mk' hne
    clear hne
    go_enter Try.func54, Try.ntmps54
    go_wp2_with fail
    go_loopw [13] (fun i wr => ∃ k : Nat, k ≤ l.length ∧ i = .int .i64 k ∧ Hid (l.take k = m.take k) ∧ Dn w wr) (fun i _ => l.length - (intOf i).toNat)
    case atStart => exact ⟨0, by omega, rfl, Hid.mk' (by simp), Dn.refl _⟩
    case round =>
      obtain ⟨k, hk, rfl, HE, ⟨n, rfl⟩⟩ := hrel
      by_cases hlt : k < l.length
      · have hlt' : (k : Int) < (l.length : Int) := by omega
        have hkm : k < m.length := by have := HN.out; omega
        have hlt2 : (k : Int) < (m.length : Int) := by omega
        obtain ⟨b, o, rfl, _, hu⟩ := H.out k hlt
        obtain ⟨b', o', rfl, _, hu'⟩ := H'.out k hkm
        have hu0 : ∀ n, (w.drewN n).cell? ⟨b, o + k, none⟩ = some (.string ⟨l[k].toArray⟩) := fun n => hu
        have hu1 : ∀ n, (w.drewN n).cell? ⟨b', o' + k, none⟩ = some (.string ⟨m[k].toArray⟩) := fun n => hu'
        have HT1 := Hid.mk' (List.take_succ_eq_append_getElem hlt)
        have HT2 := Hid.mk' (List.take_succ_eq_append_getElem hkm)
        have HNE : Hid (l[k] ≠ m[k] → (l == m) = false) := fun hx => by
          rw [beq_eq_false_iff_ne]; rintro rfl; exact hx rfl
        clear hu hu'
        generalize l[k] = x at *
        generalize m[k] = y at *
        cases hd : (x == y) with
        | true =>
          have hd2 : (x != y) = false := by simpa using hd
          have HV : Hid (l.take (k + 1) = m.take (k + 1)) := by show _ = _; rw [HT1.out, HT2.out, HE.out, show x = y by simpa using hd]
          go_wp2_with fail
          go_quiet (fail)
          go_wp2_with fail
          go_roundw
          case rel => exact ⟨k + 1, by omega, by go_num, HV, by repeat (first | exact Dn.refl _ | apply Dn.more)⟩
          case measure => simp [intOf]; omega
        | false =>
          have hd2 : (x != y) = true := by simpa using hd
          have HV := Hid.mk' (HNE.out (by simpa using hd))
          go_wp2_with fail
          go_quiet (fail)
          go_wp2_with fail
          go_ret
          exact ⟨ret_b (by rw [HV.out]), by repeat (first | exact Dn.refl _ | apply Dn.more)⟩
      · obtain rfl : k = l.length := by omega
        have HV : Hid ((l == m) = true) := by
          show _ = _
          have h1 := HE.out
          rw [List.take_length, HN.out, List.take_length] at h1
          simpa using h1
        go_wp2_with fail
        go_ret
        exact ⟨ret_b HV.out.symm, by repeat (first | exact Dn.refl _ | apply Dn.more)⟩
  · have hne' : ((l.length : Int) == (m.length : Int)) = false := by rw [beq_eq_false_iff_ne]; omega
    have hne2 : ((l.length : Int) != (m.length : Int)) = true := by simp; omega
    have HV : Hid ((l == m) = false) := by show _ = _; rw [beq_eq_false_iff_ne]; rintro rfl; exact hne rfl
    clear hne
    go_enter Try.func54, Try.ntmps54
    go_wp2_with fail
    go_ret
    exact ⟨ret_b HV.out.symm, Dn.refl _⟩
theorem take_filter {α : Type} (p : α → Bool) (l : List α) (k : Nat) (h : k < l.length) : (l.take (k + 1)).filter p = (l.take k).filter p ++ if p l[k] then [l[k]] else [] := by
  rw [List.take_succ_eq_append_getElem h, List.filter_append]
  cases hp : p l[k] <;> simp [hp]
theorem one_ss {w : World} (x : List UInt8) : Ss (Lt (w.heap.size + 1)) (w.alloc (.cells #[.string ⟨x.toArray⟩] 9)) (.slice (some ⟨w.heap.size, 0, none⟩) 1 1) [x] := ⟨row_one, by unfold lim; simp⟩
theorem tlist_take (l : List Th) (p : List UInt8) (k : Nat) (h : k < l.length) : tlist (l.take (k + 1)) p = tlist (l.take k) p ++ if pfx p l[k].1 then [l[k].1] else [] := by
  unfold tlist
  rw [List.map_take, List.map_take, take_filter _ _ _ (by simpa using h)]
  simp
theorem tlist_len (l : List Th) (p : List UInt8) (k : Nat) : (tlist (l.take k) p).length ≤ l.length := by
  unfold tlist
  refine Nat.le_trans (List.length_filter_le _ _) ?_
  simp
  exact Nat.min_le_right _ _
set_option maxRecDepth 100000 in
set_option maxHeartbeats 1000000 in
/-- groyneref10.List -/
theorem rlist_any {A : Nat → Prop} {w : World} {v : Value} {l : List Th} (p : List UInt8) (h : Ts A w v l) (hp : p.length ≤ maxLen) (hs : ∀ t ∈ l, t.1.length ≤ maxLen) : Calls Try.prog 55 #[v, .string ⟨p.toArray⟩] w fun e w' => ∃ u, e = .returned u ∧ So 9 w.heap.size w' u (tlist l p) ∧ Below w.heap.size w w' := by
  obtain ⟨a, c, rfl, hc, _, hm, _⟩ := h.at
  have HH := Hid.mk' h
  have HS := Hid.mk' hs
  have hm' : (l.length : Int) ≤ 1000000 := by omega
  have e2 : (⟨p.toArray⟩ : ByteArray).size = p.length := by simp [ByteArray.size]
  clear h hs
  go_enter Try.func55, Try.ntmps55
  go_wp2_with fail
  go_loopw [5, 6] (fun u i wr => ∃ k : Nat, k ≤ l.length ∧ i = .int .i64 k ∧ Hid (So 9 w.heap.size wr u (tlist (l.take k) p)) ∧ Hid (Below w.heap.size w wr)) (fun _ i _ => l.length - (intOf i).toNat)
  case atStart => exact ⟨0, by omega, rfl, so_nil, Below.refl _ _⟩
  case round =>
    obtain ⟨k, hk, rfl, HO, HB⟩ := hrel
    by_cases hlt : k < l.length
    · have hlt' : (k : Int) < (l.length : Int) := by omega
      obtain ⟨_, _, ec, _, _, _, H⟩ := (HH.out.up HB.out).at
      cases ec
      obtain ⟨b, o, u, rfl, _, h1, h2, h3⟩ := H k hlt
      have HT := Hid.mk' (tlist_take l p k hlt)
      have HLN := Hid.mk' (tlist_len l p k)
      have hsl := HS.out l[k] (List.getElem_mem hlt)
      clear h2 h3 H
      generalize l[k] = t at *
      have e1 : (⟨t.1.toArray⟩ : ByteArray).size = t.1.length := by simp [ByteArray.size]
      have e3 := ba_take t.1 p.length
      by_cases h5 : p.length ≤ t.1.length
      · have h5' : (p.length : Int) ≤ (t.1.length : Int) := by omega
        have HX : Hid (pfx p t.1 = (t.1.take p.length == p)) := by show _ = _; unfold pfx; simp [h5]
        cases hd : (t.1.take p.length == p) with
        | true =>
          have HV : Hid (tlist (l.take (k + 1)) p = tlist (l.take k) p ++ [t.1]) := by show _ = _; rw [HT.out, HX.out, hd]; simp
          clear h5
          obtain ⟨ua, uc, eu⟩ := HO.out.slice
          go_wp2_with (at_builtin; refine app75 rfl (.tmp 34) (.tmp 40) rfl rfl (HO.out.alloc _) rfl (one_ss t.1) (by have := HLN.out; simp; unfold lim; omega) (by have := HB.out.size; simp; omega) ?_; intro v5 w5 ho5 hg5; have HO5 := Hid.mk' ho5; have HB5 := Hid.mk' (below_appS (HB.out.trans ((up_alloc wr _).mono HB.out.size)) (HO.out.alloc _) hg5 (Nat.le_refl _) (Nat.le_trans HB.out.size (up_alloc wr _).size)); clear ho5 hg5)
          go_roundw
          case rel => exact ⟨k + 1, by omega, by go_num, by rw [HV.out]; exact HO5, HB5⟩
          case measure => simp [intOf]; omega
        | false =>
          have HV : Hid (tlist (l.take (k + 1)) p = tlist (l.take k) p) := by show _ = _; rw [HT.out, HX.out, hd]; simp
          go_wp2_with fail
          go_roundw
          case rel => exact ⟨k + 1, by omega, by go_num, by rw [HV.out]; exact HO, HB⟩
          case measure => simp [intOf]; omega
      · have h5' : ¬ (p.length : Int) ≤ (t.1.length : Int) := by omega
        have HV : Hid (tlist (l.take (k + 1)) p = tlist (l.take k) p) := by
          show _ = _; rw [HT.out, show pfx p t.1 = false by unfold pfx; simp [h5]]; simp
        go_wp2_with fail
        go_roundw
        case rel => exact ⟨k + 1, by omega, by go_num, by rw [HV.out]; exact HO, HB⟩
        case measure => simp [intOf]; omega
    · obtain rfl : k = l.length := by omega
      have HV : Hid (tlist (l.take l.length) p = tlist l p) := by show _ = _; rw [List.take_length]
      go_wp2_with fail
      go_ret
      exact ⟨_, rfl, by rw [← HV.out]; exact HO.out, HB.out⟩
end Go.Proofs.Ytfmbbpfklhkljaa
