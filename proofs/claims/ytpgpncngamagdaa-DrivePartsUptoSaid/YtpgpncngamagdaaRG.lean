/- groyneref04: get, out, put, Units. -/
import Derived.Test.YtpgpncngamagdaaRK
set_option linter.unusedVariables false
set_option linter.unusedSimpArgs false
namespace Go.Proofs.Ytpgpncngamagdaa
open Go.RowKit
attribute [local go_sem ↓] Go.wp_at_zero Go.wp_at_succ
theorem fget_drop (l : Fl) (s : By) (k : Nat) (h : k < l.length) : fget (l.drop k) s = if s = l[k].1 then some l[k].2 else fget (l.drop (k + 1)) s := by
  rw [List.drop_eq_getElem_cons h, fget]
set_option maxRecDepth 100000 in
set_option maxHeartbeats 1000000 in
/-- groyneref04.get -/
theorem get_any {A : Nat → Prop} {w : World} {v : Value} {l : Fl} (s : By) (h : Ts A w v l) : Calls Try.prog 69 #[v, .string ⟨s.toArray⟩] w fun e w' => (∃ u, e = .returned (.tuple #[u, .bool (fget l s).isSome]) ∧ Bs A w u (foz l s)) ∧ w = w' := by
  obtain ⟨a, c, rfl, hc, _, hm, H⟩ := h.at
  have H := Hid.mk' H
  have hm' : (l.length : Int) ≤ 1000000 := by omega
  clear h
  go_enter Try.func69, Try.ntmps69
  go_wp2_with fail
  go_loop [6] (fun i => ∃ k : Nat, k ≤ l.length ∧ i = .int .i64 k ∧ Hid (fget l s = fget (l.drop k) s)) (fun i => l.length - (intOf i).toNat)
  case atStart => exact ⟨0, by omega, rfl, rfl⟩
  case round =>
    obtain ⟨k, hk, rfl, HT⟩ := hrel
    by_cases hlt : k < l.length
    · have hlt' : (k : Int) < (l.length : Int) := by omega
      obtain ⟨b, o, u, rfl, _, h1, h2, h3⟩ := H.out k hlt
      have HS := Hid.mk' (fget_drop l s k hlt)
      obtain ⟨ua, uc, rfl, _⟩ := h3.at
      have H3 := Hid.mk' h3
      clear h3
      generalize l[k] = t at *
      cases hd : (t.1 == s) with
      | true =>
        have HV : Hid (fget l s = some t.2) := by show _ = _; rw [HT.out, HS.out, if_pos (by simpa using (beq_iff_eq.1 hd).symm)]
        go_wp2_with fail
        go_ret2
        refine ⟨⟨.slice ua t.2.length uc, ?_, by unfold foz; rw [HV.out]; exact H3.out⟩, rfl⟩
        rw [HV.out]; rfl
      | false =>
        have HV : Hid (fget l s = fget (l.drop (k + 1)) s) := by show _ = _; rw [HT.out, HS.out, if_neg (by rw [beq_eq_false_iff_ne] at hd; exact fun e => hd e.symm)]
        go_wp2_with fail
        go_round
        case rel => exact ⟨k + 1, by omega, by go_num, HV⟩
        case measure => simp [intOf]; omega
    · obtain rfl : k = l.length := by omega
      have HV : Hid (fget l s = none) := by show _ = _; rw [HT.out, List.drop_length]; rfl
      go_wp2_with fail
      go_ret2
      refine ⟨⟨.slice none 0 0, ?_, by unfold foz; rw [HV.out]; exact bs_nil⟩, rfl⟩
      rw [HV.out]; rfl
theorem fdel_filter {F : Fl} (hF : Srt F) (s : By) : fdel F s = F.filter (fun t => t.1 != s) := by
  induction F with
  | nil => rfl
  | cons a r ih =>
    obtain ⟨n, m⟩ := a
    have h2 := (List.pairwise_cons.1 hF).1
    rw [fdel, List.filter_cons]
    split
    · rename_i e; subst e
      rw [if_neg (by simp)]
      symm
      rw [List.filter_eq_self]
      intro t ht
      have := h2 t ht
      simp only [bne_iff_ne, ne_eq]
      intro e; rw [← e] at this; exact by_irr _ this
    · rename_i e
      rw [if_pos (by simp only [bne_iff_ne, ne_eq]; exact fun e' => e e'.symm), ih hF.tail]
theorem flt_take (L : List Tq) (s : By) (k : Nat) (h : k < L.length) : (L.take (k + 1)).filter (fun q => q.1.1 != s) = (L.take k).filter (fun q => q.1.1 != s) ++ if L[k].1.1 != s then [L[k]] else [] := by
  rw [List.take_succ_eq_append_getElem h, List.filter_append]
  congr 1
  simp only [List.filter_cons, List.filter_nil]
set_option maxRecDepth 100000 in
set_option maxHeartbeats 1000000 in
/-- groyneref04.out -/
theorem rout_any {A : Nat → Prop} {w : World} {v : Value} {l : Fl} (s : By) (h : Ts A w v l) (hS : Srt l) : Calls Try.prog 80 #[v, .string ⟨s.toArray⟩] w fun e w' => ∃ x, e = .returned x ∧ Ts (fun k => A k ∨ w.heap.size ≤ k) w' x (fdel l s) ∧ Below w.heap.size w w' := by
  rw [fdel_filter hS]
  clear hS
  obtain ⟨L, rfl, hrow, hel, hn⟩ := h
  obtain ⟨_, a, c, rfl, hc, _, _⟩ := id hrow
  have HE := Hid.mk' hel
  have HR := Hid.mk' hrow
  have hm' : (L.length : Int) ≤ 1000000 := by omega
  clear hrow hel hc
  go_enter Try.func80, Try.ntmps80
  go_wp2_with fail
  go_loopw [5, 6] (fun x i wr => ∃ k : Nat, k ≤ L.length ∧ i = .int .i64 k ∧ Hid (wr.ownsRow w.heap.size 114 2 x ((L.take k).filter fun q => q.1.1 != s).length (tcs ((L.take k).filter fun q => q.1.1 != s))) ∧ Hid (Below w.heap.size w wr)) (fun _ i _ => L.length - (intOf i).toNat)
  case atStart => exact ⟨0, by omega, rfl, World.ownsRow_nil _ _ _ _, Below.refl _ _⟩
  case round =>
    obtain ⟨k, hk, rfl, HO, HB⟩ := hrel
    by_cases hlt : k < L.length
    · have hlt' : (k : Int) < (L.length : Int) := by omega
      have HFL : Hid (((L.take k).filter fun q => q.1.1 != s).length ≤ L.length) := Nat.le_trans (List.length_filter_le _ _) (by rw [List.length_take]; exact Nat.min_le_right _ _)
      obtain ⟨g1, g2⟩ := tcs_get L k hlt
      obtain ⟨_, _, _, ev, _, _, HC⟩ := HR.out.up HB.out
      cases ev
      obtain ⟨b, o, rfl, _, e3⟩ := HC _ _ g1
      obtain ⟨b', o', eb, _, e3'⟩ := HC _ _ g2
      cases eb
      have HT := Hid.mk' (flt_take L s k hlt)
      have HQ := Hid.mk' (HE.out L[k] (List.getElem_mem hlt))
      clear g1 g2 HC
      generalize L[k] = q at *
      have q2 : wr.cell? ⟨b, o + k * 2 + 1, none⟩ = some q.2 := e3'
      clear e3'
      cases hd : (q.1.1 == s) with
      | true =>
        have HV : Hid ((L.take (k + 1)).filter (fun q => q.1.1 != s) = (L.take k).filter (fun q => q.1.1 != s)) := by show _ = _; rw [HT.out, bne, hd]; simp
        have hd2 : (q.1.1 != s) = false := by rw [bne, hd]; rfl
        go_wp2_with fail
        go_roundw
        case rel => exact ⟨k + 1, by omega, by go_num, by rw [HV.out]; exact HO, HB⟩
        case measure => simp [intOf]; omega
      | false =>
        have HV : Hid ((L.take (k + 1)).filter (fun q => q.1.1 != s) = (L.take k).filter (fun q => q.1.1 != s) ++ [q]) := by show _ = _; rw [HT.out, bne, hd]; simp
        have hd2 : (q.1.1 != s) = true := by rw [bne, hd]; rfl
        have hup := up_alloc wr (.cells #[.string ⟨q.1.1.toArray⟩, q.2] 114)
        have HBU := Hid.mk' (HB.out.trans (hup.mono HB.out.size))
        have HOU : Hid ((wr.alloc (.cells #[.string ⟨q.1.1.toArray⟩, q.2] 114)).ownsRow w.heap.size 114 2 u5 ((L.take k).filter fun q => q.1.1 != s).length (tcs ((L.take k).filter fun q => q.1.1 != s))) := World.ownsRow.alloc HO.out _
        obtain ⟨da, dc, ed, _⟩ := HQ.out.at
        rw [ed] at q2 HOU HBU
        clear hup
        go_wp2_with (at_builtin; go_must (refine app48 (L := (L.take k).filter fun q => q.1.1 != s) (M := [q]) rfl (.tmp 20) (.tmp 25) rfl rfl HOU.out rfl (by rw [← ed]; exact one_row2 q) (fun x hx => by obtain rfl := List.mem_singleton.1 hx; exact ⟨_, _, HQ.out⟩) (by have := HFL.out; rw [List.length_singleton]; omega) (by have := HBU.out.size; exact this) ?_); intro v5 w5 ho5 hg5; have HO5 := Hid.mk' ho5; have HB5 := Hid.mk' (below_app HBU.out HOU.out hg5 (Nat.le_refl _) HBU.out.size); clear ho5 hg5)
        go_roundw
        case rel => exact ⟨k + 1, by omega, by go_num, by rw [HV.out]; exact HO5, HB5⟩
        case measure => simp [intOf]; omega
    · obtain rfl : k = L.length := by omega
      have HV : Hid (L.take L.length = L) := List.take_length
      go_wp2_with fail
      go_ret
      refine ⟨_, rfl, ?_, HB.out⟩
      have h1 := HO.out
      rw [HV.out] at h1
      have h2 := ts_own (A := A) h1 (fun q hq => ((HE.out q (List.mem_filter.1 hq).1).up HB.out).monoS fun _ hk => .inl hk) (Nat.le_trans (List.length_filter_le _ _) hn)
      have h3 : (L.map (·.1)).filter (fun t => t.1 != s) = (L.filter fun q => q.1.1 != s).map (·.1) := by rw [List.filter_map]; rfl
      rw [h3]; exact h2
end Go.Proofs.Ytpgpncngamagdaa
