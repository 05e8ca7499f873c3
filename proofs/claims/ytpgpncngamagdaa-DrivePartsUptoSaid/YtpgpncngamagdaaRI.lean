/- groyneref04.do: bytes at a place. -/
import Derived.Test.YtpgpncngamagdaaRH
import Derived.BigRegion
set_option linter.unusedVariables false
set_option linter.unusedSimpArgs false
namespace Go.Proofs.Ytpgpncngamagdaa
open Go.RowKit
attribute [local go_sem ↓] Go.wp_at_zero Go.wp_at_succ
theorem wrt_le {o : By} {i : Nat} (x : By) (h : i ≤ o.length) : wrt o i x = o.take i ++ x ++ o.drop (i + x.length) := by
  simp only [wrt]
  rw [List.take_append_of_le_length h]
  by_cases h2 : i + x.length ≤ o.length
  · rw [List.drop_append_of_le_length h2]
    have : max o.length (i + x.length) - o.length = 0 := by omega
    rw [this]; simp
  · rw [List.drop_of_length_le (l := o) (by omega), List.drop_of_length_le (by simp; omega)]
theorem wrt_nil {o : By} {i : Nat} (h : i ≤ o.length) : wrt o i [] = o := by
  rw [wrt_le _ h]; simp
theorem wrt_set {o l : By} {i k : Nat} (h : i ≤ o.length) (hk : k < l.length) (hl : i + k < o.length) : (wrt o i (l.take k)).set (i + k) l[k] = wrt o i (l.take (k + 1)) := by
  rw [wrt_le _ h, wrt_le _ h, List.take_succ_eq_append_getElem hk]
  have e1 : (l.take k).length = k := by rw [List.length_take]; omega
  have e2 : (o.take i).length = i := by rw [List.length_take]; omega
  rw [List.length_append, e1, List.length_singleton, List.set_append_right _ _ (by rw [List.length_append, e1, e2]; omega)]
  have e3 : i + k - (o.take i ++ l.take k).length = 0 := by rw [List.length_append, e1, e2]; omega
  rw [e3, List.drop_eq_getElem_cons hl, List.set_cons_zero, Nat.add_assoc]
  simp only [List.append_assoc, List.cons_append, List.nil_append]
theorem wrt_app {o l : By} {i k : Nat} (h : i ≤ o.length) (hk : k < l.length) (hl : o.length ≤ i + k) : wrt o i (l.take k) ++ [l[k]] = wrt o i (l.take (k + 1)) := by
  rw [wrt_le _ h, wrt_le _ h, List.take_succ_eq_append_getElem hk]
  have e1 : (l.take k).length = k := by rw [List.length_take]; omega
  rw [List.length_append, e1, List.length_singleton, List.drop_of_length_le (by omega), List.drop_of_length_le (by omega)]
  simp
theorem wrt_tlen {o l : By} {i k : Nat} (hk : k ≤ l.length) : (wrt o i (l.take k)).length = max o.length (i + k) := by
  rw [wrt_len, List.length_take]; congr 2; omega
set_option maxRecDepth 100000 in
set_option maxHeartbeats 4000000 in
/-- groyneref04.do, bytes at a place -/
theorem rdo_write {A A' : Nat → Prop} {w : World} {v u : Value} {F : Fl} {n l : By} {i : Nat} (k : Nat) (h : Ts A w v F) (hS : Srt F) (hu : Bs A' w u l) (hl : F.length ≤ 900000) (hi : i ≤ (foz F n).length) (hk1 : 1 ≤ k) (hk2 : k ≤ l.length + 1) (hz : i + l.length ≤ lim) :
    Calls Try.prog 70 #[v, .agg #[.int .i64 1, .string ⟨n.toArray⟩, .string ⟨#[]⟩, .int .i64 (i : Int), u], .int .i64 (k : Int)] w fun e w' => ∃ x, e = .returned x ∧ Ts (fun k => A k ∨ w.heap.size ≤ k) w' x (fput F n (wrt (foz F n) i (l.take (k - 1)))) ∧ Below w.heap.size w w' := by
  obtain ⟨a, c, rfl, hc, _, _, _⟩ := h.at
  obtain ⟨ua, uc, rfl, _, _, HUC⟩ := hu.at
  have HT := Hid.mk' h
  have HU := Hid.mk' hu
  have HUC := Hid.mk' HUC
  have HS := Hid.mk' hS
  have HL := Hid.mk' hl
  have HI := Hid.mk' hi
  have hz' : (i : Int) + (l.length : Int) ≤ 140737488351232 := by unfold lim at hz; omega
  obtain ⟨m, rfl⟩ : ∃ m, k = m + 1 := ⟨k - 1, by omega⟩
  rw [Nat.add_sub_cancel]
  have hml : m ≤ l.length := by omega
  clear h hu hS hl hi hc hk1 hk2 hz
  go_enter Try.func70, Try.ntmps70
  have hup := up_alloc w (.cells #[.int .i64 1, .string ⟨n.toArray⟩, .string ⟨#[]⟩, .int .i64 (i : Int), .slice ua l.length uc] 68)
  have hbx : (w.alloc (.cells #[.int .i64 1, .string ⟨n.toArray⟩, .string ⟨#[]⟩, .int .i64 (i : Int), .slice ua l.length uc] 68)).heap[w.heap.size]? = some (.cells #[.int .i64 1, .string ⟨n.toArray⟩, .string ⟨#[]⟩, .int .i64 (i : Int), .slice ua l.length uc] 68 (0, 0)) := heap_alloc_new w _
  have HB0 := Hid.mk' hup
  have HBX := Hid.mk' hbx
  clear hup hbx
  go_wp2_with fail
  refine (get_any n (HT.out.up HB0.out)).mono ?_
  rintro e w1 ⟨⟨u1, rfl, hu1⟩, rfl⟩
  obtain ⟨a1, c1, rfl, _⟩ := hu1.at
  have HU1 := Hid.mk' hu1
  obtain ⟨W, hW⟩ : ∃ W, W = w.alloc (.cells #[.int .i64 1, .string ⟨n.toArray⟩, .string ⟨#[]⟩, .int .i64 (i : Int), .slice ua l.length uc] 68) := ⟨_, rfl⟩
  rw [← hW] at HU1 HB0 HBX ⊢
  clear hW hu1
  have q1 : W.cell? ⟨w.heap.size, 0, none⟩ = some (.int .i64 1) := by simp only [World.cell?, HBX.out]; rfl
  have q2 : W.cell? ⟨w.heap.size, 1, none⟩ = some (.string ⟨n.toArray⟩) := by simp only [World.cell?, HBX.out]; rfl
  have q4 : W.cell? ⟨w.heap.size, 3, none⟩ = some (.int .i64 (i : Int)) := by simp only [World.cell?, HBX.out]; rfl
  have q5 : W.cell? ⟨w.heap.size, 4, none⟩ = some (.slice ua l.length uc) := by simp only [World.cell?, HBX.out]; rfl
  generalize (fget F n).isSome = bb at *
  have HOL := Hid.mk' HU1.out.2
  have hol : ((foz F n).length : Int) ≤ 140737488351232 := by have := HOL.out; unfold lim at this; omega
  go_wp2_with fail
  refine (copy_any _ (foz F n) W HU1.out).mono ?_
  rintro e w2 ⟨v2, rfl, hb2, o2⟩
  have HB2 := Hid.mk' hb2
  obtain ⟨a2, c2, rfl⟩ := own_slice o2
  have O2 : Hid (Ob 5 W.heap.size w2 (.slice a2 (foz F n).length c2) (wrt (foz F n) i (l.take 0))) := by rw [List.take_zero, wrt_nil HI.out]; exact o2
  have HSZ : Hid (w.heap.size < W.heap.size) := (Array.getElem?_eq_some_iff.1 HBX.out).1
  clear hb2 o2 q1 q2 q4 q5
  go_wp2_with fail
  go_loopw [9, 10] (fun x j wr => ∃ t : Nat, t ≤ m ∧ j = .int .i64 t ∧ Hid (Ob 5 W.heap.size wr x (wrt (foz F n) i (l.take t))) ∧ Hid (Below W.heap.size W wr)) (fun _ j _ => m - (intOf j).toNat)
  case atStart => exact ⟨0, by omega, rfl, O2, HB2⟩
  case round =>
    clear O2 HB2
    obtain ⟨t, ht, rfl, HO, HB⟩ := hrel
    have HLEN := Hid.mk' (wrt_tlen (o := foz F n) (i := i) (l := l) (k := t) (by omega))
    have q2 : wr.cell? ⟨w.heap.size, 1, none⟩ = some (.string ⟨n.toArray⟩) := by rw [HB.out.cell (p := ⟨w.heap.size, 1, none⟩) HSZ.out]; simp only [World.cell?, HBX.out]; rfl
    have q4 : wr.cell? ⟨w.heap.size, 3, none⟩ = some (.int .i64 (i : Int)) := by rw [HB.out.cell (p := ⟨w.heap.size, 3, none⟩) HSZ.out]; simp only [World.cell?, HBX.out]; rfl
    have q5 : wr.cell? ⟨w.heap.size, 4, none⟩ = some (.slice ua l.length uc) := by rw [HB.out.cell (p := ⟨w.heap.size, 4, none⟩) HSZ.out]; simp only [World.cell?, HBX.out]; rfl
    by_cases hlt : t < m
    · have htl : t < l.length := by omega
      obtain ⟨d1, d2, rfl, _, hd⟩ := HUC.out t htl
      have hdw := cell_later (bt HB0.out HB.out) hd
      clear hd
      have hti : (t : Int) < (m : Int) := by omega
      have HI' := HI.out
      obtain ⟨N, hN⟩ : ∃ N, N = (wrt (foz F n) i (l.take t)).length := ⟨_, rfl⟩
      have HN := Hid.mk' hN
      by_cases hcmp : i + t < (foz F n).length
      · have hc2 : (i : Int) + (t : Int) < ((foz F n).length : Int) := by omega
        have HST := Hid.mk' (wrt_set HI.out htl hcmp)
        have hNN : N = (foz F n).length := by rw [hN, HLEN.out]; omega
        obtain ⟨g, cc, e9⟩ := HO.out.form (by rw [← hN, hNN]; omega)
        rw [← hN, hNN] at e9
        subst e9
        have hfz := HO.out.frozen (i + t)
        obtain ⟨z9, hz9⟩ : ∃ z9, wr.cell? ⟨g, i + t, none⟩ = some z9 := ⟨_, HO.out.cell (i + t) (by rw [HLEN.out]; omega)⟩
        have HO2 := Hid.mk' (HO.out.set (i + t) l[t])
        rw [HST.out] at HO2
        have HB2 := Hid.mk' (HB.out.setCell (p := ⟨g, i + t, none⟩) (Ob.len HO.out).2.1 (.int .u8 (l[t].toNat : Int)))
        generalize l[t] = y at *
        have hw : IntKind.i64.wrap ((i : Int) + (t : Int)) = (i : Int) + (t : Int) := by rw [IntKind.wrap_i64]; omega
        have hnn : ((i : Int) + (t : Int)).toNat = i + t := by omega
        clear hN HST
        go_wp2_with fail
        go_big_region
        clear hw hnn
        go_wp2_with fail
        go_roundw
        case rel => exact ⟨t + 1, by omega, by go_num, HO2, HB2.drew⟩
        case measure => simp [intOf]; omega
      · have hc2 : ¬ (i : Int) + (t : Int) < ((foz F n).length : Int) := by omega
        have hol2 : (foz F n).length ≤ i + t := by omega
        have HST := Hid.mk' (wrt_app HI.out htl hol2)
        have HLM : Hid (max (foz F n).length (i + t) ≤ 140737488351232) := by show _ ≤ _; omega
        obtain ⟨a9, c9, e9⟩ := own_slice HO.out
        have hN2 : N = i + t := by rw [hN, HLEN.out]; omega
        rw [← hN, hN2] at e9
        subst e9
        have hup := up_alloc wr (.cells #[.int .u8 (l[t].toNat : Int)] 5)
        have HBU := Hid.mk' (HB.out.trans (hup.mono HB.out.size))
        have HOU := Hid.mk' (Ob.alloc HO.out (.cells #[.int .u8 (l[t].toNat : Int)] 5))
        clear hup
        generalize l[t] = y at *
        clear hN HN hN2 hcmp
        go_wp2_with (at_builtin; go_must (refine app32 rfl (.tmp 48) (.tmp 54) rfl rfl HOU.out rfl (one_bs y) (by rw [HLEN.out, List.length_singleton]; unfold lim; omega) (by have := HBU.out.size; exact this) ?_); intro v5 w5 ho5 hg5 n5 k5; clear n5 k5; have HO5 := Hid.mk' ho5; have HB5 := Hid.mk' (below_app HBU.out HOU.out hg5 (Nat.le_refl _) HBU.out.size); clear ho5 hg5)
        go_roundw
        case rel => exact ⟨t + 1, by omega, by go_num, by rw [← HST.out]; exact HO5, HB5⟩
        case measure => simp [intOf]; omega
    · obtain rfl : t = m := by omega
      obtain ⟨a9, c9, e9⟩ := own_slice HO.out
      have HP := Hid.mk' (rput_any n (HT.out.up (bt HB0.out HB.out)) HS.out (⟨Row.of_ownB HO.out, by rw [HLEN.out]; have := HOL.out; have := HI.out; unfold lim at *; omega⟩ : Bs (fun j => W.heap.size ≤ j) wr _ _) HL.out)
      have HBW := Hid.mk' (bt HB0.out HB.out)
      obtain ⟨W9, hW9⟩ : ∃ W9, W9 = wrt (foz F n) i (l.take t) := ⟨_, rfl⟩
      rw [← hW9] at HP e9
      have HW9 := Hid.mk' hW9
      clear hW9
      subst e9
      clear hol HOL HI HU1
      go_wp2_with fail
      refine HP.out.mono ?_
      rintro e w9 ⟨x9, rfl, t9, b9⟩
      have T9 := Hid.mk' t9
      have B9 := Hid.mk' (bt HBW.out b9)
      have Z9 : Hid (w.heap.size ≤ wr.heap.size) := HBW.out.size
      clear t9 b9 HP
      go_wp2_with fail
      go_ret
      rw [← HW9.out]
      refine ⟨x9, rfl, T9.out.monoS fun k hk => ?_, B9.out⟩
      rcases hk with hk | hk | hk
      · exact .inl hk
      · exact .inr (Nat.le_trans HB0.out.size hk)
      · exact .inr (Nat.le_trans Z9.out hk)
end Go.Proofs.Ytpgpncngamagdaa
