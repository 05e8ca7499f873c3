/- groyneref04: put, Units. -/
import Derived.Test.YtpgpncngamagdaaRG
set_option linter.unusedVariables false
set_option linter.unusedSimpArgs false
namespace Go.Proofs.Ytpgpncngamagdaa
open Go.RowKit
attribute [local go_sem ↓] Go.wp_at_zero Go.wp_at_succ
/-- where a new name goes -/
def fps : Fl → By → Nat
  | [], _ => 0
  | t :: r, s => if s < t.1 then 0 else fps r s + 1
theorem fps_le (F : Fl) (s : By) : fps F s ≤ F.length := by
  induction F with
  | nil => exact Nat.le_refl _
  | cons t r ih => rw [fps]; split <;> simp <;> omega
theorem fps_lt {F : Fl} {s : By} {k : Nat} (h : k < fps F s) (h' : k < F.length) : ¬ s < F[k].1 := by
  induction F generalizing k with
  | nil => simp [fps] at h
  | cons t r ih =>
    rw [fps] at h
    split at h
    · omega
    · rename_i hn
      cases k with
      | zero => exact hn
      | succ k => exact ih (by omega) (by simp at h'; omega)
theorem fps_at {F : Fl} {s : By} (h : fps F s < F.length) : s < F[fps F s].1 := by
  induction F with
  | nil => simp at h
  | cons t r ih =>
    by_cases hn : s < t.1
    · simp only [fps, if_pos hn]; exact hn
    · simp only [fps, if_neg hn] at h ⊢
      simp only [List.getElem_cons_succ]
      exact ih (by simp at h; omega)
theorem fput_pos {F : Fl} (hF : Srt F) (s b : By) : fput F s b = (fdel F s).take (fps (fdel F s) s) ++ [(s, b)] ++ (fdel F s).drop (fps (fdel F s) s) := by
  induction F with
  | nil => rfl
  | cons a r ih =>
    obtain ⟨n, m⟩ := a
    have h2 := (List.pairwise_cons.1 hF).1
    rw [fput, fdel]
    split
    · rename_i e; subst e
      have e0 : fps r s = 0 := by
        cases r with
        | nil => rfl
        | cons t r => rw [fps, if_pos (h2 t (List.mem_cons_self ..))]
      rw [e0]; rfl
    · rename_i e
      split
      · rename_i e'
        have e0 : fdel r s = r := by
          have : ∀ (r : Fl), (∀ t ∈ r, n < t.1) → fdel r s = r := by
            intro r
            induction r with
            | nil => intro _; rfl
            | cons t r ih =>
              intro h
              obtain ⟨x, y⟩ := t
              rw [fdel, if_neg (fun e2 => by subst e2; exact by_irr _ (by_tr e' (h _ (List.mem_cons_self ..)))), ih fun t ht => h t (List.mem_cons_of_mem _ ht)]
          exact this r h2
        rw [e0, fps, if_pos e']; rfl
      · rename_i e'
        rw [fps, if_neg e', ih hF.tail]
        simp
def pinL (L : List Tq) (z : Tq) (p k : Nat) : List Tq := if p < k then L.take p ++ [z] ++ (L.take k).drop p else L.take k
theorem pin_lt (L : List Tq) (z : Tq) (p k : Nat) (h : k < p) (hk : k < L.length) : pinL L z p k ++ [L[k]] = pinL L z p (k + 1) := by
  unfold pinL
  rw [if_neg (by omega), if_neg (by omega), List.take_succ_eq_append_getElem hk]
theorem pin_at (L : List Tq) (z : Tq) (k : Nat) (hk : k < L.length) : pinL L z k k ++ [z] ++ [L[k]] = pinL L z k (k + 1) := by
  unfold pinL
  rw [if_neg (by omega), if_pos (by omega), List.take_succ_eq_append_getElem hk, List.drop_append_of_le_length (by simp; omega)]
  rw [List.drop_of_length_le (l := L.take k) (by rw [List.length_take]; omega)]; simp
theorem pin_gt (L : List Tq) (z : Tq) (p k : Nat) (h : p < k) (hk : k < L.length) : pinL L z p k ++ [L[k]] = pinL L z p (k + 1) := by
  unfold pinL
  rw [if_pos h, if_pos (by omega), List.take_succ_eq_append_getElem hk, List.drop_append_of_le_length (by simp; omega), List.append_assoc _ _ [L[k]]]
theorem pin_len (L : List Tq) (z : Tq) (p k : Nat) : (pinL L z p k).length ≤ L.length + 1 := by
  unfold pinL
  split
  · simp; omega
  · simp; omega
theorem pin_mem {L : List Tq} {z : Tq} {p k : Nat} {q : Tq} (h : q ∈ pinL L z p k) : q = z ∨ q ∈ L := by
  unfold pinL at h
  split at h
  · simp only [List.mem_append, List.mem_singleton] at h
    rcases h with (h | h) | h
    · exact .inr (List.mem_of_mem_take h)
    · exact .inl h
    · exact .inr (List.mem_of_mem_take (List.mem_of_mem_drop h))
  · exact .inr (List.mem_of_mem_take h)
set_option maxRecDepth 100000 in
set_option maxHeartbeats 2000000 in
/-- groyneref04.put -/
theorem rput_any {A A' : Nat → Prop} {w : World} {v u : Value} {l : Fl} {c : By} (s : By) (h : Ts A w v l) (hS : Srt l) (hu : Bs A' w u c) (hl : l.length ≤ 900000) : Calls Try.prog 79 #[v, .string ⟨s.toArray⟩, u] w fun e w' => ∃ x, e = .returned x ∧ Ts (fun k => A k ∨ A' k ∨ w.heap.size ≤ k) w' x (fput l s c) ∧ Below w.heap.size w w' := by
  have HP := Hid.mk' (fput_pos hS s c)
  have HG := Hid.mk' (show (fdel l s).length ≤ l.length by rw [len_del]; split <;> omega)
  obtain ⟨ua, uc, rfl, _⟩ := hu.at
  have HU := Hid.mk' hu
  obtain ⟨a, ca, rfl, hca, _, _⟩ := h.at
  have HR := Hid.mk' (rout_any s h hS)
  have HL := Hid.mk' hl
  have HS := Hid.mk' hS
  clear hu h hS hl hca
  go_enter Try.func79, Try.ntmps79
  go_wp2_with fail
  refine HR.out.mono ?_
  rintro e w1 ⟨x1, rfl, t1, b1⟩
  obtain ⟨L, e1, hrow, hel, hn⟩ := t1
  have HEQ := Hid.mk' e1
  obtain ⟨_, a1, c1, rfl, hc, _, _⟩ := id hrow
  have hLl : L.length ≤ 900000 := by have := HG.out; have := HL.out; rw [← HEQ.out, List.length_map] at *; omega
  have HE := Hid.mk' hel
  have HR1 := Hid.mk' hrow
  have HB1 := Hid.mk' b1
  obtain ⟨p, hp⟩ : ∃ p, p = fps (fdel l s) s := ⟨_, rfl⟩
  have HPP := Hid.mk' hp
  have hpl : p ≤ L.length := by rw [hp, ← e1]; have := fps_le (L.map (·.1)) s; simpa using this
  have HNE : Hid (∀ k (h : k < L.length), L[k].1.1 ≠ s) := fun k h1 e => by
    have h2 : L[k].1 ∈ fdel l s := by rw [← HEQ.out]; exact List.mem_map.2 ⟨_, List.getElem_mem h1, rfl⟩
    rw [fdel_filter HS.out] at h2
    have h3 := (List.mem_filter.1 h2).2
    simp [e] at h3
  have HLT : Hid (∀ k (h : k < L.length), k < p → Op.bytesLess L[k].1.1 s = true) := fun k h1 h2 => by
    have h3 := fps_lt (F := fdel l s) (s := s) (k := k) (by rw [← HPP.out]; exact h2) (by rw [← HEQ.out]; simpa using h1)
    have h4 : ¬ s < L[k].1.1 := by simpa [← HEQ.out] using h3
    rw [bytesLess_eq, decide_eq_true_eq]
    exact by_tri (fun e => HNE.out k h1 e.symm) h4
  have HAT : Hid (∀ h : p < L.length, Op.bytesLess L[p].1.1 s = false) := fun h => by
    have h3 := fps_at (F := fdel l s) (s := s) (by rw [← HPP.out, ← HEQ.out]; simpa using h)
    simp only [← HPP.out] at h3
    have h4 : s < L[p].1.1 := by simpa [← HEQ.out] using h3
    rw [bytesLess_eq, decide_eq_false_iff_not]
    exact fun h5 => by_irr _ (by_tr h4 h5)
  have hm' : (L.length : Int) ≤ 900000 := by omega
  clear e1 hp hrow hel hn b1 HR hc
  go_wp2_with fail
  go_loopw [7, 8, 9] (fun m d i wr => ∃ k : Nat, k ≤ L.length ∧ i = .int .i64 k ∧ d = .bool (decide (p < k)) ∧ Hid (wr.ownsRow w1.heap.size 114 2 m (pinL L ((s, c), Value.slice ua c.length uc) p k).length (tcs (pinL L ((s, c), Value.slice ua c.length uc) p k))) ∧ Hid (Below w1.heap.size w1 wr)) (fun _ _ i _ => L.length - (intOf i).toNat)
  case atStart => exact ⟨0, by omega, rfl, rfl, World.ownsRow_nil _ _ _ _, Below.refl _ _⟩
  case round =>
    obtain ⟨k, hk, rfl, rfl, HO, HW⟩ := hrel
    have HPL := Hid.mk' (pin_len L ((s, c), Value.slice ua c.length uc) p k)
    by_cases hlt : k < L.length
    · have hlt' : (k : Int) < (L.length : Int) := by omega
      obtain ⟨g1, g2⟩ := tcs_get L k hlt
      have HRW := Hid.mk' HR1.out
      obtain ⟨_, _, _, ev, _, _, HC⟩ := HR1.out.up HW.out
      cases ev
      obtain ⟨b, o, rfl, _, e3⟩ := HC _ _ g1
      obtain ⟨b', o', eb, _, e3'⟩ := HC _ _ g2
      cases eb
      have HQ := Hid.mk' (HE.out L[k] (List.getElem_mem hlt))
      have q2 : wr.cell? ⟨b, o + k * 2 + 1, none⟩ = some L[k].2 := e3'
      have HCL : Hid (∀ wx, Below w1.heap.size w1 wx → wx.cell? ⟨b, o + k * 2, none⟩ = some (.string ⟨L[k].1.1.toArray⟩) ∧ wx.cell? ⟨b, o + k * 2 + 1, none⟩ = some L[k].2) := fun wx hx => by
        obtain ⟨_, _, _, ev, _, _, HX⟩ := HRW.out.up hx
        cases ev
        obtain ⟨_, _, k1, _, f1⟩ := HX _ _ g1
        cases k1
        obtain ⟨_, _, k2, _, f2⟩ := HX _ _ g2
        cases k2
        exact ⟨f1, f2⟩
      clear g1 g2 HC e3'
      obtain ⟨da, dc, ed, _⟩ := HQ.out.at
      rw [ed] at q2
      have HNE2 := HNE.out k hlt
      have hne : (L[k].1.1 == s) = false := by simpa using HNE2
      clear HNE2
      rcases Nat.lt_trichotomy k p with hkp | hkp | hkp
      · have HV := Hid.mk' (pin_lt L ((s, c), Value.slice ua c.length uc) p k hkp hlt)
        have hd := HLT.out k hlt hkp
        have hd1 : decide (p < k) = false := by simp; omega
        have HD2 : Hid (decide (p < k + 1) = false) := by show _ = _; simp; omega
        clear hkp
        generalize L[k] = q at *
        have hup := up_alloc wr (.cells #[.string ⟨q.1.1.toArray⟩, .slice da q.1.2.length dc] 114)
        have HWU := Hid.mk' (HW.out.trans (hup.mono HW.out.size))
        have HOU : Hid ((wr.alloc (.cells #[.string ⟨q.1.1.toArray⟩, .slice da q.1.2.length dc] 114)).ownsRow w1.heap.size 114 2 u7 (pinL L ((s, c), Value.slice ua c.length uc) p k).length (tcs (pinL L ((s, c), Value.slice ua c.length uc) p k))) := World.ownsRow.alloc HO.out _
        clear hup
        go_wp2_with (at_builtin; go_must (refine app48 (L := pinL L ((s, c), Value.slice ua c.length uc) p k) (M := [q]) rfl (.tmp 36) (.tmp 41) rfl rfl HOU.out rfl (by rw [← ed]; exact one_row2 q) (fun x hx => by obtain rfl := List.mem_singleton.1 hx; exact ⟨_, _, HQ.out⟩) (by have := HPL.out; rw [List.length_singleton]; omega) (by have := HWU.out.size; exact this) ?_); intro v5 w5 ho5 hg5; have HO5 := Hid.mk' ho5; have HW5 := Hid.mk' (below_app HWU.out HOU.out hg5 (Nat.le_refl _) HWU.out.size); clear ho5 hg5)
        go_roundw
        case rel => exact ⟨k + 1, by omega, by go_num, by rw [HD2.out], by rw [← HV.out]; exact HO5, HW5⟩
        case measure => simp [intOf]; omega
      · subst hkp
        have HV := Hid.mk' (pin_at L ((s, c), Value.slice ua c.length uc) k hlt)
        have hd := HAT.out hlt
        have hd1 : decide (k < k) = false := by simp
        have HD2 : Hid (decide (k < k + 1) = true) := by show _ = _; simp
        generalize L[k] = q at *
        have hup := up_alloc wr (.cells #[.string ⟨s.toArray⟩, .slice ua c.length uc] 114)
        have HWU := Hid.mk' (HW.out.trans (hup.mono HW.out.size))
        have HOU : Hid ((wr.alloc (.cells #[.string ⟨s.toArray⟩, .slice ua c.length uc] 114)).ownsRow w1.heap.size 114 2 u7 (pinL L ((s, c), Value.slice ua c.length uc) k k).length (tcs (pinL L ((s, c), Value.slice ua c.length uc) k k))) := World.ownsRow.alloc HO.out _
        clear hup
        go_wp2_with (first
          | (at_builtin; refine app48 (L := pinL L ((s, c), Value.slice ua c.length uc) k k) (M := [((s, c), Value.slice ua c.length uc)]) rfl (.tmp 30) (.tmp 34) rfl rfl HOU.out rfl (one_row2 ((s, c), Value.slice ua c.length uc)) (fun x hx => by obtain rfl := List.mem_singleton.1 hx; exact ⟨_, _, HU.out⟩) (by have := HPL.out; rw [List.length_singleton]; omega) (by have := HWU.out.size; exact this) ?_; intro v4 w4 ho4 hg4; have HO4 := Hid.mk' ho4; have HW4 := Hid.mk' (below_app HWU.out HOU.out hg4 (Nat.le_refl _) HWU.out.size); clear ho4 hg4 e3 q2; obtain ⟨e3, q2⟩ := HCL.out w4 HW4.out; rw [ed] at q2; have HWU2 := Hid.mk' (HW4.out.trans ((up_alloc w4 (.cells #[.string ⟨q.1.1.toArray⟩, .slice da q.1.2.length dc] 114)).mono HW4.out.size)); have HOU2 : Hid ((w4.alloc (.cells #[.string ⟨q.1.1.toArray⟩, .slice da q.1.2.length dc] 114)).ownsRow w1.heap.size 114 2 v4 (pinL L ((s, c), Value.slice ua c.length uc) k k ++ [((s, c), Value.slice ua c.length uc)]).length (tcs (pinL L ((s, c), Value.slice ua c.length uc) k k ++ [((s, c), Value.slice ua c.length uc)]))) := World.ownsRow.alloc HO4.out _)
          | (at_builtin; refine app48 (v := v4) (L := pinL L ((s, c), Value.slice ua c.length uc) k k ++ [((s, c), Value.slice ua c.length uc)]) (M := [q]) rfl (.tmp 36) (.tmp 41) rfl rfl HOU2.out rfl (by rw [← ed]; exact one_row2 q) (fun x hx => by obtain rfl := List.mem_singleton.1 hx; exact ⟨_, _, HQ.out⟩) (by have := HPL.out; simp only [List.length_append, List.length_singleton]; omega) (by have := HWU2.out.size; exact this) ?_; intro v5 w5 ho5 hg5; have HO5 := Hid.mk' ho5; have HW5 := Hid.mk' (below_app HWU2.out HOU2.out hg5 (Nat.le_refl _) HWU2.out.size); clear ho5 hg5))
        go_roundw
        case rel => exact ⟨k + 1, by omega, by go_num, by rw [HD2.out], by rw [← HV.out]; exact HO5, HW5⟩
        case measure => simp [intOf]; omega
      · have HV := Hid.mk' (pin_gt L ((s, c), Value.slice ua c.length uc) p k hkp hlt)
        have hd1 : decide (p < k) = true := by simp; omega
        have HD2 : Hid (decide (p < k + 1) = true) := by show _ = _; simp; omega
        clear hkp
        generalize L[k] = q at *
        have hup := up_alloc wr (.cells #[.string ⟨q.1.1.toArray⟩, .slice da q.1.2.length dc] 114)
        have HWU := Hid.mk' (HW.out.trans (hup.mono HW.out.size))
        have HOU : Hid ((wr.alloc (.cells #[.string ⟨q.1.1.toArray⟩, .slice da q.1.2.length dc] 114)).ownsRow w1.heap.size 114 2 u7 (pinL L ((s, c), Value.slice ua c.length uc) p k).length (tcs (pinL L ((s, c), Value.slice ua c.length uc) p k))) := World.ownsRow.alloc HO.out _
        clear hup
        go_wp2_with (at_builtin; go_must (refine app48 (L := pinL L ((s, c), Value.slice ua c.length uc) p k) (M := [q]) rfl (.tmp 36) (.tmp 41) rfl rfl HOU.out rfl (by rw [← ed]; exact one_row2 q) (fun x hx => by obtain rfl := List.mem_singleton.1 hx; exact ⟨_, _, HQ.out⟩) (by have := HPL.out; rw [List.length_singleton]; omega) (by have := HWU.out.size; exact this) ?_); intro v5 w5 ho5 hg5; have HO5 := Hid.mk' ho5; have HW5 := Hid.mk' (below_app HWU.out HOU.out hg5 (Nat.le_refl _) HWU.out.size); clear ho5 hg5)
        go_roundw
        case rel => exact ⟨k + 1, by omega, by go_num, by rw [HD2.out], by rw [← HV.out]; exact HO5, HW5⟩
        case measure => simp [intOf]; omega
    · obtain rfl : k = L.length := by omega
      have HFIN : Hid (∀ (wz : World) (M : List Tq) (x : Value), M.map (·.1) = fput l s c → (∀ q ∈ M, q = ((s, c), Value.slice ua c.length uc) ∨ q ∈ L) → M.length ≤ 1000000 → wz.ownsRow w1.heap.size 114 2 x M.length (tcs M) → Below w1.heap.size w1 wz → Ts (fun k => A k ∨ A' k ∨ w.heap.size ≤ k) wz x (fput l s c) ∧ Below w.heap.size w wz) := by
        intro wz M x e1 hm hl ho hb
        refine ⟨?_, bt HB1.out hb⟩
        have h2 := ts_own (A := fun k => A k ∨ A' k ∨ w.heap.size ≤ k) ho (fun q hq => ?_) hl
        · rw [e1] at h2
          exact h2.monoS fun k hk => hk.elim id fun h => .inr (.inr (Nat.le_trans HB1.out.size h))
        · rcases hm q hq with rfl | hq
          · exact (HU.out.up (bt HB1.out hb)).monoS fun k hk => .inl (.inr (.inl hk))
          · exact ((HE.out q hq).up hb).monoS fun k hk => .inl (hk.imp id .inr)
      by_cases hpl2 : p < L.length
      · have hd1 : decide (p < L.length) = true := by simpa using hpl2
        have HLL : Hid ((pinL L ((s, c), Value.slice ua c.length uc) p L.length).map (·.1) = fput l s c) := by
          show _ = _
          rw [HP.out, ← HPP.out, ← HEQ.out]; unfold pinL; rw [if_pos hpl2, List.take_length]; simp
        clear hpl2
        go_wp2_with fail
        go_ret
        exact ⟨_, rfl, HFIN.out _ _ _ HLL.out (fun q hq => pin_mem hq) (by have := HPL.out; omega) HO.out HW.out⟩
      · have hd1 : decide (p < L.length) = false := by simpa using hpl2
        have hpe : p = L.length := by omega
        have HLL : Hid ((pinL L ((s, c), Value.slice ua c.length uc) p L.length ++ [((s, c), Value.slice ua c.length uc)]).map (·.1) = fput l s c) := by
          show _ = _
          rw [HP.out, ← HPP.out, ← HEQ.out, hpe]; unfold pinL; rw [if_neg (by omega), List.take_length, List.take_of_length_le (l := L.map _) (by simp), List.drop_of_length_le (l := L.map _) (by simp)]; simp
        have hup := up_alloc wr (.cells #[.string ⟨s.toArray⟩, .slice ua c.length uc] 114)
        have HWU := Hid.mk' (HW.out.trans (hup.mono HW.out.size))
        have HOU : Hid ((wr.alloc (.cells #[.string ⟨s.toArray⟩, .slice ua c.length uc] 114)).ownsRow w1.heap.size 114 2 u7 (pinL L ((s, c), Value.slice ua c.length uc) p L.length).length (tcs (pinL L ((s, c), Value.slice ua c.length uc) p L.length))) := World.ownsRow.alloc HO.out _
        clear hup hpe hpl2
        go_wp2_with (at_builtin; go_must (refine app48 (L := pinL L ((s, c), Value.slice ua c.length uc) p L.length) (M := [((s, c), Value.slice ua c.length uc)]) rfl (.tmp 45) (.tmp 49) rfl rfl HOU.out rfl (one_row2 ((s, c), Value.slice ua c.length uc)) (fun x hx => by obtain rfl := List.mem_singleton.1 hx; exact ⟨_, _, HU.out⟩) (by have := HPL.out; rw [List.length_singleton]; omega) (by have := HWU.out.size; exact this) ?_); intro v5 w5 ho5 hg5; have HO5 := Hid.mk' ho5; have HW5 := Hid.mk' (below_app HWU.out HOU.out hg5 (Nat.le_refl _) HWU.out.size); clear ho5 hg5)
        go_ret
        exact ⟨_, rfl, HFIN.out _ _ _ HLL.out (fun q hq => (List.mem_append.1 hq).elim (fun h => pin_mem h) fun h => .inl (List.mem_singleton.1 h)) (by have := HPL.out; simp only [List.length_append, List.length_singleton]; omega) HO5.out HW5.out⟩
/-- groyneref04.Units -/
theorem runits_any {A : Nat → Prop} {w : World} {u : Value} (x : Dd) (hu : Bs A w u (oda x)) : Calls Try.prog 36 #[.agg #[.int .i64 (okd x), .string ⟨(onm x).toArray⟩, .string ⟨(oto x).toArray⟩, .int .i64 (oat x : Int), u]] w fun e w' => e = .returned (.int .i64 (x.units : Int)) ∧ Below w.heap.size w w' := by
  obtain ⟨a, c, rfl, _⟩ := hu.at
  have hl := hu.2
  unfold lim at hl
  clear hu
  have hl' : ((oda x).length : Int) ≤ 140737488351232 := by omega
  have HX : Hid ((okd x == 1) = true → x.units = (oda x).length + 1) := by cases x <;> simp [okd, oda, Dd.units, Hid]
  have HY : Hid ((okd x == 1) = false → x.units = 1) := by cases x <;> simp [okd, oda, Dd.units, Hid]
  generalize x.units = n at *
  generalize okd x = kd at *
  generalize oda x = dd at *
  generalize onm x = nm at *
  generalize oto x = tt at *
  generalize oat x = aa at *
  clear hl
  cases hk : (kd == 1) with
  | true =>
    have hn := HX.out hk
    subst hn
    go_enter Try.func36, Try.ntmps36
    go_wp2
    go_ret
    exact ⟨by simp, up_alloc _ _⟩
  | false =>
    have hn := HY.out hk
    subst hn
    go_enter Try.func36, Try.ntmps36
    go_wp2
    go_ret
    exact ⟨rfl, up_alloc _ _⟩
end Go.Proofs.Ytpgpncngamagdaa
