/- groyneref11: has, Clash, Covers; they answer as the program's. -/
import Derived.Test.YteejlmeinndlhaaLC
set_option linter.unusedVariables false
set_option linter.unusedSimpArgs false
namespace Go.Proofs.Yteejlmeinndlhaa
open Go.RowKit
attribute [local go_sem ↓] Go.wp_at_zero Go.wp_at_succ
def hasR (r : Rg) (k : By) : Bool := decide (cmp r.lo k ≤ 0) && (decide (r.hi.length = 0) || decide (cmp k r.hi < 0))
theorem one_box (w : World) (v0 v1 v2 : Value) (e : TypeId) : ∃ W, W = w.alloc (.cells #[v0, v1, v2] e) ∧ Below w.heap.size w W ∧ ∀ wz, Below W.heap.size W wz →
    (wz.cell? ⟨w.heap.size, 0, none⟩ = some v0 ∧ wz.cell? ⟨w.heap.size, 1, none⟩ = some v1 ∧ wz.cell? ⟨w.heap.size, 2, none⟩ = some v2) := by
  refine ⟨_, rfl, up_alloc _ _, fun wz hz => ?_⟩
  have h0 : wz.heap[w.heap.size]? = some (.cells #[v0, v1, v2] e (0, 0)) := by
    rw [hz.block w.heap.size (by simp)]
    exact heap_alloc_new w _
  exact box3 h0
set_option maxRecDepth 100000 in
set_option maxHeartbeats 2000000 in
/-- groyneref11.has -/
theorem has_any {A A' : Nat → Prop} {w : World} {v u : Value} {r : Rg} {k : By} (h : RgIs A w v r) (h' : Bs A' w u k) : Calls Try.prog 37 #[v, u] w fun e w' => e = .returned (.bool (hasR r k)) ∧ Below w.heap.size w w' := by
  have HF : Hid (hasR r k = (decide (cmp r.lo k ≤ 0) && (decide (r.hi.length = 0) || decide (cmp k r.hi < 0)))) := rfl
  obtain ⟨fa, fc, ta, tc, rfl, h1, h2⟩ := h.form
  obtain ⟨ka, kc, rfl, _⟩ := h'.at
  have H1 : Hid (∀ wz, Below w.heap.size w wz → Calls Try.prog 36 #[.slice fa r.lo.length fc, .slice ka k.length kc] wz fun e w' => e = .returned (.int .i64 (cmp r.lo k)) ∧ Dn wz w') := fun wz hz => cmp_any _ _ _ _ _ (h1.up hz) (h'.up hz)
  have H2 : Hid (∀ wz, Below w.heap.size w wz → Calls Try.prog 36 #[.slice ka k.length kc, .slice ta r.hi.length tc] wz fun e w' => e = .returned (.int .i64 (cmp k r.hi)) ∧ Dn wz w') := fun wz hz => cmp_any _ _ _ _ _ (h'.up hz) (h2.up hz)
  have hl2 : (r.hi.length : Int) ≤ 140737488351232 := by have := h2.2; unfold lim at this; omega
  clear h h' h1 h2
  generalize hasR r k = R at *
  generalize cmp r.lo k = z1 at *
  generalize cmp k r.hi = z2 at *
  generalize r.hi.length = m at *
  obtain ⟨W, hW, hb, hc⟩ := one_box w (.slice fa r.lo.length fc) (.slice ta m tc) (.bool r.xc) 24
  have HB := Hid.mk' hb
  have HC := Hid.mk' hc
  clear hb hc
  go_enter Try.func37, Try.ntmps37
  go_wp2_with fail
  rw [← hW]
  clear hW
  obtain ⟨x0, x1, x2⟩ := HC.out W (Below.refl _ _)
  go_wp2_with fail
  refine (H1.out W HB.out).mono ?_
  rintro e w1 ⟨rfl, d1⟩
  have HB1 := Hid.mk' (bt HB.out (d1.below _))
  have HL1 := Hid.mk' (d1.below W.heap.size)
  clear x0 x1 x2 d1
  obtain ⟨x0, x1, x2⟩ := HC.out w1 HL1.out
  clear HC
  by_cases hz : z1 ≤ 0
  · have HG : Hid (R = (decide (m = 0) || decide (z2 < 0))) := by show _ = _; rw [HF.out, decide_eq_true hz]; rfl
    clear HF
    by_cases hn : m = 0
    · have hn' : ((m : Int) == 0) = true := by rw [beq_iff_eq]; omega
      have HR : Hid (R = true) := by show _ = _; rw [HG.out, decide_eq_true hn]; rfl
      clear HG hn
      go_wp2_with fail
      go_ret
      exact ⟨by rw [HR.out] <;> rfl, HB1.out⟩
    have hn' : ((m : Int) == 0) = false := by rw [beq_eq_false_iff_ne]; omega
    have HR : Hid (R = decide (z2 < 0)) := by show _ = _; rw [HG.out, decide_eq_false hn]; rfl
    clear HG hn
    go_wp2_with fail
    refine (H2.out w1 HB1.out).mono ?_
    rintro e w2 ⟨rfl, d2⟩
    have HB2 := Hid.mk' (bt HB1.out (d2.below _))
    clear d2
    go_wp2_with fail
    go_ret
    exact ⟨by rw [HR.out] <;> rfl, HB2.out⟩
  · have HR : Hid (R = false) := by show _ = _; rw [HF.out, decide_eq_false hz]; rfl
    clear HF
    go_wp2_with fail
    go_ret
    exact ⟨by rw [HR.out] <;> rfl, HB1.out⟩
def kR (r s : Rg) : By := if 0 < cmp s.lo r.lo then s.lo else r.lo
def rclB (r s : Rg) : Bool := if rck [r, s] ≠ 0 ∨ (r.xc = false ∧ s.xc = false) then false else hasR r (kR r s) && hasR s (kR r s)
set_option maxRecDepth 100000 in
set_option maxHeartbeats 4000000 in
/-- groyneref11.Clash -/
theorem rclash_any {A A' : Nat → Prop} {w : World} {v u : Value} {r s : Rg} (h : RgIs A w v r) (h' : RgIs A' w u s) : Calls Try.prog 10 #[v, u] w fun e w' => e = .returned (.bool (rclB r s)) ∧ Below w.heap.size w w' := by
  have HF : Hid (rclB r s = if rck [r, s] ≠ 0 ∨ (r.xc = false ∧ s.xc = false) then false else hasR r (kR r s) && hasR s (kR r s)) := rfl
  have HKR : Hid (kR r s = if 0 < cmp s.lo r.lo then s.lo else r.lo) := rfl
  have HV : Hid (∀ wz, Below w.heap.size w wz → ∀ ka kn kc, Bs (fun k => A k ∨ A' k) wz (.slice ka kn kc) (kR r s) → (Calls Try.prog 37 #[v, .slice ka kn kc] wz fun e w' => e = .returned (.bool (hasR r (kR r s))) ∧ Below wz.heap.size wz w') ∧ (Calls Try.prog 37 #[u, .slice ka kn kc] wz fun e w' => e = .returned (.bool (hasR s (kR r s))) ∧ Below wz.heap.size wz w')) := fun wz hz ka kn kc hk => ⟨has_any (h.up hz) hk, has_any (h'.up hz) hk⟩
  obtain ⟨fa, fc, ta, tc, rfl, h1, h2⟩ := h.form
  obtain ⟨ga, gc, sa, sc, rfl, h3, h4⟩ := h'.form
  have H1 : Hid (∀ wz, Below w.heap.size w wz → Calls Try.prog 36 #[.slice ga s.lo.length gc, .slice fa r.lo.length fc] wz fun e w' => e = .returned (.int .i64 (cmp s.lo r.lo)) ∧ Dn wz w') := fun wz hz => cmp_any _ _ _ _ _ (h3.up hz) (h1.up hz)
  have HC2 : Hid (∀ wz, Below w.heap.size w wz → Calls Try.prog 22 #[.slice (some ⟨wz.heap.size, 0, none⟩) 2 2] (wz.alloc (.cells #[.slice fa r.lo.length fc, .slice ta r.hi.length tc, .bool r.xc, .slice ga s.lo.length gc, .slice sa s.hi.length sc, .bool s.xc] 24)) fun e w' => e = .returned (.int .i64 (rck [r, s])) ∧ Below wz.heap.size wz w') := fun wz hz =>
    (rcheck_any (rgs_two (h1.up hz) (h2.up hz) (h3.up hz) (h4.up hz))).mono fun e w' ⟨a, b⟩ => ⟨a, bt (up_alloc wz _) (b.below _)⟩
  have HK1 : Hid (∀ wz, Below w.heap.size w wz → Bs (fun k => A k ∨ A' k) wz (.slice fa r.lo.length fc) r.lo) := fun wz hz => (h1.up hz).monoS fun k hk => .inl hk
  have HK2 : Hid (∀ wz, Below w.heap.size w wz → Bs (fun k => A k ∨ A' k) wz (.slice ga s.lo.length gc) s.lo) := fun wz hz => (h3.up hz).monoS fun k hk => .inr hk
  clear h h' h1 h2 h3 h4
  generalize rclB r s = R at *
  generalize rck [r, s] = c1 at *
  generalize hasR r (kR r s) = p1 at *
  generalize hasR s (kR r s) = p2 at *
  generalize kR r s = K at *
  generalize cmp s.lo r.lo = z at *
  generalize r.xc = p at *
  generalize s.xc = q at *
  generalize r.hi.length = m1 at *
  generalize s.hi.length = m2 at *
  generalize r.lo = l1 at *
  generalize s.lo = l2 at *
  obtain ⟨W, hW, hb, hc⟩ := two_boxes w (.slice fa l1.length fc) (.slice ta m1 tc) (.bool p) (.slice ga l2.length gc) (.slice sa m2 sc) (.bool q) 24
  have HB := Hid.mk' hb
  have HC := Hid.mk' hc
  have HZ : Hid (W.heap.size = w.heap.size + 1 + 1) := by show _ = _; rw [hW]; simp
  clear hb hc
  go_enter Try.func10, Try.ntmps10
  go_wp2_with fail
  rw [← hW]
  clear hW
  have hcc := HC2.out W HB.out
  rw [HZ.out] at hcc
  refine hcc.mono ?_
  rintro e w1 ⟨rfl, b1⟩
  rw [← HZ.out] at b1
  have HB1 := Hid.mk' (bt HB.out b1)
  have HL1 := Hid.mk' b1
  clear b1 hcc
  obtain ⟨⟨x0, x1, x2⟩, ⟨y0, y1, y2⟩⟩ := HC.out w1 HL1.out
  by_cases h0 : c1 = 0
  case neg =>
    have h0' : (c1 == 0) = false := by simpa using h0
    have h0'' : (c1 != 0) = true := by simpa using h0
    have HR : Hid (R = false) := by show _ = _; rw [HF.out, if_pos (.inl h0)]
    clear HF h0
    go_wp2_with fail
    go_ret
    exact ⟨by rw [HR.out] <;> rfl, HB1.out⟩
  have h0' : (c1 == 0) = true := by simpa using h0
  have h0'' : (c1 != 0) = false := by simpa using h0
  by_cases hx : p = false ∧ q = false
  · obtain ⟨rfl, rfl⟩ := hx
    have HR : Hid (R = false) := by show _ = _; rw [HF.out, if_pos (.inr ⟨rfl, rfl⟩)]
    clear HF h0
    go_wp2_with fail
    go_ret
    exact ⟨by rw [HR.out] <;> rfl, HB1.out⟩
  have HG : Hid (R = (p1 && p2)) := by show _ = _; rw [HF.out, if_neg (by rintro (h | h); exact h h0; exact hx h)]
  clear HF h0
  have hcs : p = true ∨ (p = false ∧ q = true) := by cases q <;> cases p <;> simp at hx ⊢
  clear hx
  rcases hcs with rfl | ⟨rfl, rfl⟩
  all_goals
    go_wp2_with fail
    refine (H1.out w1 HB1.out).mono ?_
    rintro e w2 ⟨rfl, d2⟩
    have HB2 := Hid.mk' (bt HB1.out (d2.below _))
    have HL2 := Hid.mk' (bt HL1.out (d2.below _))
    clear x0 x1 x2 y0 y1 y2 d2
    obtain ⟨⟨x0, x1, x2⟩, ⟨y0, y1, y2⟩⟩ := HC.out w2 HL2.out
    go_upto_if 27 with fail
    go_cut [5] (fun q5 wx => wx = w2 ∧ ∃ ka kn kc, q5 = .slice ka kn kc ∧ Hid (Bs (fun k => A k ∨ A' k) w2 q5 K))
    case first =>
      by_cases hz : 0 < z
      · have HKE : Hid (K = l2) := by show _ = _; rw [HKR.out, if_pos hz]
        go_wp2_with fail
        go_meet
        exact ⟨rfl, ga, _, gc, rfl, by rw [HKE.out]; exact HK2.out w2 HB2.out⟩
      · have HKE : Hid (K = l1) := by show _ = _; rw [HKR.out, if_neg hz]
        go_wp2_with fail
        go_meet
        exact ⟨rfl, fa, _, fc, rfl, by rw [HKE.out]; exact HK1.out w2 HB2.out⟩
    case rest =>
      obtain ⟨rfl, ka, kn, kc, rfl, HBK⟩ := hcut
      go_wp2_with fail
      refine (HV.out _ HB2.out ka kn kc HBK.out).1.mono ?_
      rintro e w3 ⟨rfl, b3⟩
      have HB3 := Hid.mk' (bt HB2.out b3)
      have HL3 := Hid.mk' (bt HL2.out b3)
      have HBK3 := Hid.mk' (HBK.out.up b3)
      clear x0 x1 x2 y0 y1 y2 b3
      obtain ⟨⟨x0, x1, x2⟩, ⟨y0, y1, y2⟩⟩ := HC.out w3 HL3.out
      cases p1
      case false =>
        have HR : Hid (R = false) := by show _ = _; rw [HG.out]; rfl
        clear HG
        go_wp2_with fail
        go_ret
        exact ⟨by rw [HR.out] <;> rfl, HB3.out⟩
      case true =>
        have HR : Hid (R = p2) := by show _ = _; rw [HG.out]; rfl
        clear HG
        go_wp2_with fail
        refine (HV.out _ HB3.out ka kn kc HBK3.out).2.mono ?_
        rintro e w4 ⟨rfl, b4⟩
        have HB4 := Hid.mk' (bt HB3.out b4)
        clear b4
        go_wp2_with fail
        go_ret
        exact ⟨by rw [HR.out] <;> rfl, HB4.out⟩
def rcvB (a b : Rg) : Bool := if rck [a, b] ≠ 0 ∨ (b.xc = true ∧ a.xc = false) ∨ 0 < cmp a.lo b.lo then false else if a.hi.length = 0 then true else decide (0 < b.hi.length) && decide (cmp b.hi a.hi ≤ 0)
set_option maxRecDepth 100000 in
set_option maxHeartbeats 4000000 in
/-- groyneref11.Covers -/
theorem rcovers_any {A A' : Nat → Prop} {w : World} {v u : Value} {r s : Rg} (h : RgIs A w v r) (h' : RgIs A' w u s) : Calls Try.prog 12 #[v, u] w fun e w' => e = .returned (.bool (rcvB r s)) ∧ Below w.heap.size w w' := by
  have HF : Hid (rcvB r s = if rck [r, s] ≠ 0 ∨ (s.xc = true ∧ r.xc = false) ∨ 0 < cmp r.lo s.lo then false else if r.hi.length = 0 then true else decide (0 < s.hi.length) && decide (cmp s.hi r.hi ≤ 0)) := rfl
  obtain ⟨fa, fc, ta, tc, rfl, h1, h2⟩ := h.form
  obtain ⟨ga, gc, sa, sc, rfl, h3, h4⟩ := h'.form
  have HC2 : Hid (∀ wz, Below w.heap.size w wz → Calls Try.prog 22 #[.slice (some ⟨wz.heap.size, 0, none⟩) 2 2] (wz.alloc (.cells #[.slice fa r.lo.length fc, .slice ta r.hi.length tc, .bool r.xc, .slice ga s.lo.length gc, .slice sa s.hi.length sc, .bool s.xc] 24)) fun e w' => e = .returned (.int .i64 (rck [r, s])) ∧ Below wz.heap.size wz w') := fun wz hz =>
    (rcheck_any (rgs_two (h1.up hz) (h2.up hz) (h3.up hz) (h4.up hz))).mono fun e w' ⟨a, b⟩ => ⟨a, bt (up_alloc wz _) (b.below _)⟩
  have H2 : Hid (∀ wz, Below w.heap.size w wz → Calls Try.prog 36 #[.slice fa r.lo.length fc, .slice ga s.lo.length gc] wz fun e w' => e = .returned (.int .i64 (cmp r.lo s.lo)) ∧ Dn wz w') := fun wz hz => cmp_any _ _ _ _ _ (h1.up hz) (h3.up hz)
  have H3 : Hid (∀ wz, Below w.heap.size w wz → Calls Try.prog 36 #[.slice sa s.hi.length sc, .slice ta r.hi.length tc] wz fun e w' => e = .returned (.int .i64 (cmp s.hi r.hi)) ∧ Dn wz w') := fun wz hz => cmp_any _ _ _ _ _ (h4.up hz) (h2.up hz)
  have hl1 : (r.hi.length : Int) ≤ 140737488351232 := by have := h2.2; unfold lim at this; omega
  have hl2 : (s.hi.length : Int) ≤ 140737488351232 := by have := h4.2; unfold lim at this; omega
  clear h h' h1 h2 h3 h4
  generalize rcvB r s = R at *
  generalize rck [r, s] = c1 at *
  generalize cmp r.lo s.lo = z1 at *
  generalize cmp s.hi r.hi = z2 at *
  generalize r.xc = p at *
  generalize s.xc = q at *
  generalize r.hi.length = n at *
  generalize s.hi.length = m at *
  generalize r.lo.length = n1 at *
  generalize s.lo.length = n2 at *
  obtain ⟨W, hW, hb, hc⟩ := two_boxes w (.slice fa n1 fc) (.slice ta n tc) (.bool p) (.slice ga n2 gc) (.slice sa m sc) (.bool q) 24
  have HB := Hid.mk' hb
  have HC := Hid.mk' hc
  have HZ : Hid (W.heap.size = w.heap.size + 1 + 1) := by show _ = _; rw [hW]; simp
  clear hb hc
  go_enter Try.func12, Try.ntmps12
  go_wp2_with fail
  rw [← hW]
  clear hW
  have hcc := HC2.out W HB.out
  rw [HZ.out] at hcc
  refine hcc.mono ?_
  rintro e w1 ⟨rfl, b1⟩
  rw [← HZ.out] at b1
  have HB1 := Hid.mk' (bt HB.out b1)
  have HL1 := Hid.mk' b1
  clear b1 hcc
  obtain ⟨⟨x0, x1, x2⟩, ⟨y0, y1, y2⟩⟩ := HC.out w1 HL1.out
  by_cases h0 : c1 = 0
  case neg =>
    have h0' : (c1 == 0) = false := by simpa using h0
    have h0'' : (c1 != 0) = true := by simpa using h0
    have HR : Hid (R = false) := by show _ = _; rw [HF.out, if_pos (.inl h0)]
    clear HF h0
    go_wp2_with fail
    go_ret
    exact ⟨by rw [HR.out] <;> rfl, HB1.out⟩
  have h0' : (c1 == 0) = true := by simpa using h0
  have h0'' : (c1 != 0) = false := by simpa using h0
  by_cases hx : q = true ∧ p = false
  · obtain ⟨rfl, rfl⟩ := hx
    have HR : Hid (R = false) := by show _ = _; rw [HF.out, if_pos (.inr (.inl ⟨rfl, rfl⟩))]
    clear HF h0
    go_wp2_with fail
    go_ret
    exact ⟨by rw [HR.out] <;> rfl, HB1.out⟩
  have HG : Hid (R = if 0 < z1 then false else if n = 0 then true else decide (0 < m) && decide (z2 ≤ 0)) := by
    show _ = _
    rw [HF.out]
    by_cases hz : 0 < z1
    · rw [if_pos (.inr (.inr hz)), if_pos hz]
    · rw [if_neg (by rintro (h | h | h); exact h h0; exact hx h; exact hz h), if_neg hz]
  clear HF h0
  have hcs : q = false ∨ (q = true ∧ p = true) := by cases q <;> cases p <;> simp at hx ⊢
  clear hx
  rcases hcs with rfl | ⟨rfl, rfl⟩
  all_goals
    go_wp2_with fail
    refine (H2.out w1 HB1.out).mono ?_
    rintro e w2 ⟨rfl, d2⟩
    have HB2 := Hid.mk' (bt HB1.out (d2.below _))
    have HL2 := Hid.mk' (bt HL1.out (d2.below _))
    clear x0 x1 x2 y0 y1 y2 d2
    obtain ⟨⟨x0, x1, x2⟩, ⟨y0, y1, y2⟩⟩ := HC.out w2 HL2.out
    by_cases hz : 0 < z1
    · have HR : Hid (R = false) := by show _ = _; rw [HG.out, if_pos hz]
      clear HG
      go_wp2_with fail
      go_ret
      exact ⟨by rw [HR.out] <;> rfl, HB2.out⟩
    have HK : Hid (R = if n = 0 then true else decide (0 < m) && decide (z2 ≤ 0)) := by show _ = _; rw [HG.out, if_neg hz]
    clear HG
    by_cases hn : n = 0
    · have hn' : ((n : Int) == 0) = true := by rw [beq_iff_eq]; omega
      have HR : Hid (R = true) := by show _ = _; rw [HK.out, if_pos hn]
      clear HK hn
      go_wp2_with fail
      go_ret
      exact ⟨by rw [HR.out] <;> rfl, HB2.out⟩
    have hn' : ((n : Int) == 0) = false := by rw [beq_eq_false_iff_ne]; omega
    have HK2 : Hid (R = (decide (0 < m) && decide (z2 ≤ 0))) := by show _ = _; rw [HK.out, if_neg hn]
    clear HK hn
    by_cases hm : 0 < m
    · have hm' : (0 : Int) < (m : Int) := by omega
      have HR : Hid (R = decide (z2 ≤ 0)) := by show _ = _; rw [HK2.out, decide_eq_true hm]; rfl
      clear HK2
      go_wp2_with fail
      refine (H3.out w2 HB2.out).mono ?_
      rintro e w3 ⟨rfl, d3⟩
      have HB3 := Hid.mk' (bt HB2.out (d3.below _))
      clear d3
      go_wp2_with fail
      go_ret
      exact ⟨by rw [HR.out] <;> rfl, HB3.out⟩
    · have hm' : ¬ (0 : Int) < (m : Int) := by omega
      have HR : Hid (R = false) := by show _ = _; rw [HK2.out, decide_eq_false hm]; rfl
      clear HK2
      go_wp2_with fail
      go_ret
      exact ⟨by rw [HR.out] <;> rfl, HB2.out⟩
end Go.Proofs.Yteejlmeinndlhaa
