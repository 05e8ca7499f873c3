/- Ranges: formed, before, Clash, Covers. -/
import Derived.Test.YteejlmeinndlhaaLA
import Derived.Test.YteejlmeinndlhaaLT
set_option linter.unusedVariables false
set_option linter.unusedSimpArgs false
namespace Go.Proofs.Yteejlmeinndlhaa
open Go.RowKit
attribute [local go_sem ↓] Go.wp_at_zero Go.wp_at_succ

theorem two_boxes (w : World) (v0 v1 v2 u0 u1 u2 : Value) (e : TypeId) : ∃ W, W = (w.alloc (.cells #[v0, v1, v2] e)).alloc (.cells #[u0, u1, u2] e) ∧ Below w.heap.size w W ∧ ∀ wz, Below W.heap.size W wz →
    (wz.cell? ⟨w.heap.size, 0, none⟩ = some v0 ∧ wz.cell? ⟨w.heap.size, 1, none⟩ = some v1 ∧ wz.cell? ⟨w.heap.size, 2, none⟩ = some v2) ∧
    (wz.cell? ⟨w.heap.size + 1, 0, none⟩ = some u0 ∧ wz.cell? ⟨w.heap.size + 1, 1, none⟩ = some u1 ∧ wz.cell? ⟨w.heap.size + 1, 2, none⟩ = some u2) := by
  refine ⟨_, rfl, bt (up_alloc _ _) (up_alloc _ _), fun wz hz => ?_⟩
  have h0 : wz.heap[w.heap.size]? = some (.cells #[v0, v1, v2] e (0, 0)) := by
    rw [hz.block w.heap.size (by simp; omega), (up_alloc (w.alloc (.cells #[v0, v1, v2] e)) (.cells #[u0, u1, u2] e)).block w.heap.size (by simp)]
    exact heap_alloc_new w _
  have h1 : wz.heap[w.heap.size + 1]? = some (.cells #[u0, u1, u2] e (0, 0)) := by
    rw [hz.block (w.heap.size + 1) (by simp)]
    have := heap_alloc_new (w.alloc (.cells #[v0, v1, v2] e)) (.cells #[u0, u1, u2] e)
    rwa [World.size_alloc] at this
  exact ⟨box3 h0, box3 h1⟩
def fmB (a b : Rg) : Bool := (ckR a == 0) && (ckR b == 0)
set_option maxRecDepth 100000 in
set_option maxHeartbeats 1000000 in
/-- lock.formed -/
theorem formed_any {A A' : Nat → Prop} {w : World} {v u : Value} {r s : Rg} (h : RgIs A w v r) (h' : RgIs A' w u s) : Calls Try.prog 34 #[v, u] w fun e w' => e = .returned (.bool (fmB r s)) ∧ Below w.heap.size w w' := by
  have H1 : Hid (∀ wz, Below w.heap.size w wz → Calls Try.prog 54 #[v] wz fun e w' => e = .returned (.int .i64 (ckR r)) ∧ Below wz.heap.size wz w') := fun wz hz => check_any (h.up hz)
  have H2 : Hid (∀ wz, Below w.heap.size w wz → Calls Try.prog 54 #[u] wz fun e w' => e = .returned (.int .i64 (ckR s)) ∧ Below wz.heap.size wz w') := fun wz hz => check_any (h'.up hz)
  have HF : Hid (fmB r s = ((ckR r == 0) && (ckR s == 0))) := rfl
  obtain ⟨fa, fc, ta, tc, rfl, _⟩ := h.form
  obtain ⟨ga, gc, sa, sc, rfl, _⟩ := h'.form
  clear h h'
  generalize fmB r s = R at *
  generalize ckR r = c1 at *
  generalize ckR s = c2 at *
  obtain ⟨W, hW, hb, hc⟩ := two_boxes w (.slice fa r.lo.length fc) (.slice ta r.hi.length tc) (.bool r.xc) (.slice ga s.lo.length gc) (.slice sa s.hi.length sc) (.bool s.xc) 24
  have HB := Hid.mk' hb
  have HC := Hid.mk' hc
  clear hb hc
  go_enter Try.func34, Try.ntmps34
  go_wp2_with fail
  rw [← hW]
  clear hW
  obtain ⟨⟨x0, x1, x2⟩, ⟨y0, y1, y2⟩⟩ := HC.out W (Below.refl _ _)
  go_wp2_with fail
  refine (H1.out W HB.out).mono ?_
  rintro e w1 ⟨rfl, b1⟩
  have HB1 := Hid.mk' (bt HB.out b1)
  have HC1 := Hid.mk' (HC.out w1 b1)
  clear x0 x1 x2 y0 y1 y2 b1 HC
  obtain ⟨⟨x0, x1, x2⟩, ⟨y0, y1, y2⟩⟩ := HC1.out
  by_cases h0 : c1 = 0
  · have h0' : (c1 == 0) = true := by simpa using h0
    have HR : Hid (R = (c2 == 0)) := by show _ = _; rw [HF.out, h0']; rfl
    clear HF h0
    go_wp2_with fail
    refine (H2.out w1 HB1.out).mono ?_
    rintro e w2 ⟨rfl, b2⟩
    have HB2 := Hid.mk' (bt HB1.out b2)
    clear b2
    go_wp2_with fail
    go_ret
    exact ⟨by rw [HR.out] <;> rfl, HB2.out⟩
  · have h0' : (c1 == 0) = false := by simpa using h0
    have HR : Hid (R = false) := by show _ = _; rw [HF.out, h0']; rfl
    clear HF h0
    go_wp2_with fail
    go_ret
    exact ⟨by rw [HR.out] <;> rfl, HB1.out⟩
def befB (a b : Rg) : Bool := decide (0 < a.hi.length) && decide (cmp a.hi b.lo ≤ 0)
set_option maxRecDepth 100000 in
set_option maxHeartbeats 1000000 in
/-- lock.before -/
theorem bef_any {A A' : Nat → Prop} {w : World} {v u : Value} {r s : Rg} (h : RgIs A w v r) (h' : RgIs A' w u s) : Calls Try.prog 35 #[v, u] w fun e w' => e = .returned (.bool (befB r s)) ∧ Below w.heap.size w w' := by
  have HF : Hid (befB r s = (decide (0 < r.hi.length) && decide (cmp r.hi s.lo ≤ 0))) := rfl
  obtain ⟨fa, fc, ta, tc, rfl, h1, h2⟩ := h.form
  obtain ⟨ga, gc, sa, sc, rfl, h3, h4⟩ := h'.form
  have hl2 : (r.hi.length : Int) ≤ 140737488351232 := by have := h2.2; unfold lim at this; omega
  obtain ⟨W, hW, hb, hc⟩ := two_boxes w (.slice fa r.lo.length fc) (.slice ta r.hi.length tc) (.bool r.xc) (.slice ga s.lo.length gc) (.slice sa s.hi.length sc) (.bool s.xc) 24
  have HP := Hid.mk' (pcompare_any (h2.up hb) (h3.up hb))
  clear h h' h1 h2 h3 h4
  generalize befB r s = R at *
  generalize cmp r.hi s.lo = z at *
  generalize r.hi.length = n at *
  have HB := Hid.mk' hb
  obtain ⟨⟨x0, x1, x2⟩, ⟨y0, y1, y2⟩⟩ := hc W (Below.refl _ _)
  clear hb hc
  by_cases h0 : 0 < n
  · have h0' : (0 : Int) < (n : Int) := by omega
    have HR : Hid (R = decide (z ≤ 0)) := by show _ = _; rw [HF.out, decide_eq_true h0]; rfl
    clear HF
    go_enter Try.func35, Try.ntmps35
    go_wp2_with fail
    rw [← hW]
    clear hW
    go_wp2_with fail
    refine HP.out.mono ?_
    rintro e w1 ⟨rfl, rfl⟩
    go_wp2_with fail
    go_ret
    exact ⟨by rw [HR.out] <;> rfl, HB.out⟩
  · have h0' : ¬ (0 : Int) < (n : Int) := by omega
    have HR : Hid (R = false) := by show _ = _; rw [HF.out, decide_eq_false h0]; rfl
    clear HF HP
    go_enter Try.func35, Try.ntmps35
    go_wp2_with fail
    rw [← hW]
    clear hW
    go_wp2_with fail
    go_ret
    exact ⟨by rw [HR.out] <;> rfl, HB.out⟩
def clhB (a b : Rg) : Bool := fmB a b && (a.xc || b.xc) && !befB a b && !befB b a
set_option maxRecDepth 100000 in
set_option maxHeartbeats 2000000 in
/-- lock.Clash -/
theorem clash_any {A A' : Nat → Prop} {w : World} {v u : Value} {r s : Rg} (h : RgIs A w v r) (h' : RgIs A' w u s) : Calls Try.prog 9 #[v, u] w fun e w' => e = .returned (.bool (clhB r s)) ∧ Below w.heap.size w w' := by
  have HF : Hid (clhB r s = (fmB r s && (r.xc || s.xc) && !befB r s && !befB s r)) := rfl
  have H1 : Hid (∀ wz, Below w.heap.size w wz → Calls Try.prog 34 #[v, u] wz fun e w' => e = .returned (.bool (fmB r s)) ∧ Below wz.heap.size wz w') := fun wz hz => formed_any (h.up hz) (h'.up hz)
  have H2 : Hid (∀ wz, Below w.heap.size w wz → Calls Try.prog 35 #[v, u] wz fun e w' => e = .returned (.bool (befB r s)) ∧ Below wz.heap.size wz w') := fun wz hz => bef_any (h.up hz) (h'.up hz)
  have H3 : Hid (∀ wz, Below w.heap.size w wz → Calls Try.prog 35 #[u, v] wz fun e w' => e = .returned (.bool (befB s r)) ∧ Below wz.heap.size wz w') := fun wz hz => bef_any (h'.up hz) (h.up hz)
  obtain ⟨fa, fc, ta, tc, rfl, _⟩ := h.form
  obtain ⟨ga, gc, sa, sc, rfl, _⟩ := h'.form
  clear h h'
  generalize clhB r s = R at *
  generalize fmB r s = c1 at *
  generalize befB r s = c2 at *
  generalize befB s r = c3 at *
  generalize r.xc = p at *
  generalize s.xc = q at *
  obtain ⟨W, hW, hb, hc⟩ := two_boxes w (.slice fa r.lo.length fc) (.slice ta r.hi.length tc) (.bool p) (.slice ga s.lo.length gc) (.slice sa s.hi.length sc) (.bool q) 24
  have HB := Hid.mk' hb
  have HC := Hid.mk' hc
  clear hb hc
  go_enter Try.func9, Try.ntmps9
  go_wp2_with fail
  rw [← hW]
  clear hW
  obtain ⟨⟨x0, x1, x2⟩, ⟨y0, y1, y2⟩⟩ := HC.out W (Below.refl _ _)
  go_wp2_with fail
  refine (H1.out W HB.out).mono ?_
  rintro e w1 ⟨rfl, b1⟩
  have HB1 := Hid.mk' (bt HB.out b1)
  have HL1 := Hid.mk' b1
  clear x0 x1 x2 y0 y1 y2 b1
  obtain ⟨⟨x0, x1, x2⟩, ⟨y0, y1, y2⟩⟩ := HC.out w1 HL1.out
  cases c1
  case false =>
    have HR : Hid (R = false) := by show _ = _; rw [HF.out]; rfl
    clear HF
    go_wp2_with fail
    go_ret
    exact ⟨by rw [HR.out] <;> rfl, HB1.out⟩
  case true =>
    have HX : Hid (R = ((p || q) && !c2 && !c3)) := by show _ = _; rw [HF.out, Bool.true_and]
    clear HF
    cases hpq : (p || q)
    case false =>
      obtain ⟨rfl, rfl⟩ := Bool.or_eq_false_iff.1 hpq
      have HR : Hid (R = false) := by show _ = _; rw [HX.out]; rfl
      clear HX hpq
      go_wp2_with fail
      go_ret
      exact ⟨by rw [HR.out] <;> rfl, HB1.out⟩
    case true =>
      have HY : Hid (R = (!c2 && !c3)) := by show _ = _; rw [HX.out, hpq, Bool.true_and]
      clear HX
      have hcs : (p = false ∧ q = true) ∨ p = true := by cases p <;> cases q <;> simp at hpq ⊢
      clear hpq
      rcases hcs with ⟨rfl, rfl⟩ | rfl
      all_goals
        go_wp2_with fail
        refine (H2.out w1 HB1.out).mono ?_
        rintro e w2 ⟨rfl, b2⟩
        have HB2 := Hid.mk' (bt HB1.out b2)
        have HL2 := Hid.mk' (bt HL1.out b2)
        clear x0 x1 x2 y0 y1 y2 b2
        obtain ⟨⟨x0, x1, x2⟩, ⟨y0, y1, y2⟩⟩ := HC.out w2 HL2.out
        cases c2
        case true =>
          have HR : Hid (R = false) := by show _ = _; rw [HY.out]; rfl
          clear HY
          go_wp2_with fail
          go_ret
          exact ⟨by rw [HR.out] <;> rfl, HB2.out⟩
        case false =>
          have HR : Hid (R = !c3) := by show _ = _; rw [HY.out]; rfl
          clear HY
          go_wp2_with fail
          refine (H3.out w2 HB2.out).mono ?_
          rintro e w3 ⟨rfl, b3⟩
          have HB3 := Hid.mk' (bt HB2.out b3)
          clear b3
          go_wp2_with fail
          go_ret
          exact ⟨by rw [HR.out] <;> rfl, HB3.out⟩
def cvB (a b : Rg) : Bool := if fmB a b = false ∨ (b.xc = true ∧ a.xc = false) ∨ 0 < cmp a.lo b.lo then false else decide (a.hi.length = 0) || (decide (0 < b.hi.length) && decide (cmp b.hi a.hi ≤ 0))
set_option maxRecDepth 100000 in
set_option maxHeartbeats 4000000 in
/-- lock.Covers -/
theorem covers_any {A A' : Nat → Prop} {w : World} {v u : Value} {r s : Rg} (h : RgIs A w v r) (h' : RgIs A' w u s) : Calls Try.prog 11 #[v, u] w fun e w' => e = .returned (.bool (cvB r s)) ∧ Below w.heap.size w w' := by
  have HF : Hid (cvB r s = if fmB r s = false ∨ (s.xc = true ∧ r.xc = false) ∨ 0 < cmp r.lo s.lo then false else decide (r.hi.length = 0) || (decide (0 < s.hi.length) && decide (cmp s.hi r.hi ≤ 0))) := rfl
  have H1 : Hid (∀ wz, Below w.heap.size w wz → Calls Try.prog 34 #[v, u] wz fun e w' => e = .returned (.bool (fmB r s)) ∧ Below wz.heap.size wz w') := fun wz hz => formed_any (h.up hz) (h'.up hz)
  obtain ⟨fa, fc, ta, tc, rfl, h1, h2⟩ := h.form
  obtain ⟨ga, gc, sa, sc, rfl, h3, h4⟩ := h'.form
  have H2 : Hid (∀ wz, Below w.heap.size w wz → Calls Try.prog 38 #[.slice fa r.lo.length fc, .slice ga s.lo.length gc] wz fun e w' => e = .returned (.int .i64 (cmp r.lo s.lo)) ∧ wz = w') := fun wz hz => pcompare_any (h1.up hz) (h3.up hz)
  have H3 : Hid (∀ wz, Below w.heap.size w wz → Calls Try.prog 38 #[.slice sa s.hi.length sc, .slice ta r.hi.length tc] wz fun e w' => e = .returned (.int .i64 (cmp s.hi r.hi)) ∧ wz = w') := fun wz hz => pcompare_any (h4.up hz) (h2.up hz)
  have hl1 : (r.hi.length : Int) ≤ 140737488351232 := by have := h2.2; unfold lim at this; omega
  have hl2 : (s.hi.length : Int) ≤ 140737488351232 := by have := h4.2; unfold lim at this; omega
  clear h h' h1 h2 h3 h4
  generalize cvB r s = R at *
  generalize fmB r s = c1 at *
  generalize cmp r.lo s.lo = z1 at *
  generalize cmp s.hi r.hi = z2 at *
  generalize r.xc = p at *
  generalize s.xc = q at *
  generalize r.hi.length = n at *
  generalize s.hi.length = m at *
  obtain ⟨W, hW, hb, hc⟩ := two_boxes w (.slice fa r.lo.length fc) (.slice ta n tc) (.bool p) (.slice ga s.lo.length gc) (.slice sa m sc) (.bool q) 24
  have HB := Hid.mk' hb
  have HC := Hid.mk' hc
  clear hb hc
  go_enter Try.func11, Try.ntmps11
  go_wp2_with fail
  rw [← hW]
  clear hW
  obtain ⟨⟨x0, x1, x2⟩, ⟨y0, y1, y2⟩⟩ := HC.out W (Below.refl _ _)
  go_wp2_with fail
  refine (H1.out W HB.out).mono ?_
  rintro e w1 ⟨rfl, b1⟩
  have HB1 := Hid.mk' (bt HB.out b1)
  have HL1 := Hid.mk' b1
  clear x0 x1 x2 y0 y1 y2 b1
  obtain ⟨⟨x0, x1, x2⟩, ⟨y0, y1, y2⟩⟩ := HC.out w1 HL1.out
  clear HC
  cases c1
  case false =>
    have HR : Hid (R = false) := by show _ = _; rw [HF.out, if_pos (.inl rfl)]
    clear HF
    go_wp2_with fail
    go_ret
    exact ⟨by rw [HR.out] <;> rfl, HB1.out⟩
  by_cases hx : q = true ∧ p = false
  · obtain ⟨rfl, rfl⟩ := hx
    have HR : Hid (R = false) := by show _ = _; rw [HF.out, if_pos (.inr (.inl ⟨rfl, rfl⟩))]
    clear HF
    go_wp2_with fail
    go_ret
    exact ⟨by rw [HR.out] <;> rfl, HB1.out⟩
  have HG : Hid (R = if 0 < z1 then false else decide (n = 0) || (decide (0 < m) && decide (z2 ≤ 0))) := by
    show _ = _
    rw [HF.out]
    by_cases hz : 0 < z1
    · rw [if_pos (.inr (.inr hz)), if_pos hz]
    · rw [if_neg (by rintro (h | h | h); cases h; exact hx h; exact hz h), if_neg hz]
  clear HF
  have hcs : q = false ∨ (q = true ∧ p = true) := by cases q <;> cases p <;> simp at hx ⊢
  clear hx
  rcases hcs with rfl | ⟨rfl, rfl⟩
  all_goals
    go_wp2_with fail
    refine (H2.out w1 HB1.out).mono ?_
    rintro e w2 ⟨rfl, rfl⟩
    by_cases hz : 0 < z1
    · have HR : Hid (R = false) := by show _ = _; rw [HG.out, if_pos hz]
      clear HG
      go_wp2_with fail
      go_ret
      exact ⟨by rw [HR.out] <;> rfl, HB1.out⟩
    have HK : Hid (R = (decide (n = 0) || (decide (0 < m) && decide (z2 ≤ 0)))) := by show _ = _; rw [HG.out, if_neg hz]
    clear HG
    by_cases hn : n = 0
    · have hn' : ((n : Int) == 0) = true := by rw [beq_iff_eq]; omega
      have HR : Hid (R = true) := by show _ = _; rw [HK.out, decide_eq_true hn]; rfl
      clear HK hn
      go_wp2_with fail
      go_ret
      exact ⟨by rw [HR.out] <;> rfl, HB1.out⟩
    have hn' : ((n : Int) == 0) = false := by rw [beq_eq_false_iff_ne]; omega
    have HK2 : Hid (R = (decide (0 < m) && decide (z2 ≤ 0))) := by show _ = _; rw [HK.out, decide_eq_false hn]; rfl
    clear HK hn
    by_cases hm : 0 < m
    · have hm' : (0 : Int) < (m : Int) := by omega
      have HR : Hid (R = decide (z2 ≤ 0)) := by show _ = _; rw [HK2.out, decide_eq_true hm]; rfl
      clear HK2
      go_wp2_with fail
      refine (H3.out w1 HB1.out).mono ?_
      rintro e w2 ⟨rfl, rfl⟩
      go_wp2_with fail
      go_ret
      exact ⟨by rw [HR.out] <;> rfl, HB1.out⟩
    · have hm' : ¬ (0 : Int) < (m : Int) := by omega
      have HR : Hid (R = false) := by show _ = _; rw [HK2.out, decide_eq_false hm]; rfl
      clear HK2
      go_wp2_with fail
      go_ret
      exact ⟨by rw [HR.out] <;> rfl, HB1.out⟩
end Go.Proofs.Yteejlmeinndlhaa
