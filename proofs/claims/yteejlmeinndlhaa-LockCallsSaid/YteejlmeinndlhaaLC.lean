/- Rows of ranges. groyneref11: Check, has, Clash, Covers. -/
import Derived.Test.YteejlmeinndlhaaLB
set_option linter.unusedVariables false
set_option linter.unusedSimpArgs false
namespace Go.Proofs.Yteejlmeinndlhaa
open Go.RowKit
attribute [local go_sem ↓] Go.wp_at_zero Go.wp_at_succ
abbrev Rq := Rg × Value × Value
def rc (q : Rq) : List Value := [q.2.1, q.2.2, .bool q.1.xc]
def rcs (L : List Rq) : List Value := (L.map rc).flatten
theorem rcs_get (L : List Rq) (i : Nat) (h : i < L.length) (j : Nat) (hj : j < 3) : (rcs L)[i * 3 + j]? = (rc L[i])[j]? := by
  induction L generalizing i with
  | nil => cases h
  | cons q L ih =>
    have e : rcs (q :: L) = rc q ++ rcs L := by simp [rcs]
    have hl : (rc q).length = 3 := rfl
    rw [e]
    cases i with
    | zero => rw [List.getElem?_append_left (by omega)]; simp
    | succ i =>
      rw [List.getElem?_append_right (by omega), hl, show (i + 1) * 3 + j - 3 = i * 3 + j by omega]
      exact ih i (by simpa using h)
theorem rcs_len (L : List Rq) : (rcs L).length = L.length * 3 := by
  induction L with
  | nil => rfl
  | cons q L ih => have e : rcs (q :: L) = rc q ++ rcs L := by simp [rcs]
                   rw [e, List.length_append, ih, List.length_cons]; simp [rc]; omega
theorem rcs_app (L M : List Rq) : rcs (L ++ M) = rcs L ++ rcs M := by simp [rcs]
theorem rcs_take (L : List Rq) (m : Nat) : (rcs L).take (m * 3) = rcs (L.take m) := by
  induction L generalizing m with
  | nil => simp [rcs]
  | cons q L ih =>
    cases m with
    | zero => simp [rcs]
    | succ m =>
      have : rcs (q :: L) = rc q ++ rcs L := by simp [rcs]
      rw [this, List.take_succ_cons, show rcs (q :: L.take m) = rc q ++ rcs (L.take m) by simp [rcs], ← ih m]
      rw [show (m + 1) * 3 = m * 3 + 1 + 1 + 1 by omega]
      simp [rc]
/-- what a range that was read holds -/
def Rqi (A : Nat → Prop) (w : World) (q : Rq) : Prop := Bs A w q.2.1 q.1.lo ∧ Bs A w q.2.2 q.1.hi
/-- v reads as the ranges l -/
def Rgs (A : Nat → Prop) (w : World) (v : Value) (l : List Rg) : Prop := ∃ L : List Rq, L.map (·.1) = l ∧ Row 3 A w v L.length (rcs L) ∧ (∀ q ∈ L, Rqi A w q) ∧ L.length * 56 ≤ lim
theorem Rgs.up {A : Nat → Prop} {w w' : World} {v : Value} {l : List Rg} (h : Rgs A w v l) (hb : Below w.heap.size w w') : Rgs A w' v l := by
  obtain ⟨L, h1, h2, h3, h4⟩ := h
  exact ⟨L, h1, h2.up hb, fun q hq => ⟨(h3 q hq).1.up hb, (h3 q hq).2.up hb⟩, h4⟩
theorem Rgs.keepS {A : Nat → Prop} {w w' : World} {v : Value} {l : List Rg} (h : Rgs A w v l) (hb : Same A w w') : Rgs A w' v l := by
  obtain ⟨L, h1, h2, h3, h4⟩ := h
  exact ⟨L, h1, h2.keepS hb, fun q hq => ⟨(h3 q hq).1.keepS hb, (h3 q hq).2.keepS hb⟩, h4⟩
theorem Rgs.monoS {A A' : Nat → Prop} {w : World} {v : Value} {l : List Rg} (h : Rgs A w v l) (hA : ∀ k, A k → A' k) : Rgs A' w v l := by
  obtain ⟨L, h1, h2, h3, h4⟩ := h
  exact ⟨L, h1, h2.monoS hA, fun q hq => ⟨(h3 q hq).1.monoS hA, (h3 q hq).2.monoS hA⟩, h4⟩
theorem Bs.andLt {A : Nat → Prop} {w : World} {v : Value} {l : List UInt8} (h : Bs A w v l) : Bs (fun k => A k ∧ k < w.heap.size) w v l := by
  obtain ⟨⟨hl, a, c, rfl, hc, ha, H⟩, hz⟩ := h
  refine ⟨⟨hl, a, c, rfl, hc, ha, fun j u hj => ?_⟩, hz⟩
  obtain ⟨b, o, h1, h2, h3⟩ := H j u hj
  exact ⟨b, o, h1, ⟨h2, World.block_lt_of_cell? w ⟨b, o + j, none⟩ h3⟩, h3⟩
theorem Rgs.andLt {A : Nat → Prop} {w : World} {v : Value} {l : List Rg} (h : Rgs A w v l) : Rgs (fun k => A k ∧ k < w.heap.size) w v l := by
  obtain ⟨L, h1, ⟨hl, a, c, rfl, hc, ha, H⟩, h3, h4⟩ := h
  refine ⟨L, h1, ⟨hl, a, c, rfl, hc, ha, fun j u hj => ?_⟩, fun q hq => ⟨(h3 q hq).1.andLt, (h3 q hq).2.andLt⟩, h4⟩
  obtain ⟨b, o, h1, h2, h3⟩ := H j u hj
  exact ⟨b, o, h1, ⟨h2, World.block_lt_of_cell? w ⟨b, o + j, none⟩ h3⟩, h3⟩
theorem Rgs.at {A : Nat → Prop} {w : World} {v : Value} {l : List Rg} (h : Rgs A w v l) : ∃ (a : Option Addr) (c : Nat), v = .slice a l.length c ∧ l.length ≤ c ∧ (a = none → c = 0) ∧ l.length * 56 ≤ lim ∧
    ∀ j (hj : j < l.length), ∃ b o fa fc ta tc, a = some ⟨b, o, none⟩ ∧ A b ∧ (w.cell? ⟨b, o + j * 3, none⟩ = some (.slice fa l[j].lo.length fc) ∧ w.cell? ⟨b, o + j * 3 + 1, none⟩ = some (.slice ta l[j].hi.length tc) ∧ w.cell? ⟨b, o + j * 3 + 2, none⟩ = some (.bool l[j].xc)) ∧ Bs A w (.slice fa l[j].lo.length fc) l[j].lo ∧ Bs A w (.slice ta l[j].hi.length tc) l[j].hi := by
  obtain ⟨L, rfl, ⟨hl, a, c, hv, hc, ha, H⟩, h3, h4⟩ := h
  refine ⟨a, c, by rw [hv, List.length_map], by rw [List.length_map]; exact hc, ha, by rw [List.length_map]; exact h4, fun j hj => ?_⟩
  have hj' : j < L.length := by simpa using hj
  have g := rcs_get L j hj'
  have g0 := g 0 (by decide)
  have g1 := g 1 (by decide)
  have g2 := g 2 (by decide)
  unfold rc at g0 g1 g2
  obtain ⟨b, o, rfl, hA, e0⟩ := H _ _ g0
  obtain ⟨_, _, k, _, e1⟩ := H _ _ g1; cases k
  obtain ⟨_, _, k, _, e2⟩ := H _ _ g2; cases k
  have hq := h3 L[j] (List.getElem_mem hj')
  simp only [List.getElem_map]
  obtain ⟨fa, fc, ef, _⟩ := hq.1.at
  obtain ⟨ta, tc, et, _⟩ := hq.2.at
  have h5 := hq.1
  have h6 := hq.2
  rw [ef] at e0 h5
  rw [et] at e1 h6
  exact ⟨b, o, fa, fc, ta, tc, rfl, hA, ⟨e0, e1, e2⟩, h5, h6⟩
/-- a literal of two ranges, just laid -/
theorem rgs_two {A A' : Nat → Prop} {w : World} {r s : Rg} {fa ta ga sa : Option Addr} {fc tc gc sc : Nat} (h1 : Bs A w (.slice fa r.lo.length fc) r.lo) (h2 : Bs A w (.slice ta r.hi.length tc) r.hi) (h3 : Bs A' w (.slice ga s.lo.length gc) s.lo) (h4 : Bs A' w (.slice sa s.hi.length sc) s.hi) :
    Rgs (fun _ => True) (w.alloc (.cells #[.slice fa r.lo.length fc, .slice ta r.hi.length tc, .bool r.xc, .slice ga s.lo.length gc, .slice sa s.hi.length sc, .bool s.xc] 24)) (.slice (some ⟨w.heap.size, 0, none⟩) 2 2) [r, s] := by
  refine ⟨[(r, .slice fa r.lo.length fc, .slice ta r.hi.length tc), (s, .slice ga s.lo.length gc, .slice sa s.hi.length sc)], rfl, ⟨rfl, _, _, rfl, Nat.le_refl _, by simp, fun j u hj => ⟨_, _, rfl, trivial, ?_⟩⟩, fun q hq => ?_, by unfold lim; simp⟩
  · match j, hj with
    | 0, hj => simp [rcs, rc] at hj; subst hj; simp
    | 1, hj => simp [rcs, rc] at hj; subst hj; simp
    | 2, hj => simp [rcs, rc] at hj; subst hj; simp
    | 3, hj => simp [rcs, rc] at hj; subst hj; simp
    | 4, hj => simp [rcs, rc] at hj; subst hj; simp
    | 5, hj => simp [rcs, rc] at hj; subst hj; simp
  · simp only [List.mem_cons, List.not_mem_nil, or_false] at hq
    rcases hq with rfl | rfl
    · exact ⟨(h1.up (up_alloc _ _)).monoS fun _ _ => trivial, (h2.up (up_alloc _ _)).monoS fun _ _ => trivial⟩
    · exact ⟨(h3.up (up_alloc _ _)).monoS fun _ _ => trivial, (h4.up (up_alloc _ _)).monoS fun _ _ => trivial⟩
def szB (r : Rg) : Bool := decide (65 < r.lo.length) || decide (65 < r.hi.length)
def fqB (r : Rg) : Bool := decide (0 < r.hi.length) && decide (cmp r.hi r.lo ≤ 0)
def rcg : Int → List Rg → Int
  | o, [] => o
  | o, r :: t => if szB r then 2 else rcg (if fqB r then 3 else o) t
def rck (l : List Rg) : Int := if 64 < l.length then 2 else rcg 0 l
theorem rcg_cons (o : Int) (r : Rg) (t : List Rg) : rcg o (r :: t) = if szB r then 2 else rcg (if fqB r then 3 else o) t := rfl
set_option maxRecDepth 100000 in
set_option maxHeartbeats 4000000 in
/-- groyneref11.Check -/
theorem rcheck_any {A : Nat → Prop} {w : World} {v : Value} {l : List Rg} (h : Rgs A w v l) : Calls Try.prog 22 #[v] w fun e w' => e = .returned (.int .i64 (rck l)) ∧ Dn w w' := by
  obtain ⟨a, c, rfl, hc, _, hz, H⟩ := h.at
  have H : Hid _ := H
  have HR : Hid (rck l = if 64 < l.length then 2 else rcg 0 l) := rfl
  have hlz : (l.length : Int) ≤ 140737488351232 := by unfold lim at hz; omega
  clear h hz
  generalize rck l = R at *
  by_cases h64 : 64 < l.length
  · have h64' : (64 : Int) < (l.length : Int) := by omega
    have HR2 : Hid (R = 2) := by show _ = _; rw [HR.out, if_pos h64]
    clear HR
    go_enter Try.func22, Try.ntmps22
    go_wp2_with fail
    go_ret
    exact ⟨by rw [HR2.out] <;> rfl, Dn.refl _⟩
  have h64' : ¬ (64 : Int) < (l.length : Int) := by omega
  have HR2 : Hid (R = rcg 0 l) := by show _ = _; rw [HR.out, if_neg h64]
  clear HR
  go_enter Try.func22, Try.ntmps22
  go_wp2_with fail
  go_loopw [3, 4] (fun x i wr => ∃ (k : Nat) (o : Int), k ≤ l.length ∧ i = .int .i64 k ∧ x = .int .i64 o ∧ Hid (R = rcg o (l.drop k)) ∧ Hid (Dn w wr)) (fun _ i _ => l.length - (intOf i).toNat)
  case atStart => exact ⟨0, 0, by omega, rfl, rfl, HR2, Dn.refl _⟩
  case round =>
    clear HR2
    obtain ⟨k, o, hk, rfl, rfl, HF, HD⟩ := hrel
    by_cases hlt : k < l.length
    · have hlt' : (k : Int) < (l.length : Int) := by omega
      obtain ⟨b, of, fa, fc, ta, tc, rfl, _, ⟨c0, c1, c2⟩, hb1, hb2⟩ := H.out k hlt
      have c0 : wr.cell? ⟨b, of + k * 3, none⟩ = some (.slice fa l[k].lo.length fc) := by obtain ⟨nd, e⟩ := HD.out; rw [e]; exact c0
      have c1 : wr.cell? ⟨b, of + k * 3 + 1, none⟩ = some (.slice ta l[k].hi.length tc) := by obtain ⟨nd, e⟩ := HD.out; rw [e]; exact c1
      have hb1 := hb1.up (HD.out.below w.heap.size)
      have hb2 := hb2.up (HD.out.below w.heap.size)
      have HT : Hid (R = if szB l[k] then 2 else rcg (if fqB l[k] then 3 else o) (l.drop (k + 1))) := by
        show _ = _
        rw [HF.out, List.drop_eq_getElem_cons hlt, rcg_cons]
      clear HF
      have hl1 : (l[k].lo.length : Int) ≤ 140737488351232 := by have := hb1.2; unfold lim at this; omega
      have hl2 : (l[k].hi.length : Int) ≤ 140737488351232 := by have := hb2.2; unfold lim at this; omega
      have HCM : Hid (∀ n, Calls Try.prog 36 #[.slice ta l[k].hi.length tc, .slice fa l[k].lo.length fc] (wr.drewN n) fun e w' => e = .returned (.int .i64 (cmp l[k].hi l[k].lo)) ∧ Dn (wr.drewN n) w') := fun n => cmp_any _ _ _ _ _ hb2 hb1
      have HS : Hid (szB l[k] = (decide (65 < l[k].lo.length) || decide (65 < l[k].hi.length))) := rfl
      have HQ : Hid (fqB l[k] = (decide (0 < l[k].hi.length) && decide (cmp l[k].hi l[k].lo ≤ 0))) := rfl
      clear hb1 hb2
      generalize cmp l[k].hi l[k].lo = z at *
      generalize szB l[k] = sz at *
      generalize fqB l[k] = fq at *
      generalize l[k].lo.length = n at *
      generalize l[k].hi.length = m at *
      generalize l[k].xc = xc at *
      by_cases h1 : 65 < n
      · have h1' : (65 : Int) < (n : Int) := by omega
        have HR3 : Hid (R = 2) := by show _ = _; rw [HT.out, HS.out, decide_eq_true h1]; rfl
        clear HT HS HQ
        go_wp2_with fail
        go_ret
        exact ⟨by rw [HR3.out] <;> rfl, HD.out⟩
      have h1' : ¬ (65 : Int) < (n : Int) := by omega
      by_cases h2 : 65 < m
      · have h2' : (65 : Int) < (m : Int) := by omega
        have HR3 : Hid (R = 2) := by show _ = _; rw [HT.out, HS.out, decide_eq_true h2, Bool.or_true]; rfl
        clear HT HS HQ
        go_wp2_with fail
        go_ret
        exact ⟨by rw [HR3.out] <;> rfl, HD.out⟩
      have h2' : ¬ (65 : Int) < (m : Int) := by omega
      have HT2 : Hid (R = rcg (if fq then 3 else o) (l.drop (k + 1))) := by show _ = _; rw [HT.out, HS.out, decide_eq_false h1, decide_eq_false h2]; rfl
      clear HT HS
      by_cases h3 : 0 < m
      · have h3' : (0 : Int) < (m : Int) := by omega
        have hd3 : decide ((0 : Int) < (m : Int)) = true := decide_eq_true h3'
        by_cases h4 : z ≤ 0
        · have HT3 : Hid (R = rcg 3 (l.drop (k + 1))) := by show _ = _; rw [HT2.out, HQ.out, decide_eq_true h3, decide_eq_true h4]; rfl
          clear HT2 HQ
          go_wp2_with fail
          go_quiet ((go_at_call 36; exact quiet_dn (HCM.out _)))
          go_wp2_with fail
          go_roundw
          case rel => exact ⟨k + 1, 3, by omega, by go_num, rfl, HT3, HD.out.more _⟩
          case measure => simp [intOf]; omega
        · have HT3 : Hid (R = rcg o (l.drop (k + 1))) := by show _ = _; rw [HT2.out, HQ.out, decide_eq_true h3, decide_eq_false h4]; rfl
          clear HT2 HQ
          go_wp2_with fail
          go_quiet ((go_at_call 36; exact quiet_dn (HCM.out _)))
          go_wp2_with fail
          go_roundw
          case rel => exact ⟨k + 1, o, by omega, by go_num, rfl, HT3, HD.out.more _⟩
          case measure => simp [intOf]; omega
      · have h3' : ¬ (0 : Int) < (m : Int) := by omega
        have hd3 : decide ((0 : Int) < (m : Int)) = false := decide_eq_false h3'
        have HT3 : Hid (R = rcg o (l.drop (k + 1))) := by show _ = _; rw [HT2.out, HQ.out, decide_eq_false h3]; rfl
        clear HT2 HQ
        go_wp2_with fail
        go_quiet (fail)
        go_wp2_with fail
        go_roundw
        case rel => exact ⟨k + 1, o, by omega, by go_num, rfl, HT3, HD.out.more _⟩
        case measure => simp [intOf]; omega
    · obtain rfl : k = l.length := by omega
      have HT : Hid (R = o) := by have := HF.out; rw [List.drop_length] at this; exact this
      go_wp2_with fail
      go_ret
      exact ⟨by rw [HT.out] <;> rfl, HD.out⟩
end Go.Proofs.Yteejlmeinndlhaa
