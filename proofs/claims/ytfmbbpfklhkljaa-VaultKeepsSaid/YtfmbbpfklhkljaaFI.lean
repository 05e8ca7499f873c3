/- leaf.Find, groyneref08.Find. -/
import Derived.Test.YtfmbbpfklhkljaaA17
set_option linter.unusedVariables false
set_option linter.unusedSimpArgs false
namespace Go.Proofs.Ytfmbbpfklhkljaa
open Go.RowKit
theorem cmp_lt_trans : ∀ (a b c : List UInt8), cmp a b < 0 → cmp b c < 0 → cmp a c < 0
  | [], [], c, h, _ => by simp [cmp] at h
  | [], _ :: _, [], _, h => by simp [cmp] at h
  | [], _ :: _, _ :: _, _, _ => by simp [cmp]
  | _ :: _, [], _, h, _ => by simp [cmp] at h
  | x :: a, y :: b, [], _, h => by simp [cmp] at h
  | x :: a, y :: b, z :: c, h, k => by
    rw [cmp] at h k ⊢
    by_cases h1 : x.toNat < y.toNat
    · by_cases k1 : y.toNat < z.toNat
      · rw [if_pos (by omega)]; decide
      · rw [if_neg k1] at k
        by_cases k2 : z.toNat < y.toNat
        · rw [if_pos k2] at k; simp at k
        · rw [if_pos (by omega)]; decide
    · rw [if_neg h1] at h
      by_cases h2 : y.toNat < x.toNat
      · rw [if_pos h2] at h; simp at h
      · rw [if_neg h2] at h
        by_cases k1 : y.toNat < z.toNat
        · rw [if_pos (by omega)]; decide
        · rw [if_neg k1] at k
          by_cases k2 : z.toNat < y.toNat
          · rw [if_pos k2] at k; simp at k
          · rw [if_neg k2] at k
            rw [if_neg (by omega), if_neg (by omega)]
            exact cmp_lt_trans a b c h k
/-- how many keys stand ahead -/
def pos (l : List (List UInt8)) (k : List UInt8) : Nat := (l.takeWhile fun x => decide (cmp x k < 0)).length
theorem pos_le (l : List (List UInt8)) (k : List UInt8) : pos l k ≤ l.length := by
  unfold pos; exact (List.takeWhile_prefix _).length_le
theorem pos_lt {l : List (List UInt8)} {k : List UInt8} {i : Nat} (h : i < pos l k) (hi : i < l.length) : cmp l[i] k < 0 := by
  unfold pos at h
  have h1 := List.all_takeWhile (p := fun x => decide (cmp x k < 0)) (l := l)
  have h2 := List.all_eq_true.1 h1 _ (List.getElem_mem h)
  rw [(List.takeWhile_prefix (fun x => decide (cmp x k < 0))).getElem h] at h2
  simpa using h2
theorem pos_at {l : List (List UInt8)} {k : List UInt8} (h : pos l k < l.length) : ¬ cmp (l[pos l k]) k < 0 := by
  induction l with
  | nil => simp at h
  | cons x l ih =>
    by_cases hx : cmp x k < 0
    · have e : pos (x :: l) k = pos l k + 1 := by unfold pos; rw [List.takeWhile_cons_of_pos (by simpa using hx)]; rfl
      simp only [e, List.getElem_cons_succ]
      exact ih (by rw [e] at h; simpa using h)
    · have e : pos (x :: l) k = 0 := by unfold pos; rw [List.takeWhile_cons_of_neg (by simpa using hx)]; rfl
      simp only [e, List.getElem_cons_zero]
      exact hx
theorem asc_lt {l : List (List UInt8)} (h : asc l = true) : ∀ (d i : Nat) (hd : i + d + 1 < l.length), cmp (l[i]'(by omega)) (l[i + d + 1]) < 0
  | 0, i, hd => (asc_iff l).1 h i hd
  | d + 1, i, hd => cmp_lt_trans _ _ _ (asc_lt h d i (by omega)) ((asc_iff l).1 h (i + d + 1) hd)
theorem pos_of_lt {l : List (List UInt8)} {k : List UInt8} {i : Nat} (ha : asc l = true) (hi : i < l.length) (h : cmp l[i] k < 0) : i < pos l k := by
  rcases Nat.lt_or_ge i (pos l k) with h1 | h1
  · exact h1
  · have h2 := pos_at (l := l) (k := k) (by omega)
    rcases Nat.lt_or_ge (pos l k) i with h3 | h3
    · have h4 := asc_lt ha (i - pos l k - 1) (pos l k) (by omega)
      simp only [show pos l k + (i - pos l k - 1) + 1 = i by omega] at h4
      exact absurd (cmp_lt_trans _ _ _ h4 h) h2
    · have : pos l k = i := by omega
      simp only [this] at h2
      exact absurd h h2
theorem pos_of_ge {l : List (List UInt8)} {k : List UInt8} {i : Nat} (hi : i < l.length) (h : ¬ cmp l[i] k < 0) : pos l k ≤ i := by
  rcases Nat.lt_or_ge i (pos l k) with h1 | h1
  · exact absurd (pos_lt h1 hi) h
  · exact h1
def hit (l : List (List UInt8)) (k : List UInt8) : Bool := decide (pos l k < l.length) && (cmp (l.getD (pos l k) []) k == 0)
def FindPost (w : World) (l : List (List UInt8)) (k : List UInt8) (e : Ending) (w' : World) : Prop := e = .returned (.tuple #[.int .i64 (pos l k), .bool (hit l k)]) ∧ Below w.heap.size w w'
theorem mid_lt {i j : Nat} (h : i < j) (hj : (j : Int) ≤ 140737488351232) : (IntKind.u64.wrap (IntKind.i64.wrap ((i : Int) + (j : Int)))) = ((i + j : Nat) : Int) := by
  rw [IntKind.wrap_i64, IntKind.wrap_u64]; omega
set_option maxHeartbeats 2000000 in
set_option maxRecDepth 100000 in
/-- slices.BinarySearchFunc with pack.Compare -/
theorem bsearch_any {A A' : Nat → Prop} {w : World} {v kb : Value} {l : List (List UInt8)} {k : List UInt8} (h : Bss A w v l) (hk : Bs A' w kb k) (ha : asc l = true) :
    Calls Try.prog 80 #[v, kb, .func (.func 81) #[] #[]] w fun e w' => e = .returned (.tuple #[.int .i64 (pos l k), .bool (hit l k)]) ∧ w = w' := by
  have hlim : l.length * 24 ≤ 140737488351232 := by obtain ⟨_, _, _, h3⟩ := h; exact h3
  obtain ⟨a, c, rfl, hc, _, H⟩ := h.at
  have H : Hid _ := H
  have HA := Hid.mk' ha
  have HK := Hid.mk' hk
  have HP := Hid.mk' (pos_le l k)
  clear h ha hk
  go_enter Try.func80, Try.ntmps80
  go_wp2_with fail
  go_loop [9, 10] (fun i j => ∃ p q : Nat, p ≤ pos l k ∧ pos l k ≤ q ∧ q ≤ l.length ∧ i = .int .i64 p ∧ j = .int .i64 q) (fun i j => (intOf j).toNat - (intOf i).toNat)
  case atStart => exact ⟨0, l.length, by omega, HP.out, Nat.le_refl _, rfl, rfl⟩
  case round =>
    obtain ⟨p, q, h1, h2, h3, rfl, rfl⟩ := hrel
    by_cases hlt : p < q
    · have hlt' : (p : Int) < (q : Int) := by omega
      obtain ⟨m, hm⟩ : ∃ m, m = (p + q) / 2 := ⟨_, rfl⟩
      have hml : m < l.length := by omega
      obtain ⟨b, o, x, rfl, _, hu, hx⟩ := H.out m hml
      have HC := Hid.mk' (compare_any x kb l[m] k w hx HK.out)
      have HL := Hid.mk' (fun h => pos_of_lt (k := k) HA.out hml h)
      have HG := Hid.mk' (fun h => pos_of_ge (k := k) hml h)
      have hq : (q : Int) ≤ 140737488351232 := by omega
      have hmi : ((p : Int) + (q : Int)) / 2 = (m : Int) := by omega
      have hmi2 : ((p : Int) + (q : Int)).toNat / 2 = m := by omega
      have hmm : (m : Int) < l.length := by omega
      clear hx hm
      generalize l[m] = y at *
      by_cases hcc : cmp y k < 0
      · have HL2 := Hid.mk' (HL.out hcc)
        clear HL HG
        go_wp2_with fail
        refine HC.out.mono ?_
        rintro e w' ⟨rfl, rfl⟩
        go_wp2_with fail
        go_round
        case rel => have := HL2.out; exact ⟨m + 1, q, by omega, h2, h3, by go_num, rfl⟩
        case measure => simp [intOf]; omega
      · have HG2 := Hid.mk' (HG.out hcc)
        clear HL HG
        go_wp2_with fail
        refine HC.out.mono ?_
        rintro e w' ⟨rfl, rfl⟩
        go_wp2_with fail
        go_round
        case rel => exact ⟨p, m, h1, HG2.out, by omega, rfl, rfl⟩
        case measure => simp [intOf]; omega
    · obtain rfl : p = pos l k := by omega
      by_cases hpl : pos l k < l.length
      · have hpl' : (pos l k : Int) < (l.length : Int) := by omega
        obtain ⟨b, o, x, rfl, _, hu, hx⟩ := H.out (pos l k) hpl
        have HC := Hid.mk' (compare_any x kb l[pos l k] k w hx HK.out)
        have HH : Hid (hit l k = (cmp l[pos l k] k == 0)) := by show _ = _; unfold hit; rw [getD_get _ _ _ hpl]; simp [hpl]
        clear hx
        generalize l[pos l k] = y at *
        go_wp2_with fail
        refine HC.out.mono ?_
        rintro e w' ⟨rfl, rfl⟩
        go_wp2_with fail
        go_ret2
        exact ⟨by rw [HH.out]; rfl, rfl⟩
      · have hpl' : ¬ (pos l k : Int) < (l.length : Int) := by omega
        have HH : Hid (hit l k = false) := by show _ = _; unfold hit; simp [hpl]
        go_wp2_with fail
        go_ret2
        exact ⟨by rw [HH.out]; rfl, rfl⟩
/-- leaf.Find -/
theorem find_any {A A' : Nat → Prop} {w : World} {v kb : Value} {n : Nd} {k : List UInt8} (h : RN A w v n) (hk : Bs A' w kb k) (ha : asc n.keys = true) : Calls Try.prog 34 #[v, kb] w (FindPost w n.keys k) := by
  obtain ⟨k1, u1, c1, rfl, h1, h2, h3⟩ := h
  obtain ⟨x1, y1, rfl, _⟩ := h1.at
  have HC := Hid.mk' (fun w' (hb : Below w.heap.size w w') => bsearch_any (h1.up hb) (hk.up hb) ha)
  obtain ⟨x2, y2, rfl, _⟩ := h2.at
  obtain ⟨x3, y3, rfl, _⟩ := h3.at
  clear h1 h2 h3 hk ha
  go_enter Try.func34, Try.ntmps34
  go_wp2_with fail
  refine (HC.out _ (up_alloc _ _)).mono ?_
  rintro e w' ⟨rfl, rfl⟩
  go_wp2_with fail
  go_ret2
  exact ⟨rfl, up_alloc _ _⟩
set_option maxHeartbeats 2000000 in
set_option maxRecDepth 100000 in
/-- groyneref08.Find -/
theorem rfind_any {A A' : Nat → Prop} {w : World} {v kb : Value} {n : Nd} {k : List UInt8} (h : RN A w v n) (hk : Bs A' w kb k) : Calls Try.prog 35 #[v, kb] w (FindPost w n.keys k) := by
  obtain ⟨k1, u1, c1, rfl, h1, h2, h3⟩ := h
  have hlim : n.keys.length * 24 ≤ 140737488351232 := by obtain ⟨_, _, _, h3⟩ := h1; exact h3
  obtain ⟨x1, y1, rfl, _, _, H⟩ := h1.at
  obtain ⟨x2, y2, rfl, _⟩ := h2.at
  obtain ⟨x3, y3, rfl, _⟩ := h3.at
  have H : Hid _ := H
  have HK := Hid.mk' hk
  have HP := Hid.mk' (pos_le n.keys k)
  clear h1 h2 h3 hk
  go_enter Try.func35, Try.ntmps35
  go_wp2_with fail
  obtain ⟨W, hW, ⟨b0, b1, b2, b3⟩, bf, hbW, hsz⟩ := box4 w (.bool n.leaf) (.slice x1 n.keys.length y1) (.slice x2 n.vals.length y2) (.slice x3 n.kids.length y3) 31
  rw [← hW]
  clear hW
  have BX : Hid (Bx4 w.heap.size (.bool n.leaf) (.slice x1 n.keys.length y1) (.slice x2 n.vals.length y2) (.slice x3 n.kids.length y3) W) := ⟨b0, b1, b2, b3⟩
  have HB := Hid.mk' hbW
  clear b0 b1 b2 b3 bf hbW hsz
  go_loopw [6] (fun i wr => ∃ p : Nat, p ≤ pos n.keys k ∧ i = .int .i64 p ∧ Hid (Dn W wr)) (fun i _ => n.keys.length - (intOf i).toNat)
  case atStart => exact ⟨0, by omega, rfl, Hid.mk' (Dn.refl _)⟩
  case round =>
    obtain ⟨p, hp, rfl, HW⟩ := hrel
    obtain ⟨b0, b1, b2, b3⟩ := BX.out.up (HW.out.below _)
    by_cases hlt : p < n.keys.length
    · have hlt' : (p : Int) < (n.keys.length : Int) := by omega
      obtain ⟨b, o, x, rfl, _, hu, hx⟩ := H.out p hlt
      have g1 := cell_later (HB.out.trans (HW.out.below _)) hu
      have HC := Hid.mk' (fun w' (hb : Below w.heap.size w w') => cmp_any x kb n.keys[p] k w' (hx.up hb) (HK.out.up hb))
      have HG := Hid.mk' (fun h => pos_of_ge (k := k) hlt h)
      have HN : Hid (p = pos n.keys k → hit n.keys k = (cmp n.keys[p] k == 0)) := fun h => by
        subst h; unfold hit; rw [getD_get _ _ _ hlt]; simp [hlt]
      have HS : Hid (cmp n.keys[p] k < 0 → p + 1 ≤ pos n.keys k) := fun h => by
        rcases Nat.lt_or_ge p (pos n.keys k) with h1 | h1
        · omega
        · have : pos n.keys k = p := by omega
          have h2 := pos_at (l := n.keys) (k := k) (by omega)
          simp only [this] at h2
          exact absurd h h2
      clear hx hu
      generalize n.keys[p] = y at *
      by_cases hcc : cmp y k < 0
      · have HS2 := Hid.mk' (HS.out hcc)
        have hd : decide (0 ≤ cmp y k) = false := by simp; omega
        clear HG HN HS hcc
        go_wp2_with fail
        refine (HC.out _ (HB.out.trans (HW.out.below _))).mono ?_
        rintro e w' ⟨rfl, hd'⟩
        have HW' := Hid.mk' (HW.out.trans hd')
        clear b0 b1 b2 b3 hd'
        obtain ⟨b0, b1, b2, b3⟩ := BX.out.up (HW'.out.below _)
        go_wp2_with fail
        go_roundw
        case rel => exact ⟨p + 1, HS2.out, by go_num, HW'⟩
        case measure => simp [intOf]; omega
      · have hpe : p = pos n.keys k := by have := HG.out hcc; omega
        have HN2 := Hid.mk' (HN.out hpe)
        have HPE := Hid.mk' hpe
        have hd : decide (0 ≤ cmp y k) = true := by simp; omega
        clear HG HN HS hcc hpe
        go_wp2_with fail
        refine (HC.out _ (HB.out.trans (HW.out.below _))).mono ?_
        rintro e w' ⟨rfl, hd'⟩
        have HW' := Hid.mk' (HW.out.trans hd')
        clear hd'
        go_wp2_with fail
        go_ret2
        exact ⟨by rw [HN2.out, ← HPE.out]; rfl, HB.out.trans (HW'.out.below _)⟩
    · have hpe : p = pos n.keys k := by have := HP.out; omega
      have hpl : pos n.keys k = n.keys.length := by have := HP.out; omega
      have HN2 : Hid (hit n.keys k = false) := by show _ = _; unfold hit; simp; omega
      have HPL := Hid.mk' hpl
      have hlt' : ¬ (p : Int) < (n.keys.length : Int) := by omega
      clear hpe hpl
      go_wp2_with fail
      go_ret2
      exact ⟨by rw [HN2.out, HPL.out]; rfl, HB.out.trans (HW.out.below _)⟩
end Go.Proofs.Ytfmbbpfklhkljaa
