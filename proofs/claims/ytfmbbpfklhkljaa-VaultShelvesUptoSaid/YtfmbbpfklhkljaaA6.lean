/- leaf.formed, leaf.Check. -/
import Derived.Test.YtfmbbpfklhkljaaA5
set_option linter.unusedVariables false
set_option linter.unusedSimpArgs false
namespace Go.Proofs.Ytfmbbpfklhkljaa
open Go.RowKit
theorem asc_bad {l : List (List UInt8)} {k : Nat} (h0 : 0 < k) (h : k < l.length) (hc : 0 ≤ cmp (l[k - 1]'(by omega)) l[k]) : asc l = false := by
  cases ha : asc l with
  | false => rfl
  | true =>
    have := (asc_iff l).1 ha (k - 1) (by omega)
    have e : k - 1 + 1 = k := by omega
    simp only [e] at this
    omega
def AscTo (l : List (List UInt8)) (k : Nat) : Prop := ∀ i (h : i + 1 < l.length), i + 1 < k → cmp (l[i]'(by omega)) l[i + 1] < 0
theorem ascTo_one (l : List (List UInt8)) : AscTo l 1 := fun i _ h => by omega
theorem ascTo_succ {l : List (List UInt8)} {k : Nat} (h0 : 0 < k) (hk : k < l.length) (h : AscTo l k) (hc : cmp (l[k - 1]'(by omega)) l[k] < 0) : AscTo l (k + 1) := by
  intro i hi hik
  by_cases he : i + 1 = k
  · subst he; exact hc
  · exact h i hi (by omega)
theorem ascTo_all {l : List (List UInt8)} {k : Nat} (h : AscTo l k) (hk : l.length ≤ k) : asc l = true := (asc_iff l).2 fun i hi => h i hi (by omega)
theorem quiet_eq' {P : Program} {f : FuncId} {args : Array Value} {w : World} {n : Nat} {v : Value} (h : Calls P f args (w.drewN n) fun e w' => e = .returned v ∧ (w.drewN n) = w') : Calls P f args (w.drewN n) fun e w'' => e = .returned v ∧ ∃ m, w'' = w.drewN m :=
  h.mono fun _ _ ⟨he, hm⟩ => ⟨he, n, hm.symm⟩
theorem beqi (a b : Nat) : (a == b) = ((a : Int) == (b : Int)) := by
  rw [Bool.eq_iff_iff, beq_iff_eq, beq_iff_eq]; omega
theorem beqi0 (a : Nat) : (a == 0) = ((a : Int) == 0) := beqi a 0
theorem beqi1 (a b : Nat) : (a == b + 1) = ((a : Int) == (b : Int) + 1) := beqi a (b + 1)
set_option maxRecDepth 100000 in
set_option maxHeartbeats 2000000 in
/-- leaf.formed -/
theorem formed_any {A : Nat → Prop} {w : World} {v : Value} {n : Nd} (h : RN A w v n) : Calls Try.prog 67 #[v] w fun e w' => e = .returned (.bool (formed n)) ∧ Below w.heap.size w w' := by
  obtain ⟨k, u, c, rfl, h1, h2, h3⟩ := h
  have hl1 : n.keys.length * 24 ≤ 140737488351232 := by obtain ⟨_, _, _, h⟩ := h1; exact h
  have hl2 : n.vals.length * 24 ≤ 140737488351232 := by obtain ⟨_, _, _, h⟩ := h2; exact h
  have hl3 : n.kids.length * 8 ≤ 140737488351232 := h3.2.1
  obtain ⟨a1, c1, rfl, g1, _, _⟩ := h1.at
  obtain ⟨a2, c2, rfl, g2, _, _⟩ := h2.at
  obtain ⟨a3, c3, rfl, g3, _, _⟩ := h3.at
  generalize hlf : n.leaf = lf
  go_enter Try.func67, Try.ntmps67
  go_wp2
  obtain ⟨W, hW, ⟨b0, b1, b2, b3⟩, bf, hbW, hsz⟩ := box4 w (.bool lf) (.slice a1 n.keys.length c1) (.slice a2 n.vals.length c2) (.slice a3 n.kids.length c3) 37
  rw [← hW]
  clear hW
  obtain ⟨_, _, e1, _, _, H1⟩ := (h1.up hbW).at
  cases e1
  have H1 := Hid.mk' H1
  have H3 := Hid.mk' (h3.up hbW)
  have HB := Hid.mk' hbW
  have B := Hid.mk' (And.intro b0 (And.intro b1 (And.intro b2 b3)))
  clear h1 h2 h3 hbW hsz bf b0 b1 b2 b3
  have HF : Hid (asc n.keys = false → formed n = false) := fun h => by unfold formed; rw [h]; rfl
  have HT : Hid (asc n.keys = true → formed n = if lf then n.vals.length == n.keys.length && n.kids.length == 0 else !n.kids.any badKid && n.vals.length == 0 && n.kids.length == n.keys.length + 1) := fun h => by unfold formed; rw [h, hlf]; rfl
  clear hlf
  go_loopw [3] (fun i wr => ∃ k : Nat, 1 ≤ k ∧ (k ≤ n.keys.length ∨ k = 1) ∧ i = .int .i64 k ∧ Hid (Dn W wr) ∧ Hid (AscTo n.keys k)) (fun i _ => n.keys.length + 1 - (intOf i).toNat)
  case atStart => exact ⟨1, by omega, by omega, rfl, Hid.mk' (Dn.refl _), Hid.mk' (ascTo_one _)⟩
  case round =>
    obtain ⟨k, hk1, hk, rfl, HW, HA⟩ := hrel
    obtain ⟨b0, b1, b2, b3⟩ : wr.cell? ⟨w.heap.size, 0, none⟩ = some (.bool lf) ∧ wr.cell? ⟨w.heap.size, 1, none⟩ = some (.slice a1 n.keys.length c1) ∧ wr.cell? ⟨w.heap.size, 2, none⟩ = some (.slice a2 n.vals.length c2) ∧ wr.cell? ⟨w.heap.size, 3, none⟩ = some (.slice a3 n.kids.length c3) :=
      ⟨cell_later (HW.out.below _) B.out.1, cell_later (HW.out.below _) B.out.2.1, cell_later (HW.out.below _) B.out.2.2.1, cell_later (HW.out.below _) B.out.2.2.2⟩
    by_cases hlt : k < n.keys.length
    · have hlt' : (k : Int) < (n.keys.length : Int) := by omega
      have hl' : (n.keys.length : Int) ≤ 140737488351232 := by omega
      obtain ⟨b, o, x, rfl, _, hu, hx⟩ := H1.out (k - 1) (by omega)
      obtain ⟨b', o', y, e, _, hv, hy⟩ := H1.out k hlt
      cases e
      have g1 : wr.cell? ⟨b, o + (k - 1), none⟩ = some x := cell_later (HW.out.below _) hu
      have g2 : wr.cell? ⟨b, o + k, none⟩ = some y := cell_later (HW.out.below _) hv
      have HC := Hid.mk' (fun m => compare_any x y _ _ (wr.drewN m) (hx.up ((HW.out.more m).below _)) (hy.up ((HW.out.more m).below _)))
      have HS : Hid (cmp (n.keys[k - 1]'(by omega)) n.keys[k] < 0 → AscTo n.keys (k + 1)) := fun e => ascTo_succ (by omega) hlt HA.out e
      have HN : Hid (0 ≤ cmp (n.keys[k - 1]'(by omega)) n.keys[k] → asc n.keys = false) := fun e => asc_bad (by omega) hlt e
      clear hx hy hu hv
      generalize n.keys[k - 1] = s at *
      generalize n.keys[k] = t at *
      by_cases he : cmp s t < 0
      · have h1 : decide (0 ≤ cmp s t) = false := by simp; omega
        have HS2 := Hid.mk' (HS.out he)
        clear he HN HS
        go_wp2_with fail
        go_quiet ((go_at_call 81; exact quiet_eq' (HC.out _)))
        go_wp2_with fail
        go_roundw
        case rel => exact ⟨k + 1, by omega, by omega, by go_num, Hid.mk' (HW.out.more _), HS2⟩
        case measure => simp [intOf]; omega
      · have h1 : decide (0 ≤ cmp s t) = true := by simp; omega
        have HN2 := Hid.mk' (HF.out (HN.out (by omega)))
        clear he HN HS
        go_wp2_with fail
        go_quiet ((go_at_call 81; exact quiet_eq' (HC.out _)))
        go_wp2_with fail
        go_ret
        exact ⟨ret_b HN2.out.symm, bt HB.out ((HW.out.more _).below _)⟩
    · have HT2 := Hid.mk' (HT.out (ascTo_all HA.out (by omega)))
      have hlt' : ¬ (k : Int) < (n.keys.length : Int) := by omega
      have HW2 := Hid.mk' (bt HB.out (HW.out.below _))
      have H3w := Hid.mk' (H3.out.up (HW.out.below _))
      cases lf with
      | true =>
        have e1 : (n.vals.length == n.keys.length) = ((n.vals.length : Int) == (n.keys.length : Int)) := beqi _ _
        have e2 : (n.kids.length == 0) = ((n.kids.length : Int) == 0) := beqi0 _
        have HT3 : Hid (formed n = (((n.vals.length : Int) == (n.keys.length : Int)) && ((n.kids.length : Int) == 0))) := by show _ = _; rw [HT2.out, if_pos rfl, e1, e2]
        clear e1 e2 HT2 HT
        cases hg : ((n.vals.length : Int) == (n.keys.length : Int)) with
        | true =>
          have HT4 : Hid (formed n = ((n.kids.length : Int) == 0)) := by show _ = _; rw [HT3.out, hg, Bool.true_and]
          go_wp2_with fail
          go_ret
          exact ⟨ret_b HT4.out.symm, HW2.out⟩
        | false =>
          have HT4 : Hid (formed n = false) := by show _ = _; rw [HT3.out, hg, Bool.false_and]
          go_wp2_with fail
          go_ret
          exact ⟨ret_b HT4.out.symm, HW2.out⟩
      | false =>
        have e1 : (n.vals.length == 0) = ((n.vals.length : Int) == 0) := beqi0 _
        have e2 : (n.kids.length == n.keys.length + 1) = ((n.kids.length : Int) == (n.keys.length : Int) + 1) := beqi1 _ _
        have HT3 : Hid (formed n = (!n.kids.any badKid && ((n.vals.length : Int) == 0) && ((n.kids.length : Int) == (n.keys.length : Int) + 1))) := by show _ = _; rw [HT2.out, if_neg (by simp), e1, e2]
        clear e1 e2 HT2 HT
        cases hb : n.kids.any badKid with
        | true =>
          have HT4 : Hid (formed n = false) := by show _ = _; rw [HT3.out, hb]; rfl
          go_wp2_with fail
          refine (c95 H3w.out).mono ?_
          rintro e w' ⟨rfl, rfl⟩
          go_wp2_with fail
          go_ret
          exact ⟨ret_b HT4.out.symm, HW2.out⟩
        | false =>
          cases hg : ((n.vals.length : Int) == 0) with
          | true =>
            have HT4 : Hid (formed n = ((n.kids.length : Int) == (n.keys.length : Int) + 1)) := by show _ = _; rw [HT3.out, hb, hg]; rfl
            go_wp2_with fail
            refine (c95 H3w.out).mono ?_
            rintro e w' ⟨rfl, rfl⟩
            go_wp2_with fail
            go_ret
            exact ⟨ret_b HT4.out.symm, HW2.out⟩
          | false =>
            have HT4 : Hid (formed n = false) := by show _ = _; rw [HT3.out, hb, hg]; rfl
            go_wp2_with fail
            refine (c95 H3w.out).mono ?_
            rintro e w' ⟨rfl, rfl⟩
            go_wp2_with fail
            go_ret
            exact ⟨ret_b HT4.out.symm, HW2.out⟩
end Go.Proofs.Ytfmbbpfklhkljaa
