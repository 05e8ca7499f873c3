/- The reference's rows of barriers; Same. -/
import Derived.Test.YtojgkjpmphfakaaGreatDoorCF
import Derived.Test.YtojgkjpmphfakaaGreatDoorCL
import Derived.Test.YtojgkjpmphfakaaGreatDoorL8
import Derived.Test.YtojgkjpmphfakaaGreatDoorR1
set_option linter.unusedVariables false
set_option linter.unusedSimpArgs false
namespace Go.Proofs.YtojgkjpmphfakaaGreatDoor
open Go.RowKit
open PL
attribute [local go_sem ↓] Go.wp_at_zero Go.wp_at_succ
/-- the cells of barriers with their incarnations -/
def rcs (ps : List (Bi × Value)) : List Value := ps.flatMap fun p => [.int .u64 (p.1.1 : Int), .int .u64 (p.1.2.1 : Int), .string ⟨p.1.2.2.1.toArray⟩, p.2]
theorem rcs_len (ps : List (Bi × Value)) : (rcs ps).length = ps.length * 4 := by
  induction ps with
  | nil => rfl
  | cons p ps ih => unfold rcs at *; rw [List.flatMap_cons, List.length_append, ih, List.length_cons]; simp; omega
theorem rcs_append (l m : List (Bi × Value)) : rcs (l ++ m) = rcs l ++ rcs m := by unfold rcs; rw [List.flatMap_append]
theorem rcs_take (l : List (Bi × Value)) (n : Nat) : rcs (l.take n) = (rcs l).take (n * 4) := by
  by_cases h : n ≤ l.length
  · have e := congrArg rcs (List.take_append_drop n l)
    rw [rcs_append] at e
    exact ((congrArg (List.take (n * 4)) e.symm).trans (List.take_left' (by rw [rcs_len, List.length_take]; omega))).symm
  · rw [List.take_of_length_le (by omega), List.take_of_length_le (by rw [rcs_len]; omega)]
theorem rcs_drop (l : List (Bi × Value)) (n : Nat) : rcs (l.drop n) = (rcs l).drop (n * 4) := by
  by_cases h : n ≤ l.length
  · have e := congrArg rcs (List.take_append_drop n l)
    rw [rcs_append] at e
    exact ((congrArg (List.drop (n * 4)) e.symm).trans (List.drop_left' (by rw [rcs_len, List.length_take]; omega))).symm
  · rw [List.drop_of_length_le (by omega), List.drop_of_length_le (by rw [rcs_len]; omega)]; rfl
theorem rcs_get (ps : List (Bi × Value)) (k : Nat) (h : k < ps.length) : (rcs ps)[k * 4]? = some (.int .u64 (ps[k].1.1 : Int)) ∧ (rcs ps)[k * 4 + 1]? = some (.int .u64 (ps[k].1.2.1 : Int)) ∧ (rcs ps)[k * 4 + 2]? = some (.string ⟨ps[k].1.2.2.1.toArray⟩) ∧ (rcs ps)[k * 4 + 3]? = some ps[k].2 := by
  have e : rcs ps = rcs (ps.take k) ++ ([.int .u64 (ps[k].1.1 : Int), .int .u64 (ps[k].1.2.1 : Int), .string ⟨ps[k].1.2.2.1.toArray⟩, ps[k].2] ++ rcs (ps.drop (k + 1))) := by
    have e0 : ps.take k ++ ps[k] :: ps.drop (k + 1) = ps := by rw [← List.drop_eq_getElem_cons h, List.take_append_drop]
    have e1 := congrArg rcs e0
    rw [rcs_append] at e1
    rw [← e1]; rfl
  have hl : (rcs (ps.take k)).length = k * 4 := by rw [rcs_len, List.length_take]; congr 1; omega
  refine ⟨?_, ?_, ?_, ?_⟩
  all_goals
    rw [e, List.getElem?_append_right (by omega), hl]
    simp [Nat.add_sub_cancel_left]
/-- v reads as the barriers L -/
def RbR (A : Nat → Prop) (w : World) (v : Value) (L : List Bi) : Prop := ∃ ps : List (Bi × Value), ps.map (·.1) = L ∧ Row 4 A w v L.length (rcs ps) ∧ (∀ p ∈ ps, Us A w p.2 p.1.2.2.2) ∧ L.length * 56 ≤ lim
theorem RbR.up {A : Nat → Prop} {w w' : World} {v : Value} {L : List Bi} (h : RbR A w v L) (hb : Below w.heap.size w w') : RbR A w' v L := let ⟨ps, a, b, c, d⟩ := h; ⟨ps, a, b.up hb, fun p hp => (c p hp).up hb, d⟩
theorem RbR.monoS {A A' : Nat → Prop} {w : World} {v : Value} {L : List Bi} (h : RbR A w v L) (hA : ∀ b, A b → A' b) : RbR A' w v L := let ⟨ps, a, b, c, d⟩ := h; ⟨ps, a, b.monoS hA, fun p hp => (c p hp).monoS hA, d⟩
theorem RbR.butNe {b : Nat} {w w' : World} {v : Value} {L : List Bi} (h : RbR (fun k => k ≠ b) w v L) (hk : CellsBut b w w') : RbR (fun k => k ≠ b) w' v L := let ⟨ps, a, x, c, d⟩ := h; ⟨ps, a, x.butNe hk, fun p hp => ⟨(c p hp).1.butNe hk, (c p hp).2⟩, d⟩
theorem RbR.at {A : Nat → Prop} {w : World} {v : Value} {L : List Bi} (h : RbR A w v L) : ∃ (a : Option Addr) (c : Nat), v = .slice a L.length c ∧ L.length ≤ c ∧ ∀ k (hk : k < L.length), ∃ b o u, a = some ⟨b, o, none⟩ ∧ A b ∧
    (w.cell? ⟨b, o + k * 4, none⟩ = some (.int .u64 (L[k].1 : Int)) ∧ w.cell? ⟨b, o + k * 4 + 1, none⟩ = some (.int .u64 (L[k].2.1 : Int)) ∧ w.cell? ⟨b, o + k * 4 + 2, none⟩ = some (.string ⟨L[k].2.2.1.toArray⟩) ∧ w.cell? ⟨b, o + k * 4 + 3, none⟩ = some u) ∧ Us A w u L[k].2.2.2 := by
  obtain ⟨ps, rfl, ⟨hl, a, c, hv, hc, ha, H⟩, hp, _⟩ := h
  refine ⟨a, c, hv, hc, fun k hk => ?_⟩
  have hk' : k < ps.length := by simpa using hk
  obtain ⟨g0, g1, g2, g3⟩ := rcs_get ps k hk'
  obtain ⟨b, o, e0, hA, c0⟩ := H _ _ g0
  obtain ⟨_, _, e1, _, c1⟩ := H _ _ g1
  obtain ⟨_, _, e2, _, c2⟩ := H _ _ g2
  obtain ⟨_, _, e3, _, c3⟩ := H _ _ g3
  rw [e0] at e1 e2 e3
  cases e1
  cases e2
  cases e3
  refine ⟨b, o, ps[k].2, e0, hA, ⟨?_, ?_, ?_, by rw [Nat.add_assoc]; exact c3⟩, ?_⟩
  · rw [c0]; simp
  · rw [Nat.add_assoc, c1]; simp
  · rw [Nat.add_assoc, c2]; simp
  · have := hp _ (List.getElem_mem hk')
    simpa using this
theorem rcs_one {A : Nat → Prop} {w : World} {ps : List (Bi × Value)} (h : ∀ p ∈ ps, Us A w p.2 p.1.2.2.2) : ∀ u ∈ rcs ps, u.oneCell' = true := by
  intro u hu
  unfold rcs at hu
  obtain ⟨p, hp, hu⟩ := List.mem_flatMap.1 hu
  simp only [List.mem_cons, List.not_mem_nil, or_false] at hu
  rcases hu with rfl | rfl | rfl | rfl
  · rfl
  · rfl
  · rfl
  · obtain ⟨a, c, e, _⟩ := (h p hp).at
    rw [e]; rfl
theorem bx4 {w : World} {b : Nat} {c0 c1 c2 c3 : Value} {e : TypeId} {fr : Nat × Nat} (h : w.heap[b]? = some (.cells #[c0, c1, c2, c3] e fr)) : w.cell? ⟨b, 0, none⟩ = some c0 ∧ w.cell? ⟨b, 1, none⟩ = some c1 ∧ w.cell? ⟨b, 2, none⟩ = some c2 ∧ w.cell? ⟨b, 3, none⟩ = some c3 :=
  ⟨by simp only [World.cell?, h]; rfl, by simp only [World.cell?, h]; rfl, by simp only [World.cell?, h]; rfl, by simp only [World.cell?, h]; rfl⟩
set_option maxRecDepth 100000 in
set_option maxHeartbeats 4000000 in
/-- Same -/
theorem rsame_any {A A' : Nat → Prop} {w : World} {v u : Value} (x y : Bi) (h : Us A w v x.2.2.2) (h' : Us A' w u y.2.2.2) : Calls Tryz.prog 11 #[.agg #[.int .u64 (x.1 : Int), .int .u64 (x.2.1 : Int), .string ⟨x.2.2.1.toArray⟩, v], .agg #[.int .u64 (y.1 : Int), .int .u64 (y.2.1 : Int), .string ⟨y.2.2.1.toArray⟩, u]] w fun e w' => e = .returned (.bool (decide (x = y))) ∧ Below w.heap.size w w' := by
  obtain ⟨x0, x1, x2, x3⟩ := x
  obtain ⟨y0, y1, y2, y3⟩ := y
  simp only at h h' ⊢
  have hb1 := up_alloc w (.cells #[.int .u64 (x0 : Int), .int .u64 (x1 : Int), .string ⟨x2.toArray⟩, v] 32)
  have hb2 := up_alloc (w.alloc (.cells #[.int .u64 (x0 : Int), .int .u64 (x1 : Int), .string ⟨x2.toArray⟩, v] 32)) (.cells #[.int .u64 (y0 : Int), .int .u64 (y1 : Int), .string ⟨y2.toArray⟩, u] 32)
  have HB := Hid.mk' (bt hb1 hb2)
  have HE := Hid.mk' (numbersR_any (h.up HB.out) (h'.up HB.out))
  obtain ⟨a, c, rfl, _⟩ := h.at
  obtain ⟨a', c', rfl, _⟩ := h'.at
  clear hb1 hb2 h h'
  have HNO : Hid (¬ (x0 = y0 ∧ x1 = y1 ∧ x2 = y2) → decide ((x0, x1, x2, x3) = (y0, y1, y2, y3)) = false) := fun h => by
    refine decide_eq_false fun e => h ?_
    simp only [Prod.mk.injEq] at e
    exact ⟨e.1, e.2.1, e.2.2.1⟩
  by_cases h0 : x0 = y0
  · have e0 : ((x0 : Int) == (y0 : Int)) = true := by rw [beq_iff_eq]; omega
    by_cases h1 : x1 = y1
    · have e1 : ((x1 : Int) == (y1 : Int)) = true := by rw [beq_iff_eq]; omega
      by_cases h2 : x2 = y2
      · have e2 : (x2 == y2) = true := by rw [beq_iff_eq]; exact h2
        have HR : Hid (decide (x3 = y3) = decide ((x0, x1, x2, x3) = (y0, y1, y2, y3))) := by show _ = _; rw [decide_eq_decide]; simp [h0, h1, h2]
        clear h0 h1 h2 HNO
        go_enter Tryz.func11, Tryz.ntmps11
        go_wp2_with fail
        refine HE.out.mono ?_
        rintro e w1 ⟨rfl, hd⟩
        have HD := Hid.mk' (HB.out.trans (hd.below _))
        clear hd HE
        go_wp2_with fail
        go_ret
        exact ⟨by rw [← HR.out] <;> rfl, HD.out⟩
      · have e2 : (x2 == y2) = false := by rw [beq_eq_false_iff_ne]; exact h2
        have HR := Hid.mk' (HNO.out fun h => h2 h.2.2)
        clear h0 h1 h2 HE HNO
        go_enter Tryz.func11, Tryz.ntmps11
        go_wp2_with fail
        go_ret
        exact ⟨by rw [HR.out] <;> rfl, HB.out⟩
    · have e1 : ((x1 : Int) == (y1 : Int)) = false := by rw [beq_eq_false_iff_ne]; omega
      have HR := Hid.mk' (HNO.out fun h => h1 h.2.1)
      clear h0 h1 HE HNO
      go_enter Tryz.func11, Tryz.ntmps11
      go_wp2_with fail
      go_ret
      exact ⟨by rw [HR.out] <;> rfl, HB.out⟩
  · have e0 : ((x0 : Int) == (y0 : Int)) = false := by rw [beq_eq_false_iff_ne]; omega
    have HR := Hid.mk' (HNO.out fun h => h0 h.1)
    clear h0 HE HNO
    go_enter Tryz.func11, Tryz.ntmps11
    go_wp2_with fail
    go_ret
    exact ⟨by rw [HR.out] <;> rfl, HB.out⟩
theorem Tryz.info32 : (Tryz.prog.info? 32).map (fun i => (i.zero, i.size, i.bytes)) = some (some (.agg #[.int .u64 0, .int .u64 0, .string ⟨#[]⟩, .slice none 0 0]), 4, 56) := by kernel_rfl
end Go.Proofs.YtojgkjpmphfakaaGreatDoor
