/- Walks: label.Pick, label.Latest. -/
import Derived.Test.YtahmihlpnlfefaaDoorSK
set_option linter.unusedVariables false
set_option linter.unusedSimpArgs false
namespace Go.Proofs.YtahmihlpnlfefaaDoor
open Go.RowKit
open PL
def PickPost (p : List UInt8) (names : List (List UInt8)) (w : World) (e : Ending) (w' : World) : Prop := ∃ v' out, e = .returned v' ∧ IsPick p names out ∧ So 9 w.heap.size w' v' out ∧ Below w.heap.size w w'
theorem filter_take (p : List UInt8) (l : List (List UInt8)) (k : Nat) (h : k < l.length) : (l.take (k + 1)).filter (mt · p) = (l.take k).filter (mt · p) ++ (if mt l[k] p then [l[k]] else []) := by
  rw [List.take_succ_eq_append_getElem h, List.filter_append]
  congr 1
  by_cases hm : mt l[k] p = true <;> simp [hm]
theorem filter_le (p : List UInt8) (l : List (List UInt8)) (k : Nat) : ((l.take k).filter (mt · p)).length ≤ l.length :=
  Nat.le_trans (List.length_filter_le _ _) (List.length_take_le' _ _)
set_option maxRecDepth 100000 in
set_option maxHeartbeats 4000000 in
/-- label.Pick -/
theorem pick_any {A : Nat → Prop} (p : List UInt8) (names : List (List UInt8)) (v : Value) (w : World) (h : Ss A w v names) (hp : p.length ≤ 1000) (hs : ∀ x ∈ names, x.length ≤ 1000) (hn : names.length ≤ 1000) : Calls Tryd.prog 26 #[.string ⟨p.toArray⟩, v] w (PickPost p names w) := by
  obtain ⟨a, c, rfl, hc, _, H⟩ := h.at
  have H : Hid _ := H
  have HS := Hid.mk' hs
  clear h hs
  go_enter Tryd.func26, Tryd.ntmps26
  go_wp2
  go_loopw [10, 7, 5] (fun i x o wr => ∃ k : Nat, k ≤ names.length ∧ i = .int .i64 k ∧ Hid (Below w.heap.size w wr) ∧ Hid (So 9 w.heap.size wr o ((names.take k).filter (mt · p)))) (fun i _ _ _ => names.length - (intOf i).toNat)
  case atStart => exact ⟨0, by omega, rfl, Hid.mk' (Below.refl _ _), Hid.mk' so_nil⟩
  case round =>
    obtain ⟨k, hk, rfl, HB, HO⟩ := hrel
    have HL := Hid.mk' (filter_le p names k)
    have HB1 := HB.out.size
    by_cases hlt : k < names.length
    · have hlt' : (k : Int) < (names.length : Int) := by omega
      have hlim : (names.length : Int) ≤ 1000 := by omega
      have hu1 : ∃ b o, a = some ⟨b, o, none⟩ ∧ wr.cell? ⟨b, o + k, none⟩ = some (.string ⟨names[k].toArray⟩) := by
        obtain ⟨b, o, hp, _, hu⟩ := H.out k hlt
        exact ⟨b, o, hp, cell_later HB.out hu⟩
      obtain ⟨b, o, rfl, hu⟩ := hu1
      have HT := Hid.mk' (filter_take p names k hlt)
      have hxl := HS.out _ (List.getElem_mem hlt)
      generalize names[k] = x at *
      have HM := Hid.mk' (match_any x p hxl hp)
      cases hm : mt x p
      · rw [hm] at HT HM
        clear hm
        go_wp2_with fail
        refine (HM.out _).mono ?_
        rintro e w2 ⟨rfl, hd⟩
        have H2 := Hid.mk' (HB.out.trans (hd.below _))
        have O2 := Hid.mk' (HO.out.up (hd.below _))
        clear hd
        go_wp2_with fail
        go_roundw
        case rel => exact ⟨k + 1, by omega, by go_num, H2, by rw [HT.out]; simpa using O2⟩
        case measure => simp [intOf]; omega
      · rw [hm] at HT HM
        clear hm
        go_wp2_with fail
        refine (HM.out _).mono ?_
        rintro e w2 ⟨rfl, hd⟩
        have H2 := Hid.mk' (HB.out.trans (hd.below _))
        have O2 := Hid.mk' (HO.out.up (hd.below _))
        clear hd
        go_wp2_with (at_builtin; go_must (refine app41 rfl (.tmp 17) (.tmp 19) rfl rfl (by exact (So.alloc O2.out _)) rfl (ss_row [x] rfl rfl (by simp)) (by have := HL.out; unfold lim; simp at this ⊢; omega) (by have := H2.out.size; simp; omega) ?_); intro v' w3 ho hgr; have HO2 := Hid.mk' ho; have HB2 := Hid.mk' (below_appS (H2.out.alloc H2.out.size _) (So.alloc O2.out _) hgr (Nat.le_refl _) (by have := H2.out.size; simp; omega)); clear ho hgr)
        go_roundw
        case rel => exact ⟨k + 1, by omega, by go_num, HB2, by rw [HT.out]; exact HO2⟩
        case measure => simp [intOf]; omega
    · obtain rfl : k = names.length := by omega
      have hO := HO.out
      rw [List.take_length] at hO
      have HO2 := Hid.mk' hO
      have hfl : (names.filter (mt · p)).length ≤ 1000 := Nat.le_trans (List.length_filter_le _ _) hn
      have HF := Hid.mk' hfl
      clear hO hfl
      go_wp2_with fail
      refine (sort_any HO2.out (fun x hx => by have := HS.out x (List.mem_filter.1 hx).1; omega) (by have := HF.out; omega)).mono ?_
      rintro e w2 ⟨rfl, zs, hperm, hsort, hz, hb⟩
      have HP : Hid (IsPick p names (Lib.compact zs)) := sorted_pick hperm hsort
      have hzl : zs.length ≤ 100000 := by have := hperm.length_eq; have := HF.out; omega
      have H2 := Hid.mk' (HB.out.trans hb)
      have Z2 := Hid.mk' hz
      clear hperm hsort hz hb
      go_wp2_with fail
      refine (compact_any Z2.out hzl).mono ?_
      rintro e w3 ⟨v3, rfl, h3, hb3⟩
      have H3 := Hid.mk' (H2.out.trans hb3)
      have O3 := Hid.mk' h3
      clear h3 hb3
      go_wp2_with fail
      go_ret
      exact ⟨_, _, rfl, HP.out, O3.out, H3.out⟩
/-- m is the greatest of l -/
def Best (l : List (List UInt8)) (m : List UInt8) : Prop := m ∈ l ∧ ∀ x ∈ l, comp x m ≤ 0
theorem best_one (x : List UInt8) : Best [x] x := ⟨by simp, fun y hy => by rw [List.mem_singleton] at hy; subst hy; rw [comp_self]; omega⟩
theorem best_keep {l : List (List UInt8)} {m x : List UInt8} (h : Best l m) (hx : comp x m ≤ 0) : Best (l ++ [x]) m :=
  ⟨List.mem_append_left _ h.1, fun y hy => by
    rcases List.mem_append.1 hy with h1 | h1
    · exact h.2 y h1
    · rw [List.mem_singleton] at h1; subst h1; exact hx⟩
theorem best_new {l : List (List UInt8)} {m x : List UInt8} (h : Best l m) (hx : 0 < comp x m) : Best (l ++ [x]) x :=
  ⟨by simp, fun y hy => by
    rcases List.mem_append.1 hy with h1 | h1
    · have h2 := h.2 y h1
      have := comp_ord.anti x m
      exact comp_ord.trans _ _ _ h2 (by omega)
    · rw [List.mem_singleton] at h1; subst h1; rw [comp_self]; omega⟩
def MaxPost (l : List (List UInt8)) (w : World) (e : Ending) (w' : World) : Prop := ∃ m : List UInt8, e = .returned (.string ⟨m.toArray⟩) ∧ Best l m ∧ Below w.heap.size w w'
set_option maxRecDepth 100000 in
set_option maxHeartbeats 4000000 in
/-- slices.MaxFunc(x, Compare) -/
theorem max_any {A : Nat → Prop} (names : List (List UInt8)) (v : Value) (w : World) (h : Ss A w v names) (hs : ∀ x ∈ names, x.length ≤ 1000) (h0 : 0 < names.length) (hn : names.length ≤ 1000) : Calls Tryd.prog 51 #[v, .func (.func 15) #[] #[]] w (MaxPost names w) := by
  obtain ⟨a, c, rfl, hc, _, H⟩ := h.at
  have hu1 : ∃ b o, a = some ⟨b, o, none⟩ ∧ w.cell? ⟨b, o + 0, none⟩ = some (.string ⟨names[0].toArray⟩) := by
    obtain ⟨b, o, hp, _, hu⟩ := H 0 h0
    exact ⟨b, o, hp, hu⟩
  have H : Hid _ := H
  have HS := Hid.mk' hs
  obtain ⟨b, o, rfl, hu⟩ := hu1
  rw [Nat.add_zero] at hu
  have h0' : (0 : Int) < (names.length : Int) := by omega
  have h0'' : (1 : Int) ≤ (names.length : Int) := by omega
  have HI : Hid (Best (names.take 1) names[0]) := by
    have : names.take 1 = [names[0]] := by rw [List.take_succ_eq_append_getElem h0]; simp
    show Best _ _
    rw [this]; exact best_one _
  clear h hs
  generalize names[0] = x0 at *
  go_enter Tryd.func51, Tryd.ntmps51
  go_wp2
  go_loopw [5, 6] (fun m i wr => ∃ (k : Nat) (y : List UInt8), 1 ≤ k ∧ k ≤ names.length ∧ i = .int .i64 k ∧ m = .string ⟨y.toArray⟩ ∧ Hid (Below w.heap.size w wr) ∧ Hid (Best (names.take k) y)) (fun _ i _ => names.length - (intOf i).toNat)
  case atStart => exact ⟨1, x0, by omega, by omega, rfl, rfl, Hid.mk' (Below.refl _ _), HI⟩
  case round =>
    obtain ⟨k, y, hk1, hk, rfl, rfl, HB, HY⟩ := hrel
    clear hu HI
    by_cases hlt : k < names.length
    · have hlt' : (k : Int) < (names.length : Int) := by omega
      have hlim : (names.length : Int) ≤ 1000 := by omega
      have hu : wr.cell? ⟨b, o + k, none⟩ = some (.string ⟨names[k].toArray⟩) := by
        obtain ⟨b', o', hp, _, hu⟩ := H.out k hlt
        cases hp
        exact cell_later HB.out hu
      have HT := Hid.mk' (List.take_succ_eq_append_getElem hlt)
      have hxl := HS.out _ (List.getElem_mem hlt)
      have hyl := HS.out _ (List.mem_of_mem_take HY.out.1)
      generalize names[k] = x at *
      have HC := Hid.mk' (comp_gr x y (by unfold maxLen; omega) (by unfold maxLen; omega))
      by_cases hc : 0 < comp x y
      · have HN : Hid (Best (names.take (k + 1)) x) := by show Best _ _; rw [HT.out]; exact best_new HY.out hc
        have hc' : (0 : Int) < comp x y := hc
        generalize comp x y = z at *
        go_wp2_with fail
        refine (HC.out _).mono ?_
        rintro e w2 ⟨rfl, hg⟩
        have hu2 : w2.cell? ⟨b, o + k, none⟩ = some (.string ⟨x.toArray⟩) := cell_later hg.below hu
        have H2 := Hid.mk' (bt HB.out hg.below)
        clear hg
        go_wp2_with fail
        go_roundw
        case rel => exact ⟨k + 1, x, by omega, by omega, by go_num, rfl, H2, HN⟩
        case measure => simp [intOf]; omega
      · have HN : Hid (Best (names.take (k + 1)) y) := by show Best _ _; rw [HT.out]; exact best_keep HY.out (by omega)
        generalize comp x y = z at *
        go_wp2_with fail
        refine (HC.out _).mono ?_
        rintro e w2 ⟨rfl, hg⟩
        have H2 := Hid.mk' (bt HB.out hg.below)
        clear hg
        go_wp2_with fail
        go_roundw
        case rel => exact ⟨k + 1, y, by omega, by omega, by go_num, rfl, H2, HN⟩
        case measure => simp [intOf]; omega
    · obtain rfl : k = names.length := by omega
      have HN : Hid (Best names y) := by have := HY.out; rwa [List.take_length] at this
      go_wp2_with fail
      go_ret
      exact ⟨y, rfl, HN.out, HB.out⟩
def LatPost (l : List (List UInt8)) (w : World) (e : Ending) (w' : World) : Prop := ∃ m : List UInt8, e = .returned (.tuple #[.string ⟨m.toArray⟩, .bool (decide (0 < l.length))]) ∧ (if 0 < l.length then Best l m else m = []) ∧ Below w.heap.size w w'
set_option maxRecDepth 100000 in
/-- label.Latest -/
theorem latest_any {A : Nat → Prop} (names : List (List UInt8)) (v : Value) (w : World) (h : Ss A w v names) (hs : ∀ x ∈ names, x.length ≤ 1000) (hn : names.length ≤ 1000) : Calls Tryd.prog 28 #[v] w (LatPost names w) := by
  have HH := Hid.mk' h
  obtain ⟨a, c, rfl, hc, _, H⟩ := h.at
  clear h H
  rcases Nat.eq_zero_or_pos names.length with h0 | h0
  · have HD : Hid (decide (0 < names.length) = false) := by show _ = _; simp [h0]
    have HN := Hid.mk' h0
    have h0' : ((names.length : Int) == 0) = true := by simp [h0]
    clear h0
    go_enter Tryd.func28, Tryd.ntmps28
    go_wp2_with fail
    go_ret2
    exact ⟨[], by rw [HD.out]; rfl, by rw [if_neg (by have := HN.out; omega)], Below.refl _ _⟩
  · have HD : Hid (decide (0 < names.length) = true) := by show _ = _; simpa using h0
    have h0' : ((names.length : Int) == 0) = false := by rw [beq_eq_false_iff_ne]; omega
    have HM := Hid.mk' (max_any names (.slice a names.length c) w HH.out hs h0 hn)
    go_enter Tryd.func28, Tryd.ntmps28
    go_wp2_with fail
    refine HM.out.mono ?_
    rintro e w2 ⟨m, rfl, hb, hw⟩
    have HB := Hid.mk' hb
    have HW := Hid.mk' hw
    clear hb hw
    go_wp2_with fail
    go_ret2
    exact ⟨m, by rw [HD.out]; rfl, by rw [if_pos h0]; exact HB.out, HW.out⟩
end Go.Proofs.YtahmihlpnlfefaaDoor
