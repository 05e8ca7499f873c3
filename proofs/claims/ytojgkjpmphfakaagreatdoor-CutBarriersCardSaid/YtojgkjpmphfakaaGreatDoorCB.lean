/- cut.Barriers' closure, IndexFunc and ContainsFunc by it; cut.same; slices.Max, cut.Newest. -/
import Derived.Test.YtojgkjpmphfakaaGreatDoorSN
import Derived.Test.YtojgkjpmphfakaaGreatDoorCA
import Derived.Test.YtojgkjpmphfakaaGreatDoorM2
set_option linter.unusedVariables false
set_option linter.unusedSimpArgs false
namespace Go.Proofs.YtojgkjpmphfakaaGreatDoor
open Go.RowKit
attribute [local go_sem ↓] Go.wp_at_zero Go.wp_at_succ
theorem c34 {b : Nat} {w : World} (s p : List UInt8) (hs : s.length ≤ 1000) (hp : p.length ≤ 1000) (hc : w.cell? ⟨b, 0, none⟩ = some (.string ⟨s.toArray⟩)) : Calls Tryz.prog 34 #[.string ⟨p.toArray⟩, .pointer (some ⟨b, 0, none⟩)] w fun e w' => e = .returned (.bool (PL.mt s p)) ∧ Dn w w' := by
  have HC := Hid.mk' (match_any s p hs hp w)
  clear hs hp
  go_enter Tryz.func34, Tryz.ntmps34
  go_wp2_with fail
  refine HC.out.mono ?_
  rintro e w1 ⟨rfl, hd⟩
  go_wp2_with fail
  go_ret
  exact ⟨rfl, hd⟩
/-- does a name match one of them? -/
def anyB (s : List UInt8) (ps : List (List UInt8)) : Bool := ps.any fun p => PL.mt s p
set_option maxRecDepth 100000 in
set_option maxHeartbeats 1000000 in
/-- IndexFunc with that -/
theorem ix34 {A : Nat → Prop} {w : World} {v : Value} {l : List (List UInt8)} {b : Nat} {s : List UInt8} (h : Ss A w v l) (hl : ∀ p ∈ l, p.length ≤ 1000) (hs : s.length ≤ 1000) (hm : w.cell? ⟨b, 0, none⟩ = some (.string ⟨s.toArray⟩)) :
    Calls Tryz.prog 51 #[v, .func (.func 34) #[] #[.pointer (some ⟨b, 0, none⟩)]] w fun e w' => (∃ k : Int, e = .returned (.int .i64 k) ∧ Hid (decide (0 ≤ k) = anyB s l)) ∧ Dn w w' := by
  obtain ⟨a, c, rfl, hc, _, H⟩ := h.at
  have H : Hid _ := H
  have hlim : l.length * 16 ≤ 140737488351232 := h.2
  have HL := Hid.mk' hl
  have HM := Hid.mk' hm
  have HS := Hid.mk' hs
  clear h hl hm hs
  go_enter Tryz.func51, Tryz.ntmps51
  go_wp2_with fail
  go_loopw [8] (fun i wr => ∃ k : Nat, k ≤ l.length ∧ i = .int .i64 k ∧ Hid (∀ p ∈ l.take k, PL.mt s p = false) ∧ Hid (Dn w wr)) (fun i _ => l.length - (intOf i).toNat)
  case atStart => exact ⟨0, by omega, rfl, Hid.mk' (by simp), Dn.refl _⟩
  case round =>
    obtain ⟨k, hk, rfl, HF, HD⟩ := hrel
    rename World => wk
    by_cases hlt : k < l.length
    · have hlt' : (k : Int) < (l.length : Int) := by omega
      have hl' : (l.length : Int) ≤ 140737488351232 := by omega
      obtain ⟨b', o, rfl, _, hu⟩ := H.out k hlt
      have hu := cell_up hu (HD.out.below w.heap.size)
      have HC := Hid.mk' (c34 s l[k] HS.out (HL.out _ (List.getElem_mem hlt)) (cell_up HM.out (HD.out.below w.heap.size)))
      cases hd : PL.mt s l[k] with
      | true =>
        rw [hd] at HC
        have HR : Hid (decide (0 ≤ (k : Int)) = anyB s l) := by
          show _ = _
          rw [decide_eq_true (by omega)]
          unfold anyB
          exact (List.any_eq_true.2 ⟨l[k], List.getElem_mem hlt, hd⟩).symm
        clear hd
        go_wp2_with fail
        refine HC.out.mono ?_
        rintro e w' ⟨rfl, hd⟩
        have HD2 := Hid.mk' (HD.out.trans hd)
        clear hd
        go_wp2_with fail
        go_ret
        exact ⟨⟨_, rfl, HR⟩, HD2.out⟩
      | false =>
        rw [hd] at HC
        have HT2 : Hid (∀ p ∈ l.take (k + 1), PL.mt s p = false) := fun p hp => by
          rw [List.take_succ_eq_append_getElem hlt, List.mem_append, List.mem_singleton] at hp
          rcases hp with hp | rfl
          · exact HF.out p hp
          · exact hd
        clear hd
        go_wp2_with fail
        refine HC.out.mono ?_
        rintro e w' ⟨rfl, hd⟩
        have HD2 := Hid.mk' (HD.out.trans hd)
        clear hd
        go_wp2_with fail
        go_roundw
        case rel => exact ⟨k + 1, by omega, by go_num, HT2, HD2⟩
        case measure => simp [intOf]; omega
    · obtain rfl : k = l.length := by omega
      have HR : Hid (decide (0 ≤ (-1 : Int)) = anyB s l) := by
        have := HF.out
        rw [List.take_length] at this
        show _ = _
        unfold anyB
        symm
        simpa using this
      go_wp2_with fail
      go_ret
      exact ⟨⟨_, rfl, HR⟩, HD.out⟩
set_option maxRecDepth 100000 in
/-- ContainsFunc with that -/
theorem has34 {A : Nat → Prop} {w : World} {v : Value} {l : List (List UInt8)} {b : Nat} {s : List UInt8} (h : Ss A w v l) (hl : ∀ p ∈ l, p.length ≤ 1000) (hs : s.length ≤ 1000) (hm : w.cell? ⟨b, 0, none⟩ = some (.string ⟨s.toArray⟩)) :
    Calls Tryz.prog 33 #[v, .func (.func 34) #[] #[.pointer (some ⟨b, 0, none⟩)]] w fun e w' => e = .returned (.bool (anyB s l)) ∧ Dn w w' := by
  have HC := Hid.mk' (ix34 h hl hs hm)
  obtain ⟨a, c, rfl, hc, _, H⟩ := h.at
  clear H h hl hs hm
  go_enter Tryz.func33, Tryz.ntmps33
  go_wp2_with fail
  refine HC.out.mono ?_
  rintro e w1 ⟨⟨k, rfl, hk⟩, hd⟩
  have HK := Hid.mk' hk.out
  clear hk HC
  go_wp2_with fail
  go_ret
  exact ⟨by rw [← HK.out] <;> rfl, hd⟩
/-- a barrier: its number, its name, where it stands -/
abbrev Br := Nat × List UInt8 × List Nat
theorem box3 {w : World} {x y z : Value} {e : TypeId} : (w.alloc (.cells #[x, y, z] e)).cell? ⟨w.heap.size, 0, none⟩ = some x ∧ (w.alloc (.cells #[x, y, z] e)).cell? ⟨w.heap.size, 1, none⟩ = some y ∧ (w.alloc (.cells #[x, y, z] e)).cell? ⟨w.heap.size, 2, none⟩ = some z := by
  have hb := heap_alloc_new w (.cells #[x, y, z] e)
  exact ⟨by simp only [World.cell?, hb]; rfl, by simp only [World.cell?, hb]; rfl, by simp only [World.cell?, hb]; rfl⟩
set_option maxRecDepth 100000 in
set_option maxHeartbeats 1000000 in
/-- same -/
theorem sameBr_any {A A' : Nat → Prop} {w : World} {v u : Value} (x y : Br) (h : Us A w v x.2.2) (h' : Us A' w u y.2.2) : Calls Tryz.prog 25 #[.agg #[.int .u64 (x.1 : Int), .string ⟨x.2.1.toArray⟩, v], .agg #[.int .u64 (y.1 : Int), .string ⟨y.2.1.toArray⟩, u]] w fun e w' => e = .returned (.bool (decide (x = y))) ∧ Below w.heap.size w w' := by
  obtain ⟨x1, x2, x3⟩ := x
  obtain ⟨y1, y2, y3⟩ := y
  simp only at h h' ⊢
  have hb1 := up_alloc w (.cells #[.int .u64 (x1 : Int), .string ⟨x2.toArray⟩, v] 38)
  have hb2 := up_alloc (w.alloc (.cells #[.int .u64 (x1 : Int), .string ⟨x2.toArray⟩, v] 38)) (.cells #[.int .u64 (y1 : Int), .string ⟨y2.toArray⟩, u] 38)
  have HB := Hid.mk' (bt hb1 hb2)
  have HE := Hid.mk' (equalN_any (h.up HB.out) (h'.up HB.out))
  obtain ⟨a, c, rfl, _⟩ := h.at
  obtain ⟨a', c', rfl, _⟩ := h'.at
  clear hb1 hb2 h h'
  by_cases h1 : x1 = y1
  · have e1 : ((x1 : Int) == (y1 : Int)) = true := by rw [beq_iff_eq]; omega
    by_cases h2 : x2 = y2
    · have e2 : (x2 == y2) = true := by rw [beq_iff_eq]; exact h2
      have HR : Hid (decide (x3 = y3) = decide ((x1, x2, x3) = (y1, y2, y3))) := by show _ = _; rw [decide_eq_decide]; simp [h1, h2]
      clear h1 h2
      go_enter Tryz.func25, Tryz.ntmps25
      go_wp2_with fail
      refine HE.out.mono ?_
      rintro e w1 ⟨rfl, hd⟩
      have HD := Hid.mk' (HB.out.trans (hd.below _))
      clear hd HE
      go_wp2_with fail
      go_ret
      exact ⟨by rw [← HR.out] <;> rfl, HD.out⟩
    · have e2 : (x2 == y2) = false := by rw [beq_eq_false_iff_ne]; exact h2
      have HR : Hid (decide ((x1, x2, x3) = (y1, y2, y3)) = false) := by show _ = _; simp [h2]
      clear h1 h2 HE
      go_enter Tryz.func25, Tryz.ntmps25
      go_wp2_with fail
      go_ret
      exact ⟨by rw [HR.out] <;> rfl, HB.out⟩
  · have e1 : ((x1 : Int) == (y1 : Int)) = false := by rw [beq_eq_false_iff_ne]; omega
    have HR : Hid (decide ((x1, x2, x3) = (y1, y2, y3)) = false) := by show _ = _; simp [h1]
    clear h1 HE
    go_enter Tryz.func25, Tryz.ntmps25
    go_wp2_with fail
    go_ret
    exact ⟨by rw [HR.out] <;> rfl, HB.out⟩
/-- the greatest number -/
def maxN : List Nat → Nat
  | [] => 0
  | x :: l => max x (maxN l)
theorem maxN_snoc (l : List Nat) (x : Nat) : maxN (l ++ [x]) = max (maxN l) x := by
  induction l with
  | nil => simp [maxN]
  | cons y l ih => simp only [List.cons_append, maxN, ih]; omega
theorem maxN_le {l : List Nat} (h : ∀ n ∈ l, n < 18446744073709551616) : maxN l < 18446744073709551616 := by
  induction l with
  | nil => simp [maxN]
  | cons y l ih => have := h y (by simp); have := ih fun n hn => h n (by simp [hn]); simp only [maxN]; omega
set_option maxRecDepth 100000 in
set_option maxHeartbeats 1000000 in
/-- slices.Max -/
theorem max_any {A : Nat → Prop} {w : World} {v : Value} {l : List Nat} (h : Us A w v l) (h0 : 0 < l.length) : Calls Tryz.prog 37 #[v] w fun e w' => e = .returned (.int .u64 (maxN l : Int)) ∧ w = w' := by
  obtain ⟨a, c, rfl, hc, _, H⟩ := h.at
  have H := Hid.mk' H
  have hl : (l.length : Int) ≤ 140737488351232 := by have := h.2.2; unfold lim at this; omega
  have h0' : ¬ (l.length : Int) < 1 := by omega
  obtain ⟨b, o, rfl, _, c0⟩ := H.out 0 h0
  have c0 : w.cell? ⟨b, o, none⟩ = _ := c0
  have HM : Hid (l[0] = maxN (l.take 1)) := by
    show _ = _
    cases l with
    | nil => simp at h0
    | cons x l => simp [maxN]
  generalize l[0] = x0 at *
  clear h
  go_enter Tryz.func37, Tryz.ntmps37
  go_wp2_with fail
  clear c0 h0'
  go_loop [3, 4] (fun m i => ∃ (k z : Nat), 1 ≤ k ∧ k ≤ l.length ∧ i = .int .i64 k ∧ m = .int .u64 (z : Int) ∧ Hid (z = maxN (l.take k))) (fun _ i => l.length - (intOf i).toNat)
  case atStart => exact ⟨1, x0, by omega, by omega, rfl, rfl, HM⟩
  case round =>
    clear HM
    obtain ⟨k, z, hk1, hk, rfl, rfl, HZ⟩ := hrel
    by_cases hlt : k < l.length
    · have hlt' : (k : Int) < (l.length : Int) := by omega
      obtain ⟨_, _, e, _, c1⟩ := H.out k hlt
      cases e
      have HT : Hid (maxN (l.take (k + 1)) = max (maxN (l.take k)) l[k]) := by show _ = _; rw [List.take_succ_eq_append_getElem hlt, maxN_snoc]
      generalize l[k] = y at *
      have hmx : max (z : Int) (y : Int) = ((max z y : Nat) : Int) := by omega
      go_wp2_with fail
      go_round
      case rel => exact ⟨k + 1, max z y, by omega, by omega, by go_num, by first | rfl | (rw [hmx]), by show _ = _; rw [HT.out, ← HZ.out]⟩
      case measure => simp [intOf]; omega
    · obtain rfl : k = l.length := by omega
      have HT : Hid (z = maxN l) := by have := HZ.out; rwa [List.take_length] at this
      go_wp2_with fail
      go_ret
      exact ⟨by rw [HT.out] <;> rfl, rfl⟩
def incp : List UInt8 := [105, 110, 99, 46]
set_option maxRecDepth 100000 in
set_option maxHeartbeats 1000000 in
/-- Newest -/
theorem newest_any {V : Nat → Prop} {B b : Nat} {w : World} {l : List Th} (p : List UInt8) (hI : VaultIs B V w b (tget l) l.length) (hA : Asc l) (hn : l.length ≤ 100000) (hl : p.length ≤ 10000000) (hs : ∀ t ∈ l, t.1.length ≤ maxLen) :
    Calls Tryz.prog 16 #[.agg #[.pointer (some ⟨b, 0, none⟩), .string ⟨p.toArray⟩]] w fun e w' => e = .returned (.int .u64 (maxN (allN l (p ++ incp)) : Int)) ∧ Below w.heap.size w w' := by
  obtain ⟨W, hW⟩ : ∃ W, W = w.alloc (.cells #[.pointer (some ⟨b, 0, none⟩), .string ⟨p.toArray⟩] 29) := ⟨_, rfl⟩
  have HB : Hid (Below w.heap.size w W) := by rw [hW]; exact up_alloc _ _
  have hc : W.cell? ⟨w.heap.size, 0, none⟩ = some (.pointer (some ⟨b, 0, none⟩)) ∧ W.cell? ⟨w.heap.size, 1, none⟩ = some (.string ⟨p.toArray⟩) := by rw [hW]; exact two_cells
  obtain ⟨hc0, hc1⟩ := hc
  have HA := Hid.mk' (call_any p incp (hI.up HB.out) hA hn (by simp [incp]; omega) hs)
  have HLN : Hid ((allN l (p ++ incp)).length ≤ 100000) := by
    show _ ≤ _
    have h1 := List.length_filterMap_le (fun x : List UInt8 => numV (x.drop (p ++ incp).length)) (tlist l (p ++ incp))
    have h2 := tlist_len l (p ++ incp) l.length; rw [List.take_length] at h2
    unfold allN
    omega
  have HLB : Hid (∀ n ∈ allN l (p ++ incp), n < 18446744073709551616) := fun n hm => by
    unfold allN at hm
    obtain ⟨x, _, hx⟩ := List.mem_filterMap.1 hm
    exact (hex_numV _ _ hx).2
  generalize allN l (p ++ incp) = L at *
  clear hI hA hn hl hs
  go_enter Tryz.func16, Tryz.ntmps16
  go_upto_region 1 with fail
  rw [← hW]
  clear hW
  go_wp2_with fail
  refine HA.out.mono ?_
  rintro e w1 ⟨v1, rfl, ho1, hb1⟩
  have HB1 := Hid.mk' (bt HB.out hb1)
  obtain ⟨a1, c1, e1⟩ := own_slice ho1
  subst e1
  by_cases h0 : 0 < L.length
  · have HM := Hid.mk' (max_any (ho1.us HLB.out (by have := HLN.out; unfold lim; omega)) h0)
    have e0 : ((L.length : Int) == 0) = false := by rw [beq_eq_false_iff_ne]; omega
    clear ho1 hb1 HA h0
    go_wp2_with fail
    refine HM.out.mono ?_
    rintro e w2 ⟨rfl, rfl⟩
    clear HM
    go_wp2_with fail
    go_ret
    exact ⟨rfl, HB1.out⟩
  · obtain rfl : L = [] := List.eq_nil_of_length_eq_zero (by omega)
    clear ho1 hb1 HA h0
    go_wp2_with fail
    go_ret
    exact ⟨rfl, HB1.out⟩
end Go.Proofs.YtojgkjpmphfakaaGreatDoor
