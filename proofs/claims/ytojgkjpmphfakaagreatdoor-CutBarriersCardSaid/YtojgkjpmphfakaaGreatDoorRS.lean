/- The reference's Some; the law's same. -/
import Derived.Test.YtojgkjpmphfakaaGreatDoorRB
set_option linter.unusedVariables false
set_option linter.unusedSimpArgs false
namespace Go.Proofs.YtojgkjpmphfakaaGreatDoor
open Go.RowKit
open PL
attribute [local go_sem ↓] Go.wp_at_zero Go.wp_at_succ
/-- those of an incarnation that match -/
def rSome (inc : Nat) (ps : List (List UInt8)) (L : List Bi) : List Bi := L.filter fun y => (ps.isEmpty || anyB y.2.2.1 ps) && y.1 == inc
theorem rSome_cats (inc : Nat) (ps : List (List UInt8)) (L : List Bi) : (rSome inc ps L).map (·.2) = some' ps (cats inc L) := by
  unfold rSome some' cats
  rw [List.filter_map, List.filter_filter]
  rfl
def PvR (A : Nat → Prop) (w0 wr : World) (y : Value) (m : Nat) (F : List Bi) : Prop := ∃ pv : List (Bi × Value), pv.map (·.1) = F ∧ pv.length = m ∧ wr.ownsRow w0.heap.size 32 4 y m (rcs pv) ∧ ∀ p ∈ pv, Us A w0 p.2 p.1.2.2.2
theorem PvR.up {A : Nat → Prop} {w0 w w' : World} {y : Value} {m : Nat} {F : List Bi} (h : PvR A w0 w y m F) (hb : Below w.heap.size w w') : PvR A w0 w' y m F := let ⟨pv, a, b, c, d⟩ := h; ⟨pv, a, b, own_keep c hb (Nat.le_refl _), d⟩
theorem PvR.nil {A : Nat → Prop} {w0 wr : World} : PvR A w0 wr (.slice none 0 0) 0 [] := ⟨[], rfl, rfl, World.ownsRow_nil _ _ _ _, fun p hp => by cases hp⟩
theorem PvR.rd {A : Nat → Prop} {w0 wr : World} {y : Value} {m : Nat} {F : List Bi} (h : PvR A w0 wr y m F) (hb : Below w0.heap.size w0 wr) (hm : m ≤ 1000) : RbR (fun k => A k ∨ w0.heap.size ≤ k) wr y F := by
  obtain ⟨pv, rfl, rfl, c, d⟩ := h
  refine ⟨pv, rfl, ?_, fun p hp => ((d p hp).up hb).monoS fun k hk => .inl hk, by rw [List.length_map]; unfold lim; omega⟩
  rw [List.length_map]
  exact (Row.of_ownB c).monoS fun k hk => .inr hk
set_option maxRecDepth 100000 in
set_option maxHeartbeats 8000000 in
/-- Some -/
theorem rsome_any {A A' : Nat → Prop} {w : World} {v u : Value} {L : List Bi} {ps : List (List UInt8)} (inc : Nat) (h : RbR A w v L) (hL : L.length ≤ 1000) (hN : ∀ y ∈ L, y.2.2.1.length ≤ 1000) (hp : Ss A' w u ps) (hps : ∀ q ∈ ps, q.length ≤ 1000) :
    Calls Tryz.prog 14 #[v, .int .u64 (inc : Int), u] w fun e w' => ∃ v', e = .returned v' ∧ RbR (fun k => A k ∨ w.heap.size ≤ k) w' v' (rSome inc ps L) ∧ Below w.heap.size w w' := by
  have HL : Hid (L.length ≤ 1000) := hL
  have hll : (L.length : Int) ≤ 1000 := by omega
  obtain ⟨a, c, rfl, hc, hat⟩ := h.at
  have HAT := Hid.mk' hat
  have HNM := Hid.mk' hN
  have HPS := Hid.mk' hps
  obtain ⟨ua, uc, rfl, huc, _, hpt⟩ := hp.at
  have HPT := Hid.mk' hpt
  have hpl : (ps.length : Int) ≤ 140737488351232 := by have := hp.2; unfold lim at this; omega
  have HO0 : Hid (PvR A w w (.slice none 0 0) 0 (rSome inc ps (L.take 0))) := PvR.nil
  have HB0 : Hid (Below w.heap.size w w) := Below.refl _ _
  clear h hL hat hN hps hp hpt
  go_enter Tryz.func14, Tryz.ntmps14
  go_wp2_with fail
  go_loopw [7, 8] (fun y i wr => ∃ (k m : Nat) (oa : Option Addr) (oc : Nat), k ≤ L.length ∧ i = .int .i64 k ∧ y = .slice oa m oc ∧ m ≤ k ∧ Hid (PvR A w wr (.slice oa m oc) m (rSome inc ps (L.take k))) ∧ Hid (Below w.heap.size w wr)) (fun _ i _ => L.length - (intOf i).toNat)
  case atStart => exact ⟨0, 0, none, 0, by omega, rfl, rfl, by omega, HO0, HB0⟩
  case round =>
    clear HO0 HB0
    obtain ⟨k, m, oa, oc, hk, rfl, rfl, hmk, HO, HB⟩ := hrel
    rename World => wk
    by_cases hlt : k < L.length
    case neg =>
      obtain rfl : k = L.length := by omega
      rw [List.take_length] at HO
      clear hlt
      go_wp2_with fail
      go_ret
      exact ⟨_, rfl, HO.out.rd HB.out (by have := HL.out; omega), HB.out⟩
    have hlt' : (k : Int) < (L.length : Int) := by omega
    obtain ⟨b1, o1, u1, rfl, _, ⟨e0, e1, e2, e3⟩, hu1⟩ := HAT.out k hlt
    have HE0 := Hid.mk' (And.intro e0 (And.intro e1 (And.intro e2 e3)))
    have HU1 := Hid.mk' hu1
    have HNZ := Hid.mk' (HNM.out L[k] (List.getElem_mem hlt))
    have HTK : Hid (rSome inc ps (L.take (k + 1)) = rSome inc ps (L.take k) ++ (if (ps.isEmpty || anyB L[k].2.2.1 ps) && L[k].1 == inc then [L[k]] else [])) := by
      show _ = _
      rw [List.take_succ_eq_append_getElem hlt]
      unfold rSome
      rw [List.filter_append, List.filter_cons, List.filter_nil]
    obtain ⟨q1, k1, rfl, _⟩ := hu1.at
    clear hu1 e0 e1 e2 e3
    generalize L[k] = z at *
    obtain ⟨z0, z1, z2, z3⟩ := z
    simp only at HNZ HTK HE0 HU1
    have HA0 : Hid (((ps.length : Int) == 0) = (ps.isEmpty || anyB z2 (ps.take 0))) := by
      show _ = _
      cases ps with
      | nil => rfl
      | cons q r => rw [show (((q :: r).length : Int) == 0) = false by rw [beq_eq_false_iff_ne]; simp; omega]; rfl
    have HBK0 : Hid (Below wk.heap.size wk wk) := Below.refl _ _
    go_wp2_with fail
    go_loopw [9, 10] (fun ok i wr => ∃ (j : Nat) (t : Bool), j ≤ ps.length ∧ i = .int .i64 j ∧ ok = .bool t ∧ Hid (t = (ps.isEmpty || anyB z2 (ps.take j))) ∧ Hid (Below wk.heap.size wk wr)) (fun _ i _ => ps.length - (intOf i).toNat)
    case atStart => exact ⟨0, ((ps.length : Int) == 0), by omega, rfl, rfl, HA0, HBK0⟩
    case round =>
      clear HA0 HBK0
      obtain ⟨j, t, hj, rfl, rfl, HT, HBM⟩ := hrel
      rename World => wm
      have HWM := Hid.mk' (HB.out.trans (HBM.out.mono HB.out.size))
      have e0 := cell_later HWM.out HE0.out.1
      have e1 := cell_later HWM.out HE0.out.2.1
      have e2 := cell_later HWM.out HE0.out.2.2.1
      have e3 := cell_later HWM.out HE0.out.2.2.2
      by_cases hjt : j < ps.length
      · have hjt' : (j : Int) < (ps.length : Int) := by omega
        obtain ⟨b2, o2, rfl, _, p2⟩ := HPT.out j hjt
        have p2 := cell_later HWM.out p2
        have HPJ := Hid.mk' (HPS.out ps[j] (List.getElem_mem hjt))
        have HTJ : Hid ((ps.isEmpty || anyB z2 (ps.take (j + 1))) = (ps.isEmpty || anyB z2 (ps.take j) || PL.mt z2 ps[j])) := by
          show _ = _
          rw [List.take_succ_eq_append_getElem hjt]
          unfold anyB
          rw [List.any_append, ← Bool.or_assoc]
          simp
        generalize ps[j] = q at *
        cases t with
        | true =>
          have HT2 : Hid (true = (ps.isEmpty || anyB z2 (ps.take (j + 1)))) := by show _ = _; rw [HTJ.out, ← HT.out]; rfl
          go_wp2_with fail
          go_quiet (fail)
          go_wp2_with fail
          go_roundw
          case rel => exact ⟨j + 1, true, by omega, by go_num, rfl, HT2, HBM.out.trans (drewN_below _ _)⟩
          case measure => simp [intOf]; omega
        | false =>
          have HT2 : Hid (PL.mt z2 q = (ps.isEmpty || anyB z2 (ps.take (j + 1)))) := by show _ = _; rw [HTJ.out, ← HT.out]; rfl
          go_upto_region 9 with fail
          have r0 : ∀ q : Kp (fun _ => False) wm, q.nx.cell? ⟨b1, o1 + k * 4 + 2, none⟩ = some _ := fun q => q.cell e2 (fun h => h)
          have r1 : ∀ q : Kp (fun _ => False) wm, q.nx.cell? ⟨b2, o2 + j, none⟩ = some _ := fun q => q.cell p2 (fun h => h)
          have hd := drew_blx wm wm.heap.size
          refine wp_region_mix 14 (fun w' => ∃ q : Kp (fun _ => False) wm, w' = q.nx) (by kernel_rfl) (by kernel_rfl) (kp_first _ wm) ?_
          simp only [List.take_succ_cons, List.take_zero, List.drop_succ_cons, List.drop_zero]
          refine mx_take 11 rfl ?_
          simp only [List.take_succ_cons, List.take_zero, List.drop_succ_cons, List.drop_zero]
          repeat (go_big_quiet_step (fail))
          refine wpQuiet_nil ?_
          refine mx_call (vals := [.string ⟨z2.toArray⟩, .string ⟨q.toArray⟩]) Tryz.func36 (by kernel_rfl) rfl rfl (by kernel_rfl) (by kernel_rfl) (rmatch_any z2 q HNZ.out HPJ.out _) (fun e wc hwc => ?_)
          obtain ⟨rfl, hbc⟩ := hwc
          have HBC := Hid.mk' (hd.trans hbc)
          refine ⟨_, rfl, kp_mk HBC.out.size fun k hk _ => HBC.out.block k hk, ?_⟩
          simp only [Act.put, List.setIfInBounds_toArray, List.set_cons_succ, List.set_cons_zero]
          refine mx_take 2 rfl ?_
          simp only [List.take_succ_cons, List.take_zero, List.drop_succ_cons, List.drop_zero]
          repeat (go_big_quiet_step (fail))
          refine wpQuiet_nil ?_
          simp only [wpMix]
          have HBMC := Hid.mk' (bt HBM.out HBC.out)
          clear r0 r1 hd hbc e0 e1 e2 e3 p2
          go_wp2_with fail
          go_roundw
          case rel => exact ⟨j + 1, PL.mt z2 q, by omega, by go_num, rfl, HT2, HBMC⟩
          case measure => simp [intOf]; omega
      · obtain rfl : j = ps.length := by omega
        have HT2 : Hid (t = (ps.isEmpty || anyB z2 ps)) := by have := HT.out; rwa [List.take_length] at this
        rw [← HT2.out] at HTK
        have HOM := Hid.mk' (HO.out.up HBM.out)
        clear hjt hj HT HT2
        cases t with
        | false =>
          have HT3 : Hid (rSome inc ps (L.take (k + 1)) = rSome inc ps (L.take k)) := by show _ = _; rw [HTK.out]; simp
          go_wp2_with fail
          go_roundw
          case rel => exact ⟨k + 1, m, oa, oc, by omega, by go_num, rfl, by omega, by rw [HT3.out]; exact HOM, HWM⟩
          case measure => simp [intOf]; omega
        | true =>
          by_cases hin : z0 = inc
          · have q0 : ((z0 : Int) == (inc : Int)) = true := by rw [beq_iff_eq]; omega
            have HT3 : Hid (rSome inc ps (L.take (k + 1)) = rSome inc ps (L.take k) ++ [(z0, z1, z2, z3)]) := by show _ = _; rw [HTK.out, if_pos (by simp [hin])]
            obtain ⟨pv, hp1, hp2, hp3, hp4⟩ := HOM.out
            have HP1 := Hid.mk' hp1
            have HP2 := Hid.mk' hp2
            have HP4 := Hid.mk' hp4
            have hup := up_alloc wm (.cells #[.int .u64 (z0 : Int), .int .u64 (z1 : Int), .string ⟨z2.toArray⟩, .slice q1 z3.length k1] 32)
            have HOA := Hid.mk' (own_keep hp3 hup (Nat.le_refl _))
            have HBA := Hid.mk' (HWM.out.trans (hup.mono HWM.out.size))
            have HM1 : Hid (m ≤ 1000) := by have := HL.out; show _ ≤ _; omega
            clear hin hp1 hp2 hp3 hp4 hup
            go_wp2_with (at_builtin; go_must (refine wpl_app rfl (.tmp 49) (.tmp 54) 22 rfl Tryz.underlying22 Tryz.info32 rfl (by decide) rfl HOA.out rfl row4_one (by intro u hu; simp only [List.mem_cons, List.not_mem_nil, or_false] at hu; rcases hu with rfl | rfl | rfl | rfl <;> rfl) (by have := HM1.out; unfold maxLen; omega) (by have := HM1.out; omega) HBA.out.size ?_); intro v6 w6 ho hg _ _; have HB6 : Hid (Below w.heap.size w w6) := below_app HBA.out HOA.out hg (Nat.le_refl _) HBA.out.size; have HO6 : Hid (PvR A w w6 v6 (m + 1) (rSome inc ps (L.take (k + 1)))) := (by rw [HT3.out]; exact ⟨pv ++ [((z0, z1, z2, z3), .slice q1 z3.length k1)], by rw [List.map_append, HP1.out]; rfl, by rw [List.length_append, HP2.out]; rfl, by rw [rcs_append]; exact ho, fun p hp => by rcases List.mem_append.1 hp with h | h; exact HP4.out p h; rw [List.mem_singleton] at h; subst h; exact HU1.out⟩); obtain ⟨a6, c6, e6⟩ := own_sliceN ho; subst e6; clear ho hg)
            go_roundw
            case rel => exact ⟨k + 1, m + 1, a6, c6, by omega, by go_num, rfl, by omega, HO6, HB6⟩
            case measure => simp [intOf]; omega
          · have q0 : ((z0 : Int) == (inc : Int)) = false := by rw [beq_eq_false_iff_ne]; omega
            have HT3 : Hid (rSome inc ps (L.take (k + 1)) = rSome inc ps (L.take k)) := by show _ = _; rw [HTK.out, if_neg (by simp [hin]), List.append_nil]
            clear hin
            go_wp2_with fail
            go_roundw
            case rel => exact ⟨k + 1, m, oa, oc, by omega, by go_num, rfl, by omega, by rw [HT3.out]; exact HOM, HWM⟩
            case measure => simp [intOf]; omega
set_option maxRecDepth 100000 in
set_option maxHeartbeats 8000000 in
/-- same -/
theorem same12_any {A A' : Nat → Prop} {w : World} {v u : Value} {M : List Br} {L : List Bi} (h : BrR A w v M) (h' : RbR A' w u L) (hM : M.length ≤ 1000) (hL : L.length ≤ 1000) : Calls Tryz.prog 12 #[v, u] w fun e w' => e = .returned (.bool (decide (M = L.map (·.2)))) ∧ Below w.heap.size w w' := by
  obtain ⟨a, c, rfl, hc, hat⟩ := h.at
  obtain ⟨a', c', rfl, hc', hat'⟩ := h'.at
  have H := Hid.mk' hat
  have H' := Hid.mk' hat'
  have hl : (M.length : Int) ≤ 1000 := by omega
  have hm : (L.length : Int) ≤ 1000 := by omega
  have HR : Hid (decide (M = L.map (·.2)) = decide (M.drop 0 = (L.drop 0).map (·.2))) := rfl
  clear h h' hat hat' hM hL
  generalize decide (M = L.map (·.2)) = R at *
  by_cases hlen : M.length = L.length
  case neg =>
    have h1 : ((M.length : Int) == (L.length : Int)) = false := by rw [beq_eq_false_iff_ne]; omega
    have h2 : ((M.length : Int) != (L.length : Int)) = true := by rw [bne_iff_ne]; omega
    have HR2 : Hid (R = false) := by show _ = _; rw [HR.out]; simp only [List.drop_zero]; exact decide_eq_false fun e => hlen (by rw [e, List.length_map])
    clear HR hlen
    go_enter Tryz.func12, Tryz.ntmps12
    go_wp2_with fail
    go_ret
    exact ⟨by rw [HR2.out] <;> rfl, Below.refl _ _⟩
  have h1 : ((M.length : Int) == (L.length : Int)) = true := by rw [beq_iff_eq]; omega
  have h2 : ((M.length : Int) != (L.length : Int)) = false := by rw [bne_eq_false_iff_eq]; omega
  have HLEN := Hid.mk' hlen
  have HBZ : Hid (Below w.heap.size w w) := Below.refl _ _
  clear hlen
  go_enter Tryz.func12, Tryz.ntmps12
  go_wp2_with fail
  clear h1 h2
  go_loopw [13] (fun i wr => ∃ k : Nat, k ≤ M.length ∧ i = .int .i64 k ∧ Hid (R = decide (M.drop k = (L.drop k).map (·.2))) ∧ Hid (Below w.heap.size w wr)) (fun i _ => M.length - (intOf i).toNat)
  case atStart => exact ⟨0, by omega, rfl, HR, HBZ⟩
  case round =>
    clear HR HBZ
    obtain ⟨k, hk, rfl, HF, HB⟩ := hrel
    rename World => wk
    by_cases hlt : k < M.length
    · have hlt' : (k : Int) < (M.length : Int) := by omega
      have hlm : k < L.length := by have := HLEN.out; omega
      have hlm' : (k : Int) < (L.length : Int) := by omega
      obtain ⟨b1, o1, u1, rfl, _, ⟨e0, e1, e2⟩, hu1⟩ := H.out k hlt
      obtain ⟨b2, o2, u2, rfl, _, ⟨g0, g1, g2, g3⟩, hu2⟩ := H'.out k hlm
      have e0 := cell_later HB.out e0
      have e1 := cell_later HB.out e1
      have e2 := cell_later HB.out e2
      have g1 := cell_later HB.out g1
      have g2 := cell_later HB.out g2
      have g3 := cell_later HB.out g3
      have HU1 := Hid.mk' (hu1.up HB.out)
      have HU2 := Hid.mk' (hu2.up HB.out)
      have HT : Hid (M[k] = L[k].2 → R = decide (M.drop (k + 1) = (L.drop (k + 1)).map (·.2))) := fun h => by
        rw [HF.out, List.drop_eq_getElem_cons hlt, List.drop_eq_getElem_cons hlm, decide_eq_decide, List.map_cons]
        exact ⟨fun h2 => (List.cons.inj h2).2, fun h2 => by rw [h, h2]⟩
      have HN : Hid (M[k] ≠ L[k].2 → R = false) := fun e => by
        rw [HF.out, List.drop_eq_getElem_cons hlt, List.drop_eq_getElem_cons hlm, List.map_cons]
        exact decide_eq_false fun h => e (List.cons.inj h).1
      obtain ⟨q1, k1, rfl, _⟩ := hu1.at
      obtain ⟨q2, k2, rfl, _⟩ := hu2.at
      clear HF g0 hu1 hu2
      generalize M[k] = x at *
      generalize L[k] = z at *
      obtain ⟨x1, x2, x3⟩ := x
      obtain ⟨z0, z1, z2, z3⟩ := z
      simp only at e0 e1 e2 g1 g2 g3 HU1 HU2 HT HN
      by_cases h1 : x1 = z1
      case neg =>
        have q0 : ((x1 : Int) == (z1 : Int)) = false := by rw [beq_eq_false_iff_ne]; omega
        have q1' : ((x1 : Int) != (z1 : Int)) = true := by rw [bne_iff_ne]; omega
        have HN2 := Hid.mk' (HN.out (by simp [h1]))
        clear h1 HT HN
        go_wp2_with fail
        go_quiet (fail)
        go_wp2_with fail
        go_ret
        exact ⟨by rw [HN2.out] <;> rfl, HB.out.trans (drewN_below _ _)⟩
      have q0 : ((x1 : Int) == (z1 : Int)) = true := by rw [beq_iff_eq]; omega
      have q1' : ((x1 : Int) != (z1 : Int)) = false := by rw [bne_eq_false_iff_eq]; omega
      by_cases h2 : x2 = z2
      case neg =>
        have p0 : (x2 == z2) = false := by rw [beq_eq_false_iff_ne]; exact h2
        have p1 : (x2 != z2) = true := by rw [bne_iff_ne]; exact h2
        have HN2 := Hid.mk' (HN.out (by simp [h2]))
        clear h1 h2 HT HN
        go_wp2_with fail
        go_quiet (fail)
        go_wp2_with fail
        go_ret
        exact ⟨by rw [HN2.out] <;> rfl, HB.out.trans (drewN_below _ _)⟩
      have p0 : (x2 == z2) = true := by rw [beq_iff_eq]; exact h2
      have p1 : (x2 != z2) = false := by rw [bne_eq_false_iff_eq]; exact h2
      have HT3 : Hid (x3 = z3 → R = decide (M.drop (k + 1) = (L.drop (k + 1)).map (·.2))) := fun h => HT.out (by rw [h1, h2, h])
      have HN3 : Hid (x3 ≠ z3 → R = false) := fun h => HN.out (by simp [h])
      clear h1 h2 HT HN
      go_upto_region 6 with fail
      have r0 : ∀ q : Kp (fun _ => False) wk, q.nx.cell? ⟨b1, o1 + k * 3, none⟩ = some _ := fun q => q.cell e0 (fun h => h)
      have r1 : ∀ q : Kp (fun _ => False) wk, q.nx.cell? ⟨b1, o1 + k * 3 + 1, none⟩ = some _ := fun q => q.cell e1 (fun h => h)
      have r2 : ∀ q : Kp (fun _ => False) wk, q.nx.cell? ⟨b1, o1 + k * 3 + 2, none⟩ = some _ := fun q => q.cell e2 (fun h => h)
      have r3 : ∀ q : Kp (fun _ => False) wk, q.nx.cell? ⟨b2, o2 + k * 4 + 1, none⟩ = some _ := fun q => q.cell g1 (fun h => h)
      have r4 : ∀ q : Kp (fun _ => False) wk, q.nx.cell? ⟨b2, o2 + k * 4 + 2, none⟩ = some _ := fun q => q.cell g2 (fun h => h)
      have r5 : ∀ q : Kp (fun _ => False) wk, q.nx.cell? ⟨b2, o2 + k * 4 + 3, none⟩ = some _ := fun q => q.cell g3 (fun h => h)
      have hd := drew_blx wk wk.heap.size
      refine wp_region_mix 38 (fun w' => ∃ q : Kp (fun _ => False) wk, w' = q.nx) (by kernel_rfl) (by kernel_rfl) (kp_first _ wk) ?_
      simp only [List.take_succ_cons, List.take_zero, List.drop_succ_cons, List.drop_zero]
      refine mx_take 35 rfl ?_
      simp only [List.take_succ_cons, List.take_zero, List.drop_succ_cons, List.drop_zero]
      repeat (go_big_quiet_step (fail))
      refine wpQuiet_nil ?_
      refine mx_call (vals := [.slice q1 x3.length k1, .slice q2 z3.length k2]) Tryz.func15 (by kernel_rfl) rfl rfl (by kernel_rfl) (by kernel_rfl) (sameN_any (HU1.out.up hd) (HU2.out.up hd)) (fun e wc hwc => ?_)
      obtain ⟨rfl, hdc⟩ := hwc
      have HBC : Hid (Below wk.heap.size wk wc) := hd.trans (hdc.below wk.heap.size)
      refine ⟨_, rfl, kp_mk HBC.out.size fun k hk _ => HBC.out.block k hk, ?_⟩
      simp only [Act.put, List.setIfInBounds_toArray, List.set_cons_succ, List.set_cons_zero]
      refine mx_take 2 rfl ?_
      simp only [List.take_succ_cons, List.take_zero, List.drop_succ_cons, List.drop_zero]
      repeat (go_big_quiet_step (fail))
      refine wpQuiet_nil ?_
      simp only [wpMix]
      have HBB := Hid.mk' (HB.out.trans (HBC.out.mono HB.out.size))
      clear r0 r1 r2 r3 r4 r5 hd hdc e0 e1 e2 g1 g2 g3
      by_cases h3 : x3 = z3
      · have HT4 := Hid.mk' (HT3.out h3)
        rw [decide_eq_true h3]
        clear h3 HT3 HN3
        go_wp2_with fail
        go_roundw
        case rel => exact ⟨k + 1, by omega, by go_num, HT4, HBB⟩
        case measure => simp [intOf]; omega
      · have HN4 := Hid.mk' (HN3.out h3)
        rw [decide_eq_false h3]
        clear h3 HT3 HN3
        go_wp2_with fail
        go_ret
        exact ⟨by rw [HN4.out] <;> rfl, HBB.out⟩
    · obtain rfl : k = M.length := by omega
      have HT : Hid (R = true) := by show _ = _; rw [HF.out, List.drop_length, HLEN.out, List.drop_length]; rfl
      go_wp2_with fail
      go_ret
      exact ⟨by rw [HT.out] <;> rfl, HB.out⟩
end Go.Proofs.YtojgkjpmphfakaaGreatDoor
