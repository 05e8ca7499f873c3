/- CutClaims: the law's walk. -/
import Derived.Test.YtojgkjpmphfakaaGreatDoorCS
set_option linter.unusedVariables false
set_option linter.unusedSimpArgs false
namespace Go.Proofs.YtojgkjpmphfakaaGreatDoor
open Go.RowKit
attribute [local go_sem ↓] Go.wp_at_zero Go.wp_at_succ
set_option maxRecDepth 100000 in
set_option maxHeartbeats 16000000 in
/-- the law -/
theorem claims_any {w : World} {v : Value} {l : List Og} {ask : Nat} (h : OgR (Lt w.heap.size) w v l) (hk : ask < 18446744073709551616) : Calls Tryz.prog 5 #[v, .int .u64 (ask : Int)] w fun e w' => e = .returned (.bool true) ∧ Below w.heap.size w w' := by
  have HA := Hid.mk' h
  have HK : Hid (ask < 18446744073709551616) := hk
  obtain ⟨va, vc, rfl, hvc, hat⟩ := row3_at h.1
  have HAT := Hid.mk' hat
  have hll : (l.length : Int) ≤ 140737488351232 := by have := h.2.2; unfold lim at this; omega
  clear h hk hat
  go_enter Tryz.func5, Tryz.ntmps5
  go_wp2_with fail
  refine (awake_any w).mono ?_
  rintro e w1 ⟨rfl, hb1⟩
  have HB1 := Hid.mk' hb1
  clear hb1
  go_upto_if 19 with fail
  go_cut [0] (fun u wx => u = .slice va (l.take 30).length vc ∧ Hid (w1 = wx) ∧ Hid (OgR (Lt w.heap.size) w1 (.slice va (l.take 30).length vc) (l.take 30)))
  case first =>
    by_cases hlt : 30 < l.length
    · have hlt' : (30 : Int) < (l.length : Int) := by omega
      obtain ⟨b0, o0, rfl, _⟩ := HAT.out 0 (by omega)
      have hl30 : (l.take 30).length = 30 := by rw [List.length_take]; omega
      have HX : Hid (OgR (Lt w.heap.size) w1 (.slice (some ⟨b0, o0, none⟩) (l.take 30).length vc) (l.take 30)) := (HA.out.cut (by omega)).up HB1.out
      have HL := Hid.mk' hl30
      have hvc' : (30 : Int) ≤ (vc : Int) := by omega
      clear hl30
      go_wp2_with fail
      go_meet
      exact ⟨by rw [HL.out], rfl, HX⟩
    · have hlt' : ¬ (30 : Int) < (l.length : Int) := by omega
      have HE : Hid (l.take 30 = l) := List.take_of_length_le (by omega)
      have HX : Hid (OgR (Lt w.heap.size) w1 (.slice va (l.take 30).length vc) (l.take 30)) := by rw [HE.out]; exact HA.out.up HB1.out
      go_wp2_with fail
      go_meet
      exact ⟨by rw [HE.out], rfl, HX⟩
  case rest =>
  obtain ⟨rfl, hwx, Ha⟩ := hcut
  obtain rfl := hwx.out
  clear hwx HA HAT hll hvc
  have hla : (l.take 30).length ≤ 30 := by rw [List.length_take]; omega
  generalize l.take 30 = l' at *
  clear l
  rename List Og => l
  have HLA : Hid (l.length ≤ 30) := hla
  have hll : (l.length : Int) ≤ 30 := by omega
  obtain ⟨_, _, ev, _, hat⟩ := row3_at Ha.out.1
  obtain ⟨rfl, _, rfl⟩ := Value.slice.inj ev
  have HAT := Hid.mk' hat
  have HBD := Hid.mk' Ha.out.2.1
  clear hat ev hla
  have HNW := Hid.mk' (new_any w1)
  go_wp2_with fail
  refine HNW.out.mono ?_
  rintro e wy ⟨rfl, rfl⟩
  clear HNW
  obtain ⟨W, hW⟩ : ∃ W, W = (w1.alloc (.cells #[.map none] 65)).alloc (.cells #[.pointer (some ⟨w1.heap.size, 0, none⟩), .string ⟨#[99, 47]⟩] 29) := ⟨_, rfl⟩
  have hS : Sh w1.heap.size w1.heap.size (w1.heap.size + 1) [99, 47] w1 W [] := by rw [hW]; exact sh_new w1 [99, 47]
  have HSW : Hid (W.heap.size = w1.heap.size + 1 + 1) := by rw [hW]; simp [Hid]
  have HS := Hid.mk' hS
  obtain ⟨c0, c1⟩ := hS.cells
  have c1 : W.cell? ⟨w1.heap.size + 1, 1, none⟩ = some (.string ⟨#[99, 47]⟩) := c1
  have HN0 : Hid (Calls Tryz.prog 16 #[.agg #[.pointer (some ⟨w1.heap.size, 0, none⟩), .string ⟨#[99, 47]⟩]] W fun e w' => e = .returned (.int .u64 0) ∧ Below W.heap.size W w') := hS.newest (Clm.nil [99, 47]) (by simp) (by simp)
  clear hS
  go_upto_region 6 with fail
  rw [← hW]
  clear hW
  go_wp2_with fail
  refine HN0.out.mono ?_
  rintro e w2 ⟨rfl, hb2⟩
  have HS2 := Hid.mk' (HS.out.up hb2)
  have HO0 : Hid (w2.ownsRow W.heap.size 52 3 (.slice none 0 0) 0 (ocs (oss l 0))) := World.ownsRow_nil _ _ _ _
  have HC0 : Hid (Clm [] [99, 47] (oss l 0) (opk 0)) := by rw [opk_zero]; exact Clm.nil [99, 47]
  have HL0 : Hid (([] : List Th).length ≤ 2 * 0) := Nat.le_refl _
  have HW2 : Hid (W.heap.size ≤ w2.heap.size) := hb2.size
  have HU2 : Hid (Below W.heap.size W w2) := hb2
  have HAW : Hid (Below w1.heap.size w1 w2) := HS2.out.bl
  clear hb2 HN0 c0 c1 HS
  go_wp2_with fail
  go_loopw [6, 29] (fun y i wr => ∃ (k : Nat) (oa : Option Addr) (oc : Nat) (ls : List Th), k ≤ l.length ∧ i = .int .i64 k ∧ y = .slice oa k oc ∧ Hid (wr.ownsRow W.heap.size 52 3 (.slice oa k oc) k (ocs (oss l k))) ∧ Hid (Sh w1.heap.size w1.heap.size (w1.heap.size + 1) [99, 47] w1 wr ls) ∧ Hid (Clm ls [99, 47] (oss l k) (opk k)) ∧ Hid (ls.length ≤ 2 * k) ∧ Hid (W.heap.size ≤ wr.heap.size)) (fun _ i _ => l.length - (intOf i).toNat)
  case atStart => exact ⟨0, none, 0, [], by omega, rfl, rfl, HO0, HS2, HC0, HL0, HW2⟩
  case round =>
    clear HO0 HS2 HC0 HL0 HW2
    obtain ⟨k, oa, oc, ls, hk, rfl, rfl, HO, HS, HC, HL, HWK⟩ := hrel
    rename World => wk
    by_cases hlt : k < l.length
    case neg =>
      obtain rfl : k = l.length := by omega
      have HLK : Hid ((oss l l.length).length = l.length) := oss_len (Nat.le_refl _)
      have HCZ := Hid.mk' HC.out
      generalize oss l l.length = os at *
      obtain ⟨c0, c1⟩ := HS.out.cells
      have c1 : wk.cell? ⟨w1.heap.size + 1, 1, none⟩ = some (.string ⟨#[99, 47]⟩) := c1
      clear hlt hk
      by_cases hor : 1 ≤ ask ∧ ask ≤ l.length
      · obtain ⟨o, ho⟩ := orig_at (os := os) (n := ask) ⟨hor.1, by rw [HLK.out]; exact hor.2⟩
        obtain ⟨pa, od, nm⟩ := o
        have HWH := Hid.mk' (HS.out.whereS HC.out (by simp) HK.out ho)
        have ha1 : (1 : Int) ≤ (ask : Int) := by omega
        have ha2 : (ask : Int) ≤ (l.length : Int) := by omega
        clear hor ho
        go_wp2_with fail
        refine HWH.out.mono ?_
        rintro e wb ⟨rfl, hbb⟩
        have HUB : Hid (Below wk.heap.size wk (wb.alloc (.cells #[.int .u64 (pa : Int), .int .u64 (od : Int), .string ⟨nm.toArray⟩] 55))) := bt hbb (up_alloc _ _)
        obtain ⟨WC, hWC⟩ : ∃ WC, WC = wb.alloc (.cells #[.int .u64 (pa : Int), .int .u64 (od : Int), .string ⟨nm.toArray⟩] 55) := ⟨_, rfl⟩
        rw [← hWC] at HUB
        clear c0 c1 hbb HWH
        have HSC := Hid.mk' (HS.out.up HUB.out)
        have HOC := Hid.mk' (own_keep HO.out HUB.out (Nat.le_refl _))
        have HPH : Hid (Calls Tryz.prog 21 #[.agg #[.pointer (some ⟨w1.heap.size, 0, none⟩), .string ⟨#[99, 47]⟩], .int .u64 (ask : Int)] WC fun e w' => ∃ v, e = .returned v ∧ Un WC.heap.size w' v (pth os ask) ∧ Below WC.heap.size WC w') := HSC.out.pathS HCZ.out (by simp) HK.out
        obtain ⟨c0, c1⟩ := HSC.out.cells
        have c1 : WC.cell? ⟨w1.heap.size + 1, 1, none⟩ = some (.string ⟨#[99, 47]⟩) := c1
        rw [hWC] at c0 c1 HPH
        go_wp2_with fail
        refine HPH.out.mono ?_
        rintro e wd ⟨vd, rfl, hod, hbd⟩
        rw [← hWC] at hod hbd
        clear hWC
        have HOD := Hid.mk' hod
        have HSD := Hid.mk' (HSC.out.up hbd)
        have HOW := Hid.mk' (own_keep HOC.out hbd (Nat.le_refl _))
        have HOG2 : Hid (OgR (Lt wd.heap.size) wd (.slice oa l.length oc) os) := by
          have h := own_og (B := W.heap.size) (w := wd) (v := .slice oa l.length oc) (os := os) (by rw [HLK.out]; exact HOW.out) HCZ.out.bnd HCZ.out.few
          exact h
        obtain ⟨ad, cd, ed⟩ := own_slice hod
        subst ed
        have HRP := Hid.mk' (rpath_any ask HOG2.out HCZ.out.few HK.out)
        clear hod hbd HPH c0 c1
        go_wp2_with fail
        refine HRP.out.mono ?_
        rintro e we ⟨ve, rfl, hoe, hbe⟩
        have HSE := Hid.mk' (HSD.out.up hbe)
        have HSM := Hid.mk' (sameP HOD.out hbe hoe HCZ.out.few HK.out fun o ho => (HCZ.out.bnd o ho).1)
        obtain ⟨ae, ce, ee⟩ := own_slice hoe
        subst ee
        clear hoe hbe HRP
        go_wp2_with fail
        refine HSM.out.mono ?_
        rintro e wf ⟨rfl, hdf⟩
        have HBF := Hid.mk' (bt HB1.out (HSE.out.up (hdf.below we.heap.size)).bl)
        clear hdf HSM
        go_wp2_with fail
        go_ret
        exact ⟨rfl, HBF.out⟩
      have ho : orig os ask = none := by
        cases h : orig os ask with
        | none => rfl
        | some o => have := orig_le h; rw [HLK.out] at this; exact absurd ⟨this.1, this.2.1⟩ hor
      have HWH := Hid.mk' (HS.out.whereN HC.out (by simp) HK.out ho)
      clear ho
      by_cases ha1 : 1 ≤ ask
      · have ha1' : (1 : Int) ≤ (ask : Int) := by omega
        have ha2 : ¬ ((ask : Int) ≤ (l.length : Int)) := by omega
        have ha3 : decide (ask ≤ l.length) = false := decide_eq_false (by omega)
        clear hor ha1
        go_wp2_with fail
        refine HWH.out.mono ?_
        rintro e wb ⟨rfl, hbb⟩
        have HUB : Hid (Below wk.heap.size wk (wb.alloc (.cells #[.int .u64 0, .int .u64 0, .string ⟨#[]⟩] 55))) := bt hbb (up_alloc _ _)
        obtain ⟨WC, hWC⟩ : ∃ WC, WC = wb.alloc (.cells #[.int .u64 0, .int .u64 0, .string ⟨#[]⟩] 55) := ⟨_, rfl⟩
        rw [← hWC] at HUB
        clear c0 c1 hbb HWH
        have HSC := Hid.mk' (HS.out.up HUB.out)
        have HOC := Hid.mk' (own_keep HO.out HUB.out (Nat.le_refl _))
        have HPH : Hid (Calls Tryz.prog 21 #[.agg #[.pointer (some ⟨w1.heap.size, 0, none⟩), .string ⟨#[99, 47]⟩], .int .u64 (ask : Int)] WC fun e w' => ∃ v, e = .returned v ∧ Un WC.heap.size w' v (pth os ask) ∧ Below WC.heap.size WC w') := HSC.out.pathS HCZ.out (by simp) HK.out
        obtain ⟨c0, c1⟩ := HSC.out.cells
        have c1 : WC.cell? ⟨w1.heap.size + 1, 1, none⟩ = some (.string ⟨#[99, 47]⟩) := c1
        rw [hWC] at c0 c1 HPH
        go_wp2_with fail
        refine HPH.out.mono ?_
        rintro e wd ⟨vd, rfl, hod, hbd⟩
        rw [← hWC] at hod hbd
        clear hWC
        have HOD := Hid.mk' hod
        have HSD := Hid.mk' (HSC.out.up hbd)
        have HOW := Hid.mk' (own_keep HOC.out hbd (Nat.le_refl _))
        have HOG2 : Hid (OgR (Lt wd.heap.size) wd (.slice oa l.length oc) os) := by
          have h := own_og (B := W.heap.size) (w := wd) (v := .slice oa l.length oc) (os := os) (by rw [HLK.out]; exact HOW.out) HCZ.out.bnd HCZ.out.few
          exact h
        obtain ⟨ad, cd, ed⟩ := own_slice hod
        subst ed
        have HRP := Hid.mk' (rpath_any ask HOG2.out HCZ.out.few HK.out)
        clear hod hbd HPH c0 c1
        go_wp2_with fail
        refine HRP.out.mono ?_
        rintro e we ⟨ve, rfl, hoe, hbe⟩
        have HSE := Hid.mk' (HSD.out.up hbe)
        have HSM := Hid.mk' (sameP HOD.out hbe hoe HCZ.out.few HK.out fun o ho => (HCZ.out.bnd o ho).1)
        obtain ⟨ae, ce, ee⟩ := own_slice hoe
        subst ee
        clear hoe hbe HRP
        go_wp2_with fail
        refine HSM.out.mono ?_
        rintro e wf ⟨rfl, hdf⟩
        have HBF := Hid.mk' (bt HB1.out (HSE.out.up (hdf.below we.heap.size)).bl)
        clear hdf HSM
        go_wp2_with fail
        go_ret
        exact ⟨rfl, HBF.out⟩
      · have ha1' : ¬ ((1 : Int) ≤ (ask : Int)) := by omega
        clear hor ha1
        go_wp2_with fail
        refine HWH.out.mono ?_
        rintro e wb ⟨rfl, hbb⟩
        have HUB : Hid (Below wk.heap.size wk (wb.alloc (.cells #[.int .u64 0, .int .u64 0, .string ⟨#[]⟩] 55))) := bt hbb (up_alloc _ _)
        obtain ⟨WC, hWC⟩ : ∃ WC, WC = wb.alloc (.cells #[.int .u64 0, .int .u64 0, .string ⟨#[]⟩] 55) := ⟨_, rfl⟩
        rw [← hWC] at HUB
        clear c0 c1 hbb HWH
        have HSC := Hid.mk' (HS.out.up HUB.out)
        have HOC := Hid.mk' (own_keep HO.out HUB.out (Nat.le_refl _))
        have HPH : Hid (Calls Tryz.prog 21 #[.agg #[.pointer (some ⟨w1.heap.size, 0, none⟩), .string ⟨#[99, 47]⟩], .int .u64 (ask : Int)] WC fun e w' => ∃ v, e = .returned v ∧ Un WC.heap.size w' v (pth os ask) ∧ Below WC.heap.size WC w') := HSC.out.pathS HCZ.out (by simp) HK.out
        obtain ⟨c0, c1⟩ := HSC.out.cells
        have c1 : WC.cell? ⟨w1.heap.size + 1, 1, none⟩ = some (.string ⟨#[99, 47]⟩) := c1
        rw [hWC] at c0 c1 HPH
        go_wp2_with fail
        refine HPH.out.mono ?_
        rintro e wd ⟨vd, rfl, hod, hbd⟩
        rw [← hWC] at hod hbd
        clear hWC
        have HOD := Hid.mk' hod
        have HSD := Hid.mk' (HSC.out.up hbd)
        have HOW := Hid.mk' (own_keep HOC.out hbd (Nat.le_refl _))
        have HOG2 : Hid (OgR (Lt wd.heap.size) wd (.slice oa l.length oc) os) := by
          have h := own_og (B := W.heap.size) (w := wd) (v := .slice oa l.length oc) (os := os) (by rw [HLK.out]; exact HOW.out) HCZ.out.bnd HCZ.out.few
          exact h
        obtain ⟨ad, cd, ed⟩ := own_slice hod
        subst ed
        have HRP := Hid.mk' (rpath_any ask HOG2.out HCZ.out.few HK.out)
        clear hod hbd HPH c0 c1
        go_wp2_with fail
        refine HRP.out.mono ?_
        rintro e we ⟨ve, rfl, hoe, hbe⟩
        have HSE := Hid.mk' (HSD.out.up hbe)
        have HSM := Hid.mk' (sameP HOD.out hbe hoe HCZ.out.few HK.out fun o ho => (HCZ.out.bnd o ho).1)
        obtain ⟨ae, ce, ee⟩ := own_slice hoe
        subst ee
        clear hoe hbe HRP
        go_wp2_with fail
        refine HSM.out.mono ?_
        rintro e wf ⟨rfl, hdf⟩
        have HBF := Hid.mk' (bt HB1.out (HSE.out.up (hdf.below we.heap.size)).bl)
        clear hdf HSM
        go_wp2_with fail
        go_ret
        exact ⟨rfl, HBF.out⟩
    have hlt' : (k : Int) < (l.length : Int) := by omega
    obtain ⟨b1, o1, rfl, _, e0, e1, e2⟩ := HAT.out k hlt
    have e0 := cell_later HS.out.bl e0
    have e1 := cell_later HS.out.bl e1
    have e2 := cell_later HS.out.bl e2
    have hbd := HBD.out l[k] (List.getElem_mem hlt)
    have HKL : Hid ((oss l k).length = k) := oss_len hk
    have HSU : Hid (oss l (k + 1) = oss l k ++ [cutO l[k]]) := oss_succ hlt
    generalize l[k] = o at *
    obtain ⟨pa, od, nm⟩ := o
    simp only [cutO] at HSU e0 e1 e2 hbd
    have HB0 := Hid.mk' hbd
    have hnl : (nm.length : Int) ≤ 9223372036854775807 := by have := hbd.2.2; unfold maxLen at this; omega
    have en : (⟨nm.toArray⟩ : ByteArray).size = nm.length := by simp [ByteArray.size]
    have et := ba_take nm 1000
    clear hbd
    go_upto_if 37 with fail
    go_cut [] (fun wx => Hid (wx = wk.alloc (.cells #[.int .u64 (pa : Int), .int .u64 (od : Int), .string ⟨(nm.take 1000).toArray⟩] 52)))
    case first =>
      by_cases hb : 1000 < nm.length
      · have hb' : (1000 : Int) < (nm.length : Int) := by omega
        clear hb
        go_wp2_with fail
        go_meet
        show _ = _
        simp
      · have hb' : ¬ (1000 : Int) < (nm.length : Int) := by omega
        have HE : Hid (nm.take 1000 = nm) := List.take_of_length_le (by omega)
        clear hb
        go_wp2_with fail
        go_meet
        show _ = _
        rw [HE.out]
    case rest =>
    rename World => wy
    obtain rfl := hcut.out
    have HNM : Hid ((nm.take 1000).length ≤ 1000) := by show _ ≤ _; rw [List.length_take]; omega
    clear hcut en et hnl e0 e1 e2
    generalize nm.take 1000 = nm' at *
    have hup := up_alloc wk (.cells #[.int .u64 (pa : Int), .int .u64 (od : Int), .string ⟨nm'.toArray⟩] 52)
    have hx4 := heap_alloc_new wk (.cells #[.int .u64 (pa : Int), .int .u64 (od : Int), .string ⟨nm'.toArray⟩] 52)
    have HS4 := Hid.mk' (HS.out.up hup)
    have HO4 := Hid.mk' (own_keep HO.out hup (Nat.le_refl _))
    have HZ4 : Hid (W.heap.size ≤ wk.heap.size ∧ wk.heap.size < (wk.alloc (.cells #[.int .u64 (pa : Int), .int .u64 (od : Int), .string ⟨nm'.toArray⟩] 52)).heap.size) := ⟨HWK.out, by simp⟩
    have HOG : Hid (∀ i, (Value.slice oa k oc).ownBlock = some i → i ≠ wk.heap.size) := fun i hi => Nat.ne_of_lt (World.ownsRow.lt HO.out i hi).2
    obtain ⟨W4, hW4⟩ : ∃ W4, W4 = wk.alloc (.cells #[.int .u64 (pa : Int), .int .u64 (od : Int), .string ⟨nm'.toArray⟩] 52) := ⟨_, rfl⟩
    rw [← hW4] at hx4 HS4 HO4 HZ4 ⊢
    clear hW4 hup
    obtain ⟨g4, hg4⟩ : ∃ n, n = wk.heap.size := ⟨_, rfl⟩
    rw [← hg4] at hx4 HZ4 HOG ⊢
    clear hg4
    have HX4 := Hid.mk' hx4
    have HCL : Hid (Calls Tryz.prog 17 #[.agg #[.pointer (some ⟨w1.heap.size, 0, none⟩), .string ⟨#[99, 47]⟩], .agg #[.int .u64 (pa : Int), .int .u64 (od : Int), .string ⟨nm'.toArray⟩]] W4 (StepP w1.heap.size w1.heap.size (w1.heap.size + 1) [99, 47] w1 W4 (oss l (k + 1)) (opk k) (2 * k + 1) (.tuple #[.int .u64 ((k : Int) + 1), .int .i64 0]))) := by
      have h := HS4.out.claimS HC.out (by simp) HL.out (by have := HLA.out; omega) (pa, od, nm') HB0.out.1 HB0.out.2.1 HNM.out (by rw [HKL.out]; have := HLA.out; omega) (k := (k : Int) + 1) (by rw [HKL.out]; omega)
      rw [HSU.out]
      exact h
    obtain ⟨x0, x1, x2⟩ := bx3 hx4
    obtain ⟨c0, c1⟩ := HS4.out.cells
    have c1 : W4.cell? ⟨w1.heap.size + 1, 1, none⟩ = some (.string ⟨#[99, 47]⟩) := c1
    clear hx4
    go_wp2_with fail
    refine HCL.out.mono ?_
    rintro e w5 ⟨rfl, hb5, hc5, l5, hs5, hl5, hn5⟩
    have HX5 : Hid (w5.heap[g4]? = some (.cells #[.int .u64 (pa : Int), .int .u64 (od : Int), .string ⟨nm'.toArray⟩] 52 (0, 0))) := hc5 _ _ _ _ (by have := HZ4.out.1; have := HSW.out; omega) HX4.out
    have HO5 : Hid (w5.ownsRow W.heap.size 52 3 (.slice oa k oc) k (ocs (oss l k))) := own_fr HO4.out fun i hi => by
      obtain ⟨h1, cur, fr, h2⟩ := own_typed HO4.out i hi
      rw [h2]
      exact hc5 _ _ _ _ (by have := HSW.out; omega) h2
    have HS5 := Hid.mk' hs5
    have HC5 := Hid.mk' hl5
    have HN5 : Hid (l5.length ≤ 2 * k + 1) := hn5
    have HZ5 : Hid (W4.heap.size ≤ w5.heap.size) := hb5.size
    have HNW : Hid (Calls Tryz.prog 16 #[.agg #[.pointer (some ⟨w1.heap.size, 0, none⟩), .string ⟨#[99, 47]⟩]] w5 fun e w' => e = .returned (.int .u64 ((k : Int) + 1)) ∧ Below w5.heap.size w5 w') := by
      have h := hs5.newest hl5 (by simp) (by have := HLA.out; omega)
      rw [oss_len (by omega)] at h
      rw [show ((k + 1 : Nat) : Int) = (k : Int) + 1 by omega] at h
      exact h
    clear hb5 hc5 hs5 hl5 hn5 HCL c0 c1 x0 x1 x2
    obtain ⟨c0, c1⟩ := HS5.out.cells
    have c1 : w5.cell? ⟨w1.heap.size + 1, 1, none⟩ = some (.string ⟨#[99, 47]⟩) := c1
    have hwr : IntKind.u64.wrap ((k : Int) + 1) = (k : Int) + 1 := by rw [IntKind.wrap_u64]; omega
    go_wp2_with fail
    refine HNW.out.mono ?_
    rintro e w6 ⟨rfl, hb6⟩
    have HX6 : Hid (w6.heap[g4]? = some (.cells #[.int .u64 (pa : Int), .int .u64 (od : Int), .string ⟨nm'.toArray⟩] 52 (0, 0))) := (hb6.block _ (Array.getElem?_eq_some_iff.1 HX5.out).1).trans HX5.out
    have hup := up_alloc w6 (.cells #[.int .u64 (pa : Int), .int .u64 (od : Int), .string ⟨nm'.toArray⟩] 52)
    have hbA := bt hb6 hup
    have HOA : Hid ((w6.alloc (.cells #[.int .u64 (pa : Int), .int .u64 (od : Int), .string ⟨nm'.toArray⟩] 52)).ownsRow W.heap.size 52 3 (.slice oa k oc) k (ocs (oss l k))) := own_keep HO5.out hbA (Nat.le_refl _)
    have HXA : Hid ((w6.alloc (.cells #[.int .u64 (pa : Int), .int .u64 (od : Int), .string ⟨nm'.toArray⟩] 52)).heap[g4]? = some (.cells #[.int .u64 (pa : Int), .int .u64 (od : Int), .string ⟨nm'.toArray⟩] 52 (0, 0))) := (hup.block _ (Array.getElem?_eq_some_iff.1 HX6.out).1).trans HX6.out
    have HSA := Hid.mk' (HS5.out.up hbA)
    have HZA : Hid (W.heap.size ≤ (w6.alloc (.cells #[.int .u64 (pa : Int), .int .u64 (od : Int), .string ⟨nm'.toArray⟩] 52)).heap.size) := by
      have h1 := hbA.size; have h2 := HZ5.out; have h3 := HZ4.out
      show _ ≤ _; omega
    have HBW1 : Hid (w1.heap.size ≤ W.heap.size) := by have := HSW.out; show _ ≤ _; omega
    obtain ⟨x0, x1, x2⟩ := bx3 HX6.out
    clear hup hbA hb6 HNW c0 c1
    go_wp2_with (at_builtin; go_must (refine wpl_app rfl (.tmp 69) (.tmp 71) 49 rfl Tryz.underlying49 Tryz.info52 rfl (by decide) rfl HOA.out rfl row3_one (by intro u hu; simp only [List.mem_cons, List.not_mem_nil, or_false] at hu; rcases hu with rfl | rfl | rfl <;> rfl) (by have := HLA.out; unfold maxLen; omega) (by have := HLA.out; omega) HZA.out ?_); intro v7 w7 ho hg hn2 hbb; have HS7 : Hid (Sh w1.heap.size w1.heap.size (w1.heap.size + 1) [99, 47] w1 w7 l5) := HSA.out.grown HOA.out hg (by decide) (by decide) (by decide) HBW1.out; have HX7 : Hid (w7.heap[g4]? = some (.cells #[.int .u64 (pa : Int), .int .u64 (od : Int), .string ⟨nm'.toArray⟩] 52 (0, 0))) := (hg.block _ (Array.getElem?_eq_some_iff.1 HXA.out).1 (fun e => HOG.out g4 e.symm rfl)).trans HXA.out; have HO7 : Hid (w7.ownsRow W.heap.size 52 3 v7 (k + 1) (ocs (oss l (k + 1)))) := (by rw [HSU.out, ocs_append]; exact ho); obtain ⟨a7, c7, e7⟩ := own_sliceN ho; subst e7; have HZ7 : Hid (W.heap.size ≤ w7.heap.size) := Nat.le_trans HZA.out hg.size; obtain ⟨c0, c1⟩ := HS7.out.cells; have c1 : w7.cell? ⟨w1.heap.size + 1, 1, none⟩ = some (.string ⟨#[99, 47]⟩) := c1; clear ho hg hn2 hbb x0 x1 x2)
    have HOP : Hid (Calls Tryz.prog 18 #[.agg #[.pointer (some ⟨w1.heap.size, 0, none⟩), .string ⟨#[99, 47]⟩], .int .u64 ((k : Int) + 1)] w7 fun e w' => e = .returned (.bool false) ∧ Below w7.heap.size w7 w') := by
      have h := HS7.out.openedS HC5.out (by simp) (m := k + 1) (by have := HLA.out; omega) (opk_new k)
      rw [show ((k + 1 : Nat) : Int) = (k : Int) + 1 by omega] at h
      exact h
    refine HOP.out.mono ?_
    rintro e w8 ⟨rfl, hb8⟩
    have HS8 := Hid.mk' (HS7.out.up hb8)
    have HX8 : Hid (w8.heap[g4]? = some (.cells #[.int .u64 (pa : Int), .int .u64 (od : Int), .string ⟨nm'.toArray⟩] 52 (0, 0))) := (hb8.block _ (Array.getElem?_eq_some_iff.1 HX7.out).1).trans HX7.out
    have HO8 : Hid (w8.ownsRow W.heap.size 52 3 (.slice a7 (k + 1) c7) (k + 1) (ocs (oss l (k + 1)))) := own_keep HO7.out hb8 (Nat.le_refl _)
    have HZ8 : Hid (W.heap.size ≤ w8.heap.size) := Nat.le_trans HZ7.out hb8.size
    clear hb8 HOP c0 c1
    obtain ⟨c0, c1⟩ := HS8.out.cells
    have c1 : w8.cell? ⟨w1.heap.size + 1, 1, none⟩ = some (.string ⟨#[99, 47]⟩) := c1
    rcases Nat.mod_two_eq_zero_or_one (k + 1) with hp | hp
    have hp1 : ((((k : Int) + 1) % 2) == 0) = true := by rw [beq_iff_eq]; omega
    have HON : Hid (Calls Tryz.prog 19 #[.agg #[.pointer (some ⟨w1.heap.size, 0, none⟩), .string ⟨#[99, 47]⟩], .int .u64 ((k : Int) + 1)] w8 (StepP w1.heap.size w1.heap.size (w1.heap.size + 1) [99, 47] w1 w8 (oss l (k + 1)) (opk (k + 1)) (2 * k + 1 + 1) (.int .i64 0))) := by
      have h := HS8.out.openS HC5.out (by simp) HN5.out (by have := HLA.out; omega) (m := k + 1) (by have := HLA.out; omega) (opk_new k) (op' := opk (k + 1)) (opk_even hp)
      rw [show ((k + 1 : Nat) : Int) = (k : Int) + 1 by omega] at h
      exact h
    have HPT : Hid (opk (k + 1) (k + 1) = true) := by show _ = _; unfold opk; exact decide_eq_true ⟨by omega, Nat.le_refl _, hp⟩
    clear hp
    go_wp2_with fail
    refine HON.out.mono ?_
    rintro e w9 ⟨rfl, hb9, hc9, l9, hs9, hl9, hn9⟩
    have HX9 : Hid (w9.heap[g4]? = some (.cells #[.int .u64 (pa : Int), .int .u64 (od : Int), .string ⟨nm'.toArray⟩] 52 (0, 0))) := hc9 _ _ _ _ (by have := HZ4.out.1; have := HSW.out; omega) HX8.out
    have HO9 : Hid (w9.ownsRow W.heap.size 52 3 (.slice a7 (k + 1) c7) (k + 1) (ocs (oss l (k + 1)))) := own_fr HO8.out fun i hi => by
      obtain ⟨h1, cur, fr, h2⟩ := own_typed HO8.out i hi
      rw [h2]
      exact hc9 _ _ _ _ (by have := HSW.out; omega) h2
    have HS9 := Hid.mk' hs9
    have HC9 := Hid.mk' hl9
    have HN9 : Hid (l9.length ≤ 2 * (k + 1)) := hn9
    have HZ9 : Hid (W.heap.size ≤ w9.heap.size) := Nat.le_trans HZ8.out hb9.size
    have HOP : Hid (Calls Tryz.prog 18 #[.agg #[.pointer (some ⟨w1.heap.size, 0, none⟩), .string ⟨#[99, 47]⟩], .int .u64 ((k : Int) + 1)] w9 fun e w' => e = .returned (.bool true) ∧ Below w9.heap.size w9 w') := by
      have h := hs9.openedS hl9 (by simp) (m := k + 1) (by have := HLA.out; omega) HPT.out
      rw [show ((k + 1 : Nat) : Int) = (k : Int) + 1 by omega] at h
      exact h
    clear hb9 hc9 hs9 hl9 hn9 HON c0 c1
    obtain ⟨c0, c1⟩ := HS9.out.cells
    have c1 : w9.cell? ⟨w1.heap.size + 1, 1, none⟩ = some (.string ⟨#[99, 47]⟩) := c1
    go_wp2_with fail
    refine HOP.out.mono ?_
    rintro e wa ⟨rfl, hba⟩
    have HSa := Hid.mk' (HS9.out.up hba)
    have HXa : Hid (wa.heap[g4]? = some (.cells #[.int .u64 (pa : Int), .int .u64 (od : Int), .string ⟨nm'.toArray⟩] 52 (0, 0))) := (hba.block _ (Array.getElem?_eq_some_iff.1 HX9.out).1).trans HX9.out
    have HOa : Hid (wa.ownsRow W.heap.size 52 3 (.slice a7 (k + 1) c7) (k + 1) (ocs (oss l (k + 1)))) := own_keep HO9.out hba (Nat.le_refl _)
    have HZa : Hid (W.heap.size ≤ wa.heap.size) := Nat.le_trans HZ9.out hba.size
    clear hba HOP c0 c1
    obtain ⟨c0, c1⟩ := HSa.out.cells
    have c1 : wa.cell? ⟨w1.heap.size + 1, 1, none⟩ = some (.string ⟨#[99, 47]⟩) := c1
    have HFIN : Hid (∃ lz, Sh w1.heap.size w1.heap.size (w1.heap.size + 1) [99, 47] w1 wa lz ∧ Clm lz [99, 47] (oss l (k + 1)) (opk (k + 1)) ∧ lz.length ≤ 2 * (k + 1)) := ⟨_, HSa.out, HC9.out, HN9.out⟩
    rotate_left
    have hp1 : ((((k : Int) + 1) % 2) == 0) = false := by rw [beq_eq_false_iff_ne]; omega
    have HC9 : Hid (Clm l5 [99, 47] (oss l (k + 1)) (opk (k + 1))) := by rw [opk_odd hp]; exact HC5.out
    have HN9 : Hid (l5.length ≤ 2 * (k + 1)) := by have := HN5.out; show _ ≤ _; omega
    have HOP : Hid (Calls Tryz.prog 18 #[.agg #[.pointer (some ⟨w1.heap.size, 0, none⟩), .string ⟨#[99, 47]⟩], .int .u64 ((k : Int) + 1)] w8 fun e w' => e = .returned (.bool false) ∧ Below w8.heap.size w8 w') := by
      have h := HS8.out.openedS HC5.out (by simp) (m := k + 1) (by have := HLA.out; omega) (opk_new k)
      rw [show ((k + 1 : Nat) : Int) = (k : Int) + 1 by omega] at h
      exact h
    clear hp
    go_wp2_with fail
    refine HOP.out.mono ?_
    rintro e wa ⟨rfl, hba⟩
    have HSa := Hid.mk' (HS8.out.up hba)
    have HXa : Hid (wa.heap[g4]? = some (.cells #[.int .u64 (pa : Int), .int .u64 (od : Int), .string ⟨nm'.toArray⟩] 52 (0, 0))) := (hba.block _ (Array.getElem?_eq_some_iff.1 HX8.out).1).trans HX8.out
    have HOa : Hid (wa.ownsRow W.heap.size 52 3 (.slice a7 (k + 1) c7) (k + 1) (ocs (oss l (k + 1)))) := own_keep HO8.out hba (Nat.le_refl _)
    have HZa : Hid (W.heap.size ≤ wa.heap.size) := Nat.le_trans HZ8.out hba.size
    clear hba HOP c0 c1
    obtain ⟨c0, c1⟩ := HSa.out.cells
    have c1 : wa.cell? ⟨w1.heap.size + 1, 1, none⟩ = some (.string ⟨#[99, 47]⟩) := c1
    have HFIN : Hid (∃ lz, Sh w1.heap.size w1.heap.size (w1.heap.size + 1) [99, 47] w1 wa lz ∧ Clm lz [99, 47] (oss l (k + 1)) (opk (k + 1)) ∧ lz.length ≤ 2 * (k + 1)) := ⟨_, HSa.out, HC9.out, HN9.out⟩
    rotate_left
    all_goals
      obtain ⟨lz, hsz, hcz, hnz⟩ := HFIN.out
      have HCZ := Hid.mk' hcz
      have HNZ : Hid (lz.length ≤ 2 * (k + 1)) := hnz
      have HOR : Hid (orig (oss l (k + 1)) (k + 1) = some (pa, od, nm')) := by show _ = _; rw [HSU.out, orig_snoc, if_pos (by rw [HKL.out])]
      have HKB : Hid (k + 1 < 18446744073709551616) := by have := HLA.out; show _ < _; omega
      have HWH : Hid (Calls Tryz.prog 20 #[.agg #[.pointer (some ⟨w1.heap.size, 0, none⟩), .string ⟨#[99, 47]⟩], .int .u64 ((k : Int) + 1)] wa fun e w' => e = .returned (.tuple #[.agg #[.int .u64 (pa : Int), .int .u64 (od : Int), .string ⟨nm'.toArray⟩], .bool true]) ∧ Below wa.heap.size wa w') := by
        have h := hsz.whereS hcz (by simp) HKB.out HOR.out
        rw [show ((k + 1 : Nat) : Int) = (k : Int) + 1 by omega] at h
        exact h
      have HSZ := Hid.mk' hsz
      clear hsz hcz hnz
      go_wp2_with fail
      refine HWH.out.mono ?_
      rintro e wb ⟨rfl, hbb⟩
      have hup := up_alloc wb (.cells #[.int .u64 (pa : Int), .int .u64 (od : Int), .string ⟨nm'.toArray⟩] 55)
      obtain ⟨y0, y1, y2⟩ := box3 (w := wb) (x := .int .u64 (pa : Int)) (y := .int .u64 (od : Int)) (z := .string ⟨nm'.toArray⟩) (e := 55)
      have hbc := bt hbb hup
      have HXC : Hid ((wb.alloc (.cells #[.int .u64 (pa : Int), .int .u64 (od : Int), .string ⟨nm'.toArray⟩] 55)).heap[g4]? = some (.cells #[.int .u64 (pa : Int), .int .u64 (od : Int), .string ⟨nm'.toArray⟩] 52 (0, 0))) := (hbc.block _ (Array.getElem?_eq_some_iff.1 HXa.out).1).trans HXa.out
      have HSC := Hid.mk' (HSZ.out.up hbc)
      have HOC := Hid.mk' (own_keep HOa.out hbc (Nat.le_refl _))
      have HZC : Hid (W.heap.size ≤ (wb.alloc (.cells #[.int .u64 (pa : Int), .int .u64 (od : Int), .string ⟨nm'.toArray⟩] 55)).heap.size) := Nat.le_trans HZa.out hbc.size
      obtain ⟨WC, hWC⟩ : ∃ WC, WC = wb.alloc (.cells #[.int .u64 (pa : Int), .int .u64 (od : Int), .string ⟨nm'.toArray⟩] 55) := ⟨_, rfl⟩
      rw [← hWC] at y0 y1 y2 HXC HSC HOC HZC
      go_upto_region 21 with fail
      rw [← hWC]
      clear hWC hup hbc hbb HWH c0 c1
      generalize wb.heap.size = gx at *
      obtain ⟨x0, x1, x2⟩ := bx3 HXC.out
      obtain ⟨c0, c1⟩ := HSC.out.cells
      have c1 : WC.cell? ⟨w1.heap.size + 1, 1, none⟩ = some (.string ⟨#[99, 47]⟩) := c1
      have HPH : Hid (Calls Tryz.prog 21 #[.agg #[.pointer (some ⟨w1.heap.size, 0, none⟩), .string ⟨#[99, 47]⟩], .int .u64 ((k : Int) + 1)] WC fun e w' => ∃ v, e = .returned v ∧ Un WC.heap.size w' v (pth (oss l (k + 1)) (k + 1)) ∧ Below WC.heap.size WC w') := by
        have h := HSC.out.pathS HCZ.out (by simp) HKB.out
        rw [show ((k + 1 : Nat) : Int) = (k : Int) + 1 by omega] at h
        exact h
      have HLK : Hid ((oss l (k + 1)).length = k + 1) := oss_len (by omega)
      go_wp2_with fail
      refine HPH.out.mono ?_
      rintro e wd ⟨vd, rfl, hod, hbd⟩
      have HOD := Hid.mk' hod
      have HSD := Hid.mk' (HSC.out.up hbd)
      have HOW := Hid.mk' (own_keep HOC.out hbd (Nat.le_refl _))
      have HZD : Hid (W.heap.size ≤ wd.heap.size) := Nat.le_trans HZC.out hbd.size
      have HOG2 : Hid (OgR (Lt wd.heap.size) wd (.slice a7 (k + 1) c7) (oss l (k + 1))) := by
        have h := own_og (B := W.heap.size) (w := wd) (v := .slice a7 (k + 1) c7) (os := oss l (k + 1)) (by rw [HLK.out]; exact HOW.out) HCZ.out.bnd HCZ.out.few
        exact h
      obtain ⟨ad, cd, ed⟩ := own_slice hod
      subst ed
      have HRP : Hid (Calls Tryz.prog 22 #[.slice a7 (k + 1) c7, .int .u64 ((k : Int) + 1)] wd fun e w' => ∃ u, e = .returned u ∧ Un wd.heap.size w' u (pth (oss l (k + 1)) (k + 1)) ∧ Below wd.heap.size wd w') := by
        have h := rpath_any (k + 1) HOG2.out HCZ.out.few HKB.out
        rw [show ((k + 1 : Nat) : Int) = (k : Int) + 1 by omega] at h
        exact h
      clear hod hbd HPH c0 c1 x0 x1 x2 y0 y1 y2
      go_wp2_with fail
      refine HRP.out.mono ?_
      rintro e we ⟨ve, rfl, hoe, hbe⟩
      have HSE := Hid.mk' (HSD.out.up hbe)
      have HOE := Hid.mk' (own_keep HOW.out hbe (Nat.le_refl _))
      have HZE : Hid (W.heap.size ≤ we.heap.size) := Nat.le_trans HZD.out hbe.size
      have HSM := Hid.mk' (sameP HOD.out hbe hoe HCZ.out.few HKB.out fun o ho => (HCZ.out.bnd o ho).1)
      obtain ⟨ae, ce, ee⟩ := own_slice hoe
      subst ee
      clear hoe hbe HRP
      go_wp2_with fail
      refine HSM.out.mono ?_
      rintro e wf ⟨rfl, hdf⟩
      have HSF := Hid.mk' (HSE.out.up (hdf.below we.heap.size))
      have HOF : Hid (wf.ownsRow W.heap.size 52 3 (.slice a7 (k + 1) c7) (k + 1) (ocs (oss l (k + 1)))) := own_keep HOE.out (hdf.below we.heap.size) (Nat.le_refl _)
      have HZF : Hid (W.heap.size ≤ wf.heap.size) := Nat.le_trans HZE.out (hdf.below we.heap.size).size
      clear hdf HSM
      go_wp2_with fail
      go_roundw
      case rel => exact ⟨k + 1, a7, c7, lz, by omega, by go_num, rfl, HOF, HSF, HCZ, HNZ, HZF⟩
      case measure => simp [intOf]; omega
end Go.Proofs.YtojgkjpmphfakaaGreatDoor
