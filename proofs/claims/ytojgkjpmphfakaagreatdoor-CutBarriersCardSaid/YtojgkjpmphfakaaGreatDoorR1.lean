/- Walks: the reference's Match. -/
import Derived.Test.YtojgkjpmphfakaaGreatDoorL8
import Derived.Test.YtojgkjpmphfakaaGreatDoorMT
import Derived.BigRegion
set_option linter.unusedVariables false
set_option linter.unusedSimpArgs false
namespace Go.Proofs.YtojgkjpmphfakaaGreatDoor
open Go.RowKit
open PL
def bl (l : List Bool) : List Value := l.map Value.bool
/-- block g holds the row l -/
def Bw (g : Nat) (w : World) (l : List Bool) : Prop := w.heap[g]? = some (.cells (bl l).toArray 4 (0, 0))
theorem Bw.cell {g : Nat} {w : World} {l : List Bool} (h : Bw g w l) (j : Nat) (hj : j < l.length) : w.cell? ⟨g, j, none⟩ = some (.bool l[j]) := by
  unfold Bw at h
  simp [World.cell?, h, bl, hj]
theorem Bw.frozen {g : Nat} {w : World} {l : List Bool} (h : Bw g w l) (j : Nat) : w.frozen? ⟨g, j, none⟩ = false := by
  unfold Bw at h
  simp [World.frozen?, h]
theorem Bw.set {g : Nat} {w : World} {l : List Bool} (h : Bw g w l) (j : Nat) (v : Bool) : Bw g (w.setCell ⟨g, j, none⟩ (.bool v)) (l.set j v) := by
  unfold Bw at h ⊢
  simp [World.setCell, Array.getElem?_modify, h, bl, List.map_set]
theorem Bw.keep {g B : Nat} {w w' : World} {l : List Bool} (h : Bw g w l) (hb : Below B w w') (hB : g < B) : Bw g w' l := by
  unfold Bw; rw [hb.block g hB]; exact h
theorem Bw.lt {g : Nat} {w : World} {l : List Bool} (h : Bw g w l) : g < w.heap.size := (Array.getElem?_eq_some_iff.1 h).1
theorem Bw.keepS {g b o : Nat} {w : World} {l : List Bool} {u : Value} (h : Bw g w l) (hne : g ≠ b) : Bw g (w.setCell ⟨b, o, none⟩ u) l := by
  unfold Bw; rw [Below.heap_setCell _ _ _ _ hne]; exact h
theorem Tryz.info4 : (Tryz.prog.info? 4).map (fun i => (i.zero, i.size, i.bytes)) = some (some (.bool false), 1, 1) := by kernel_rfl
theorem run_mkb (n : Nat) (hn : n ≤ lim) (w : World) : (Instr.makeSlice 95 (.int .i64 (n : Int)) (.int .i64 (n : Int))).run Tryz.prog w = .ok (.slice (some ⟨w.heap.size, 0, none⟩) n n) (w.alloc (.cells (madeCells #[.bool false] n) 4)) := by
  obtain ⟨i0, hi, hz0, hz1, hz2⟩ := info_parts Tryz.info4
  unfold lim at hn
  have hr := run_make (P := Tryz.prog) w 95 4 i0 (.bool false) Tryz.underlying95 hi hz0 .i64 .i64 n n (by omega) (Int.le_refl _) (by rw [hz2]; omega) (by omega)
  simpa [hz1, Value.cells] using hr
theorem run_mkb1 (n : Nat) (hn : n + 1 ≤ lim) (w : World) : (Instr.makeSlice 95 (.int .i64 ((n : Int) + 1)) (.int .i64 ((n : Int) + 1))).run Tryz.prog w = .ok (.slice (some ⟨w.heap.size, 0, none⟩) (n + 1) (n + 1)) (w.alloc (.cells (madeCells #[.bool false] (n + 1)) 4)) := run_mkb (n + 1) hn w
theorem bw_new (n : Nat) (w : World) : Bw w.heap.size (w.alloc (.cells (madeCells #[.bool false] n) 4)) (List.replicate n false) := by
  unfold Bw
  have h : (madeCells #[.bool false] n) = (bl (List.replicate n false)).toArray := by
    apply Array.toList_inj.1
    rw [toList_madeCells_one]; simp [bl]
  rw [h]; exact heap_alloc_new w _
theorem bw_new1 (n : Nat) (w : World) : Bw w.heap.size (w.alloc (.cells ((madeCells #[.bool false] n).setIfInBounds 0 (.bool true)) 4)) ((List.replicate n false).set 0 true) := by
  unfold Bw
  have h : (madeCells #[.bool false] n) = (bl (List.replicate n false)).toArray := by
    apply Array.toList_inj.1
    rw [toList_madeCells_one]; simp [bl]
  have h2 : (madeCells #[.bool false] n).setIfInBounds 0 (.bool true) = (bl ((List.replicate n false).set 0 true)).toArray := by
    rw [h]; apply Array.toList_inj.1; rw [Array.toList_setIfInBounds]; simp [bl, List.map_set]
  rw [h2]; exact heap_alloc_new w _
/-- the row's cells up to k are F's -/
def RI (F : Nat → Bool) (n : Nat) (l : List Bool) (k : Nat) : Prop := l.length = n ∧ ∀ m (h : m < l.length), m ≤ k → l[m] = F m
theorem RI_set {F : Nat → Bool} {n : Nat} {l : List Bool} {k : Nat} {v : Bool} (h : RI F n l k) (hv : v = F (k + 1)) : RI F n (l.set (k + 1) v) (k + 1) := by
  refine ⟨by rw [List.length_set]; exact h.1, fun m hm hk => ?_⟩
  rw [List.getElem_set]
  split
  · rename_i e; subst e; exact hv
  · rw [List.length_set] at hm; exact h.2 m hm (by omega)
def F0 (p : List UInt8) (j : Nat) : Bool := PL.mt [] (p.take j)
def FI (s p : List UInt8) (i j : Nat) : Bool := PL.mt (s.take i) (p.take j)
theorem F0_step (p : List UInt8) (k : Nat) (hk : k < p.length) : F0 p (k + 1) = (F0 p k && p[k] == 42) := by
  unfold F0; rw [List.take_succ_eq_append_getElem hk, mt_nil_snoc]
theorem FI_star (s p : List UInt8) (i k : Nat) (hi : i < s.length) (hk : k < p.length) (h : p[k] = 42) : FI s p (i + 1) (k + 1) = (FI s p (i + 1) k || FI s p i (k + 1)) := by
  unfold FI; rw [List.take_succ_eq_append_getElem hk, List.take_succ_eq_append_getElem hi, h, mt_snoc_star]
theorem FI_one (s p : List UInt8) (i k : Nat) (hi : i < s.length) (hk : k < p.length) (h : p[k] ≠ 42) : FI s p (i + 1) (k + 1) = ((p[k] == 63 || p[k] == s[i]) && FI s p i k) := by
  unfold FI; rw [List.take_succ_eq_append_getElem hk, List.take_succ_eq_append_getElem hi, mt_snoc_one _ _ _ _ h]
theorem FI_zero (s p : List UInt8) (i : Nat) (hi : i < s.length) : FI s p (i + 1) 0 = false := by
  unfold FI; rw [List.take_succ_eq_append_getElem hi, List.take_zero, mt_snoc_nil]
set_option maxRecDepth 100000 in
set_option maxHeartbeats 4000000 in
/-- groyneref02.Match -/
theorem rmatch_any (s p : List UInt8) (hs : s.length ≤ 1000) (hp : p.length ≤ 1000) (w : World) : Calls Tryz.prog 36 #[.string ⟨s.toArray⟩, .string ⟨p.toArray⟩] w fun e w' => e = .returned (.bool (PL.mt s p)) ∧ Below w.heap.size w w' := by
  have hs' : (s.length : Int) ≤ 1000 := by omega
  have hp' : (p.length : Int) ≤ 1000 := by omega
  have hmk := run_mkb1 p.length (by unfold lim; omega)
  have H0 := Hid.mk' (bw_new (p.length + 1) w)
  have HB0 := Hid.mk' (up_alloc w (.cells (madeCells #[.bool false] (p.length + 1)) 4))
  have z1 : (w.alloc (.cells (madeCells #[.bool false] (p.length + 1)) 4)).cell? ⟨w.heap.size, 0, none⟩ = some (.bool false) := by rw [H0.out.cell 0 (by simp)]; simp
  have z2 := H0.out.frozen 0
  go_enter Tryz.func36, Tryz.ntmps36
  go_wp2_with fail
  go_loopw [6] (fun u6 wr => ∃ (k : Nat) (l : List Bool), k ≤ p.length ∧ u6 = .int .i64 ((k : Int) + 1) ∧ Hid (Below w.heap.size w wr) ∧ Hid (Bw w.heap.size wr l) ∧ Hid (RI (F0 p) (p.length + 1) l k)) (fun u6 _ => p.length + 1 - (intOf u6).toNat)
  case atStart =>
    refine ⟨0, (List.replicate (p.length + 1) false).set 0 true, by omega, rfl, Hid.mk' (up_alloc _ _), Hid.mk' (bw_new1 _ w), Hid.mk' ⟨by simp, fun m h hm => ?_⟩⟩
    obtain rfl : m = 0 := by omega
    simp [F0, PL.mt]
  case round =>
    obtain ⟨k, l, hk, rfl, HB, HW, HR⟩ := hrel
    clear H0 HB0 z1 z2
    by_cases hlt : k < p.length
    · have hlt' : (k : Int) + 1 ≤ (p.length : Int) := by omega
      have hlt2 : (k : Int) < (p.length : Int) := by omega
      have hl := HR.out.1
      have c1 := HW.out.cell k (by omega)
      obtain ⟨x2, c2⟩ : ∃ x, wr.cell? ⟨w.heap.size, k + 1, none⟩ = some x := ⟨_, HW.out.cell (k + 1) (by omega)⟩
      have c3 := HW.out.frozen (k + 1)
      have hF := F0_step p k hlt
      have hb := HR.out.2 k (by omega) (Nat.le_refl _)
      rw [hb] at c1
      rw [← hb] at hF
      have ht : ((k : Int) + 1).toNat = k + 1 := by omega
      have hz : (0 : Int) ≤ (k : Int) + 1 := by omega
      rw [hb] at hF
      clear hb hl
      cases hv : F0 p k
      · have HN := Hid.mk' (HW.out.set (k + 1) false)
        have HR2 := Hid.mk' (RI_set (v := false) HR.out (by rw [hF, hv]; rfl))
        rw [hv] at c1
        clear hv hF
        go_wp2_with fail
        go_roundw
        case rel => exact ⟨k + 1, _, by omega, by go_num, Hid.mk' (HB.out.setCell (Nat.le_refl _) _), HN, HR2⟩
        case measure => simp [intOf]; omega
      · by_cases h42 : p[k] = 42
        · have HN := Hid.mk' (HW.out.set (k + 1) true)
          have HR2 := Hid.mk' (RI_set (v := true) HR.out (by rw [hF, hv, h42]; rfl))
          have e42 : ∀ h, ((⟨p.toArray⟩ : ByteArray)[k]'h).toNat = 42 := fun _ => by show p[k].toNat = 42; rw [h42]; rfl
          rw [hv] at c1
          clear hv hF h42
          go_wp2_with fail
          go_roundw
          case rel => exact ⟨k + 1, _, by omega, by go_num, Hid.mk' (HB.out.setCell (Nat.le_refl _) _), HN, HR2⟩
          case measure => simp [intOf]; omega
        · have HN := Hid.mk' (HW.out.set (k + 1) false)
          have HR2 := Hid.mk' (RI_set (v := false) HR.out (by rw [hF, hv]; simpa using h42))
          have e42 : ((((⟨p.toArray⟩ : ByteArray)[k]'hlt).toNat : Int) == 42) = false := by
            rw [beq_eq_false_iff_ne]; intro e; apply h42; apply UInt8.toNat_inj.1; show p[k].toNat = 42; exact Int.ofNat.inj e
          rw [hv] at c1
          clear hv hF h42
          go_wp2_with fail
          go_roundw
          case rel => exact ⟨k + 1, _, by omega, by go_num, Hid.mk' (HB.out.setCell (Nat.le_refl _) _), HN, HR2⟩
          case measure => simp [intOf]; omega
    · have hlt' : (p.length : Int) < (k : Int) + 1 := by omega
      have hke : k = p.length := by omega
      rw [hke] at HR
      clear hke
      go_wp2_with fail
      go_loopw [5, 7] (fun u5 u7 wv => ∃ (i g : Nat) (l : List Bool), i ≤ s.length ∧ u5 = .slice (some ⟨g, 0, none⟩) (p.length + 1) (p.length + 1) ∧ u7 = .int .i64 i ∧ w.heap.size ≤ g ∧ Hid (Below w.heap.size w wv) ∧ Hid (Bw g wv l) ∧ Hid (RI (FI s p i) (p.length + 1) l p.length)) (fun u5 u7 _ => s.length - (intOf u7).toNat)
      case atStart => exact ⟨0, _, l, by omega, rfl, rfl, Nat.le_refl _, HB, HW, HR⟩
      case round =>
        rename World => wv
        obtain ⟨i, g, l', hi, rfl, rfl, hg, HB1, HW1, HR1⟩ := hrel
        clear HB HW HR hlt'
        by_cases hit : i < s.length
        · have hit' : (i : Int) < (s.length : Int) := by omega
          have H2 := Hid.mk' (bw_new (p.length + 1) wv)
          have hb2 := Hid.mk' <| up_alloc wv (.cells (madeCells #[.bool false] (p.length + 1)) 4)
          have HG2 := Hid.mk' (HW1.out.keep hb2.out HW1.out.lt)
          have HB2 := Hid.mk' (bt HB1.out hb2.out)
          have HLE := Hid.mk' HB1.out.size
          have HGL := Hid.mk' HW1.out.lt
          go_wp2_with fail
          go_loopw [9] (fun u9 wq => ∃ (k : Nat) (l : List Bool), k ≤ p.length ∧ u9 = .int .i64 ((k : Int) + 1) ∧ Hid (Below w.heap.size w wq) ∧ Hid (Bw g wq l') ∧ Hid (Bw wv.heap.size wq l) ∧ Hid (RI (FI s p (i + 1)) (p.length + 1) l k)) (fun u9 _ => p.length + 1 - (intOf u9).toNat)
          case atStart =>
            refine ⟨0, List.replicate (p.length + 1) false, by omega, rfl, HB2, HG2, H2, Hid.mk' ⟨by simp, fun m h hm => ?_⟩⟩
            obtain rfl : m = 0 := by omega
            rw [FI_zero s p i hit]; simp
          case round =>
            rename World => wq
            obtain ⟨k, l, hk, rfl, HB3, HG3, HW3, HR3⟩ := hrel
            clear H2 HG2 HB2
            by_cases hlt : k < p.length
            · have hlt' : (k : Int) + 1 ≤ (p.length : Int) := by omega
              have hlt2 : (k : Int) < (p.length : Int) := by omega
              have hl := HR3.out.1
              have hl1 := HR1.out.1
              have c1 := HW3.out.cell k (by omega)
              obtain ⟨x2, c2⟩ : ∃ x, wq.cell? ⟨wv.heap.size, k + 1, none⟩ = some x := ⟨_, HW3.out.cell (k + 1) (by omega)⟩
              have c3 := HW3.out.frozen (k + 1)
              have d1 := HG3.out.cell k (by omega)
              have d2 := HG3.out.cell (k + 1) (by omega)
              rw [HR3.out.2 k (by omega) (Nat.le_refl _)] at c1
              rw [HR1.out.2 k (by omega) (by omega)] at d1
              rw [HR1.out.2 (k + 1) (by omega) (by omega)] at d2
              have ht : ((k : Int) + 1).toNat = k + 1 := by omega
              have hz : (0 : Int) ≤ (k : Int) + 1 := by omega
              have hk1 : (k : Int) < (p.length : Int) + 1 := by omega
              have hk2 : (k : Int) + 1 < (p.length : Int) + 1 := by omega
              have hk3 : (0 : Int) ≤ (k : Int) := by omega
              have hk4 : IntKind.i64.wrap ((k : Int) + 1 - 1) = (k : Int) := by rw [IntKind.wrap_i64]; omega
              have hk5 : IntKind.i64.wrap (k : Int) = (k : Int) := by rw [IntKind.wrap_i64]; omega
              have HGN := Hid.mk' (show wv.heap.size ≠ g from by have := HGL.out; omega)
              clear hl hl1
              by_cases h42 : p[k] = 42
              · have hF := FI_star s p i k hit hlt h42
                have e42 : ∀ h, ((⟨p.toArray⟩ : ByteArray)[k]'h).toNat = 42 := fun _ => by show p[k].toNat = 42; rw [h42]; rfl
                clear h42 d1
                cases hv : FI s p (i + 1) k
                · cases hv2 : FI s p i (k + 1)
                  · have HN := Hid.mk' (HW3.out.set (k + 1) false)
                    have HR2 := Hid.mk' (RI_set (v := false) HR3.out (by rw [hF, hv, hv2]; rfl))
                    rw [hv] at c1
                    rw [hv2] at d2
                    clear hv hv2 hF
                    go_wp2_with fail
                    go_roundw
                    case rel => exact ⟨k + 1, _, by omega, by go_num, Hid.mk' (HB3.out.setCell HLE.out _), Hid.mk' (HG3.out.keepS (Nat.ne_of_lt HGL.out)), HN, HR2⟩
                    case measure => simp [intOf]; omega
                  · have HN := Hid.mk' (HW3.out.set (k + 1) true)
                    have HR2 := Hid.mk' (RI_set (v := true) HR3.out (by rw [hF, hv, hv2]; rfl))
                    rw [hv] at c1
                    rw [hv2] at d2
                    clear hv hv2 hF
                    go_wp2_with fail
                    go_roundw
                    case rel => exact ⟨k + 1, _, by omega, by go_num, Hid.mk' (HB3.out.setCell HLE.out _), Hid.mk' (HG3.out.keepS (Nat.ne_of_lt HGL.out)), HN, HR2⟩
                    case measure => simp [intOf]; omega
                · have HN := Hid.mk' (HW3.out.set (k + 1) true)
                  have HR2 := Hid.mk' (RI_set (v := true) HR3.out (by rw [hF, hv]; rfl))
                  rw [hv] at c1
                  clear hv hF d2
                  go_wp2_with fail
                  go_roundw
                  case rel => exact ⟨k + 1, _, by omega, by go_num, Hid.mk' (HB3.out.setCell HLE.out _), Hid.mk' (HG3.out.keepS (Nat.ne_of_lt HGL.out)), HN, HR2⟩
                  case measure => simp [intOf]; omega
              · have hF := FI_one s p i k hit hlt h42
                have e42 : ((((⟨p.toArray⟩ : ByteArray)[k]'hlt).toNat : Int) == 42) = false := by
                  rw [beq_eq_false_iff_ne]; intro e; apply h42; apply UInt8.toNat_inj.1; show p[k].toNat = 42; exact Int.ofNat.inj e
                clear h42 d2 c1
                cases hv : FI s p i k
                · have hval : FI s p (i + 1) (k + 1) = false := by rw [hF, hv]; simp
                  have HN := Hid.mk' (HW3.out.set (k + 1) false)
                  have HR2 := Hid.mk' (RI_set (v := false) HR3.out hval.symm)
                  rw [hv] at d1
                  clear hv hF hval
                  go_wp2_with fail
                  go_big_region
                  go_wp2_with fail
                  go_roundw
                  case rel => exact ⟨k + 1, _, by omega, by go_num, Hid.mk' ((HB3.out.setCell HLE.out _).trans ((Dn.refl _).drew.below _)), Hid.mk' (show Bw g (World.setCell _ _ _) _ from HG3.out.keepS (Nat.ne_of_lt HGL.out)), HN, HR2⟩
                  case measure => simp [intOf]; omega
                · by_cases h63 : p[k] = 63
                  · have hval : FI s p (i + 1) (k + 1) = true := by rw [hF, hv, h63]; simp
                    have e63 : ((((⟨p.toArray⟩ : ByteArray)[k]'hlt).toNat : Int) == 63) = true := by
                      rw [beq_iff_eq]; show (p[k].toNat : Int) = 63; rw [h63]; rfl
                    clear h63
                    have HN := Hid.mk' (HW3.out.set (k + 1) true)
                    have HR2 := Hid.mk' (RI_set (v := true) HR3.out hval.symm)
                    rw [hv] at d1
                    clear hv hF hval
                    go_wp2_with fail
                    go_big_region
                    go_wp2_with fail
                    go_roundw
                    case rel => exact ⟨k + 1, _, by omega, by go_num, Hid.mk' ((HB3.out.setCell HLE.out _).trans ((Dn.refl _).drew.below _)), Hid.mk' (show Bw g (World.setCell _ _ _) _ from HG3.out.keepS (Nat.ne_of_lt HGL.out)), HN, HR2⟩
                    case measure => simp [intOf]; omega
                  · have e63 : ((((⟨p.toArray⟩ : ByteArray)[k]'hlt).toNat : Int) == 63) = false := by
                      rw [beq_eq_false_iff_ne]; intro e; apply h63; apply UInt8.toNat_inj.1; show p[k].toNat = 63; exact Int.ofNat.inj e
                    by_cases hc : p[k] = s[i]
                    · have hval : FI s p (i + 1) (k + 1) = true := by rw [hF, hv, hc]; simp
                      have ec : ((((⟨p.toArray⟩ : ByteArray)[k]'hlt).toNat : Int) == (((⟨s.toArray⟩ : ByteArray)[i]'hit).toNat : Int)) = true := by
                        rw [beq_iff_eq]; show (p[k].toNat : Int) = s[i].toNat; rw [hc]
                      clear h63 hc
                      have HN := Hid.mk' (HW3.out.set (k + 1) true)
                      have HR2 := Hid.mk' (RI_set (v := true) HR3.out hval.symm)
                      rw [hv] at d1
                      clear hv hF hval
                      go_wp2_with fail
                      go_big_region
                      go_wp2_with fail
                      go_roundw
                      case rel => exact ⟨k + 1, _, by omega, by go_num, Hid.mk' ((HB3.out.setCell HLE.out _).trans ((Dn.refl _).drew.below _)), Hid.mk' (show Bw g (World.setCell _ _ _) _ from HG3.out.keepS (Nat.ne_of_lt HGL.out)), HN, HR2⟩
                      case measure => simp [intOf]; omega
                    · have hval : FI s p (i + 1) (k + 1) = false := by rw [hF, hv]; simp [h63, hc]
                      have ec : ((((⟨p.toArray⟩ : ByteArray)[k]'hlt).toNat : Int) == (((⟨s.toArray⟩ : ByteArray)[i]'hit).toNat : Int)) = false := by
                        rw [beq_eq_false_iff_ne]; intro e; apply hc; apply UInt8.toNat_inj.1; exact Int.ofNat.inj e
                      clear h63 hc
                      have HN := Hid.mk' (HW3.out.set (k + 1) false)
                      have HR2 := Hid.mk' (RI_set (v := false) HR3.out hval.symm)
                      rw [hv] at d1
                      clear hv hF hval
                      go_wp2_with fail
                      go_big_region
                      go_wp2_with fail
                      go_roundw
                      case rel => exact ⟨k + 1, _, by omega, by go_num, Hid.mk' ((HB3.out.setCell HLE.out _).trans ((Dn.refl _).drew.below _)), Hid.mk' (show Bw g (World.setCell _ _ _) _ from HG3.out.keepS (Nat.ne_of_lt HGL.out)), HN, HR2⟩
                      case measure => simp [intOf]; omega
            · have hlt' : (p.length : Int) < (k : Int) + 1 := by omega
              have hke : k = p.length := by omega
              rw [hke] at HR3
              clear hke
              go_wp2_with fail
              go_roundw
              case rel => exact ⟨i + 1, wv.heap.size, l, by omega, rfl, by go_num, HLE.out, HB3, HW3, HR3⟩
              case measure => simp [intOf]; omega
        · have hit' : (s.length : Int) ≤ (i : Int) := by omega
          have hie : i = s.length := by omega
          have hl := HR1.out.1
          have hv : FI s p i p.length = PL.mt s p := by unfold FI; rw [hie, List.take_length, List.take_length]
          have d1 := HW1.out.cell p.length (by omega)
          rw [HR1.out.2 p.length (by omega) (Nat.le_refl _), hv] at d1
          have hpl : (p.length : Int) < (p.length : Int) + 1 := by omega
          clear hie hl hv
          go_wp2_with fail
          go_ret
          exact ⟨rfl, HB1.out⟩
end Go.Proofs.YtojgkjpmphfakaaGreatDoor
