/- The law LockCalls. -/
import Derived.Test.YteejlmeinndlhaaNK
import Derived.Test.YteejlmeinndlhaaKT
set_option linter.unusedVariables false
set_option linter.unusedSimpArgs false
namespace Go.Proofs.Yteejlmeinndlhaa
open Go.RowKit Go.Maps
attribute [local go_sem ↓] Go.wp_at_zero Go.wp_at_succ
theorem rivT_len (T : Tb) (x : Tx) (l : List Rg) : (rivT T x l).length ≤ T.length := by
  unfold rivT Stay
  exact Nat.le_trans (List.length_filter_le _ _) (Nat.le_of_eq (List.length_map ..))
theorem ask_err (T : Tb) (x : Tx) (l : List Rg) : (0 < (rrT T x l).length ∧ rck l = 0 ∧ (raskT T x l).1 = 11) ∨ (0 < (rrT T x l).length ∧ rck l ≠ 0 ∧ (raskT T x l).1 ≠ 11) ∨ (¬ 0 < (rrT T x l).length ∧ (raskT T x l).1 ≠ 11) := by
  have h11 : rck l ≠ 11 := by
    rw [← worst_rck]
    unfold worstB
    split
    · decide
    · have : ∀ (m : List Rg) (o : Int), (o = 0 ∨ o = 2 ∨ o = 3) → wst o m ≠ 11 := by
        intro m
        induction m with
        | nil => intro o ho; show o ≠ 11; rcases ho with rfl | rfl | rfl <;> decide
        | cons r m ih =>
          intro o ho
          have hc : ckR r = 0 ∨ ckR r = 2 ∨ ckR r = 3 := by
            rw [ckR_val]
            split
            · exact .inr (.inl rfl)
            · split
              · exact .inr (.inr rfl)
              · exact .inl rfl
          rw [wst_cons]
          apply ih
          split
          · exact hc
          · exact ho
      exact this l 0 (.inl rfl)
  unfold raskT
  by_cases h1 : rck l = 0
  · rw [if_neg (by simpa using h1)]
    by_cases h2 : 0 < (rrT T x l).length
    · rw [if_pos h2]; exact .inl ⟨h2, h1, rfl⟩
    · rw [if_neg h2]; exact .inr (.inr ⟨h2, by simp⟩)
  · rw [if_pos h1]
    by_cases h2 : 0 < (rrT T x l).length
    · exact .inr (.inl ⟨h2, h1, h11⟩)
    · exact .inr (.inr ⟨h2, h11⟩)
theorem exec_ne30_self' {w : World} {o : Oper} {a : Act} {p q : Operand} {x : Tx} (ho : o.op = .binOp .neq 30 p q 30) (hp : a.eval p = tv x) (hq : a.eval q = tv x) : (execOp a.eval o).run Try.prog w = .ok (.value (.bool false)) w := by
  rw [exec_ne30 ho hp hq]; simp
theorem rel_two {T : Tb} (h : Tsrt T) (x y : Tx) : relT T [x, y] = delL (delL T x) y := by
  rw [delL_eq h, delL_eq (h.del x)]; rfl
set_option maxRecDepth 100000 in
set_option maxHeartbeats 8000000 in
theorem lockCalls_any {w : World} {va : Value} {l0 : List Ak} (ha : Aks (Lt w.heap.size) w va l0) : Calls Try.prog 4 #[va] w fun e w' => e = .returned (.bool true) ∧ Below w.heap.size w w' := by
  obtain ⟨aa, ac, rfl, _, _, _⟩ := ha.at
  have HA := Hid.mk' ha
  clear ha
  go_enter Try.func4, Try.ntmps4
  go_wp2_with fail
  refine (awake_any w).mono ?_
  rintro e w1 ⟨rfl, hb1⟩
  obtain ⟨W, hW⟩ : ∃ W, W = w1.alloc (.cells #[.map none] 37) := ⟨_, rfl⟩
  have hbW : Below w1.heap.size w1 W := by rw [hW]; exact up_alloc _ _
  have he0 : W.heap[w1.heap.size]? = some (.cells #[.map none] 37 (0, 0)) := by rw [hW]; exact heap_alloc_new _ _
  have hsW : W.heap.size = w1.heap.size + 1 := by rw [hW]; simp
  have HBW := Hid.mk' (bt hb1 hbW)
  have HFW := Hid.mk' (few_any (HA.out.up (bt hb1 hbW)))
  have HE0 := Hid.mk' he0
  have HSW := Hid.mk' hsW
  have HS1 : Hid (w.heap.size ≤ w1.heap.size) := hb1.size
  clear hb1 hbW he0 hsW
  go_wp2_with fail
  rw [← hW]
  clear hW HA
  refine HFW.out.mono ?_
  rintro e w2 ⟨va2, L, rfl, hL, hfw, hb2⟩
  have hfl : (fewK l0).length ≤ 30 := by unfold fewK; rw [List.length_map, List.length_take]; omega
  have hLl : L.length = (fewK l0).length := by rw [← hL, List.length_map]
  have hfa := (hfw.aks hb2 (by omega)).monoS (A' := fun k => k ≠ w1.heap.size) fun k hk => by
    have := HSW.out
    rcases hk with hk | hk
    · omega
    · have hk : k < w.heap.size := hk
      have := HS1.out
      omega
  rw [hL] at hfa
  have h70 : ∀ a ∈ fewK l0, a.rs.length ≤ 70 := fun a ha => by
    unfold fewK at ha
    obtain ⟨b, _, rfl⟩ := List.mem_map.1 ha
    show (b.rs.take 70).length ≤ 70
    rw [List.length_take]; omega
  have haw : TbIs (fun _ => False) (fun _ => False) w2 w1.heap.size [] := ⟨⟨none, (hb2.block _ (by rw [HSW.out]; omega)).trans HE0.out, .inl ⟨rfl, rfl⟩⟩, fun _ h => h.elim, fun _ h => h.elim⟩
  have HB2 := Hid.mk' (bt HBW.out hb2)
  have HBL : Hid (w1.heap.size < w2.heap.size) := by have := hb2.size; rw [HSW.out] at this; exact this
  have HK0 : Hid (Kt w2 w2 w1.heap.size (fun _ => False) (fun _ => False) []) := ⟨fun _ h => h.elim, fun _ h => h.elim, haw, Wb.refl _ _, HBL.out⟩
  have HN0 : Hid (Nws (Fr w1.heap.size (fun _ => False) w2) w2 (.slice none 0 0) []) := nws_nil
  have HAP : Hid (Apt (70 * 0) 0 []) := Apt.nil
  have H70 := Hid.mk' h70
  obtain ⟨xa, xc, rfl, hxc, hxz, hat⟩ := hfa.at
  have HAT := Hid.mk' hat
  have hfl' : ((fewK l0).length : Int) ≤ 30 := by omega
  generalize fewK l0 = l at *
  generalize w1.heap.size = b at *
  have HEND : Hid (∀ wz, Wb (fun k => k = b) w2 wz → Below w.heap.size w wz) := fun wz hz => HB2.out.trans (hz.below HB2.out.size fun k hk => by have := HS1.out; omega)
  clear hL hfw hb2 hLl hfa h70 haw hat hxz HE0 HSW HBW HFW
  go_wp2_with fail
  go_loopw [4, 20] (fun v i wr => ∃ (k : Nat) (T : Tb) (M D : Nat → Prop) (oa : Option Addr) (oc : Nat), k ≤ l.length ∧ i = .int .i64 k ∧ v = .slice oa T.length oc ∧ Hid (Kt w2 wr b M D T) ∧ Hid (Nws (Fr b M wr) wr (.slice oa T.length oc) T) ∧ Hid (Apt (70 * k) k T)) (fun _ i _ => l.length - (intOf i).toNat)
  case atStart => exact ⟨0, [], _, _, none, 0, by omega, rfl, rfl, HK0, HN0, HAP⟩
  case round =>
    clear HK0 HN0 HAP
    obtain ⟨k, T, M, D, oa, oc, hk, rfl, rfl, HK, HN, HAP⟩ := hrel
    by_cases hlt : k < l.length
    case neg =>
      obtain rfl : k = l.length := by omega
      have HE := Hid.mk' (HEND.out _ HK.out.wb)
      go_wp2_with fail
      go_ret
      exact ⟨rfl, HE.out⟩
    have hlt' : (k : Int) < (l.length : Int) := by omega
    obtain ⟨bb, of, u, rfl, hbb, ⟨c0, c1, c2, c3, c4, c5, c6, c7⟩, hrs⟩ := HAT.out k hlt
    have c0 := HK.out.cell hbb c0
    have c1 := HK.out.cell hbb c1
    have c2 := HK.out.cell hbb c2
    have c3 := HK.out.cell hbb c3
    have c4 := HK.out.cell hbb c4
    have c5 := HK.out.cell hbb c5
    have c6 := HK.out.cell hbb c6
    have c7 := HK.out.cell hbb c7
    have hrsw := HK.out.rgs hrs.andLt fun k hk => hk
    have H7 : Hid (l[k].rs.length ≤ 70) := H70.out _ (List.getElem_mem hlt)
    generalize l[k] = ak at *
    obtain ⟨ua, uc, rfl⟩ := hrs.sl
    clear hrs
    obtain ⟨kd, x, y, rs⟩ := ak
    simp only at c0 c1 c2 c3 c4 c5 c6 c7 hrsw H7
    obtain ⟨W3, hW3⟩ : ∃ W, W = wr.alloc (.cells #[.int .i64 kd, .int .u64 (x.1.toNat : Int), .int .u64 (x.2.1.toNat : Int), .int .u64 (x.2.2.toNat : Int), .int .u64 (y.1.toNat : Int), .int .u64 (y.2.1.toNat : Int), .int .u64 (y.2.2.toNat : Int), .slice ua rs.length uc] 42) := ⟨_, rfl⟩
    have hE3 : W3.heap[wr.heap.size]? = some (.cells #[.int .i64 kd, .int .u64 (x.1.toNat : Int), .int .u64 (x.2.1.toNat : Int), .int .u64 (x.2.2.toNat : Int), .int .u64 (y.1.toNat : Int), .int .u64 (y.2.1.toNat : Int), .int .u64 (y.2.2.toNat : Int), .slice ua rs.length uc] 42 (0, 0)) := by rw [hW3]; exact heap_alloc_new _ _
    have hBW3 : Below wr.heap.size wr W3 := by rw [hW3]; exact up_alloc _ _
    have HK3 := Hid.mk' (HK.out.up hBW3)
    have HN3 := Hid.mk' (HN.out.stp (Stp.below hBW3))
    have HR3 := Hid.mk' (hrsw.stp (Stp.below hBW3))
    have HX3 : Hid (Fr b M W3 wr.heap.size) := HK.out.fresh (Nat.le_refl _) (by rw [hW3]; simp)
    have HE3 := Hid.mk' hE3
    have HAP1 : Hid (Apt (70 * (k + 1)) (k + 1) T) := HAP.out.mono (by omega) (by omega)
    have HTL : Hid (T.length ≤ 30 ∧ ∀ x, (tgz T x).length ≤ 2100) := ⟨by have := HAP.out.len; omega, fun x => by have := HAP.out.tgzl x; omega⟩
    have HSR := Hid.mk' HK.out.srt
    clear hE3 hBW3 hrsw HK HN
    go_upto_if 26 with fail
    rw [← hW3]
    clear hW3 c0 c1 c2 c3 c4 c5 c6 c7
    obtain ⟨bk, hbk⟩ : ∃ n, n = wr.heap.size := ⟨_, rfl⟩
    rw [← hbk] at HE3 HX3 ⊢
    clear hbk
    go_cut [4, 20] (fun v i wx => i = .int .i64 k ∧ ∃ (T' : Tb) (M' D' : Nat → Prop) (oa' : Option Addr) (oc' : Nat), v = .slice oa' T'.length oc' ∧ Hid (Kt w2 wx b M' D' T') ∧ Hid (Nws (Fr b M' wx) wx (.slice oa' T'.length oc') T') ∧ Hid (Apt (70 * (k + 1)) (k + 1) T') ∧ Hid (wx.heap[bk]? = some (.cells #[.int .i64 kd, .int .u64 (x.1.toNat : Int), .int .u64 (x.2.1.toNat : Int), .int .u64 (x.2.2.toNat : Int), .int .u64 (y.1.toNat : Int), .int .u64 (y.2.1.toNat : Int), .int .u64 (y.2.2.toNat : Int), .slice ua rs.length uc] 42 (0, 0))) ∧ Hid (Fr b M' wx bk))
    case first =>
      rename World => w3
      obtain ⟨x0, x1, x2, x3, x4, x5, x6, x7⟩ := box8 HE3.out
      by_cases h1 : kd = 1
      case neg =>
        have h1' : (kd == 1) = false := by simpa using h1
        clear h1
        go_wp2_with fail
        go_meet
        exact ⟨rfl, T, M, D, oa, oc, rfl, HK3, HN3, HAP1, HE3, HX3⟩
      have h1' : (kd == 1) = true := by simpa using h1
      clear h1
      have HRR : Hid (Calls Try.prog 16 #[.slice oa T.length oc, .agg #[.int .u64 (x.1.toNat : Int), .int .u64 (x.2.1.toNat : Int), .int .u64 (x.2.2.toNat : Int)], .slice ua rs.length uc] w3 fun e w' => ∃ v', e = .returned v' ∧ Ot w3.heap.size w' v' (rrT T x rs) ∧ Below w3.heap.size w3 w') := rrivals_any (x := x) HN3.out HR3.out (by have := HTL.out.1; omega)
      go_wp2_with fail
      refine HRR.out.mono ?_
      rintro e w4 ⟨u4, rfl, ho4, hb4⟩
      rw [rrT_eq HSR.out] at ho4
      obtain ⟨ra, rcc, rfl⟩ := own_sliceN ho4
      have S4 := Hid.mk' (Stp.below (b := b) (M := M) hb4)
      have HK4 := Hid.mk' (HK3.out.up hb4)
      have HN4 := Hid.mk' (HN3.out.stp S4.out)
      have HR4 := Hid.mk' (HR3.out.stp S4.out)
      have HE4 := Hid.mk' ((S4.out.heap HX3.out).trans HE3.out)
      have HX4 := Hid.mk' (S4.out.2 _ HX3.out)
      have HO4 := Hid.mk' ho4
      have HRL := Hid.mk' (rivT_len T x rs)
      clear ho4 hb4 HRR HK3 HN3 HR3 HE3 HX3 S4 x0 x1 x2 x3 x4 x5 x6 x7
      go_upto_region 10 with fail
      obtain ⟨x0, x1, x2, x3, x4, x5, x6, x7⟩ := box8 HE4.out
      have s1 : ∀ q : Kp (fun _ => False) w4, q.nx.cell? ⟨bk, 1, none⟩ = some _ := fun q => q.cell x1 id
      have s2 : ∀ q : Kp (fun _ => False) w4, q.nx.cell? ⟨bk, 2, none⟩ = some _ := fun q => q.cell x2 id
      have s3 : ∀ q : Kp (fun _ => False) w4, q.nx.cell? ⟨bk, 3, none⟩ = some _ := fun q => q.cell x3 id
      have s7 : ∀ q : Kp (fun _ => False) w4, q.nx.cell? ⟨bk, 7, none⟩ = some _ := fun q => q.cell x7 id
      have HOW : Hid (Calls Try.prog 19 #[.slice ua rs.length uc] w4.drew (OwP w4.drew rs)) := own_any (HR4.out.up (drew_blx w4 _)) (by have := H7.out; omega)
      refine wp_region_mox 9 (fun w' => ∃ q : Kp (fun _ => False) w4, w' = q.nx) (by kernel_rfl) (by kernel_rfl) (kp_first _ w4) ?_
      simp only [List.take_succ_cons, List.take_zero, List.drop_succ_cons, List.drop_zero]
      refine mx_take 4 rfl ?_
      simp only [List.take_succ_cons, List.take_zero, List.drop_succ_cons, List.drop_zero]
      repeat (go_big_quiet_step (fail))
      refine wpQuiet_nil ?_
      refine mx_call (vals := [.slice ua rs.length uc]) Try.func19 (by kernel_rfl) rfl rfl (by kernel_rfl) (by kernel_rfl) (HOW.out) (fun E w5 hc => ?_)
      obtain ⟨v5, rfl, ho5, hbe5⟩ := hc
      have HB5 : Hid (Below w4.heap.size w4 w5) := (drew_blx w4 _).trans hbe5
      have HRV : Hid (Calls Try.prog 18 #[.pointer (some ⟨b, 0, none⟩), .agg #[.int .u64 (x.1.toNat : Int), .int .u64 (x.2.1.toNat : Int), .int .u64 (x.2.2.toNat : Int)], v5] w5 fun e w' => ∃ v', e = .returned v' ∧ Ot w5.heap.size w' v' (rivT T x rs) ∧ Below w5.heap.size w5 w') := (HK4.out.up HB5.out).riv (x := x) ho5.rgs (by have := HTL.out.1; omega)
      clear ho5 hbe5
      refine ⟨_, rfl, kp_mk HB5.out.size fun b hb hx => HB5.out.block b hb, ?_⟩
      simp only [Act.put, List.setIfInBounds_toArray, List.set_cons_succ, List.set_cons_zero]
      refine mx_call (vals := [.pointer (some ⟨b, 0, none⟩), .agg #[.int .u64 (x.1.toNat : Int), .int .u64 (x.2.1.toNat : Int), .int .u64 (x.2.2.toNat : Int)], v5]) Try.func18 (by kernel_rfl) rfl rfl (by kernel_rfl) (by kernel_rfl) (HRV.out) (fun E w6 hc => ?_)
      obtain ⟨u6, rfl, ho6, hbe6⟩ := hc
      obtain ⟨rb, rd', rfl⟩ := own_sliceN ho6
      have HB6 := Hid.mk' (bt HB5.out hbe6)
      have HSM : Hid (Calls Try.prog 17 #[.slice rb (rivT T x rs).length rd', .slice ra (rivT T x rs).length rcc] w6 fun e w' => e = .returned (.bool true) ∧ Dn w6 w') := by
        have h := same_any (Ot.txr ho6 (by have := HRL.out; have := HTL.out.1; unfold lim; omega)) (Ot.txr (HO4.out.up HB6.out) (by have := HRL.out; have := HTL.out.1; unfold lim; omega))
        rw [decide_eq_true rfl] at h
        exact h
      clear ho6 hbe6 HRV
      refine ⟨_, rfl, kp_mk HB6.out.size fun b hb hx => HB6.out.block b hb, ?_⟩
      simp only [Act.put, List.setIfInBounds_toArray, List.set_cons_succ, List.set_cons_zero]
      refine mx_take 1 rfl ?_
      simp only [List.take_succ_cons, List.take_zero, List.drop_succ_cons, List.drop_zero]
      repeat (go_big_quiet_step (fail))
      refine wpQuiet_nil ?_
      refine mx_call (vals := [.slice rb (rivT T x rs).length rd', .slice ra (rivT T x rs).length rcc]) Try.func17 (by kernel_rfl) rfl rfl (by kernel_rfl) (by kernel_rfl) (HSM.out) (fun E w7 hc => ?_)
      obtain ⟨rfl, hdn⟩ := hc
      have HB7 := Hid.mk' (bt HB6.out (hdn.below _))
      clear hdn HSM
      refine ⟨_, rfl, kp_mk HB7.out.size fun b hb hx => HB7.out.block b hb, ?_⟩
      simp only [Act.put, List.setIfInBounds_toArray, List.set_cons_succ, List.set_cons_zero]
      refine mx_take 1 rfl ?_
      simp only [List.take_succ_cons, List.take_zero, List.drop_succ_cons, List.drop_zero]
      repeat (go_big_quiet_step (fail))
      refine wpQuiet_nil ?_
      simp only [wpMix]
      clear s1 s2 s3 s7 x0 x1 x2 x3 x4 x5 x6 x7
      have S7 := Hid.mk' (Stp.below (b := b) (M := M) HB7.out)
      have HK7 := Hid.mk' (HK4.out.up HB7.out)
      have HN7 := Hid.mk' (HN4.out.stp S7.out)
      have HR7 := Hid.mk' (HR4.out.stp S7.out)
      have HE7 := Hid.mk' ((S7.out.heap HX4.out).trans HE4.out)
      have HX7 := Hid.mk' (S7.out.2 _ HX4.out)
      have hRA := rask_any (x := x) HN7.out HR7.out HSR.out (by have := HTL.out.1; omega) (by have := HTL.out.2 x; omega)
      rw [rask_eq HSR.out] at hRA
      have HRA : Hid (Calls Try.prog 20 #[.slice oa T.length oc, .agg #[.int .u64 (x.1.toNat : Int), .int .u64 (x.2.1.toNat : Int), .int .u64 (x.2.2.toNat : Int)], .slice ua rs.length uc] w7 (RaP (Fr b M w7) (Fr b M w7) w7 (askT T x rs))) := hRA
      clear hRA HK4 HN4 HR4 HE4 HX4 HB5 HB6 HB7 S7 HOW
      obtain ⟨x0, x1, x2, x3, x4, x5, x6, x7⟩ := box8 HE7.out
      go_wp2_with fail
      refine HRA.out.mono ?_
      rintro e w8 ⟨v8, rfl, hn8, hb8⟩
      obtain ⟨na, nc, rfl⟩ := hn8.sl
      have HN8 : Hid (Nws (Fr b M w8) w8 (.slice na (askT T x rs).2.length nc) (askT T x rs).2) := hn8.monoS fun k hk => by
        rcases hk with (hk | hk) | hk
        · exact (Stp.below hb8).2 k hk
        · exact (Stp.below hb8).2 k hk
        · exact HK7.out.fresh hk.1 hk.2
      have S8 := Hid.mk' (Stp.below (b := b) (M := M) hb8)
      have HK8 := Hid.mk' (HK7.out.up hb8)
      have HR8 := Hid.mk' (HR7.out.stp S8.out)
      have HE8 := Hid.mk' ((S8.out.heap HX7.out).trans HE7.out)
      have HX8 := Hid.mk' (S8.out.2 _ HX7.out)
      clear hn8 hb8 HRA HK7 HN7 HR7 HE7 HX7 S8 x0 x1 x2 x3 x4 x5 x6 x7
      go_upto_region 13 with fail
      obtain ⟨x0, x1, x2, x3, x4, x5, x6, x7⟩ := box8 HE8.out
      have s1 : ∀ q : Kp (fun _ => False) w8, q.nx.cell? ⟨bk, 1, none⟩ = some _ := fun q => q.cell x1 id
      have s2 : ∀ q : Kp (fun _ => False) w8, q.nx.cell? ⟨bk, 2, none⟩ = some _ := fun q => q.cell x2 id
      have s3 : ∀ q : Kp (fun _ => False) w8, q.nx.cell? ⟨bk, 3, none⟩ = some _ := fun q => q.cell x3 id
      have s7 : ∀ q : Kp (fun _ => False) w8, q.nx.cell? ⟨bk, 7, none⟩ = some _ := fun q => q.cell x7 id
      have HOW : Hid (Calls Try.prog 19 #[.slice ua rs.length uc] w8.drew (OwP w8.drew rs)) := own_any (HR8.out.up (drew_blx w8 _)) (by have := H7.out; omega)
      refine wp_region_mox 5 (fun w' => ∃ q : Kp (fun _ => False) w8, w' = q.nx) (by kernel_rfl) (by kernel_rfl) (kp_first _ w8) ?_
      simp only [List.take_succ_cons, List.take_zero, List.drop_succ_cons, List.drop_zero]
      refine mx_take 4 rfl ?_
      simp only [List.take_succ_cons, List.take_zero, List.drop_succ_cons, List.drop_zero]
      repeat (go_big_quiet_step (fail))
      refine wpQuiet_nil ?_
      refine mx_call (vals := [.slice ua rs.length uc]) Try.func19 (by kernel_rfl) rfl rfl (by kernel_rfl) (by kernel_rfl) (HOW.out) (fun E w9 hc => ?_)
      obtain ⟨v9, rfl, ho9, hbe9⟩ := hc
      have HB9 : Hid (Below w8.heap.size w8 w9) := (drew_blx w8 _).trans hbe9
      have HAS : Hid (Calls Try.prog 21 #[.pointer (some ⟨b, 0, none⟩), .agg #[.int .u64 (x.1.toNat : Int), .int .u64 (x.2.1.toNat : Int), .int .u64 (x.2.2.toNat : Int)], v9] w9 fun e w' => e = .returned (.int .i64 (askT T x rs).1) ∧ ∃ M' D', Kt w2 w' b M' D' (askT T x rs).2 ∧ Stp b M w9 M' w') := (HK8.out.up HB9.out).ask (x := x) ho9.rgs (by have := HTL.out.1; omega) (by have := HTL.out.2 x; omega)
      clear ho9 hbe9
      refine ⟨_, rfl, kp_mk HB9.out.size fun b hb hx => HB9.out.block b hb, ?_⟩
      simp only [Act.put, List.setIfInBounds_toArray, List.set_cons_succ, List.set_cons_zero]
      simp only [wpMix]
      clear s1 s2 s3 s7 x0 x1 x2 x3 x4 x5 x6 x7
      have HZ := ask_err T x rs
      rw [rrT_eq HSR.out, rask_eq HSR.out] at HZ
      have HZ := Hid.mk' HZ
      have HAPA : Hid (Apt (70 * (k + 1)) (k + 1) (askT T x rs).2) := (HAP.out.ask x rs H7.out).mono (by omega) (by omega)
      go_wp2_with fail
      refine HAS.out.mono ?_
      rintro e w10 ⟨rfl, M', D', hk10, hs10⟩
      have S10 := Hid.mk' ((Stp.below (b := b) (M := M) HB9.out).trans hs10)
      have HK10 := Hid.mk' hk10
      have HN10 := Hid.mk' (HN8.out.stp S10.out)
      have HR10 := Hid.mk' (HR8.out.stp S10.out)
      have HE10 := Hid.mk' ((S10.out.heap HX8.out).trans HE8.out)
      have HX10 := Hid.mk' (S10.out.2 _ HX8.out)
      have HCK : Hid (Calls Try.prog 22 #[.slice ua rs.length uc] w10 fun e w' => e = .returned (.int .i64 (rck rs)) ∧ Dn w10 w') := rcheck_any HR10.out
      have hnr : ((rivT T x rs).length : Int) ≤ 30 := by have := HRL.out; have := HTL.out.1; omega
      clear HAS hk10 hs10 HK8 HN8 HR8 HE8 HX8 HB9 S10 HOW HRL HO4
      obtain ⟨x0, x1, x2, x3, x4, x5, x6, x7⟩ := box8 HE10.out
      generalize (askT T x rs).1 = z at *
      generalize (askT T x rs).2 = T2 at *
      generalize (rivT T x rs).length = nr at *
      generalize rck rs = rk at *
      have hzz : (z == z) = true := beq_self_eq_true z
      have hzz2 : (z != z) = false := by simp
      rcases HZ.out with ⟨g1, g2, g3⟩ | ⟨g1, g2, g3⟩ | ⟨g1, g3⟩
      · have g1' : (0 : Int) < (nr : Int) := by omega
        have g2' : (rk == 0) = true := by simpa using g2
        have g3' : (z == 11) = true := by simpa using g3
        clear g1 g2 g3 HZ
        go_wp2_with fail
        refine HCK.out.mono ?_
        rintro e w11 ⟨rfl, hd11⟩
        have S11 := Hid.mk' (Stp.below (b := b) (M := M') (hd11.below _))
        have HK11 := Hid.mk' (HK10.out.up (hd11.below _))
        have HN11 := Hid.mk' (HN10.out.stp S11.out)
        have HR11 := Hid.mk' (HR10.out.stp S11.out)
        have HE11 := Hid.mk' ((S11.out.heap HX10.out).trans HE10.out)
        have HX11 := Hid.mk' (S11.out.2 _ HX10.out)
        clear hd11 x0 x1 x2 x3 x4 x5 x6 x7
        go_wp2_with fail
        go_meet
        exact ⟨rfl, T2, M', D', na, nc, rfl, HK11, HN11, HAPA, HE11, HX11⟩
      · have g1' : (0 : Int) < (nr : Int) := by omega
        have g2' : (rk == 0) = false := by simpa using g2
        have g3' : (z == 11) = false := by simpa using g3
        clear g1 g2 g3 HZ
        go_wp2_with fail
        refine HCK.out.mono ?_
        rintro e w11 ⟨rfl, hd11⟩
        have S11 := Hid.mk' (Stp.below (b := b) (M := M') (hd11.below _))
        have HK11 := Hid.mk' (HK10.out.up (hd11.below _))
        have HN11 := Hid.mk' (HN10.out.stp S11.out)
        have HR11 := Hid.mk' (HR10.out.stp S11.out)
        have HE11 := Hid.mk' ((S11.out.heap HX10.out).trans HE10.out)
        have HX11 := Hid.mk' (S11.out.2 _ HX10.out)
        clear hd11 x0 x1 x2 x3 x4 x5 x6 x7
        go_wp2_with fail
        go_meet
        exact ⟨rfl, T2, M', D', na, nc, rfl, HK11, HN11, HAPA, HE11, HX11⟩
      · have g1' : ¬ (0 : Int) < (nr : Int) := by omega
        have g3' : (z == 11) = false := by simpa using g3
        clear g1 g3 HZ
        go_wp2_with fail
        go_meet
        exact ⟨rfl, T2, M', D', na, nc, rfl, HK10, HN10, HAPA, HE10, HX10⟩
    case rest =>
    obtain ⟨rfl, T', M', D', oa', oc', rfl, HK, HN, HAP', HE, HX⟩ := hcut
    clear HK3 HN3 HR3 HX3 HE3 HAP1 HTL HSR HAP H7
    rename World => w4
    have HTL : Hid (T'.length ≤ 30 ∧ ∀ x, (tgz T' x).length ≤ 2100) := ⟨by have := HAP'.out.len; omega, fun x => by have := HAP'.out.tgzl x; omega⟩
    obtain ⟨x0, x1, x2, x3, x4, x5, x6, x7⟩ := box8 HE.out
    go_upto_if 77 with fail
    go_cut [4, 20] (fun v i wx => i = .int .i64 k ∧ ∃ (T' : Tb) (M' D' : Nat → Prop) (oa' : Option Addr) (oc' : Nat), v = .slice oa' T'.length oc' ∧ Hid (Kt w2 wx b M' D' T') ∧ Hid (Nws (Fr b M' wx) wx (.slice oa' T'.length oc') T') ∧ Hid (Apt (70 * (k + 1)) (k + 1) T') ∧ Hid (wx.heap[bk]? = some (.cells #[.int .i64 kd, .int .u64 (x.1.toNat : Int), .int .u64 (x.2.1.toNat : Int), .int .u64 (x.2.2.toNat : Int), .int .u64 (y.1.toNat : Int), .int .u64 (y.2.1.toNat : Int), .int .u64 (y.2.2.toNat : Int), .slice ua rs.length uc] 42 (0, 0))) ∧ Hid (Fr b M' wx bk))
    case first =>
      by_cases h2 : kd = 2
      case neg =>
        have h2' : (kd == 2) = false := by simpa using h2
        clear h2
        go_wp2_with fail
        go_meet
        exact ⟨rfl, T', M', D', oa', oc', rfl, HK, HN, HAP', HE, HX⟩
      have h2' : (kd == 2) = true := by simpa using h2
      clear h2
      have HRL1 : Hid (Calls Try.prog 23 #[.slice oa' T'.length oc', .agg #[.int .u64 (x.1.toNat : Int), .int .u64 (x.2.1.toNat : Int), .int .u64 (x.2.2.toNat : Int)]] w4.drew fun e w' => ∃ u, e = .returned u ∧ Nws (fun k => Fr b M' w4 k ∨ w4.drew.heap.size ≤ k ∧ k < w'.heap.size) w' u (delL T' x) ∧ Below w4.drew.heap.size w4.drew w') := rrel_any (x := x) (HN.out.up (drew_blx w4 _)) (by have := HTL.out.1; omega)
      have HLD : Hid ((delL T' x).length ≤ T'.length ∧ (delL (delL T' x) y).length ≤ T'.length) := ⟨List.length_filter_le _ _, Nat.le_trans (List.length_filter_le _ _) (List.length_filter_le _ _)⟩
      have s1 : ∀ q : Kp (fun _ => False) w4, q.nx.cell? ⟨bk, 1, none⟩ = some _ := fun q => q.cell x1 id
      have s2 : ∀ q : Kp (fun _ => False) w4, q.nx.cell? ⟨bk, 2, none⟩ = some _ := fun q => q.cell x2 id
      have s3 : ∀ q : Kp (fun _ => False) w4, q.nx.cell? ⟨bk, 3, none⟩ = some _ := fun q => q.cell x3 id
      have s4 : ∀ q : Kp (fun _ => False) w4, q.nx.cell? ⟨bk, 4, none⟩ = some _ := fun q => q.cell x4 id
      have s5 : ∀ q : Kp (fun _ => False) w4, q.nx.cell? ⟨bk, 5, none⟩ = some _ := fun q => q.cell x5 id
      have s6 : ∀ q : Kp (fun _ => False) w4, q.nx.cell? ⟨bk, 6, none⟩ = some _ := fun q => q.cell x6 id
      go_upto_region 18 with fail
      refine wp_region_mox 8 (fun w' => ∃ q : Kp (fun _ => False) w4, w' = q.nx) (by kernel_rfl) (by kernel_rfl) (kp_first _ w4) ?_
      simp only [List.take_succ_cons, List.take_zero, List.drop_succ_cons, List.drop_zero]
      refine mx_take 3 rfl ?_
      simp only [List.take_succ_cons, List.take_zero, List.drop_succ_cons, List.drop_zero]
      repeat (go_big_quiet_step (fail))
      refine wpQuiet_nil ?_
      refine mx_call (vals := [.slice oa' T'.length oc', .agg #[.int .u64 (x.1.toNat : Int), .int .u64 (x.2.1.toNat : Int), .int .u64 (x.2.2.toNat : Int)]]) Try.func23 (by kernel_rfl) rfl rfl (by kernel_rfl) (by kernel_rfl) (HRL1.out) (fun E w5 hc => ?_)
      obtain ⟨u5, rfl, hn5, hbe5⟩ := hc
      obtain ⟨na5, nc5, rfl⟩ := hn5.sl
      have HB5 : Hid (Below w4.heap.size w4 w5) := (drew_blx w4 _).trans hbe5
      have HRL2 : Hid (Calls Try.prog 23 #[.slice na5 (delL T' x).length nc5, .agg #[.int .u64 (y.1.toNat : Int), .int .u64 (y.2.1.toNat : Int), .int .u64 (y.2.2.toNat : Int)]] w5 fun e w' => ∃ u, e = .returned u ∧ Nws (fun k => (Fr b M' w4 k ∨ w4.drew.heap.size ≤ k ∧ k < w5.heap.size) ∨ w5.heap.size ≤ k ∧ k < w'.heap.size) w' u (delL (delL T' x) y) ∧ Below w5.heap.size w5 w') := rrel_any (x := y) hn5 (by have := HLD.out.1; have := HTL.out.1; omega)
      clear hn5 hbe5 HRL1
      refine ⟨_, rfl, kp_mk HB5.out.size fun b hb hx => HB5.out.block b hb, ?_⟩
      simp only [Act.put, List.setIfInBounds_toArray, List.set_cons_succ, List.set_cons_zero]
      refine mx_take 2 rfl ?_
      simp only [List.take_succ_cons, List.take_zero, List.drop_succ_cons, List.drop_zero]
      repeat (go_big_quiet_step (fail))
      refine wpQuiet_nil ?_
      refine mx_call (vals := [.slice na5 (delL T' x).length nc5, .agg #[.int .u64 (y.1.toNat : Int), .int .u64 (y.2.1.toNat : Int), .int .u64 (y.2.2.toNat : Int)]]) Try.func23 (by kernel_rfl) rfl rfl (by kernel_rfl) (by kernel_rfl) (HRL2.out) (fun E w6 hc => ?_)
      obtain ⟨u6, rfl, hn6, hbe6⟩ := hc
      obtain ⟨na6, nc6, rfl⟩ := hn6.sl
      have HB6 := Hid.mk' (bt HB5.out hbe6)
      have HN6 : Hid (Nws (Fr b M' w6) w6 (.slice na6 (delL (delL T' x) y).length nc6) (delL (delL T' x) y)) := hn6.monoS fun k hk => by
        have h1 := HB6.out.size
        have h2 := HB5.out.size
        have h3 := hbe6.size
        have h4 : w4.drew.heap.size = w4.heap.size := rfl
        rcases hk with (hk | hk) | hk
        · exact ⟨hk.1, hk.2.1, by have := hk.2.2; omega⟩
        · exact HK.out.fresh (by omega) (by omega)
        · exact HK.out.fresh (by omega) hk.2
      clear hn6 hbe6 HRL2
      refine ⟨_, rfl, kp_mk HB6.out.size fun b hb hx => HB6.out.block b hb, ?_⟩
      simp only [Act.put, List.setIfInBounds_toArray, List.set_cons_succ, List.set_cons_zero]
      refine mx_take 1 rfl ?_
      simp only [List.take_succ_cons, List.take_zero, List.drop_succ_cons, List.drop_zero]
      repeat (go_big_quiet_step (fail))
      refine wpQuiet_nil ?_
      simp only [wpMix]
      clear s1 s2 s3 s4 s5 s6 x0 x1 x2 x3 x4 x5 x6 x7
      have S6 := Hid.mk' (Stp.below (b := b) (M := M') HB6.out)
      have HK6 := Hid.mk' (HK.out.up HB6.out)
      have HE6 := Hid.mk' ((S6.out.heap HX.out).trans HE.out)
      have HX6 := Hid.mk' (S6.out.2 _ HX.out)
      have hrl := (HK6.out.up (up_alloc w6 (.cells #[.int .u64 (x.1.toNat : Int), .int .u64 (x.2.1.toNat : Int), .int .u64 (x.2.2.toNat : Int), .int .u64 (y.1.toNat : Int), .int .u64 (y.2.1.toNat : Int), .int .u64 (y.2.2.toNat : Int)] 30))).rel (txr_two (w := w6) x y) (fun k hk hm => by subst hk; exact Nat.lt_irrefl _ (HK6.out.tb.hM _ hm).1) (by have := HTL.out.1; omega)
      rw [rel_two HK.out.srt] at hrl
      have HREL : Hid (Calls Try.prog 24 #[.pointer (some ⟨b, 0, none⟩), .slice (some ⟨w6.heap.size, 0, none⟩) 2 2] (w6.alloc (.cells #[.int .u64 (x.1.toNat : Int), .int .u64 (x.2.1.toNat : Int), .int .u64 (x.2.2.toNat : Int), .int .u64 (y.1.toNat : Int), .int .u64 (y.2.1.toNat : Int), .int .u64 (y.2.2.toNat : Int)] 30)) fun e w' => e = .returned (.int .i64 ((T'.length : Int) - ((delL (delL T' x) y).length : Int))) ∧ Kt w2 w' b M' D' (delL (delL T' x) y) ∧ Stp b M' (w6.alloc (.cells #[.int .u64 (x.1.toNat : Int), .int .u64 (x.2.1.toNat : Int), .int .u64 (x.2.2.toNat : Int), .int .u64 (y.1.toNat : Int), .int .u64 (y.2.1.toNat : Int), .int .u64 (y.2.2.toNat : Int)] 30)) M' w') := hrl
      have HAP3 : Hid (Apt (70 * (k + 1)) (k + 1) (delL (delL T' x) y)) := by
        have h := HAP'.out.rel [x, y]
        rw [rel_two HK.out.srt] at h
        exact h
      have hT1 : (T'.length : Int) ≤ 30 := by have := HTL.out.1; omega
      have hT2 : ((delL (delL T' x) y).length : Int) ≤ (T'.length : Int) := by have := HLD.out.2; omega
      obtain ⟨x0, x1, x2, x3, x4, x5, x6, x7⟩ := box8 HE6.out
      clear hrl S6 HB5 HB6 HLD
      generalize delL (delL T' x) y = T3 at *
      have hwr : IntKind.i64.wrap ((T'.length : Int) - (T3.length : Int)) = (T'.length : Int) - (T3.length : Int) := by rw [IntKind.wrap_i64]; omega
      go_wp2_with fail
      refine HREL.out.mono ?_
      rintro e w8 ⟨rfl, hk8, hs8⟩
      have S8 := Hid.mk' ((Stp.below (b := b) (M := M') (up_alloc w6 (.cells #[.int .u64 (x.1.toNat : Int), .int .u64 (x.2.1.toNat : Int), .int .u64 (x.2.2.toNat : Int), .int .u64 (y.1.toNat : Int), .int .u64 (y.2.1.toNat : Int), .int .u64 (y.2.2.toNat : Int)] 30))).trans hs8)
      have HK8 := Hid.mk' hk8
      have HN8 := Hid.mk' (HN6.out.stp S8.out)
      have HE8 := Hid.mk' ((S8.out.heap HX6.out).trans HE6.out)
      have HX8 := Hid.mk' (S8.out.2 _ HX6.out)
      clear hk8 hs8 HREL x0 x1 x2 x3 x4 x5 x6 x7
      go_wp2_with fail
      go_meet
      exact ⟨rfl, T3, M', D', na6, nc6, rfl, HK8, HN8, HAP3, HE8, HX8⟩
    case rest =>
    obtain ⟨rfl, T2, M2, D2, ob, oc2, rfl, HK2, HN2, HAP2, HE2, HX2⟩ := hcut
    clear HK HN HAP' HE HX HTL x0 x1 x2 x3 x4 x5 x6 x7
    rename World => w5
    have HTL : Hid (T2.length ≤ 30 ∧ ∀ x, (tgz T2 x).length ≤ 2100) := ⟨by have := HAP2.out.len; omega, fun x => by have := HAP2.out.tgzl x; omega⟩
    have HSR2 := Hid.mk' HK2.out.srt
    have HALL := Hid.mk' (HK2.out.all (by have := HTL.out.1; omega))
    go_wp2_with fail
    refine HALL.out.mono ?_
    rintro e w6 ⟨u6, rfl, ho6, hb6⟩
    obtain ⟨ta, tc', eta, htc, hatt⟩ := ho6.at
    rw [List.length_map] at eta htc
    subst eta
    have HKA : Hid (∀ j (hj : j < T2.length), ∃ g, ta = some ⟨g, 0, none⟩ ∧ (w6.cell? ⟨g, j * 3, none⟩ = some (.int .u64 (T2[j].1.1.toNat : Int)) ∧ w6.cell? ⟨g, j * 3 + 1, none⟩ = some (.int .u64 (T2[j].1.2.1.toNat : Int)) ∧ w6.cell? ⟨g, j * 3 + 2, none⟩ = some (.int .u64 (T2[j].1.2.2.toNat : Int)))) := fun j hj => by
      obtain ⟨g, h1, _, h3⟩ := hatt j (by rw [List.length_map]; exact hj)
      simp only [List.getElem_map] at h3
      exact ⟨g, h1, h3⟩
    have HK6 := Hid.mk' (HK2.out.up hb6)
    have HN6 := Hid.mk' (HN2.out.stp (Stp.below hb6))
    have HE6 := Hid.mk' (((Stp.below (b := b) (M := M2) hb6).heap HX2.out).trans HE2.out)
    have hT1 : (T2.length : Int) ≤ 30 := by have := HTL.out.1; omega
    clear ho6 hb6 hatt HALL HK2 HN2 HE2
    obtain ⟨x0, x1, x2, x3, x4, x5, x6, x7⟩ := box8 HE6.out
    have s4 : ∀ q : Kp (fun _ => False) w6, q.nx.cell? ⟨bk, 4, none⟩ = some _ := fun q => q.cell x4 id
    have s5 : ∀ q : Kp (fun _ => False) w6, q.nx.cell? ⟨bk, 5, none⟩ = some _ := fun q => q.cell x5 id
    have s6 : ∀ q : Kp (fun _ => False) w6, q.nx.cell? ⟨bk, 6, none⟩ = some _ := fun q => q.cell x6 id
    have HH1 : Hid (Calls Try.prog 27 #[.pointer (some ⟨b, 0, none⟩), .agg #[.int .u64 (y.1.toNat : Int), .int .u64 (y.2.1.toNat : Int), .int .u64 (y.2.2.toNat : Int)]] w6.drew fun e w' => ∃ v, e = .returned v ∧ Rgs (fun _ => True) w' v (tgz T2 y) ∧ Below w6.drew.heap.size w6.drew w') := (HK6.out.up (drew_blx w6 _)).held (x := y) (by have := HTL.out.2 y; omega)
    go_upto_region 23 with fail
    refine wp_region_mox 16 (fun w' => ∃ q : Kp (fun _ => False) w6, w' = q.nx) (by kernel_rfl) (by kernel_rfl) (kp_first _ w6) ?_
    simp only [List.take_succ_cons, List.take_zero, List.drop_succ_cons, List.drop_zero]
    refine mx_take 8 rfl ?_
    simp only [List.take_succ_cons, List.take_zero, List.drop_succ_cons, List.drop_zero]
    repeat (go_big_quiet_step (fail))
    refine wpQuiet_nil ?_
    refine mx_call (vals := [.pointer (some ⟨b, 0, none⟩), .agg #[.int .u64 (y.1.toNat : Int), .int .u64 (y.2.1.toNat : Int), .int .u64 (y.2.2.toNat : Int)]]) Try.func27 (by kernel_rfl) rfl rfl (by kernel_rfl) (by kernel_rfl) (HH1.out) (fun E w7 hc => ?_)
    obtain ⟨u7, rfl, hr7, hbe7⟩ := hc
    have HB7 : Hid (Below w6.heap.size w6 w7) := (drew_blx w6 _).trans hbe7
    have HR7 := Hid.mk' hr7
    have HH2 : Hid (Calls Try.prog 28 #[.slice ob T2.length oc2, .agg #[.int .u64 (y.1.toNat : Int), .int .u64 (y.2.1.toNat : Int), .int .u64 (y.2.2.toNat : Int)]] w7 fun e w' => ∃ u, e = .returned u ∧ Rgs (Fr b M2 w6) w' u (tgz T2 y) ∧ Below w7.heap.size w7 w') := rheld_any (x := y) (HN6.out.up HB7.out) (by have := HTL.out.1; omega)
    clear hr7 hbe7 HH1
    refine ⟨_, rfl, kp_mk HB7.out.size fun b hb hx => HB7.out.block b hb, ?_⟩
    simp only [Act.put, List.setIfInBounds_toArray, List.set_cons_succ, List.set_cons_zero]
    refine mx_take 3 rfl ?_
    simp only [List.take_succ_cons, List.take_zero, List.drop_succ_cons, List.drop_zero]
    repeat (go_big_quiet_step (fail))
    refine wpQuiet_nil ?_
    refine mx_call (vals := [.slice ob T2.length oc2, .agg #[.int .u64 (y.1.toNat : Int), .int .u64 (y.2.1.toNat : Int), .int .u64 (y.2.2.toNat : Int)]]) Try.func28 (by kernel_rfl) rfl rfl (by kernel_rfl) (by kernel_rfl) (HH2.out) (fun E w8 hc => ?_)
    obtain ⟨u8, rfl, hr8, hbe8⟩ := hc
    have HB8 := Hid.mk' (bt HB7.out hbe8)
    have HS8 : Hid (Calls Try.prog 26 #[u7, u8] w8 fun e w' => e = .returned (.bool true) ∧ Dn w8 w') := sameR_any (HR7.out.up hbe8) hr8
    clear hr8 hbe8 HH2 HR7
    refine ⟨_, rfl, kp_mk HB8.out.size fun b hb hx => HB8.out.block b hb, ?_⟩
    simp only [Act.put, List.setIfInBounds_toArray, List.set_cons_succ, List.set_cons_zero]
    refine mx_call (vals := [u7, u8]) Try.func26 (by kernel_rfl) rfl rfl (by kernel_rfl) (by kernel_rfl) (HS8.out) (fun E w9 hc => ?_)
    obtain ⟨rfl, hdn⟩ := hc
    have HB9 := Hid.mk' (bt HB8.out (hdn.below _))
    clear hdn HS8
    refine ⟨_, rfl, kp_mk HB9.out.size fun b hb hx => HB9.out.block b hb, ?_⟩
    simp only [Act.put, List.setIfInBounds_toArray, List.set_cons_succ, List.set_cons_zero]
    refine mx_take 2 rfl ?_
    simp only [List.take_succ_cons, List.take_zero, List.drop_succ_cons, List.drop_zero]
    repeat (go_big_quiet_step (fail))
    refine wpQuiet_nil ?_
    simp only [wpMix]
    clear s4 s5 s6 x0 x1 x2 x3 x4 x5 x6 x7 HB7 HB8
    have HK9 := Hid.mk' (HK6.out.up HB9.out)
    have HN9 := Hid.mk' (HN6.out.stp (Stp.below HB9.out))
    have HR9 : Hid (Below w9.heap.size w9 w9) := Below.refl _ _
    obtain ⟨_, _, ev, hvc, _, hatn⟩ := HN9.out.at
    obtain ⟨rfl, -, rfl⟩ := Value.slice.inj ev
    have HATN := Hid.mk' hatn
    clear ev hatn HK6 HN6 HE6 HX2
    go_wp2_with fail
    go_loopw [117] (fun i wr => ∃ j : Nat, j ≤ T2.length ∧ i = .int .i64 j ∧ Hid (Below w9.heap.size w9 wr)) (fun i _ => T2.length - (intOf i).toNat)
    case atStart => exact ⟨0, by omega, rfl, HR9⟩
    case round =>
      clear HR9
      obtain ⟨j, hj, rfl, HBJ⟩ := hrel
      rename World => wj
      by_cases hlj : j < T2.length
      case neg =>
        obtain rfl : j = T2.length := by omega
        have HKN := Hid.mk' (HK9.out.up HBJ.out)
        have HNN := Hid.mk' (HN9.out.stp (Stp.below HBJ.out))
        go_wp2_with fail
        go_roundw
        case rel => exact ⟨k + 1, T2, M2, D2, _, _, by omega, by go_num, rfl, HKN, HNN, HAP2⟩
        case measure => simp [intOf]; omega
      have hlj' : (j : Int) < (T2.length : Int) := by omega
      obtain ⟨bn, on, qa, qc, rfl, _, ⟨c0, c1, c2, c3⟩, hrs⟩ := HATN.out j hlj
      obtain ⟨g, rfl, e0, e1, e2⟩ := HKA.out j hlj
      have c0 := cell_up c0 HBJ.out
      have c1 := cell_up c1 HBJ.out
      have c2 := cell_up c2 HBJ.out
      have c3 := cell_up c3 HBJ.out
      have hTZ : tgz T2 T2[j].1 = T2[j].2 := tgz_of_mem HSR2.out (List.getElem_mem hlj)
      have HHJ : Hid (∀ wz, Below w9.heap.size w9 wz → Calls Try.prog 27 #[.pointer (some ⟨b, 0, none⟩), .agg #[.int .u64 (T2[j].1.1.toNat : Int), .int .u64 (T2[j].1.2.1.toNat : Int), .int .u64 (T2[j].1.2.2.toNat : Int)]] wz fun e w' => ∃ v, e = .returned v ∧ Rgs (fun _ => True) w' v T2[j].2 ∧ Below wz.heap.size wz w') := fun wz hz => by
        have h := (HK9.out.up hz).held (x := T2[j].1) (by have := HTL.out.2 T2[j].1; omega)
        rw [hTZ] at h
        exact h
      have HRJ : Hid (∀ wz, Below w9.heap.size w9 wz → Rgs (Fr b M2 w9) wz (.slice qa T2[j].2.length qc) T2[j].2) := fun wz hz => hrs.up hz
      obtain ⟨W, hW⟩ : ∃ W, W = wj.alloc (.cells #[.int .u64 (T2[j].1.1.toNat : Int), .int .u64 (T2[j].1.2.1.toNat : Int), .int .u64 (T2[j].1.2.2.toNat : Int), .slice qa T2[j].2.length qc] 59) := ⟨_, rfl⟩
      have hE8 : W.heap[wj.heap.size]? = some (.cells #[.int .u64 (T2[j].1.1.toNat : Int), .int .u64 (T2[j].1.2.1.toNat : Int), .int .u64 (T2[j].1.2.2.toNat : Int), .slice qa T2[j].2.length qc] 59 (0, 0)) := by rw [hW]; exact heap_alloc_new _ _
      have hbW : Below wj.heap.size wj W := by rw [hW]; exact up_alloc _ _
      have HBW := Hid.mk' (bt HBJ.out hbW)
      have e0 := cell_up e0 (bt HB9.out HBW.out)
      have e1 := cell_up e1 (bt HB9.out HBW.out)
      have e2 := cell_up e2 (bt HB9.out HBW.out)
      obtain ⟨y0, y1, y2, y3⟩ := box4 hE8
      clear hrs hTZ hbW hE8
      generalize T2[j] = P at *
      obtain ⟨p, R⟩ := P
      go_upto_region 28 with fail
      rw [← hW]
      clear hW c0 c1 c2 c3
      have s0 : ∀ q : Kp (fun _ => False) W, q.nx.cell? ⟨g, j * 3, none⟩ = some _ := fun q => q.cell e0 id
      have s1 : ∀ q : Kp (fun _ => False) W, q.nx.cell? ⟨g, j * 3 + 1, none⟩ = some _ := fun q => q.cell e1 id
      have s2 : ∀ q : Kp (fun _ => False) W, q.nx.cell? ⟨g, j * 3 + 2, none⟩ = some _ := fun q => q.cell e2 id
      have t0 : ∀ q : Kp (fun _ => False) W, q.nx.cell? ⟨wj.heap.size, 0, none⟩ = some _ := fun q => q.cell y0 id
      have t1 : ∀ q : Kp (fun _ => False) W, q.nx.cell? ⟨wj.heap.size, 1, none⟩ = some _ := fun q => q.cell y1 id
      have t2 : ∀ q : Kp (fun _ => False) W, q.nx.cell? ⟨wj.heap.size, 2, none⟩ = some _ := fun q => q.cell y2 id
      have t3 : ∀ q : Kp (fun _ => False) W, q.nx.cell? ⟨wj.heap.size, 3, none⟩ = some _ := fun q => q.cell y3 id
      have HHW : Hid (Calls Try.prog 27 #[.pointer (some ⟨b, 0, none⟩), .agg #[.int .u64 (p.1.toNat : Int), .int .u64 (p.2.1.toNat : Int), .int .u64 (p.2.2.toNat : Int)]] W.drew fun e w' => ∃ v, e = .returned v ∧ Rgs (fun _ => True) w' v R ∧ Below W.drew.heap.size W.drew w') := HHJ.out W.drew (bt HBW.out (drew_blx W _))
      refine wp_region_mox 16 (fun w' => ∃ q : Kp (fun _ => False) W, w' = q.nx) (by kernel_rfl) (by kernel_rfl) (kp_first _ W) ?_
      simp only [List.take_succ_cons, List.take_zero, List.drop_succ_cons, List.drop_zero]
      refine mx_take 6 rfl ?_
      simp only [List.take_succ_cons, List.take_zero, List.drop_succ_cons, List.drop_zero]
      repeat (go_big_quiet_step (fail))
      refine wpQuiet_nil ?_
      refine mx_val (u := .bool false) rfl (by kernel_rfl) (fun _ _ => exec_ne30_self' (x := p) rfl rfl rfl) ?_
      simp only [Act.put, List.setIfInBounds_toArray, List.set_cons_succ, List.set_cons_zero]
      refine mx_take 3 rfl ?_
      simp only [List.take_succ_cons, List.take_zero, List.drop_succ_cons, List.drop_zero]
      repeat (go_big_quiet_step (fail))
      refine wpQuiet_nil ?_
      refine mx_call (vals := [.pointer (some ⟨b, 0, none⟩), .agg #[.int .u64 (p.1.toNat : Int), .int .u64 (p.2.1.toNat : Int), .int .u64 (p.2.2.toNat : Int)]]) Try.func27 (by kernel_rfl) rfl rfl (by kernel_rfl) (by kernel_rfl) (HHW.out) (fun E wx hc => ?_)
      obtain ⟨ux, rfl, hrx, hbex⟩ := hc
      have HBX : Hid (Below W.heap.size W wx) := (drew_blx W _).trans hbex
      have HSX : Hid (Calls Try.prog 26 #[ux, .slice qa R.length qc] wx fun e w' => e = .returned (.bool true) ∧ Dn wx w') := sameR_any hrx (HRJ.out wx (bt HBW.out HBX.out))
      clear hrx hbex HHW
      refine ⟨_, rfl, kp_mk HBX.out.size fun b hb hx => HBX.out.block b hb, ?_⟩
      simp only [Act.put, List.setIfInBounds_toArray, List.set_cons_succ, List.set_cons_zero]
      refine mx_take 2 rfl ?_
      simp only [List.take_succ_cons, List.take_zero, List.drop_succ_cons, List.drop_zero]
      repeat (go_big_quiet_step (fail))
      refine wpQuiet_nil ?_
      refine mx_call (vals := [ux, .slice qa R.length qc]) Try.func26 (by kernel_rfl) rfl rfl (by kernel_rfl) (by kernel_rfl) (HSX.out) (fun E wy hc => ?_)
      obtain ⟨rfl, hdn⟩ := hc
      have HBY := Hid.mk' (bt HBX.out (hdn.below _))
      clear hdn HSX
      refine ⟨_, rfl, kp_mk HBY.out.size fun b hb hx => HBY.out.block b hb, ?_⟩
      simp only [Act.put, List.setIfInBounds_toArray, List.set_cons_succ, List.set_cons_zero]
      refine mx_take 2 rfl ?_
      simp only [List.take_succ_cons, List.take_zero, List.drop_succ_cons, List.drop_zero]
      repeat (go_big_quiet_step (fail))
      refine wpQuiet_nil ?_
      simp only [wpMix]
      clear s0 s1 s2 t0 t1 t2 t3 e0 e1 e2 y0 y1 y2 y3
      have HBN := Hid.mk' (bt HBW.out HBY.out)
      go_wp2_with fail
      go_roundw
      case rel => exact ⟨j + 1, by omega, by go_num, HBN⟩
      case measure => simp [intOf]; omega
end Go.Proofs.Yteejlmeinndlhaa
