/- The law LockOrders. -/
import Derived.Test.YteejlmeinndlhaaOR
import Derived.Test.YteejlmeinndlhaaLP
set_option linter.unusedVariables false
set_option linter.unusedSimpArgs false
namespace Go.Proofs.Yteejlmeinndlhaa
open Go.RowKit Go.Maps
attribute [local go_sem ↓] Go.wp_at_zero Go.wp_at_succ
theorem s25_hio (w : World) (b o n c h : Nat) (h1 : h ≤ n) (h2 : n ≤ c) (h3 : 0 < c) : (Instr.slice 25 (.slice (some ⟨b, o, none⟩) n c) none (some (.int .i64 (h : Int))) none).run Try.prog w = .ok (.slice (some ⟨b, o, none⟩) h c) w := by
  rw [run_slice_h w 25 _ n c (by kernel_rfl) .i64 (h : Int) (by omega) (by omega), Try.size25]
  simp only [Result.andThen, Int.toNat_natCast, Go.sliced, Nat.sub_zero]
  rw [if_neg (by omega), Option.map_some, Nat.zero_mul, addr_add]; rfl
set_option maxRecDepth 100000 in
set_option maxHeartbeats 8000000 in
theorem lockOrders_any {A : Nat → Prop} {w : World} {va vb vt : Value} {r s : Rg} {l : List Tx} (ha : RgIs A w va r) (hb : RgIs A w vb s) (ht : Txr A w vt l) : Calls Try.prog 3 #[va, vb, vt] w fun e w' => e = .returned (.bool true) ∧ Below w.heap.size w w' := by
  obtain ⟨fa, fc, ta, tc', rfl, h1, h2⟩ := ha.form
  obtain ⟨ga, gc, sa, sc, rfl, h3, h4⟩ := hb.form
  obtain ⟨W, hW, hbW, hc⟩ := two_boxes w (.slice fa r.lo.length fc) (.slice ta r.hi.length tc') (.bool r.xc) (.slice ga s.lo.length gc) (.slice sa s.hi.length sc) (.bool s.xc) 24
  have HB := Hid.mk' hbW
  have HC := Hid.mk' hc
  have HK : Hid (∀ wz, Below w.heap.size w wz → (Calls Try.prog 9 #[.agg #[.slice fa r.lo.length fc, .slice ta r.hi.length tc', .bool r.xc], .agg #[.slice ga s.lo.length gc, .slice sa s.hi.length sc, .bool s.xc]] wz fun e w' => e = .returned (.bool (clhB r s)) ∧ Below wz.heap.size wz w') ∧ (Calls Try.prog 10 #[.agg #[.slice fa r.lo.length fc, .slice ta r.hi.length tc', .bool r.xc], .agg #[.slice ga s.lo.length gc, .slice sa s.hi.length sc, .bool s.xc]] wz fun e w' => e = .returned (.bool (clhB r s)) ∧ Below wz.heap.size wz w') ∧ (Calls Try.prog 9 #[.agg #[.slice ga s.lo.length gc, .slice sa s.hi.length sc, .bool s.xc], .agg #[.slice fa r.lo.length fc, .slice ta r.hi.length tc', .bool r.xc]] wz fun e w' => e = .returned (.bool (clhB r s)) ∧ Below wz.heap.size wz w') ∧ (Calls Try.prog 11 #[.agg #[.slice fa r.lo.length fc, .slice ta r.hi.length tc', .bool r.xc], .agg #[.slice ga s.lo.length gc, .slice sa s.hi.length sc, .bool s.xc]] wz fun e w' => e = .returned (.bool (cvB r s)) ∧ Below wz.heap.size wz w') ∧ (Calls Try.prog 12 #[.agg #[.slice fa r.lo.length fc, .slice ta r.hi.length tc', .bool r.xc], .agg #[.slice ga s.lo.length gc, .slice sa s.hi.length sc, .bool s.xc]] wz fun e w' => e = .returned (.bool (cvB r s)) ∧ Below wz.heap.size wz w')) := fun wz hz => by
    have q1 := rclash_any (ha.up hz) (hb.up hz)
    have q2 := clash_any (hb.up hz) (ha.up hz)
    have q3 := rcovers_any (ha.up hz) (hb.up hz)
    rw [← clh_eq] at q1
    rw [clh_symm] at q2
    rw [← cv_eq] at q3
    exact ⟨clash_any (ha.up hz) (hb.up hz), q1, q2, covers_any (ha.up hz) (hb.up hz), q3⟩
  have HT := Hid.mk' ht
  obtain ⟨xa, xc', rfl, hxc, hat⟩ := ht.at
  have HAT := Hid.mk' hat
  have hxl : (l.length : Int) ≤ 140737488351232 := by have := ht.2; unfold lim at this; omega
  clear ha hb ht hat h1 h2 h3 h4 hbW hc
  generalize clhB r s = c at *
  generalize cvB r s = d at *
  generalize r.lo.length = n1 at *
  generalize r.hi.length = n2 at *
  generalize s.lo.length = n3 at *
  generalize s.hi.length = n4 at *
  generalize r.xc = p at *
  generalize s.xc = q at *
  go_enter Try.func3, Try.ntmps3
  go_wp2_with fail
  rw [← hW]
  clear hW
  refine (awake_any W).mono ?_
  rintro e w1 ⟨rfl, hb1⟩
  have HB1 := Hid.mk' (bt HB.out hb1)
  have c1 := HC.out w1 hb1
  obtain ⟨⟨x0, x1, x2⟩, ⟨y0, y1, y2⟩⟩ := c1
  clear hb1 HC
  go_upto_region 3 with fail
  have rx0 : ∀ q : Ups w1, q.nx.cell? ⟨w.heap.size, 0, none⟩ = some _ := fun q => cell_later q.ok x0
  have rx1 : ∀ q : Ups w1, q.nx.cell? ⟨w.heap.size, 1, none⟩ = some _ := fun q => cell_later q.ok x1
  have rx2 : ∀ q : Ups w1, q.nx.cell? ⟨w.heap.size, 2, none⟩ = some _ := fun q => cell_later q.ok x2
  have ry0 : ∀ q : Ups w1, q.nx.cell? ⟨w.heap.size + 1, 0, none⟩ = some _ := fun q => cell_later q.ok y0
  have ry1 : ∀ q : Ups w1, q.nx.cell? ⟨w.heap.size + 1, 1, none⟩ = some _ := fun q => cell_later q.ok y1
  have ry2 : ∀ q : Ups w1, q.nx.cell? ⟨w.heap.size + 1, 2, none⟩ = some _ := fun q => cell_later q.ok y2
  clear x0 x1 x2 y0 y1 y2
  refine wp_region_free 25 Up (fun w' => ∃ q : Ups w1, w' = q.nx) (ul [(16, UL.is (.bool c)), (19, UL.is (.bool c)), (24, UL.is (.bool c)), (27, UL.is (.bool c)), (33, UL.is (.bool d)), (36, UL.is (.bool d))]) (by kernel_rfl) (by kernel_rfl) (ul_ck _) (up_first w1) ?_
  simp only [List.take_succ_cons, List.take_zero, List.drop_succ_cons, List.drop_zero]
  refine wf_take 2 rfl ?_
  simp only [List.take_succ_cons, List.take_zero, List.drop_succ_cons, List.drop_zero]
  repeat (go_big_quiet_step (fail))
  refine wpQuiet_nil ?_
  refine wf_call (V := (UL.is (.bool c)).1) (vals := [.agg #[.slice fa n1 fc, .slice ta n2 tc', .bool p], .agg #[.slice ga n3 gc, .slice sa n4 sc, .bool q]]) Try.func9 (by kernel_rfl) rfl rfl (by kernel_rfl) (by kernel_rfl) (by kernel_rfl) (fun w2 hC _ => ?_) (fun u1 ho1 => ?_)
  · obtain ⟨qq, rfl⟩ := hC
    exact is_free (HK.out qq.nx (bt HB1.out qq.ok)).1
  cases ho1
  simp only [Act.put, List.setIfInBounds_toArray, List.set_cons_succ, List.set_cons_zero]
  refine wf_take 2 rfl ?_
  simp only [List.take_succ_cons, List.take_zero, List.drop_succ_cons, List.drop_zero]
  repeat (go_big_quiet_step (fail))
  refine wpQuiet_nil ?_
  refine wf_call (V := (UL.is (.bool c)).1) (vals := [.agg #[.slice fa n1 fc, .slice ta n2 tc', .bool p], .agg #[.slice ga n3 gc, .slice sa n4 sc, .bool q]]) Try.func10 (by kernel_rfl) rfl rfl (by kernel_rfl) (by kernel_rfl) (by kernel_rfl) (fun w2 hC _ => ?_) (fun u1 ho1 => ?_)
  · obtain ⟨qq, rfl⟩ := hC
    exact is_free (HK.out qq.nx (bt HB1.out qq.ok)).2.1
  cases ho1
  simp only [Act.put, List.setIfInBounds_toArray, List.set_cons_succ, List.set_cons_zero]
  refine wf_take 4 rfl ?_
  simp only [List.take_succ_cons, List.take_zero, List.drop_succ_cons, List.drop_zero]
  repeat (go_big_quiet_step (fail))
  refine wpQuiet_nil ?_
  refine wf_call (V := (UL.is (.bool c)).1) (vals := [.agg #[.slice ga n3 gc, .slice sa n4 sc, .bool q], .agg #[.slice fa n1 fc, .slice ta n2 tc', .bool p]]) Try.func9 (by kernel_rfl) rfl rfl (by kernel_rfl) (by kernel_rfl) (by kernel_rfl) (fun w2 hC _ => ?_) (fun u1 ho1 => ?_)
  · obtain ⟨qq, rfl⟩ := hC
    exact is_free (HK.out qq.nx (bt HB1.out qq.ok)).2.2.1
  cases ho1
  simp only [Act.put, List.setIfInBounds_toArray, List.set_cons_succ, List.set_cons_zero]
  refine wf_take 2 rfl ?_
  simp only [List.take_succ_cons, List.take_zero, List.drop_succ_cons, List.drop_zero]
  repeat (go_big_quiet_step (fail))
  refine wpQuiet_nil ?_
  refine wf_call (V := (UL.is (.bool c)).1) (vals := [.agg #[.slice fa n1 fc, .slice ta n2 tc', .bool p], .agg #[.slice ga n3 gc, .slice sa n4 sc, .bool q]]) Try.func9 (by kernel_rfl) rfl rfl (by kernel_rfl) (by kernel_rfl) (by kernel_rfl) (fun w2 hC _ => ?_) (fun u1 ho1 => ?_)
  · obtain ⟨qq, rfl⟩ := hC
    exact is_free (HK.out qq.nx (bt HB1.out qq.ok)).1
  cases ho1
  simp only [Act.put, List.setIfInBounds_toArray, List.set_cons_succ, List.set_cons_zero]
  refine wf_take 5 rfl ?_
  simp only [List.take_succ_cons, List.take_zero, List.drop_succ_cons, List.drop_zero]
  repeat (go_big_quiet_step (fail))
  refine wpQuiet_nil ?_
  refine wf_call (V := (UL.is (.bool d)).1) (vals := [.agg #[.slice fa n1 fc, .slice ta n2 tc', .bool p], .agg #[.slice ga n3 gc, .slice sa n4 sc, .bool q]]) Try.func11 (by kernel_rfl) rfl rfl (by kernel_rfl) (by kernel_rfl) (by kernel_rfl) (fun w2 hC _ => ?_) (fun u1 ho1 => ?_)
  · obtain ⟨qq, rfl⟩ := hC
    exact is_free (HK.out qq.nx (bt HB1.out qq.ok)).2.2.2.1
  cases ho1
  simp only [Act.put, List.setIfInBounds_toArray, List.set_cons_succ, List.set_cons_zero]
  refine wf_take 2 rfl ?_
  simp only [List.take_succ_cons, List.take_zero, List.drop_succ_cons, List.drop_zero]
  repeat (go_big_quiet_step (fail))
  refine wpQuiet_nil ?_
  refine wf_call (V := (UL.is (.bool d)).1) (vals := [.agg #[.slice fa n1 fc, .slice ta n2 tc', .bool p], .agg #[.slice ga n3 gc, .slice sa n4 sc, .bool q]]) Try.func12 (by kernel_rfl) rfl rfl (by kernel_rfl) (by kernel_rfl) (by kernel_rfl) (fun w2 hC _ => ?_) (fun u1 ho1 => ?_)
  · obtain ⟨qq, rfl⟩ := hC
    exact is_free (HK.out qq.nx (bt HB1.out qq.ok)).2.2.2.2
  cases ho1
  simp only [Act.put, List.setIfInBounds_toArray, List.set_cons_succ, List.set_cons_zero]
  refine wf_take 2 rfl ?_
  simp only [List.take_succ_cons, List.take_zero, List.drop_succ_cons, List.drop_zero]
  repeat (go_big_quiet_step (fail))
  refine wpQuiet_nil ?_
  intro w2 hC hK2
  obtain ⟨qq, hq⟩ := hC
  have HB2 : Hid (Below w.heap.size w w2) := by rw [hq]; exact bt HB1.out qq.ok
  clear hq hK2 rx0 rx1 rx2 ry0 ry1 ry2 qq HB1 HK HB
  go_wp2_with fail
  go_loopw [41] (fun i wr => ∃ k : Nat, k ≤ l.length ∧ i = .int .i64 k ∧ Hid (Below w.heap.size w wr)) (fun i _ => l.length - (intOf i).toNat)
  case atStart => exact ⟨0, by omega, rfl, HB2⟩
  case round =>
    clear HB2
    obtain ⟨k, hk, rfl, HB2⟩ := hrel
    by_cases hlt : k < l.length
    · have hlt' : (k : Int) < (l.length : Int) := by omega
      obtain ⟨bb, of, rfl, _, e0, e1, e2⟩ := HAT.out k hlt
      have e0 := cell_up e0 HB2.out
      have e1 := cell_up e1 HB2.out
      have e2 := cell_up e2 HB2.out
      obtain ⟨W3, hW3, hbW3, hcW3⟩ := one_box wr (.int .u64 (l[k].1.toNat : Int)) (.int .u64 (l[k].2.1.toNat : Int)) (.int .u64 (l[k].2.2.toNat : Int)) 30
      have HCW3 := Hid.mk' hcW3
      have HB3 := Hid.mk' (bt HB2.out hbW3)
      have HBR : Hid (Below W3.heap.size W3 W3) := Below.refl _ _
      have hmin : min k 20 ≤ l.length := by omega
      have HMIN := Hid.mk' hmin
      have hsl := fun w => s25_hio w bb of l.length xc' (min k 20) hmin hxc (by omega)
      have hmn : (min (k : Int) 20) = ((min k 20 : Nat) : Int) := by omega
      have hm2 : ((min k 20 : Nat) : Int) ≤ 20 := by omega
      have hm0 : (0 : Int) ≤ ((min k 20 : Nat) : Int) := by omega
      clear hbW3 hcW3 hmin
      generalize l[k] = x at *
      generalize min k 20 = mk at *
      generalize hx1 : (x.1.toNat : Int) = m1 at *
      generalize hx2 : (x.2.1.toNat : Int) = m2 at *
      generalize hx3 : (x.2.2.toNat : Int) = m3 at *
      have HX1 := Hid.mk' hx1
      have HX2 := Hid.mk' hx2
      have HX3 := Hid.mk' hx3
      clear hx1 hx2 hx3
      go_wp2_with fail
      rw [← hW3]
      clear hW3 e0 e1 e2
      go_loopw [51] (fun i wq => ∃ j : Nat, j ≤ mk ∧ i = .int .i64 j ∧ Hid (Below w.heap.size w wq) ∧ Hid (Below W3.heap.size W3 wq)) (fun i _ => mk - (intOf i).toNat)
      case atStart => exact ⟨0, by omega, rfl, HB3, HBR⟩
      case round =>
        clear HB3 HBR
        obtain ⟨j, hj, rfl, HB3, HBR⟩ := hrel
        by_cases hlj : j < mk
        · have hlj' : (j : Int) < (mk : Int) := by omega
          have hjl : j < l.length := by have := HMIN.out; omega
          obtain ⟨bb2, of2, he, _, e0, e1, e2⟩ := HAT.out j hjl
          cases he
          have e0 := cell_up e0 HB3.out
          have e1 := cell_up e1 HB3.out
          have e2 := cell_up e2 HB3.out
          obtain ⟨W4, hW4, hbW4, hcW4⟩ := one_box wr (.int .u64 (l[j].1.toNat : Int)) (.int .u64 (l[j].2.1.toNat : Int)) (.int .u64 (l[j].2.2.toNat : Int)) 30
          have HCW4 := Hid.mk' hcW4
          have HB4 := Hid.mk' (bt HB3.out hbW4)
          have HBR4 := Hid.mk' (bt HBR.out hbW4)
          have hcs := tx_cases x l[j]
          have hz0 : decide (x = l[j]) = true ↔ tcmp x l[j] = 0 := by rw [decide_eq_true_eq, tcmp_zero]
          have hzb := tcmp_bd x l[j]
          have HT13 : Hid (∀ wz, Calls Try.prog 13 #[.agg #[.int .u64 (x.1.toNat : Int), .int .u64 (x.2.1.toNat : Int), .int .u64 (x.2.2.toNat : Int)], .agg #[.int .u64 (l[j].1.toNat : Int), .int .u64 (l[j].2.1.toNat : Int), .int .u64 (l[j].2.2.toNat : Int)]] wz fun e w' => e = .returned (.int .i64 (tcmp x l[j])) ∧ Below wz.heap.size wz w') := fun wz => tcompare_any x l[j] wz
          have HT31 : Hid (∀ wz, Calls Try.prog 13 #[.agg #[.int .u64 (l[j].1.toNat : Int), .int .u64 (l[j].2.1.toNat : Int), .int .u64 (l[j].2.2.toNat : Int)], .agg #[.int .u64 (x.1.toNat : Int), .int .u64 (x.2.1.toNat : Int), .int .u64 (x.2.2.toNat : Int)]] wz fun e w' => e = .returned (.int .i64 (-tcmp x l[j])) ∧ Below wz.heap.size wz w') := fun wz => by rw [← tcmp_neg]; exact tcompare_any l[j] x wz
          have HT14 : Hid (∀ wz, Calls Try.prog 14 #[.agg #[.int .u64 (x.1.toNat : Int), .int .u64 (x.2.1.toNat : Int), .int .u64 (x.2.2.toNat : Int)], .agg #[.int .u64 (l[j].1.toNat : Int), .int .u64 (l[j].2.1.toNat : Int), .int .u64 (l[j].2.2.toNat : Int)]] wz fun e w' => e = .returned (.bool (decide (tcmp x l[j] < 0))) ∧ Below wz.heap.size wz w') := fun wz => by
            rw [show decide (tcmp x l[j] < 0) = tltB x l[j] by rw [Bool.eq_iff_iff, decide_eq_true_eq, tcmp_lt]]
            exact before_any x l[j] wz
          clear hcW4 hbW4
          simp only [HX1.out, HX2.out, HX3.out] at hcs HT13 HT31 HT14
          generalize tcmp x l[j] = zz at *
          generalize (l[j].1.toNat : Int) = k1 at *
          generalize (l[j].2.1.toNat : Int) = k2 at *
          generalize (l[j].2.2.toNat : Int) = k3 at *
          generalize decide (x = l[j]) = dd at *
          obtain ⟨hzb1, hzb2⟩ := hzb
          have hzn : ¬ zz < -1 := by omega
          rcases hcs with ⟨rfl, rfl, rfl, rfl⟩ | ⟨rfl, hcs⟩
          · have hq := hz0.1 rfl
            have hq' : (zz == 0) = true := by simpa using hq
            clear hz0 hq
            obtain ⟨x0, x1, x2⟩ := HCW3.out wr HBR.out
            have hlt3 : _ < wr.heap.size := World.block_lt_of_cell? wr ⟨_, 0, none⟩ x0
            go_wp2_with fail
            rw [← hW4]
            clear hW4 e0 e1 e2 hlt3
            refine (HT13.out W4).mono ?_
            rintro e w5 ⟨rfl, hb5⟩
            have HB5 := Hid.mk' (bt HB4.out hb5)
            have HR5 := Hid.mk' (bt HBR4.out hb5)
            have HS5 := Hid.mk' hb5
            clear hb5 x0 x1 x2
            obtain ⟨z0, z1, z2⟩ := HCW4.out w5 HS5.out
            obtain ⟨x0, x1, x2⟩ := HCW3.out w5 HR5.out
            go_wp2_with fail
            refine (HT14.out w5).mono ?_
            rintro e w6 ⟨rfl, hb6⟩
            have HB6 := Hid.mk' (bt HB5.out hb6)
            have HR6 := Hid.mk' (bt HR5.out hb6)
            have HS6 := Hid.mk' (bt HS5.out hb6)
            clear hb6 z0 z1 z2 x0 x1 x2
            obtain ⟨z0, z1, z2⟩ := HCW4.out w6 HS6.out
            obtain ⟨x0, x1, x2⟩ := HCW3.out w6 HR6.out
            go_wp2_with fail
            refine (HT31.out w6).mono ?_
            rintro e w7 ⟨rfl, hb7⟩
            have HB7 := Hid.mk' (bt HB6.out hb7)
            have HR7 := Hid.mk' (bt HR6.out hb7)
            clear hb7 z0 z1 z2 x0 x1 x2
            go_wp2_with fail
            go_roundw
            case rel => exact ⟨j + 1, by omega, by go_num, HB7, HR7⟩
            case measure => simp [intOf]; omega
          · have hq : zz ≠ 0 := fun e => by have := hz0.2 e; cases this
            have hq' : (zz == 0) = false := by simpa using hq
            clear hz0 hq
            rcases hcs with hn1 | ⟨rfl, hn1⟩ | ⟨rfl, rfl, hn1⟩
            all_goals
              obtain ⟨x0, x1, x2⟩ := HCW3.out wr HBR.out
              have hlt3 : _ < wr.heap.size := World.block_lt_of_cell? wr ⟨_, 0, none⟩ x0
              go_wp2_with fail
              rw [← hW4]
              clear hW4 e0 e1 e2 hlt3
              refine (HT13.out W4).mono ?_
              rintro e w5 ⟨rfl, hb5⟩
              have HB5 := Hid.mk' (bt HB4.out hb5)
              have HR5 := Hid.mk' (bt HBR4.out hb5)
              have HS5 := Hid.mk' hb5
              clear hb5 x0 x1 x2
              obtain ⟨z0, z1, z2⟩ := HCW4.out w5 HS5.out
              obtain ⟨x0, x1, x2⟩ := HCW3.out w5 HR5.out
              go_wp2_with fail
              refine (HT14.out w5).mono ?_
              rintro e w6 ⟨rfl, hb6⟩
              have HB6 := Hid.mk' (bt HB5.out hb6)
              have HR6 := Hid.mk' (bt HR5.out hb6)
              have HS6 := Hid.mk' (bt HS5.out hb6)
              clear hb6 z0 z1 z2 x0 x1 x2
              obtain ⟨z0, z1, z2⟩ := HCW4.out w6 HS6.out
              obtain ⟨x0, x1, x2⟩ := HCW3.out w6 HR6.out
              go_wp2_with fail
              refine (HT31.out w6).mono ?_
              rintro e w7 ⟨rfl, hb7⟩
              have HB7 := Hid.mk' (bt HB6.out hb7)
              have HR7 := Hid.mk' (bt HR6.out hb7)
              clear hb7 z0 z1 z2 x0 x1 x2
              go_wp2_with fail
              go_roundw
              case rel => exact ⟨j + 1, by omega, by go_num, HB7, HR7⟩
              case measure => simp [intOf]; omega
        · obtain rfl : j = mk := by omega
          by_cases h20 : 20 < k
          · have h20' : (20 : Int) < (k : Int) := by omega
            go_wp2_with fail
            go_ret
            exact ⟨rfl, HB3.out⟩
          · have h20' : ¬ (20 : Int) < (k : Int) := by omega
            go_wp2_with fail
            go_roundw
            case rel => exact ⟨k + 1, by omega, by go_num, HB3⟩
            case measure => simp [intOf]; omega
    · obtain rfl : k = l.length := by omega
      go_wp2_with fail
      go_ret
      exact ⟨rfl, HB2.out⟩
end Go.Proofs.Yteejlmeinndlhaa
