/- The law LockKeeps. -/
import Derived.Test.YteejlmeinndlhaaHE
import Derived.Test.YteejlmeinndlhaaOR
import Derived.Test.YteejlmeinndlhaaLP
set_option linter.unusedVariables false
set_option linter.unusedSimpArgs false
namespace Go.Proofs.Yteejlmeinndlhaa
open Go.RowKit Go.Maps
attribute [local go_sem ↓] Go.wp_at_zero Go.wp_at_succ
theorem Ob.up' {e : TypeId} {B : Nat} {w w' : World} {v : Value} {l : List UInt8} (h : Ob e B w v l) (hb : Below w.heap.size w w') : Ob e B w' v l := own_keep h hb (Nat.le_refl _)
theorem heP_one {w w' : World} {r : Rg} {e : Ending} (h : HeP w [r] e w') : ∃ g c f t, e = .returned (.slice (some ⟨g, 0, none⟩) 1 c) ∧ (w'.cell? ⟨g, 0, none⟩ = some f ∧ w'.cell? ⟨g, 1, none⟩ = some t ∧ w'.cell? ⟨g, 2, none⟩ = some (.bool r.xc)) ∧ Ob 5 w.heap.size w' f r.lo ∧ Ob 5 w.heap.size w' t r.hi ∧ (∀ k, f.ownBlock = some k → t.ownBlock ≠ some k) ∧ w.heap.size ≤ g ∧ Below w.heap.size w w' := by
  obtain ⟨v, L, rfl, hL, ⟨ho, hq, _⟩, hb⟩ := h
  obtain ⟨q, rfl, rfl⟩ : ∃ q, L = [q] ∧ q.1 = r := by
    match L, hL with
    | [q], hL => exact ⟨q, rfl, by simpa using hL⟩
  obtain ⟨f1, f2, _, _, f3, f4⟩ := hq q (by simp)
  have ho' := ho
  obtain ⟨_, ⟨_, h0⟩ | ⟨g, cap, cur, rfl, hBg, _⟩⟩ := ho'
  · cases h0
  · have c := fun j hj => World.ownsRow.cellAt ho j hj
    exact ⟨g, cap, q.2.1, q.2.2, rfl, ⟨c 0 (by simp), c 1 (by simp), c 2 (by simp)⟩, f1, f2, f3, hBg, hb⟩
theorem keeps_plain {a b : By} (h : rck [⟨a, b, false⟩] = 0) : a.length ≤ 65 ∧ b.length ≤ 65 ∧ askT [] xa [⟨a, b, true⟩] = (0, [(xa, [⟨a, b, true⟩])]) := by
  have hn := cmp_neg a b
  have h0 : a.length ≤ 65 ∧ b.length ≤ 65 ∧ ckR ⟨a, b, true⟩ = 0 := by
    unfold rck at h
    unfold ckR
    simp only [List.length_cons, List.length_nil, rcg, szB, fqB, Bool.or_eq_true, Bool.and_eq_true, decide_eq_true_eq] at h ⊢
    rw [hn] at h
    split at h
    · omega
    · split at h
      · cases h
      · split at h
        · cases h
        · refine ⟨by omega, by omega, ?_⟩
          rw [if_neg (by omega), if_neg (by omega)]
  refine ⟨h0.1, h0.2.1, ?_⟩
  have hw : worstB [⟨a, b, true⟩] = 0 := by
    unfold worstB
    rw [if_neg (by simp), wst_cons, if_neg (by rw [h0.2.2]; simp)]; rfl
  unfold askT
  rw [if_neg (by rw [hw]; simp), if_neg (by simp [rivT, Stay])]
  rfl
set_option maxRecDepth 100000 in
set_option maxHeartbeats 8000000 in
theorem lockKeeps_any {A A' : Nat → Prop} {w : World} {va vb : Value} {a b : By} (ha : Bs A w va a) (hb : Bs A' w vb b) : Calls Try.prog 6 #[va, vb] w fun e w' => e = .returned (.bool true) ∧ Below w.heap.size w w' := by
  obtain ⟨aa, ac, rfl, _⟩ := ha.at
  obtain ⟨ba, bc, rfl, _⟩ := hb.at
  have HA := Hid.mk' ha.andLt
  have HB := Hid.mk' hb.andLt
  clear ha hb
  go_enter Try.func6, Try.ntmps6
  go_wp2_with fail
  refine (awake_any w).mono ?_
  rintro e w1 ⟨rfl, hb1⟩
  have H1 := Hid.mk' hb1
  have HCK := Hid.mk' (rcheck_any ((rgs_one (r := ⟨a, b, false⟩) ((HA.out.up hb1).monoS fun _ _ => trivial) ((HB.out.up hb1).monoS fun _ _ => trivial))))
  clear hb1
  go_wp2_with fail
  refine HCK.out.mono ?_
  rintro e w2 ⟨rfl, hd2⟩
  have H2 := Hid.mk' (bt H1.out (bt (up_alloc w1 (.cells #[.slice aa a.length ac, .slice ba b.length bc, .bool false] 24)) (hd2.below _)))
  clear hd2 HCK
  by_cases hz : rck [⟨a, b, false⟩] = 0
  case neg =>
    have hz' : (rck [⟨a, b, false⟩] == 0) = false := by simpa using hz
    have hz'' : (rck [⟨a, b, false⟩] != 0) = true := by simpa using hz
    go_wp2_with fail
    go_ret
    exact ⟨rfl, H2.out⟩
  obtain ⟨hla, hlb, hask⟩ := keeps_plain hz
  have hz' : (rck [⟨a, b, false⟩] == 0) = true := by simpa using hz
  have hz'' : (rck [⟨a, b, false⟩] != 0) = false := by simpa using hz
  have HAS := Hid.mk' hask
  obtain ⟨W2, hW2⟩ : ∃ W2, W2 = w2.alloc (.cells #[.map none] 37) := ⟨_, rfl⟩
  have hs2 : W2.heap.size = w2.heap.size + 1 := by rw [hW2]; simp
  have hbW2 : Below w2.heap.size w2 W2 := by rw [hW2]; exact up_alloc _ _
  have e2 : W2.heap[w2.heap.size]? = some (.cells #[.map none] 37 (0, 0)) := by rw [hW2]; exact heap_alloc_new w2 _
  have HSP := Hid.mk' (spare_any ((HA.out.up H2.out).up hbW2) (by omega))
  have HE2 := Hid.mk' e2
  have HBW2 := Hid.mk' (bt H2.out hbW2)
  have HS2 := Hid.mk' hs2
  clear hask hs2 hbW2 e2
  go_wp2_with fail
  rw [← hW2]
  clear hW2 hz hz' hz''
  go_wp2_with fail
  refine HSP.out.mono ?_
  rintro e w3 ⟨rfl, o3, b3⟩
  have O3 := Hid.mk' o3
  have B3 := Hid.mk' b3
  have HSP2 := Hid.mk' (spare_any (HB.out.up (bt HBW2.out b3)) (by omega))
  clear o3 b3 HSP
  go_wp2_with fail
  refine HSP2.out.mono ?_
  rintro e w4 ⟨rfl, o4, b4⟩
  obtain ⟨W4, hW4⟩ : ∃ W4, W4 = (w4.alloc (.cells #[.slice (some ⟨W2.heap.size, 0, none⟩) a.length (a.length + 33), .slice (some ⟨w3.heap.size, 0, none⟩) b.length (b.length + 33), .bool true] 24)).alloc (.cells #[.int .u64 0, .int .u64 0, .int .u64 1] 30) := ⟨_, rfl⟩
  have hb44 : Below w4.heap.size w4 W4 := by rw [hW4]; exact bt (up_alloc _ _) (up_alloc _ _)
  have hs4 : W4.heap.size = w4.heap.size + 1 + 1 := by rw [hW4]; simp
  have ebx : W4.heap[w4.heap.size + 1]? = some (.cells #[.int .u64 0, .int .u64 0, .int .u64 1] 30 (0, 0)) := by
    rw [hW4]
    have := heap_alloc_new (w4.alloc (.cells #[.slice (some ⟨W2.heap.size, 0, none⟩) a.length (a.length + 33), .slice (some ⟨w3.heap.size, 0, none⟩) b.length (b.length + 33), .bool true] 24)) (.cells #[.int .u64 0, .int .u64 0, .int .u64 1] 30)
    rwa [World.size_alloc] at this
  have hg3 : w3.heap.size < w4.heap.size := (Ob.lt o4 _ rfl).2
  have hg2 : W2.heap.size < w3.heap.size := (Ob.lt O3.out _ rfl).2
  have p3 := own_pre (m := a.length) (O3.out.keep b4 (Nat.le_refl _)) (by omega)
  rw [sp_take] at p3
  have p4 := own_pre (m := b.length) o4 (by omega)
  rw [sp_take] at p4
  have hbs3 := p3.bs (by unfold lim; omega)
  have hbs4 := p4.bs (by unfold lim; omega)
  have hrg : Rgs (fun _ => True) W4 (.slice (some ⟨w4.heap.size, 0, none⟩) 1 1) [⟨a, b, true⟩] := by
    rw [hW4]
    exact (rgs_one (r := ⟨a, b, true⟩) hbs3 hbs4).up (up_alloc _ _)
  have hb0 : W4.heap[w2.heap.size]? = some (.cells #[.map none] 37 (0, 0)) := by
    have h2 := B3.out.size
    have h3 := b4.size
    have h4 := HS2.out
    rw [hb44.block _ (by omega), b4.block _ (by omega), B3.out.block _ (by omega)]
    exact HE2.out
  have haw : AwS W4 W4 w2.heap.size [] := ⟨fun _ => False, fun _ => False, fun _ h => h.elim, fun _ h => h.elim, ⟨⟨none, hb0, .inl ⟨rfl, rfl⟩⟩, fun _ h => h.elim, fun _ h => h.elim⟩, Wb.refl _ _⟩
  have hask : Calls Try.prog 21 #[.pointer (some ⟨w2.heap.size, 0, none⟩), .agg #[.int .u64 0, .int .u64 0, .int .u64 1], .slice (some ⟨w4.heap.size, 0, none⟩) 1 1] W4 fun e w' => e = .returned (.int .i64 0) ∧ AwS W4 w' w2.heap.size [(xa, [⟨a, b, true⟩])] ∧ W4.heap.size ≤ w'.heap.size := by
    have := haw.ask (x := xa) hrg (by decide) (by decide)
    rw [HAS.out] at this
    exact this
  have HASK := Hid.mk' hask
  have O3' := Hid.mk' ((O3.out.keep b4 (Nat.le_refl _)).keep hb44 (Nat.le_refl _))
  have O4 := Hid.mk' (o4.keep hb44 (Nat.le_refl _))
  have HG : Hid (w2.heap.size < W2.heap.size ∧ W2.heap.size < w3.heap.size ∧ w3.heap.size < w4.heap.size ∧ W4.heap.size = w4.heap.size + 1 + 1) := ⟨by rw [HS2.out]; omega, hg2, hg3, hs4⟩
  have HBW4 := Hid.mk' (bt HBW2.out (bt (bt B3.out b4) hb44))
  have bx := box3 ebx
  have HEBX := Hid.mk' ebx
  obtain ⟨x0, x1, x2⟩ := bx
  clear hb44 hs4 ebx hg3 hg2 p3 p4 hbs3 hbs4 hrg hb0 haw hask o4 b4 HSP2 O3 HE2
  go_wp2_with fail
  rw [← hW4]
  clear hW4
  go_wp2_with fail
  refine HASK.out.mono ?_
  rintro e w5 ⟨rfl, haw, hs5⟩
  obtain ⟨M, D, hM, hD, ht5, hw45⟩ := haw
  have HG0 : Hid (w.heap.size ≤ w2.heap.size) := H2.out.size
  have HM := Hid.mk' hM
  have HD := Hid.mk' hD
  have HS5 := Hid.mk' hs5
  have HT5 := Hid.mk' ht5
  have H5 := Hid.mk' (HBW4.out.trans (hw45.below HBW4.out.size fun k hk => by subst hk; exact HG0.out))
  have O5a : Hid (Ob 5 W2.heap.size w5 (.slice (some ⟨W2.heap.size, 0, none⟩) (a.length + 33) (a.length + 33)) (full a)) := own_wb O3'.out hw45 fun k hk e => by cases e; have hk : W2.heap.size = w2.heap.size := hk; have := HG.out.1; omega
  have O5b : Hid (Ob 5 w3.heap.size w5 (.slice (some ⟨w3.heap.size, 0, none⟩) (b.length + 33) (b.length + 33)) (full b)) := own_wb O4.out hw45 fun k hk e => by cases e; have hk : w3.heap.size = w2.heap.size := hk; have := HG.out; omega
  have E5 : Hid (w5.heap[w4.heap.size + 1]? = some (.cells #[.int .u64 0, .int .u64 0, .int .u64 1] 30 (0, 0))) := (hw45.block _ (by have := HG.out.2.2.2; omega) (by have := HG.out; omega)).trans HEBX.out
  clear hM hD ht5 hw45 hs5 x0 x1 x2 HASK O3' O4 HEBX HBW4
  go_wp2_with fail
  refine (kept_any (O5a.out.bs (by rw [full_len]; unfold lim; omega)) (HA.out.up H5.out) (by omega)).mono ?_
  rintro e w6 ⟨rfl, b6⟩
  have B6 := Hid.mk' b6
  clear b6
  go_wp2_with fail
  refine (kept_any ((O5b.out.up' B6.out).bs (by rw [full_len]; unfold lim; omega)) (HB.out.up (bt H5.out B6.out)) (by omega)).mono ?_
  rintro e w7 ⟨rfl, b7⟩
  have B7 := Hid.mk' (bt B6.out b7)
  have HO7 := Hid.mk' (over_pre (l := full a) (n := a.length) (c := a.length + 33) (C := a.length + 33) (g := W2.heap.size) (by rw [full_len]; exact O5a.out.up' B7.out) (by rw [full_len]; omega) (by rw [full_len]; unfold lim; omega))
  clear b7 B6
  go_wp2_with fail
  refine HO7.out.mono ?_
  rintro e w8 ⟨rfl, o8, hw8⟩
  have O8a := Hid.mk' o8
  have HW8 := Hid.mk' hw8
  have O8b : Hid (Ob 5 w3.heap.size w8 (.slice (some ⟨w3.heap.size, 0, none⟩) (b.length + 33) (b.length + 33)) (full b)) := own_wb (O5b.out.up' B7.out) hw8 fun k hk e => by cases e; have hk : w3.heap.size = W2.heap.size := hk; have := HG.out; omega
  have HO8 := Hid.mk' (over_pre (l := full b) (n := b.length) (c := b.length + 33) (C := b.length + 33) (g := w3.heap.size) (by rw [full_len]; exact O8b.out) (by rw [full_len]; omega) (by rw [full_len]; unfold lim; omega))
  clear o8 hw8 HO7
  go_wp2_with fail
  refine HO8.out.mono ?_
  rintro e w9 ⟨rfl, o9, hw9⟩
  have O9b := Hid.mk' o9
  have O9a : Hid (Ob 5 W2.heap.size w9 (.slice (some ⟨W2.heap.size, 0, none⟩) (full a).length (a.length + 33)) (ovr a.length (full a))) := own_wb O8a.out hw9 fun k hk e => by cases e; have hk : W2.heap.size = w3.heap.size := hk; have := HG.out; omega
  have hT9 : TbIs M D w9 w2.heap.size [(xa, [⟨a, b, true⟩])] := ((HT5.out.below B7.out).keep HW8.out fun k hk => by
    subst hk
    exact ⟨fun h => by have := HM.out _ h; have := HG.out; omega, fun h => by have := HD.out _ h; have := HG.out; omega, by have := HG.out; omega⟩).keep hw9 fun k hk => by
    subst hk
    exact ⟨fun h => by have := HM.out _ h; have := HG.out; omega, fun h => by have := HD.out _ h; have := HG.out; omega, by have := HG.out; omega⟩
  have hs75 := B7.out.size
  have hs87 := HW8.out.size
  have hs98 := hw9.size
  have hg := HG.out
  have hg0 := HG0.out
  have h55 := HS5.out
  have H9 : Hid (Below w.heap.size w w9) := ((bt H5.out B7.out).trans (HW8.out.below (bt H5.out B7.out).size fun k hk => by subst hk; omega)).trans (hw9.below (by have := (bt H5.out B7.out).size; omega) fun k hk => by subst hk; omega)
  have E9 : Hid (w9.heap[w4.heap.size + 1]? = some (.cells #[.int .u64 0, .int .u64 0, .int .u64 1] 30 (0, 0))) := (hw9.block _ (by omega) (by omega)).trans ((HW8.out.block _ (by omega) (by omega)).trans ((B7.out.block _ (by omega)).trans E5.out))
  have HS9 : Hid (W4.heap.size ≤ w9.heap.size) := by show _ ≤ _; omega
  have HT9 := Hid.mk' hT9
  clear o9 hw9 HO8 hT9 O8a O8b HW8 HT5 B7 E5 O5a O5b H5 hs75 hs87 hs98 hg hg0 h55
  go_upto_region 14 with fail
  have HHE : Hid (∀ wz, Below w9.heap.size w9 wz → Calls Try.prog 27 #[.pointer (some ⟨w2.heap.size, 0, none⟩), .agg #[.int .u64 0, .int .u64 0, .int .u64 1]] wz (HeP wz [⟨a, b, true⟩])) := fun wz hz => held_any (x := xa) (HT9.out.below hz) (by show 1 ≤ _; decide)
  obtain ⟨x0, x1, x2⟩ := box3 E9.out
  have rx0 : ∀ q : Kp (fun _ => False) w9, q.nx.cell? ⟨w4.heap.size + 1, 0, none⟩ = some _ := fun q => q.cell x0 id
  have rx1 : ∀ q : Kp (fun _ => False) w9, q.nx.cell? ⟨w4.heap.size + 1, 1, none⟩ = some _ := fun q => q.cell x1 id
  have rx2 : ∀ q : Kp (fun _ => False) w9, q.nx.cell? ⟨w4.heap.size + 1, 2, none⟩ = some _ := fun q => q.cell x2 id
  refine wp_region_mix 6 (fun w' => ∃ q : Kp (fun _ => False) w9, w' = q.nx) (by kernel_rfl) (by kernel_rfl) (kp_first _ w9) ?_
  simp only [List.take_succ_cons, List.take_zero, List.drop_succ_cons, List.drop_zero]
  refine mx_take 1 rfl ?_
  simp only [List.take_succ_cons, List.take_zero, List.drop_succ_cons, List.drop_zero]
  repeat (go_big_quiet_step (fail))
  refine wpQuiet_nil ?_
  refine mx_call (vals := [.pointer (some ⟨w2.heap.size, 0, none⟩), .agg #[.int .u64 0, .int .u64 0, .int .u64 1]]) Try.func27 (by kernel_rfl) rfl rfl (by kernel_rfl) (by kernel_rfl) (HHE.out _ (drew_blx w9 _)) (fun E wc hc => ?_)
  obtain ⟨g1, c1, f1, t1, rfl, hcl1, hf1, ht1, hn1, hg1, hbc⟩ := heP_one hc
  have hWc : Below w9.heap.size w9 wc := (drew_blx w9 _).trans hbc
  refine ⟨_, rfl, kp_mk hWc.size fun b hb hx => hWc.block b hb, ?_⟩
  simp only [Act.put, List.setIfInBounds_toArray, List.set_cons_succ, List.set_cons_zero]
  refine mx_take 1 rfl ?_
  simp only [List.take_succ_cons, List.take_zero, List.drop_succ_cons, List.drop_zero]
  repeat (go_big_quiet_step (fail))
  refine wpQuiet_nil ?_
  refine mx_call (vals := [.pointer (some ⟨w2.heap.size, 0, none⟩), .agg #[.int .u64 0, .int .u64 0, .int .u64 1]]) Try.func27 (by kernel_rfl) rfl rfl (by kernel_rfl) (by kernel_rfl) (HHE.out _ hWc) (fun E wd hd => ?_)
  obtain ⟨g2, c2, f2, t2, rfl, hcl2, hf2, ht2, hn2, hg2, hbd⟩ := heP_one hd
  have hWd : Below w9.heap.size w9 wd := bt hWc hbd
  refine ⟨_, rfl, kp_mk hWd.size fun b hb hx => hWd.block b hb, ?_⟩
  simp only [Act.put, List.setIfInBounds_toArray, List.set_cons_succ, List.set_cons_zero]
  refine mx_take 2 rfl ?_
  simp only [List.take_succ_cons, List.take_zero, List.drop_succ_cons, List.drop_zero]
  repeat (go_big_quiet_step (fail))
  refine wpQuiet_nil ?_
  simp only [wpMix]
  clear rx0 rx1 rx2 x0 x1 x2
  have F1 : Hid (Ob 5 w9.heap.size wc f1 a) := hf1
  have T1 : Hid (Ob 5 w9.heap.size wc t1 b) := ht1
  have F2 : Hid (Ob 5 wc.heap.size wd f2 a) := hf2
  have T2 : Hid (Ob 5 wc.heap.size wd t2 b) := ht2
  have N1 := Hid.mk' hn1
  have N2 := Hid.mk' hn2
  have HBD := Hid.mk' hbd
  have HWD := Hid.mk' hWd
  have HWC := Hid.mk' hWc
  obtain ⟨fa1, fc1, ef1⟩ := own_slice hf1
  obtain ⟨ta1, tc1, et1⟩ := own_slice ht1
  obtain ⟨fa2, fc2, ef2⟩ := own_slice hf2
  obtain ⟨ta2, tc2, et2⟩ := own_slice ht2
  have C1 : Hid (wd.cell? ⟨g1, 0, none⟩ = some f1 ∧ wd.cell? ⟨g1, 1, none⟩ = some t1) := ⟨cell_up hcl1.1 hbd, cell_up hcl1.2.1 hbd⟩
  have C2 : Hid (wd.cell? ⟨g2, 0, none⟩ = some f2 ∧ wd.cell? ⟨g2, 1, none⟩ = some t2) := ⟨hcl2.1, hcl2.2.1⟩
  clear hcl1 hf1 ht1 hn1 hg1 hbc hWc hcl2 hf2 ht2 hn2 hg2 hbd hWd hc hd
  subst ef1 et1 ef2 et2
  have HDD : Hid (Below w.heap.size w wd) := bt H9.out HWD.out
  go_upto_region 15 with fail
  obtain ⟨z1, z2⟩ := C1.out
  obtain ⟨z3, z4⟩ := C2.out
  have r1 : ∀ q : Ups wd, q.nx.cell? ⟨g1, 0, none⟩ = some _ := fun q => cell_later q.ok z1
  have r2 : ∀ q : Ups wd, q.nx.cell? ⟨g1, 1, none⟩ = some _ := fun q => cell_later q.ok z2
  have r3 : ∀ q : Ups wd, q.nx.cell? ⟨g2, 0, none⟩ = some _ := fun q => cell_later q.ok z3
  have r4 : ∀ q : Ups wd, q.nx.cell? ⟨g2, 1, none⟩ = some _ := fun q => cell_later q.ok z4
  refine wp_region_free 40 Up (fun w' => ∃ q : Ups wd, w' = q.nx) (ul [(71, UL.is (.bool true)), (80, UL.is (.bool true))]) (by kernel_rfl) (by kernel_rfl) (ul_ck _) (up_first wd) ?_
  simp only [List.take_succ_cons, List.take_zero, List.drop_succ_cons, List.drop_zero]
  refine wf_take 9 rfl ?_
  simp only [List.take_succ_cons, List.take_zero, List.drop_succ_cons, List.drop_zero]
  repeat (go_big_quiet_step (fail))
  refine wpQuiet_nil ?_
  refine wf_call (V := (UL.is (.bool true)).1) (vals := [.slice fa1 a.length fc1, .slice aa a.length ac]) Try.func32 (by kernel_rfl) rfl rfl (by kernel_rfl) (by kernel_rfl) (by kernel_rfl) (fun wq hC _ => ?_) (fun u1 ho1 => ?_)
  · obtain ⟨q, rfl⟩ := hC
    exact is_free_dn (by have hq := requal_any _ _ a a q.nx (((F1.out.up' HBD.out).up' q.ok).bs (by unfold lim; omega)) (HA.out.up (bt HDD.out q.ok)); rw [beq_self_eq_true] at hq; exact hq)
  cases ho1
  simp only [Act.put, List.setIfInBounds_toArray, List.set_cons_succ, List.set_cons_zero]
  refine wf_take 8 rfl ?_
  simp only [List.take_succ_cons, List.take_zero, List.drop_succ_cons, List.drop_zero]
  repeat (go_big_quiet_step (fail))
  refine wpQuiet_nil ?_
  refine wf_call (V := (UL.is (.bool true)).1) (vals := [.slice ta1 b.length tc1, .slice ba b.length bc]) Try.func32 (by kernel_rfl) rfl rfl (by kernel_rfl) (by kernel_rfl) (by kernel_rfl) (fun wq hC _ => ?_) (fun u1 ho1 => ?_)
  · obtain ⟨q, rfl⟩ := hC
    exact is_free_dn (by have hq := requal_any _ _ b b q.nx (((T1.out.up' HBD.out).up' q.ok).bs (by unfold lim; omega)) (HB.out.up (bt HDD.out q.ok)); rw [beq_self_eq_true] at hq; exact hq)
  cases ho1
  simp only [Act.put, List.setIfInBounds_toArray, List.set_cons_succ, List.set_cons_zero]
  refine wf_take 21 rfl ?_
  simp only [List.take_succ_cons, List.take_zero, List.drop_succ_cons, List.drop_zero]
  repeat (go_big_quiet_step (fail))
  refine wpQuiet_nil ?_
  intro we hC hK2
  obtain ⟨q, hq⟩ := hC
  have HQ := Hid.mk' q.ok
  rw [← hq] at HQ
  clear hq hK2 r1 r2 r3 r4 z1 z2 z3 z4 q C1 C2
  have HAP : Hid (Calls Try.prog 33 #[.slice (some ⟨we.heap.size, 0, none⟩) 6 6] (we.alloc (.cells #[.slice (some ⟨W2.heap.size, 0, none⟩) (a.length + 33) (a.length + 33), .slice (some ⟨w3.heap.size, 0, none⟩) (b.length + 33) (b.length + 33), .slice fa1 a.length fc1, .slice ta1 b.length tc1, .slice fa2 a.length fc2, .slice ta2 b.length tc2] 22)) fun e w' => e = .returned (.bool true) ∧ TbIs M D w' w2.heap.size [(xa, [⟨a, b, true⟩])] ∧ Below w.heap.size w w' ∧ w'.heap[w4.heap.size + 1]? = some (.cells #[.int .u64 0, .int .u64 0, .int .u64 1] 30 (0, 0))) := by
    have UP := up_alloc we (.cells #[.slice (some ⟨W2.heap.size, 0, none⟩) (a.length + 33) (a.length + 33), .slice (some ⟨w3.heap.size, 0, none⟩) (b.length + 33) (b.length + 33), .slice fa1 a.length fc1, .slice ta1 b.length tc1, .slice fa2 a.length fc2, .slice ta2 b.length tc2] 22)
    have y0 := HWD.out.size
    have y1 := HQ.out.size
    have y2 := HWC.out.size
    have y3 := HS9.out
    have y4 := HG.out
    have y5 := HBD.out.size
    have y6 := HG0.out
    have q : ∀ j (hj : j < 6) k, ([.slice (some ⟨W2.heap.size, 0, none⟩) (a.length + 33) (a.length + 33), .slice (some ⟨w3.heap.size, 0, none⟩) (b.length + 33) (b.length + 33), .slice fa1 a.length fc1, .slice ta1 b.length tc1, .slice fa2 a.length fc2, .slice ta2 b.length tc2] : List Value)[j].ownBlock = some k → (j = 0 ∧ k = W2.heap.size) ∨ (j = 1 ∧ k = w3.heap.size) ∨ ((j = 2 ∨ j = 3) ∧ w9.heap.size ≤ k ∧ k < wc.heap.size) ∨ ((j = 4 ∨ j = 5) ∧ wc.heap.size ≤ k) := by
      intro j hj k e
      match j, hj with
      | 0, _ => cases e; exact .inl ⟨rfl, rfl⟩
      | 1, _ => cases e; exact .inr (.inl ⟨rfl, rfl⟩)
      | 2, _ => exact .inr (.inr (.inl ⟨.inl rfl, F1.out.lt k e⟩))
      | 3, _ => exact .inr (.inr (.inl ⟨.inr rfl, T1.out.lt k e⟩))
      | 4, _ => exact .inr (.inr (.inr ⟨.inl rfl, (F2.out.lt k e).1⟩))
      | 5, _ => exact .inr (.inr (.inr ⟨.inr rfl, (T2.out.lt k e).1⟩))
    have hfm := apart_fm (B := W2.heap.size) (F := fun j => [ovr a.length (full a), ovr b.length (full b), a, b, a, b].getD j []) (heap_alloc_new we (.cells #[.slice (some ⟨W2.heap.size, 0, none⟩) (a.length + 33) (a.length + 33), .slice (some ⟨w3.heap.size, 0, none⟩) (b.length + 33) (b.length + 33), .slice fa1 a.length fc1, .slice ta1 b.length tc1, .slice fa2 a.length fc2, .slice ta2 b.length tc2] 22)) (vs := [.slice (some ⟨W2.heap.size, 0, none⟩) (a.length + 33) (a.length + 33), .slice (some ⟨w3.heap.size, 0, none⟩) (b.length + 33) (b.length + 33), .slice fa1 a.length fc1, .slice ta1 b.length tc1, .slice fa2 a.length fc2, .slice ta2 b.length tc2]) (by
      have p0 := ((O9a.out.up' HWD.out).up' HQ.out).up' UP
      rw [full_len] at p0
      have p1 := (((O9b.out.up' HWD.out).up' HQ.out).up' UP).mono (show W2.heap.size ≤ w3.heap.size by omega)
      rw [full_len] at p1
      have p2 := (((F1.out.up' HBD.out).up' HQ.out).up' UP).mono (show W2.heap.size ≤ w9.heap.size by omega)
      have p3 := (((T1.out.up' HBD.out).up' HQ.out).up' UP).mono (show W2.heap.size ≤ w9.heap.size by omega)
      have p4 := ((F2.out.up' HQ.out).up' UP).mono (show W2.heap.size ≤ wc.heap.size by omega)
      have p5 := ((T2.out.up' HQ.out).up' UP).mono (show W2.heap.size ≤ wc.heap.size by omega)
      intro j hj
      match j, hj with
      | 0, _ => exact p0
      | 1, _ => exact p1
      | 2, _ => exact p2
      | 3, _ => exact p3
      | 4, _ => exact p4
      | 5, _ => exact p5) (by
      intro i j hi hj hij k e e'
      have h1 := q i hi k e
      have h2 := q j hj k e'
      have h3 : (i = 2 ∧ j = 3) ∨ (i = 3 ∧ j = 2) ∨ (i = 4 ∧ j = 5) ∨ (i = 5 ∧ j = 4) := by omega
      rcases h3 with ⟨rfl, rfl⟩ | ⟨rfl, rfl⟩ | ⟨rfl, rfl⟩ | ⟨rfl, rfl⟩
      · exact N1.out k e e'
      · exact N1.out k e' e
      · exact N2.out k e e'
      · exact N2.out k e' e) (Nat.le_trans (by omega : W2.heap.size ≤ we.heap.size) UP.size) (by simp) (by
      intro j
      match j with
      | 0 => simp [ovr_len, full_len]; omega
      | 1 => simp [ovr_len, full_len]; omega
      | 2 => simp; omega
      | 3 => simp; omega
      | 4 => simp; omega
      | 5 => simp; omega
      | n + 6 => simp)
    refine Calls.mono hfm ?_
    rintro e w' ⟨rfl, fm⟩
    have hbX := bt HQ.out UP
    have hwX : Wb (fun k => ∃ j, ∃ h : j < 6, ([.slice (some ⟨W2.heap.size, 0, none⟩) (a.length + 33) (a.length + 33), .slice (some ⟨w3.heap.size, 0, none⟩) (b.length + 33) (b.length + 33), .slice fa1 a.length fc1, .slice ta1 b.length tc1, .slice fa2 a.length fc2, .slice ta2 b.length tc2] : List Value)[j].ownBlock = some k) (we.alloc (.cells #[.slice (some ⟨W2.heap.size, 0, none⟩) (a.length + 33) (a.length + 33), .slice (some ⟨w3.heap.size, 0, none⟩) (b.length + 33) (b.length + 33), .slice fa1 a.length fc1, .slice ta1 b.length tc1, .slice fa2 a.length fc2, .slice ta2 b.length tc2] 22)) w' :=
      ⟨fm.1.os, fm.1.tape, fm.1.output, fm.1.size, fun k hk hx => fm.2 k hk fun j hj e => hx ⟨j, hj, e⟩⟩
    refine ⟨rfl, ((HT9.out.below HWD.out).below hbX).keep hwX ?_, (bt HDD.out hbX).trans (fm.1.mono (by omega)), ?_⟩
    · rintro k ⟨j, hj, e⟩
      have h1 := q j hj k e
      exact ⟨fun h => by have := HM.out _ h; have := (HT9.out.hM k h).1; omega, fun h => by have := HD.out _ h; have := (HT9.out.hD k h).1; omega, by omega⟩
    · rw [hwX.block _ (by have := hbX.size; omega) (by rintro ⟨j, hj, e⟩; have h1 := q j hj _ e; omega), hbX.block _ (by omega), HWD.out.block _ (by omega)]
      exact E9.out
  clear O9a O9b F1 T1 F2 T2 N1 N2 HBD HWD HWC HQ HDD HT9 HM HD HS9 E9 HHE
  go_wp2_with fail
  refine HAP.out.mono ?_
  rintro e wf ⟨rfl, htf, hbf, ebf⟩
  have HBF := Hid.mk' hbf
  have HHF : Hid (Calls Try.prog 27 #[.pointer (some ⟨w2.heap.size, 0, none⟩), .agg #[.int .u64 0, .int .u64 0, .int .u64 1]] wf (HeP wf [⟨a, b, true⟩])) := held_any (x := xa) htf (by show 1 ≤ _; decide)
  obtain ⟨x0, x1, x2⟩ := box3 ebf
  clear htf hbf ebf HAP
  go_wp2_with fail
  refine HHF.out.mono ?_
  rintro e wg hg
  obtain ⟨g3, c3, f3, t3, rfl, hcl3, hf3, ht3, hn3, hg3, hbg⟩ := heP_one hg
  have hf3 : Ob 5 wf.heap.size wg f3 a := hf3
  obtain ⟨fa3, fc3, ef3⟩ := own_slice hf3
  have HRQ := Hid.mk' (requal_any _ _ a a wg (hf3.bs (by unfold lim; omega)) (HA.out.up (bt HBF.out hbg)))
  have HBG := Hid.mk' (bt HBF.out hbg)
  obtain ⟨z0, z1, _⟩ := hcl3
  subst ef3
  clear hg hf3 ht3 hn3 hg3 hbg HHF x0 x1 x2
  go_wp2_with fail
  refine HRQ.out.mono ?_
  rintro e wh ⟨rfl, hdh⟩
  rw [show (a == a) = true from beq_self_eq_true _]
  have HBH := Hid.mk' (bt HBG.out (hdh.below _))
  clear hdh HRQ
  go_wp2_with fail
  go_ret
  exact ⟨rfl, HBH.out⟩
end Go.Proofs.Yteejlmeinndlhaa
