/- groynelaw04.looks: the drive looks as the reference's. -/
import Derived.Test.YtpgpncngamagdaaPW
import Derived.Test.YtpgpncngamagdaaDA
set_option linter.unusedVariables false
set_option linter.unusedSimpArgs false
namespace Go.Proofs.Ytpgpncngamagdaa
open Go.RowKit
attribute [local go_sem ↓] Go.wp_at_zero Go.wp_at_succ
theorem used_is {M D : Nat → Prop} {w : World} {b : Nat} {d : Dm} (h : DrIs M D w b d) (ht : tot d.seen ≤ lim) : Calls Try.prog 24 #[.pointer (some ⟨b, 0, none⟩)] w fun e w' => e = .returned (.int .i64 (tot d.seen)) ∧ Below w.heap.size w w' := by
  obtain ⟨ms, mv, q, hb, h1, h2, h3, h4⟩ := h.ex
  exact used_any hb h2 ht
theorem ls_same {d : Dm} {r : Rd} (h : Eqv d r) (p : By) : lsD d p = lsR r p := by unfold lsD lsR; rw [h.dead, h.seen]
set_option maxRecDepth 100000 in
set_option maxHeartbeats 8000000 in
/-- groynelaw04.looks -/
theorem looks_any {M D A : Nat → Prop} {w : World} {b : Nat} {v : Value} {d : Dm} {r : Rd} {T N : Nat} (n p : By) (h : DrIs M D w b d) (hr : Rf A w v r) (he : Eqv d r) (hg : Gd T N r) (hN : N ≤ 30000) (hT : T ≤ lim) (hn : n.length ≤ maxLen) (hp : p.length ≤ maxLen) :
    Calls Try.prog 28 #[.pointer (some ⟨b, 0, none⟩), v, .string ⟨n.toArray⟩, .string ⟨p.toArray⟩] w fun E w' => E = .returned (.bool true) ∧ Below w.heap.size w w' := by
  obtain ⟨vs, vq, rfl, hts, hos⟩ := id hr
  obtain ⟨sa, sc, rfl, hx1⟩ := hts.at
  obtain ⟨qa, qc, rfl, hx2⟩ := hos.at
  clear hx1 hx2 hts hos
  have HH := Hid.mk' h
  have HRF := Hid.mk' hr
  have HE := Hid.mk' he
  have HK := Hid.mk' (hg.rok (by omega))
  have HTL := Hid.mk' hT
  have HN1 := Hid.mk' hn
  have HN2 := Hid.mk' hp
  have hFc : Fg T (cur r) := Qg.last hg.qg
  have HSL : Hid (d.seen.length ≤ 1000000) := by show _ ≤ _; rw [he.seen]; have := all_len hg.qg; have := hg.len; unfold cur; omega
  have HTD : Hid (tot d.seen ≤ lim) := by show _ ≤ _; rw [he.seen]; exact Nat.le_trans hFc.2.1 hT
  have HRE : Hid (rdE d n = if r.dead = true then 9 else thF (cur r) n) := by show _ = _; unfold rdE; rw [he.dead, th_same he]
  have HRB : Hid ((if r.dead = true then [] else foz (cur r) n) = rdB d n) := by show _ = _; unfold rdB; rw [he.dead, he.seen]
  have HRL : Hid ((rdB d n).length ≤ lim) := by
    show _ ≤ _
    rw [← HRB.out]
    split
    · exact Nat.zero_le _
    · exact Nat.le_trans (foz_le _ _) (Nat.le_trans hFc.2.1 hT)
  have HSZ : Hid (szD d n = ((rdB d n).length : Int)) := by show _ = _; unfold szD rdB; split <;> rfl
  have HLS := Hid.mk' (ls_same he p)
  have HLL : Hid ((lsD d p).length * 16 ≤ lim) := by
    show _ ≤ _
    have h1 : (lsD d p).length ≤ 1000000 := by
      unfold lsD
      split
      · exact Nat.zero_le _
      · exact Nat.le_trans (nms_le _ _) HSL.out
    unfold lim; omega
  have HQL : Hid (d.queue.length = r.queue.length) := by show _ = _; rw [he.queue]
  have HDD := Hid.mk' he.dead
  have HTT : Hid ((tot d.seen : Int) = (tot (cur r) : Int)) := by show _ = _; rw [he.seen]
  clear h hr he hg hN hT hn hp hFc
  obtain ⟨W, hW⟩ : ∃ W, W = w.alloc (.cells #[.slice sa r.safe.length sc, .slice qa r.queue.length qc, .int .i64 r.room, .int .i64 r.armed, .bool r.dead] 51) := ⟨_, rfl⟩
  have HB0 : Hid (Below w.heap.size w W) := by rw [hW]; exact up_alloc _ _
  have HBX : Hid (W.heap[w.heap.size]? = some (.cells #[.slice sa r.safe.length sc, .slice qa r.queue.length qc, .int .i64 r.room, .int .i64 r.armed, .bool r.dead] 51 (0, 0))) := by show _ = _; rw [hW]; exact heap_alloc_new w _
  go_enter Try.func28, Try.ntmps28
  go_wp2_with fail
  rw [← hW]
  clear hW
  refine (read_any n (HH.out.below HB0.out) HN1.out).mono ?_
  rintro E w1 ⟨v1, rfl, b1, o1⟩
  obtain ⟨a1, c1, rfl⟩ := own_slice o1
  have O1 := Hid.mk' o1
  have B1 := Hid.mk' b1
  have hbx : w1.heap[w.heap.size]? = _ := (b1.block w.heap.size (Array.getElem?_eq_some_iff.1 HBX.out).1).trans HBX.out
  have HX1 := Hid.mk' hbx
  obtain ⟨c0, c1', c2, c3, c4⟩ := box5 hbx
  clear hbx o1 b1
  go_wp2_with fail
  refine (rread_any n (HRF.out.up (bt HB0.out B1.out)) HK.out).mono ?_
  rintro E w2 ⟨u2, rfl, hu2, b2⟩
  rw [HRB.out] at hu2
  rw [← HRE.out]
  obtain ⟨a2, c2', rfl, hx2⟩ := hu2.at
  have HU2 := Hid.mk' hu2
  have B2 := Hid.mk' (bt B1.out b2)
  have O2 := Hid.mk' (O1.out.keep b2 (Nat.le_refl _))
  have hbx : w2.heap[w.heap.size]? = _ := (b2.block w.heap.size (Array.getElem?_eq_some_iff.1 HX1.out).1).trans HX1.out
  have HX2 := Hid.mk' hbx
  clear c0 c1' c2 c3 c4 hx2 hu2 b2
  obtain ⟨c0, c1', c2, c3, c4⟩ := box5 hbx
  clear hbx
  go_wp2_with fail
  have r0 : ∀ q : Kp (fun _ => False) w2, q.nx.cell? ⟨w.heap.size, 0, none⟩ = some _ := fun q => q.cell c0 id
  have r1 : ∀ q : Kp (fun _ => False) w2, q.nx.cell? ⟨w.heap.size, 1, none⟩ = some _ := fun q => q.cell c1' id
  have r2 : ∀ q : Kp (fun _ => False) w2, q.nx.cell? ⟨w.heap.size, 2, none⟩ = some _ := fun q => q.cell c2 id
  have r3 : ∀ q : Kp (fun _ => False) w2, q.nx.cell? ⟨w.heap.size, 3, none⟩ = some _ := fun q => q.cell c3 id
  have r4 : ∀ q : Kp (fun _ => False) w2, q.nx.cell? ⟨w.heap.size, 4, none⟩ = some _ := fun q => q.cell c4 id
  refine wp_region_mix 8 (fun w' => ∃ q : Kp (fun _ => False) w2, w' = q.nx) (by kernel_rfl) (by kernel_rfl) (kp_first _ w2) ?_
  simp only [List.take_succ_cons, List.take_zero, List.drop_succ_cons, List.drop_zero]
  refine mx_take 2 rfl ?_
  simp only [List.take_succ_cons, List.take_zero, List.drop_succ_cons, List.drop_zero]
  repeat (go_big_quiet_step (fail))
  refine wpQuiet_nil ?_
  have HW2 := Hid.mk' (bt HB0.out B2.out)
  refine mx_call (vals := [.pointer (some ⟨b, 0, none⟩), .string ⟨p.toArray⟩]) Try.func29 (by kernel_rfl) rfl rfl (by kernel_rfl) (by kernel_rfl) (list_any p (HH.out.below (HW2.out.trans (drew_blx w2 _))) HN2.out HSL.out) (fun E wa ha => ?_)
  obtain ⟨y, rfl, ya, hba⟩ := ha
  have hWa : Below w2.heap.size w2 wa := (drew_blx w2 _).trans hba
  refine ⟨_, rfl, kp_mk hWa.size fun b hb hx => hWa.block b hb, ?_⟩
  simp only [Act.put, List.setIfInBounds_toArray, List.set_cons_succ, List.set_cons_zero]
  refine mx_take 2 rfl ?_
  simp only [List.take_succ_cons, List.take_zero, List.drop_succ_cons, List.drop_zero]
  repeat (go_big_quiet_step (fail))
  refine wpQuiet_nil ?_
  refine mx_call (vals := [.agg #[.slice sa r.safe.length sc, .slice qa r.queue.length qc, .int .i64 r.room, .int .i64 r.armed, .bool r.dead], .string ⟨p.toArray⟩]) Try.func42 (by kernel_rfl) rfl rfl (by kernel_rfl) (by kernel_rfl) (rlist_any p (HRF.out.up (bt HW2.out hWa)) HK.out HN2.out) (fun E wb hb => ?_)
  obtain ⟨z, rfl, za, hbb⟩ := hb
  have hWb : Below w2.heap.size w2 wb := bt hWa hbb
  refine ⟨_, rfl, kp_mk hWb.size fun b hb hx => hWb.block b hb, ?_⟩
  simp only [Act.put, List.setIfInBounds_toArray, List.set_cons_succ, List.set_cons_zero]
  refine mx_take 2 rfl ?_
  simp only [List.take_succ_cons, List.take_zero, List.drop_succ_cons, List.drop_zero]
  repeat (go_big_quiet_step (fail))
  refine wpQuiet_nil ?_
  simp only [wpMix]
  rw [← HLS.out] at za
  have YA := Hid.mk' (own_keep ya hbb (Nat.le_refl _) : So 9 _ wb y _)
  have ZA := Hid.mk' za
  obtain ⟨ya1, yc1, rfl⟩ := ya.slice
  obtain ⟨za1, zc1, rfl⟩ := za.slice
  have BB := Hid.mk' (bt B2.out hWb)
  have B3 := Hid.mk' hWb
  have U3 := Hid.mk' (HU2.out.up hWb)
  have O3 := Hid.mk' (O2.out.keep hWb (Nat.le_refl _))
  have hbx : wb.heap[w.heap.size]? = _ := (hWb.block w.heap.size (Array.getElem?_eq_some_iff.1 HX2.out).1).trans HX2.out
  have HWA := Hid.mk' hWa.size
  clear r0 r1 r2 r3 r4 c0 c1' c2 c3 c4 ya za hba hbb hWa hWb
  obtain ⟨c0, c1', c2, c3, c4⟩ := box5 hbx
  clear hbx
  have HWB := Hid.mk' (bt HB0.out BB.out)
  have r0 : ∀ q : Ups wb, q.nx.cell? ⟨w.heap.size, 0, none⟩ = some _ := fun q => cell_later q.ok c0
  have r1 : ∀ q : Ups wb, q.nx.cell? ⟨w.heap.size, 1, none⟩ = some _ := fun q => cell_later q.ok c1'
  have r2 : ∀ q : Ups wb, q.nx.cell? ⟨w.heap.size, 2, none⟩ = some _ := fun q => cell_later q.ok c2
  have r3 : ∀ q : Ups wb, q.nx.cell? ⟨w.heap.size, 3, none⟩ = some _ := fun q => cell_later q.ok c3
  have r4 : ∀ q : Ups wb, q.nx.cell? ⟨w.heap.size, 4, none⟩ = some _ := fun q => cell_later q.ok c4
  clear c0 c1' c2 c3 c4
  have hdec : (decide (0 ≤ 0)) = true := rfl
  clear hdec
  go_upto_region 4 with fail
  refine wp_region_free 46 Up (fun w' => ∃ q : Ups wb, w' = q.nx) (ul [(36, UL.is (.bool true)), (46, UL.is (.int .i64 ((rdB d n).length : Int))), (53, UL.is (.int .i64 (tot (cur r) : Int))), (55, UL.is (.int .i64 (tot (cur r) : Int))), (60, UL.is (.int .i64 (r.queue.length : Int))), (68, UL.is (.bool r.dead))]) (by kernel_rfl) (by kernel_rfl) (ul_ck _) (up_first wb) ?_
  simp only [List.take_succ_cons, List.take_zero, List.drop_succ_cons, List.drop_zero]
  refine wf_take 2 rfl ?_
  simp only [List.take_succ_cons, List.take_zero, List.drop_succ_cons, List.drop_zero]
  repeat (go_big_quiet_step (fail))
  refine wpQuiet_nil ?_
  refine wf_call (V := (UL.is (.bool true)).1) (vals := [.slice a1 (rdB d n).length c1, .slice a2 (rdB d n).length c2']) Try.func20 (by kernel_rfl) rfl rfl (by kernel_rfl) (by kernel_rfl) (by kernel_rfl) (fun w1 hC _ => ?_) (fun u1 ho1 => ?_)
  · obtain ⟨q, rfl⟩ := hC
    exact is_free_dn (by have hq := requal_any _ _ _ _ q.nx (O3.out.bs HRL.out |>.up q.ok) (U3.out.up q.ok); rw [beq_self_eq_true] at hq; exact hq)
  cases ho1
  simp only [Act.put, List.setIfInBounds_toArray, List.set_cons_succ, List.set_cons_zero]
  refine wf_take 9 rfl ?_
  simp only [List.take_succ_cons, List.take_zero, List.drop_succ_cons, List.drop_zero]
  repeat (go_big_quiet_step (fail))
  refine wpQuiet_nil ?_
  refine wf_call (V := (UL.is (.int .i64 ((rdB d n).length : Int))).1) (vals := [.pointer (some ⟨b, 0, none⟩), .string ⟨n.toArray⟩]) Try.func30 (by kernel_rfl) rfl rfl (by kernel_rfl) (by kernel_rfl) (by kernel_rfl) (fun w1 hC _ => ?_) (fun u1 ho1 => ?_)
  · obtain ⟨q, rfl⟩ := hC
    exact is_free' (by have hq := size_any n (HH.out.below (bt HWB.out q.ok)) HN1.out; rw [HSZ.out] at hq; exact hq)
  cases ho1
  simp only [Act.put, List.setIfInBounds_toArray, List.set_cons_succ, List.set_cons_zero]
  refine wf_take 6 rfl ?_
  simp only [List.take_succ_cons, List.take_zero, List.drop_succ_cons, List.drop_zero]
  repeat (go_big_quiet_step (fail))
  refine wpQuiet_nil ?_
  refine wf_call (V := (UL.is (.int .i64 (tot (cur r) : Int))).1) (vals := [.pointer (some ⟨b, 0, none⟩)]) Try.func24 (by kernel_rfl) rfl rfl (by kernel_rfl) (by kernel_rfl) (by kernel_rfl) (fun w1 hC _ => ?_) (fun u1 ho1 => ?_)
  · obtain ⟨q, rfl⟩ := hC
    exact is_free (by have hq := used_is (HH.out.below (bt HWB.out q.ok)) HTD.out; rw [HTT.out] at hq; exact hq)
  cases ho1
  simp only [Act.put, List.setIfInBounds_toArray, List.set_cons_succ, List.set_cons_zero]
  refine wf_take 1 rfl ?_
  simp only [List.take_succ_cons, List.take_zero, List.drop_succ_cons, List.drop_zero]
  repeat (go_big_quiet_step (fail))
  refine wpQuiet_nil ?_
  refine wf_call (V := (UL.is (.int .i64 (tot (cur r) : Int))).1) (vals := [.agg #[.slice sa r.safe.length sc, .slice qa r.queue.length qc, .int .i64 r.room, .int .i64 r.armed, .bool r.dead]]) Try.func60 (by kernel_rfl) rfl rfl (by kernel_rfl) (by kernel_rfl) (by kernel_rfl) (fun w1 hC _ => ?_) (fun u1 ho1 => ?_)
  · obtain ⟨q, rfl⟩ := hC
    exact is_free (rused_any (HRF.out.up (bt HWB.out q.ok)) HK.out HTL.out)
  cases ho1
  simp only [Act.put, List.setIfInBounds_toArray, List.set_cons_succ, List.set_cons_zero]
  refine wf_take 4 rfl ?_
  simp only [List.take_succ_cons, List.take_zero, List.drop_succ_cons, List.drop_zero]
  repeat (go_big_quiet_step (fail))
  refine wpQuiet_nil ?_
  refine wf_call (V := (UL.is (.int .i64 (r.queue.length : Int))).1) (vals := [.pointer (some ⟨b, 0, none⟩)]) Try.func34 (by kernel_rfl) rfl rfl (by kernel_rfl) (by kernel_rfl) (by kernel_rfl) (fun w1 hC _ => ?_) (fun u1 ho1 => ?_)
  · obtain ⟨q, rfl⟩ := hC
    exact is_free' (by have hq := queue_any (HH.out.below (bt HWB.out q.ok)); rw [HQL.out] at hq; exact hq)
  cases ho1
  simp only [Act.put, List.setIfInBounds_toArray, List.set_cons_succ, List.set_cons_zero]
  refine wf_take 7 rfl ?_
  simp only [List.take_succ_cons, List.take_zero, List.drop_succ_cons, List.drop_zero]
  repeat (go_big_quiet_step (fail))
  refine wpQuiet_nil ?_
  refine wf_call (V := (UL.is (.bool r.dead)).1) (vals := [.pointer (some ⟨b, 0, none⟩)]) Try.func31 (by kernel_rfl) rfl rfl (by kernel_rfl) (by kernel_rfl) (by kernel_rfl) (fun w1 hC _ => ?_) (fun u1 ho1 => ?_)
  · obtain ⟨q, rfl⟩ := hC
    exact is_free' (by have hq := dead_any (HH.out.below (bt HWB.out q.ok)); rw [HDD.out] at hq; exact hq)
  cases ho1
  simp only [Act.put, List.setIfInBounds_toArray, List.set_cons_succ, List.set_cons_zero]
  refine wf_take 11 rfl ?_
  simp only [List.take_succ_cons, List.take_zero, List.drop_succ_cons, List.drop_zero]
  repeat (go_big_quiet_step (fail))
  refine wpQuiet_nil ?_
  intro wd hC hK
  obtain ⟨q, hq⟩ := hC
  have HQ := Hid.mk' q.ok
  rw [← hq] at HQ
  clear hq hK r0 r1 r2 r3 r4
  clear q
  go_wp2_with fail
  have O4 := Hid.mk' (O3.out.keep HQ.out (Nat.le_refl _))
  refine (over_any O4.out HRL.out).mono ?_
  rintro E w3 ⟨rfl, _, hw3⟩
  have HL1 : Hid (∀ k, (Value.slice a1 (rdB d n).length c1).ownBlock = some k → W.heap.size ≤ k ∧ k < w2.heap.size) := fun k hk => ⟨(O1.out.lt k hk).1, (O2.out.lt k hk).2⟩
  have YD : Hid (Ss (Lt w3.heap.size) w3 (.slice ya1 (lsD d p).length yc1) (lsD d p)) := So.ss (own_wb (own_keep YA.out HQ.out (Nat.le_refl _)) hw3 fun k hk e => by
    have h1 := (HL1.out k hk).2
    have h2 : w2.drew.heap.size ≤ k := (YA.out.lt k e.symm).1
    have h3 : w2.drew.heap.size = w2.heap.size := rfl
    omega) HLL.out
  have ZD : Hid (Ss (Lt w3.heap.size) w3 (.slice za1 (lsD d p).length zc1) (lsD d p)) := So.ss (own_wb (own_keep ZA.out HQ.out (Nat.le_refl _)) hw3 fun k hk e => by
    have h1 := (HL1.out k hk).2
    have h2 := (ZA.out.lt k e.symm).1
    have h3 := HWA.out
    omega) HLL.out
  have HFIN : Hid (Below w.heap.size w w3) := (bt HWB.out HQ.out).trans (hw3.below (bt HWB.out HQ.out).size fun k hk => Nat.le_trans HB0.out.size (HL1.out k hk).1)
  have hll : ((lsD d p).length : Int) ≤ 8796093022208 := by have := HLL.out; unfold lim at this; omega
  clear hw3
  go_wp2_with fail
  go_loopw [84] (fun i wr => ∃ k : Nat, k ≤ (lsD d p).length ∧ i = .int .i64 k ∧ Hid (Dn w3 wr)) (fun i _ => (lsD d p).length - (intOf i).toNat)
  case atStart => exact ⟨0, by omega, rfl, Dn.refl _⟩
  case round =>
    obtain ⟨k, hk, rfl, HD⟩ := hrel
    obtain ⟨nd, rfl⟩ := HD.out
    by_cases hlt : k < (lsD d p).length
    · have hlt' : (k : Int) < ((lsD d p).length : Int) := by omega
      obtain ⟨_, _, ey, _, _, hy⟩ := YD.out.at
      cases ey
      obtain ⟨yb, yo, rfl, _, hyc⟩ := hy k hlt
      obtain ⟨_, _, ez, _, _, hz⟩ := ZD.out.at
      cases ez
      obtain ⟨zb, zo, rfl, _, hzc⟩ := hz k hlt
      have q1 : ∀ n, (w3.drewN n).cell? ⟨yb, yo + k, none⟩ = some _ := fun n => hyc
      have q2 : ∀ n, (w3.drewN n).cell? ⟨zb, zo + k, none⟩ = some _ := fun n => hzc
      clear hy hz hyc hzc
      generalize (lsD d p)[k] = x at *
      go_wp2_with fail
      go_quiet (fail)
      go_wp2_with fail
      go_roundw
      case rel => exact ⟨k + 1, by omega, by go_num, ⟨_, rfl⟩⟩
      case measure => simp [intOf]; omega
    · obtain rfl : k = (lsD d p).length := by omega
      have hlt' : ¬ ((lsD d p).length : Int) < ((lsD d p).length : Int) := by omega
      go_wp2_with fail
      go_ret
      exact ⟨rfl, HFIN.out.trans (((Dn.refl w3).more nd).below _)⟩
end Go.Proofs.Ytpgpncngamagdaa
