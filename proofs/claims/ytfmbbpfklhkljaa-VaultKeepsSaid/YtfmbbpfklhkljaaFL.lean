/- groynelaw08.LeafFinds. -/
import Derived.Test.YtfmbbpfklhkljaaWO
import Derived.Test.YtfmbbpfklhkljaaFI
import Derived.Test.YtfmbbpfklhkljaaA17
set_option linter.unusedVariables false
set_option linter.unusedSimpArgs false
namespace Go.Proofs.Ytfmbbpfklhkljaa
open Go.RowKit
def UL.bk (l : List UInt8) : UL := ⟨⟨fun v => ∃ a c, v = .slice a l.length c, fun v w => ∃ A : Nat → Prop, Bs A w v l⟩, fun _ _ _ ⟨A, h⟩ hb => ⟨A, h.up hb⟩⟩
def UL.nd (n : Nd) : UL := ⟨⟨fun v => ∃ k u c, v = .agg #[.bool n.leaf, k, u, c], fun v w => ∃ A : Nat → Prop, RN A w v n⟩, fun _ _ _ ⟨A, h⟩ hb => ⟨A, h.up hb⟩⟩
theorem nd_free {P : Program} {f : FuncId} {args : Array Value} {w : World} {n : Nd} (h : Calls P f args w fun e w' => ∃ v', e = .returned v' ∧ (∃ A : Nat → Prop, RN A w' v' n) ∧ Below w.heap.size w w') : Calls P f args w fun e w'' => ∃ u, e = .returned u ∧ Up w w'' ∧ (UL.nd n).1.one u ∧ (UL.nd n).1.led u w'' := by
  refine h.mono ?_
  rintro e w' ⟨v', rfl, ⟨A, h1⟩, h2⟩
  obtain ⟨k, u, c, e, _⟩ := id h1
  exact ⟨v', rfl, h2, ⟨k, u, c, e⟩, A, h1⟩
theorem own_nd {A : Nat → Prop} {w : World} {v : Value} {n : Nd} (h : RN A w v n) : Calls Try.prog 19 #[v] w fun e w'' => ∃ u, e = .returned u ∧ Up w w'' ∧ (UL.nd n).1.one u ∧ (UL.nd n).1.led u w'' :=
  nd_free ((own_any h).mono fun e w' ⟨v', h1, h2, h3⟩ => ⟨v', h1, ⟨_, h2⟩, h3⟩)
theorem told_nd {A : Nat → Prop} {w : World} {v : Value} {n : Nd} (h : RN A w v n) : Calls Try.prog 28 #[v] w fun e w'' => ∃ u, e = .returned u ∧ Up w w'' ∧ (UL.nd n).1.one u ∧ (UL.nd n).1.led u w'' :=
  nd_free ((told_any h).mono fun e w' ⟨h1, h2⟩ => ⟨v, h1, ⟨_, h.up h2⟩, h2⟩)
theorem copy_bk {A : Nat → Prop} {w : World} {v : Value} {l : List UInt8} (h : Bs A w v l) : Calls Try.prog 29 #[v] w fun e w'' => ∃ u, e = .returned u ∧ Up w w'' ∧ (UL.bk l).1.one u ∧ (UL.bk l).1.led u w'' := by
  have hl := h.2
  refine (copy_any _ _ w h).mono ?_
  rintro e w' ⟨v', rfl, h1, h2⟩
  have h3 := h2.bs hl
  obtain ⟨a, c, e, _⟩ := h3.at
  exact ⟨v', rfl, h1, ⟨a, c, e⟩, _, h3⟩
theorem wth_sm {n : Nd} {i : Int} {k x : List UInt8} (h1 : n.keys.length ≤ 1000) (h2 : n.vals.length ≤ 1000) (h3 : n.kids.length ≤ 2000) (h4 : ∀ x ∈ n.kids, -9223372036854775808 ≤ x ∧ x ≤ 9223372036854775807) : Sm (wth n i k x) := by
  unfold wth
  split
  · refine ⟨?_, ?_, ?_, h4⟩ <;> simp [lim] <;> omega
  · exact ⟨by unfold lim; omega, by unfold lim; omega, by unfold lim; omega, h4⟩
theorem wout_sm {n : Nd} {i : Int} (h1 : n.keys.length ≤ 1000) (h2 : n.vals.length ≤ 1000) (h3 : n.kids.length ≤ 2000) (h4 : ∀ x ∈ n.kids, -9223372036854775808 ≤ x ∧ x ≤ 9223372036854775807) : Sm (wout n i) := by
  unfold wout
  split
  · refine ⟨?_, ?_, ?_, h4⟩ <;> simp [lim] <;> omega
  · exact ⟨by unfold lim; omega, by unfold lim; omega, by unfold lim; omega, h4⟩
theorem check_asc {n : Nd} (h : check n = 0) : asc n.keys = true ∧ Even n := by
  have hf := (check_zero h).1
  refine ⟨?_, fun hl => formed_leaf hf hl⟩
  unfold formed at hf
  exact (Bool.and_eq_true_iff.1 hf).1
set_option maxRecDepth 100000 in
set_option maxHeartbeats 4000000 in
/-- groynelaw08.LeafFinds -/
theorem leafFinds_any {A A' : Nat → Prop} {w : World} {v u : Value} {n : Nd} {key : List UInt8} {i : Int} (h : RN A w v n) (hp : Bs A' w u key) : Calls Try.prog 6 #[v, u, .int .i64 i] w fun e w' => e = .returned (.bool true) ∧ Below w.heap.size w w' := by
  obtain ⟨a1, c1, a2, c2, a3, c3, rfl⟩ := h.form
  obtain ⟨pa, pc, rfl, _⟩ := hp.at
  have HN := Hid.mk' h.toLt
  have HP := Hid.mk' hp.toLt
  clear h hp
  go_enter Try.func6, Try.ntmps6
  go_wp2_with fail
  obtain ⟨W, hW, ⟨b0, b1, b2, b3⟩, bf, hbW, hsz⟩ := box4 w (.bool n.leaf) (.slice a1 n.keys.length c1) (.slice a2 n.vals.length c2) (.slice a3 n.kids.length c3) 31
  have HW := Hid.mk' hbW
  have HZ := Hid.mk' hsz
  have hx0 : W.heap[w.heap.size]? = some (.cells #[.bool n.leaf, .slice a1 n.keys.length c1, .slice a2 n.vals.length c2, .slice a3 n.kids.length c3] 31 (0, 0)) := by rw [hW]; exact heap_alloc_new w _
  clear hbW hsz b0 b1 b2 b3 bf
  rw [← hW]
  clear hW
  refine (awake8_any W).mono ?_
  rintro e w2 ⟨rfl, h2⟩
  have H2 := Hid.mk' h2
  have hx2 : w2.heap[w.heap.size]? = some (.cells #[.bool n.leaf, .slice a1 n.keys.length c1, .slice a2 n.vals.length c2, .slice a3 n.kids.length c3] 31 (0, 0)) := by rw [h2.block _ (by have := HZ.out; omega)]; exact hx0
  clear hx0 h2
  obtain ⟨⟨b0, b1, b2, b3⟩, bf⟩ := cells4_get hx2
  have HFEW : Hid (Calls Try.prog 17 #[.agg #[.bool n.leaf, .slice a1 n.keys.length c1, .slice a2 n.vals.length c2, .slice a3 n.kids.length c3], .int .i64 100] w2 fun e w' => ∃ v', e = .returned v' ∧ RN (Lt w.heap.size) w' v' (few 100 n) ∧ Below w2.heap.size w2 w') := few_any (HN.out.up (bt HW.out H2.out)) 100 (by omega)
  go_wp2_with fail
  refine HFEW.out.mono ?_
  rintro e w3 ⟨v3, rfl, n3, h3⟩
  have H3 := Hid.mk' h3
  have hx3 : w3.heap[w.heap.size]? = some (.cells #[.bool n.leaf, .slice a1 n.keys.length c1, .slice a2 n.vals.length c2, .slice a3 n.kids.length c3] 31 (0, 0)) := by rw [h3.block _ (by have := HZ.out; have := H2.out.size; omega)]; exact hx2
  have hlens := few_lens 100 n
  obtain ⟨x1, y1, x2, y2, x3, y3, e3⟩ := n3.form
  subst e3
  have HN3 := Hid.mk' n3
  have HLN := Hid.mk' hlens
  have HB3 := Hid.mk' (bt HW.out (bt H2.out H3.out))
  have hs3 : w.heap.size + 1 ≤ w3.heap.size := by have := HZ.out; have := H2.out.size; have := H3.out.size; omega
  clear hx2 b0 b1 b2 b3 bf h3 n3 hlens HFEW
  generalize few 100 n = m at *
  obtain ⟨⟨b0, b1, b2, b3⟩, bf⟩ := cells4_get hx3
  have hset : Wb (fun k => k = w.heap.size) w3 ((((w3.setCell ⟨w.heap.size, 0, none⟩ (.bool m.leaf)).setCell ⟨w.heap.size, 1, none⟩ (.slice x1 m.keys.length y1)).setCell ⟨w.heap.size, 2, none⟩ (.slice x2 m.vals.length y2)).setCell ⟨w.heap.size, 3, none⟩ (.slice x3 m.kids.length y3)) :=
    (((Wb.set (X := fun k => k = w.heap.size) _ _ _ _ rfl).trans (Wb.set (X := fun k => k = w.heap.size) _ _ _ _ rfl)).trans (Wb.set (X := fun k => k = w.heap.size) _ _ _ _ rfl)).trans (Wb.set (X := fun k => k = w.heap.size) _ _ _ _ rfl)
  have hx4 : ((((w3.setCell ⟨w.heap.size, 0, none⟩ (.bool m.leaf)).setCell ⟨w.heap.size, 1, none⟩ (.slice x1 m.keys.length y1)).setCell ⟨w.heap.size, 2, none⟩ (.slice x2 m.vals.length y2)).setCell ⟨w.heap.size, 3, none⟩ (.slice x3 m.kids.length y3)).heap[w.heap.size]? = some (.cells #[.bool m.leaf, .slice x1 m.keys.length y1, .slice x2 m.vals.length y2, .slice x3 m.kids.length y3] 31 (0, 0)) := by
    have q1 := cells4_set (o := 0) (u := .bool m.leaf) hx3
    have q2 := cells4_set (o := 1) (u := .slice x1 m.keys.length y1) q1
    have q3 := cells4_set (o := 2) (u := .slice x2 m.vals.length y2) q2
    exact cells4_set (o := 3) (u := .slice x3 m.kids.length y3) q3
  have hset := Hid.mk' hset
  have hx4 := Hid.mk' hx4
  go_wp2_with fail
  clear b0 b1 b2 b3 bf hx3
  generalize (((w3.setCell ⟨w.heap.size, 0, none⟩ (.bool m.leaf)).setCell ⟨w.heap.size, 1, none⟩ (.slice x1 m.keys.length y1)).setCell ⟨w.heap.size, 2, none⟩ (.slice x2 m.vals.length y2)).setCell ⟨w.heap.size, 3, none⟩ (.slice x3 m.kids.length y3) = w4 at *
  have HN4 := Hid.mk' (HN3.out.keepS fun b hb => hset.out.block b (by have : b < w.heap.size := hb; omega) (by have : b < w.heap.size := hb; omega))
  have HB4 := Hid.mk' (HB3.out.trans (hset.out.below (by omega) (fun k hk => by subst hk; exact Nat.le_refl _)))
  have hs4 : w.heap.size + 1 ≤ w4.heap.size := Nat.le_trans hs3 hset.out.size
  clear hset HN3 hs3
  have HRC := Hid.mk' (rcheck_any HN4.out)
  obtain ⟨⟨b0, b1, b2, b3⟩, bf⟩ := cells4_get hx4.out
  go_wp2_with fail
  refine HRC.out.mono ?_
  rintro e w5 ⟨rfl, h5⟩
  have H5 := Hid.mk' h5
  clear HRC h5 b0 b1 b2 b3 bf
  have hx5 : w5.heap[w.heap.size]? = some (.cells #[.bool m.leaf, .slice x1 m.keys.length y1, .slice x2 m.vals.length y2, .slice x3 m.kids.length y3] 31 (0, 0)) := by rw [H5.out.block _ (by omega)]; exact hx4.out
  obtain ⟨⟨b0, b1, b2, b3⟩, bf⟩ := cells4_get hx5
  by_cases hck : check m = 0
  · obtain ⟨hasc, heven⟩ := check_asc hck
    have HASC := Hid.mk' hasc
    have HEV := Hid.mk' heven
    have hckb : (check m != 0) = false := by rw [hck]; rfl
    clear hck hasc heven
    have HO := Hid.mk' (own_any (HN4.out.up H5.out))
    go_wp2_with fail
    refine HO.out.mono ?_
    rintro e w6 ⟨v6, rfl, n6, h6⟩
    have H6 := Hid.mk' (bt H5.out h6)
    have hpl : key.length ≤ lim := HP.out.2
    have HCP := Hid.mk' (copy_any _ _ w6 (HP.out.up (HB4.out.trans (H6.out.mono (by omega)))))
    have N6 := Hid.mk' n6
    obtain ⟨z1, y1', z2, y2', z3, y3', ez⟩ := n6.form
    subst ez
    clear HO h6 n6
    go_wp2_with fail
    refine HCP.out.mono ?_
    rintro e w7 ⟨v7, rfl, h7, o7⟩
    have H7 := Hid.mk' (bt H6.out h7)
    have HF := Hid.mk' (find_any (N6.out.up h7) (o7.bs hpl) HASC.out)
    obtain ⟨q7, r7, e7, _⟩ := (o7.bs hpl).at
    subst e7
    clear HCP h7 o7 hpl N6
    go_wp2_with fail
    refine HF.out.mono ?_
    rintro e w8 ⟨rfl, h8⟩
    have H8 := Hid.mk' (bt H7.out h8)
    have HRF := Hid.mk' (rfind_any (HN4.out.up H8.out) (HP.out.up (HB4.out.trans (H8.out.mono (by omega)))))
    clear HF h8 b0 b1 b2 b3 bf hx5
    have hx8 : w8.heap[w.heap.size]? = some (.cells #[.bool m.leaf, .slice x1 m.keys.length y1, .slice x2 m.vals.length y2, .slice x3 m.kids.length y3] 31 (0, 0)) := by rw [H8.out.block _ (by omega)]; exact hx4.out
    obtain ⟨⟨b0, b1, b2, b3⟩, bf⟩ := cells4_get hx8
    go_wp2_with fail
    refine HRF.out.mono ?_
    rintro e w9 ⟨rfl, h9⟩
    have H9 := Hid.mk' (bt H8.out h9)
    clear HRF h9 b0 b1 b2 b3 bf hx8
    have hx9 : w9.heap[w.heap.size]? = some (.cells #[.bool m.leaf, .slice x1 m.keys.length y1, .slice x2 m.vals.length y2, .slice x3 m.kids.length y3] 31 (0, 0)) := by rw [H9.out.block _ (by omega)]; exact hx4.out
    obtain ⟨⟨b0, b1, b2, b3⟩, bf⟩ := cells4_get hx9
    have HN9 := Hid.mk' (HN4.out.up H9.out)
    have HP9 := Hid.mk' (HP.out.up (HB4.out.trans (H9.out.mono (by omega))))
    have HB9 := Hid.mk' (HB4.out.trans (H9.out.mono (by omega)))
    have HSM : Hid (∀ x ∈ m.kids, -9223372036854775808 ≤ x ∧ x ≤ 9223372036854775807) := HN4.out.sm.2.2.2
    have HZ9 : Hid (w.heap.size ≤ w9.heap.size) := by show _ ≤ _; have := H9.out.size; omega
    clear H5 H6 H7 H8 H9 HB4 HN4 hx4 hs4 HN HP
    go_wp2_with fail
    have r0 : ∀ q : Ups w9, q.nx.cell? ⟨w.heap.size, 0, none⟩ = some _ := fun q => q.cell b0
    have r1 : ∀ q : Ups w9, q.nx.cell? ⟨w.heap.size, 1, none⟩ = some _ := fun q => q.cell b1
    have r2 : ∀ q : Ups w9, q.nx.cell? ⟨w.heap.size, 2, none⟩ = some _ := fun q => q.cell b2
    have r3 : ∀ q : Ups w9, q.nx.cell? ⟨w.heap.size, 3, none⟩ = some _ := fun q => q.cell b3
    have hwl : (wth m i key key).leaf = m.leaf := by unfold wth; split <;> rfl
    have hol : (wout m i).leaf = m.leaf := by unfold wout; split <;> rfl
    refine wp_region_free 25 Up (fun w' => ∃ q : Ups w9, w' = q.nx) (ul [(41, UL.nd m), (44, UL.bk key), (46, UL.nd (wth m i key key)), (47, UL.nd (wth m i key key)), (52, UL.nd (wth m i key key)), (53, UL.is (.bool true)), (56, UL.nd m), (58, UL.nd (wout m i)), (59, UL.nd (wout m i)), (62, UL.nd (wout m i)), (63, UL.is (.bool true))]) (by kernel_rfl) (by kernel_rfl) (ul_ck _) (up_first w9) ?_
    simp only [List.take_succ_cons, List.take_zero, List.drop_succ_cons, List.drop_zero]
    refine wf_take 1 rfl ?_
    simp only [List.take_succ_cons, List.take_zero, List.drop_succ_cons, List.drop_zero]
    repeat (go_big_quiet_step (fail))
    refine wpQuiet_nil ?_
    refine wf_call (V := (UL.nd m).1) (vals := [.agg #[.bool m.leaf, .slice x1 m.keys.length y1, .slice x2 m.vals.length y2, .slice x3 m.kids.length y3]]) Try.func19 (by kernel_rfl) rfl rfl (by kernel_rfl) (by kernel_rfl) (by kernel_rfl) (fun w1 hC hK => ?_) (fun u1 hu1 => ?_)
    · obtain ⟨q, rfl⟩ := hC; exact own_nd (HN9.out.up q.ok)
    obtain ⟨e1, e2, e3, rfl⟩ := hu1
    simp only [Act.put, List.setIfInBounds_toArray, List.set_cons_succ, List.set_cons_zero]
    refine wf_take 2 rfl ?_
    simp only [List.take_succ_cons, List.take_zero, List.drop_succ_cons, List.drop_zero]
    repeat (go_big_quiet_step (fail))
    refine wpQuiet_nil ?_
    refine wf_call (V := (UL.bk key).1) (vals := [.slice pa key.length pc]) Try.func29 (by kernel_rfl) rfl rfl (by kernel_rfl) (by kernel_rfl) (by kernel_rfl) (fun w1 hC hK => ?_) (fun u1 hu1 => ?_)
    · obtain ⟨q, rfl⟩ := hC; exact copy_bk (HP9.out.up q.ok)
    obtain ⟨e4, e5, rfl⟩ := hu1
    simp only [Act.put, List.setIfInBounds_toArray, List.set_cons_succ, List.set_cons_zero]
    refine wf_take 1 rfl ?_
    simp only [List.take_succ_cons, List.take_zero, List.drop_succ_cons, List.drop_zero]
    repeat (go_big_quiet_step (fail))
    refine wpQuiet_nil ?_
    refine wf_call (V := (UL.nd (wth m i key key)).1) (vals := [.agg #[.bool m.leaf, e1, e2, e3], .int .i64 i, .slice e4 key.length e5, .slice pa key.length pc]) Try.func36 (by kernel_rfl) rfl rfl (by kernel_rfl) (by kernel_rfl) (by kernel_rfl) (fun w1 hC hK => ?_) (fun u1 hu1 => ?_)
    · obtain ⟨A1, g1⟩ := hK 41 _ _ (looks_of (by kernel_rfl)) (.inl (.inr ⟨rfl, rfl⟩)) rfl; obtain ⟨A2, g2⟩ := hK 44 _ _ (looks_of (by kernel_rfl)) (.inr ⟨rfl, rfl⟩) rfl; obtain ⟨q, rfl⟩ := hC; exact nd_free ((with_any g1 g2 (HP9.out.up q.ok) (by have := HLN.out; unfold lim; omega) (by have := HLN.out; unfold lim; omega)).mono fun e w' ⟨v', k1, k2, k3⟩ => ⟨v', k1, ⟨_, k2.rn (wth_sm (by have := HLN.out; omega) (by have := HLN.out; omega) (by have := HLN.out; omega) HSM.out)⟩, k3⟩)
    obtain ⟨e6, e7, e8, rfl⟩ := hu1
    simp only [Act.put, List.setIfInBounds_toArray, List.set_cons_succ, List.set_cons_zero]
    refine wf_call (V := (UL.nd (wth m i key key)).1) (vals := [.agg #[.bool (wth m i key key).leaf, e6, e7, e8]]) Try.func28 (by kernel_rfl) rfl rfl (by kernel_rfl) (by kernel_rfl) (by kernel_rfl) (fun w1 hC hK => ?_) (fun u1 hu1 => ?_)
    · obtain ⟨A1, g1⟩ := hK 46 _ _ (looks_of (by kernel_rfl)) (.inr ⟨rfl, rfl⟩) rfl; exact told_nd g1
    obtain ⟨f1, f2, f3, rfl⟩ := hu1
    simp only [Act.put, List.setIfInBounds_toArray, List.set_cons_succ, List.set_cons_zero]
    refine wf_take 4 rfl ?_
    simp only [List.take_succ_cons, List.take_zero, List.drop_succ_cons, List.drop_zero]
    repeat (go_big_quiet_step (fail))
    refine wpQuiet_nil ?_
    refine wf_call (V := (UL.nd (wth m i key key)).1) (vals := [.agg #[.bool m.leaf, .slice x1 m.keys.length y1, .slice x2 m.vals.length y2, .slice x3 m.kids.length y3], .int .i64 i, .slice pa key.length pc, .slice pa key.length pc]) Try.func37 (by kernel_rfl) rfl rfl (by kernel_rfl) (by kernel_rfl) (by kernel_rfl) (fun w1 hC hK => ?_) (fun u1 hu1 => ?_)
    · obtain ⟨q, rfl⟩ := hC; exact nd_free ((rwith_any (HN9.out.up q.ok) HEV.out (HP9.out.up q.ok) (HP9.out.up q.ok) (by have := HLN.out; unfold lim; omega)).mono fun e w' ⟨v', k1, k2, k3⟩ => ⟨v', k1, ⟨_, k2⟩, k3⟩)
    obtain ⟨f4, f5, f6, rfl⟩ := hu1
    simp only [Act.put, List.setIfInBounds_toArray, List.set_cons_succ, List.set_cons_zero]
    refine wf_call (V := (UL.is (.bool true)).1) (vals := [.agg #[.bool (wth m i key key).leaf, f1, f2, f3], .agg #[.bool (wth m i key key).leaf, f4, f5, f6]]) Try.func27 (by kernel_rfl) rfl rfl (by kernel_rfl) (by kernel_rfl) (by kernel_rfl) (fun w1 hC hK => ?_) (fun u1 hu1 => ?_)
    · obtain ⟨A1, g1⟩ := hK 47 _ _ (looks_of (by kernel_rfl)) (.inl (.inr ⟨rfl, rfl⟩)) rfl; obtain ⟨A2, g2⟩ := hK 52 _ _ (looks_of (by kernel_rfl)) (.inr ⟨rfl, rfl⟩) rfl; have hq := same_any g1 g2; rw [same_self] at hq; exact is_free hq
    obtain rfl : u1 = .bool true := hu1
    simp only [Act.put, List.setIfInBounds_toArray, List.set_cons_succ, List.set_cons_zero]
    refine wf_take 2 rfl ?_
    simp only [List.take_succ_cons, List.take_zero, List.drop_succ_cons, List.drop_zero]
    repeat (go_big_quiet_step (fail))
    refine wpQuiet_nil ?_
    refine wf_call (V := (UL.nd m).1) (vals := [.agg #[.bool m.leaf, .slice x1 m.keys.length y1, .slice x2 m.vals.length y2, .slice x3 m.kids.length y3]]) Try.func19 (by kernel_rfl) rfl rfl (by kernel_rfl) (by kernel_rfl) (by kernel_rfl) (fun w1 hC hK => ?_) (fun u1 hu1 => ?_)
    · obtain ⟨q, rfl⟩ := hC; exact own_nd (HN9.out.up q.ok)
    obtain ⟨i1, i2, i3, rfl⟩ := hu1
    simp only [Act.put, List.setIfInBounds_toArray, List.set_cons_succ, List.set_cons_zero]
    refine wf_take 1 rfl ?_
    simp only [List.take_succ_cons, List.take_zero, List.drop_succ_cons, List.drop_zero]
    repeat (go_big_quiet_step (fail))
    refine wpQuiet_nil ?_
    refine wf_call (V := (UL.nd (wout m i)).1) (vals := [.agg #[.bool m.leaf, i1, i2, i3], .int .i64 i]) Try.func38 (by kernel_rfl) rfl rfl (by kernel_rfl) (by kernel_rfl) (by kernel_rfl) (fun w1 hC hK => ?_) (fun u1 hu1 => ?_)
    · obtain ⟨A1, g1⟩ := hK 56 _ _ (looks_of (by kernel_rfl)) (.inr ⟨rfl, rfl⟩) rfl; exact nd_free ((without_any g1 (by have := HLN.out; unfold lim; omega)).mono fun e w' ⟨v', k1, k2, k3⟩ => ⟨v', k1, ⟨_, k2.rn (wout_sm (by have := HLN.out; omega) (by have := HLN.out; omega) (by have := HLN.out; omega) HSM.out)⟩, k3⟩)
    obtain ⟨i4, i5, i6, rfl⟩ := hu1
    simp only [Act.put, List.setIfInBounds_toArray, List.set_cons_succ, List.set_cons_zero]
    refine wf_call (V := (UL.nd (wout m i)).1) (vals := [.agg #[.bool (wout m i).leaf, i4, i5, i6]]) Try.func28 (by kernel_rfl) rfl rfl (by kernel_rfl) (by kernel_rfl) (by kernel_rfl) (fun w1 hC hK => ?_) (fun u1 hu1 => ?_)
    · obtain ⟨A1, g1⟩ := hK 58 _ _ (looks_of (by kernel_rfl)) (.inr ⟨rfl, rfl⟩) rfl; exact told_nd g1
    obtain ⟨j1, j2, j3, rfl⟩ := hu1
    simp only [Act.put, List.setIfInBounds_toArray, List.set_cons_succ, List.set_cons_zero]
    refine wf_take 2 rfl ?_
    simp only [List.take_succ_cons, List.take_zero, List.drop_succ_cons, List.drop_zero]
    repeat (go_big_quiet_step (fail))
    refine wpQuiet_nil ?_
    refine wf_call (V := (UL.nd (wout m i)).1) (vals := [.agg #[.bool m.leaf, .slice x1 m.keys.length y1, .slice x2 m.vals.length y2, .slice x3 m.kids.length y3], .int .i64 i]) Try.func39 (by kernel_rfl) rfl rfl (by kernel_rfl) (by kernel_rfl) (by kernel_rfl) (fun w1 hC hK => ?_) (fun u1 hu1 => ?_)
    · obtain ⟨q, rfl⟩ := hC; exact nd_free ((rwithout_any (HN9.out.up q.ok) HEV.out (by have := HLN.out; unfold lim; omega)).mono fun e w' ⟨v', k1, k2, k3⟩ => ⟨v', k1, ⟨_, k2⟩, k3⟩)
    obtain ⟨j4, j5, j6, rfl⟩ := hu1
    simp only [Act.put, List.setIfInBounds_toArray, List.set_cons_succ, List.set_cons_zero]
    refine wf_call (V := (UL.is (.bool true)).1) (vals := [.agg #[.bool (wout m i).leaf, j1, j2, j3], .agg #[.bool (wout m i).leaf, j4, j5, j6]]) Try.func27 (by kernel_rfl) rfl rfl (by kernel_rfl) (by kernel_rfl) (by kernel_rfl) (fun w1 hC hK => ?_) (fun u1 hu1 => ?_)
    · obtain ⟨A1, g1⟩ := hK 59 _ _ (looks_of (by kernel_rfl)) (.inl (.inr ⟨rfl, rfl⟩)) rfl; obtain ⟨A2, g2⟩ := hK 62 _ _ (looks_of (by kernel_rfl)) (.inr ⟨rfl, rfl⟩) rfl; have hq := same_any g1 g2; rw [same_self] at hq; exact is_free hq
    obtain rfl : u1 = .bool true := hu1
    simp only [Act.put, List.setIfInBounds_toArray, List.set_cons_succ, List.set_cons_zero]
    refine wf_take 1 rfl ?_
    simp only [List.take_succ_cons, List.take_zero, List.drop_succ_cons, List.drop_zero]
    repeat (go_big_quiet_step (fail))
    refine wpQuiet_nil ?_
    intro wE hC hK
    clear hK
    obtain ⟨q, rfl⟩ := hC
    have HE := Hid.mk' (HB9.out.trans (q.ok.mono (by have := HZ9.out; omega)))
    clear r0 r1 r2 r3 b0 b1 b2 b3 bf
    generalize q.nx = wE at *
    clear q
    go_wp2_with fail
    go_ret
    exact ⟨rfl, HE.out⟩
  · have hckb : (check m != 0) = true := by simp [hck]
    clear hck
    go_wp2_with fail
    go_ret
    exact ⟨rfl, HB4.out.trans (H5.out.mono (by omega))⟩
end Go.Proofs.Ytfmbbpfklhkljaa
