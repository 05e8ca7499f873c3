/- groynelaw08.LeafPages. -/
import Derived.Test.YtfmbbpfklhkljaaA16
import Derived.Test.YtfmbbpfklhkljaaA10
set_option linter.unusedVariables false
set_option linter.unusedSimpArgs false
namespace Go.Proofs.Ytfmbbpfklhkljaa
open Go.RowKit
def UL.node (n : Nd) : UL := ⟨⟨fun v => ∃ k u c, v = .agg #[.bool n.leaf, k, u, c], fun v w => RN (Ty w) w v n⟩, fun _ _ _ h hb => h.upTy hb⟩
theorem own_free {A : Nat → Prop} {w : World} {v : Value} {n : Nd} (h : RN A w v n) : Calls Try.prog 19 #[v] w fun e w'' => ∃ u, e = .returned u ∧ Up w w'' ∧ (UL.node n).1.one u ∧ (UL.node n).1.led u w'' := by
  refine (own_any h).mono ?_
  rintro e w' ⟨v', rfl, h1, h2⟩
  obtain ⟨k, u, c, e, _⟩ := id h1
  exact ⟨v', rfl, h2, ⟨k, u, c, e⟩, h1⟩
theorem is_free {P : Program} {f : FuncId} {args : Array Value} {w : World} {v : Value} (h : Calls P f args w fun e w' => e = .returned v ∧ Below w.heap.size w w') : Calls P f args w fun e w'' => ∃ u, e = .returned u ∧ Up w w'' ∧ (UL.is v).1.one u ∧ (UL.is v).1.led u w'' :=
  h.mono fun _ _ ⟨h1, h2⟩ => ⟨v, h1, h2, rfl, trivial⟩
theorem is_free_dn {P : Program} {f : FuncId} {args : Array Value} {w : World} {v : Value} (h : Calls P f args w fun e w' => e = .returned v ∧ Dn w w') : Calls P f args w fun e w'' => ∃ u, e = .returned u ∧ Up w w'' ∧ (UL.is v).1.one u ∧ (UL.is v).1.led u w'' :=
  h.mono fun _ _ ⟨h1, h2⟩ => ⟨v, h1, h2.below _, rfl, trivial⟩
theorem enc_zero {m : Nd} (h : encE m = 0) : check m = 0 ∧ size m ≤ 512 ∧ encP m = page m := by
  by_cases hc : check m = 0
  · by_cases hs : 512 < size m
    · rw [(enc_big hc hs).1] at h; cases h
    · exact ⟨hc, by omega, (enc_ok hc hs).2⟩
  · rw [(enc_bad hc).1] at h; exact absurd h hc
theorem small_of {x : Nd} (hc : check x = 0) (hs : size x ≤ 512) : x.keys.length ≤ 1000 ∧ x.vals.length ≤ 1000 ∧ x.kids.length ≤ 2000 := by
  obtain ⟨hf, _, _⟩ := check_zero hc
  have h1 := @keys_le x.keys
  unfold size at hs
  cases hl : x.leaf with
  | true => have := formed_leaf hf hl; rw [this.2]; simp; omega
  | false => have := formed_inner hf hl; rw [this.1]; simp; omega
theorem encP_len (m : Nd) : (encP m).length ≤ 512 := by
  unfold encP
  split
  · rename_i h
    obtain ⟨h1, h2, _⟩ := enc_zero h
    have := enc_length (check_zero h1).1
    unfold page; simp; omega
  · simp
theorem Obb.mono0' {D B B' : Nat} {w : World} {v : Value} {l : List (List UInt8)} (h : Obb D B w v l) (hB : B' ≤ B) : Obb D B' w v l := by
  obtain ⟨vs, h1, h2⟩ := h; exact ⟨vs, own_mono h1 hB, h2⟩
theorem few_lens (m : Nat) (n : Nd) : (few m n).keys.length ≤ m ∧ (few m n).vals.length ≤ m ∧ (few m n).kids.length ≤ m + 1 := by
  unfold few; simp; omega
theorem RN.form {A : Nat → Prop} {w : World} {v : Value} {n : Nd} (h : RN A w v n) : ∃ a1 c1 a2 c2 a3 c3, v = .agg #[.bool n.leaf, .slice a1 n.keys.length c1, .slice a2 n.vals.length c2, .slice a3 n.kids.length c3] := by
  obtain ⟨k, u, c, rfl, h1, h2, h3⟩ := h
  obtain ⟨a1, c1, rfl, _⟩ := h1.at
  obtain ⟨a2, c2, rfl, _⟩ := h2.at
  obtain ⟨a3, c3, rfl, _⟩ := h3.at
  exact ⟨_, _, _, _, _, _, rfl⟩
theorem RN.toLt {A : Nat → Prop} {w : World} {v : Value} {n : Nd} (h : RN A w v n) : RN (Lt w.heap.size) w v n := by
  obtain ⟨k, u, c, rfl, ⟨vs, h1, h2, h4⟩, ⟨us, g1, g2, g4⟩, h3⟩ := h
  exact ⟨k, u, c, rfl, ⟨vs, h1.toLt, ⟨h2.1, fun i a b => (h2.2 i a b).toLt⟩, h4⟩, ⟨us, g1.toLt, ⟨g2.1, fun i a b => (g2.2 i a b).toLt⟩, g4⟩, h3.1.toLt, h3.2⟩
theorem RN.keepS {A : Nat → Prop} {w w' : World} {v : Value} {n : Nd} (h : RN A w v n) (hb : Same A w w') : RN A w' v n := by
  obtain ⟨k, u, c, hv, h1, h2, h3⟩ := h; exact ⟨k, u, c, hv, h1.keepS hb, h2.keepS hb, h3.keepS hb⟩
set_option maxRecDepth 100000 in
set_option maxHeartbeats 4000000 in
/-- groynelaw08.LeafPages -/
theorem leafPages_any {A A' : Nat → Prop} {w : World} {v u : Value} {n : Nd} {pg : List UInt8} (h : RN A w v n) (hp : Bs A' w u pg) : Calls Try.prog 4 #[v, u] w fun e w' => e = .returned (.bool true) ∧ Below w.heap.size w w' := by
  obtain ⟨a1, c1, a2, c2, a3, c3, rfl⟩ := h.form
  obtain ⟨pa, pc, rfl, _⟩ := hp.at
  have HN := Hid.mk' h.toLt
  have HP := Hid.mk' hp.toLt
  clear h hp
  go_enter Try.func4, Try.ntmps4
  go_wp2_with fail
  obtain ⟨W, hW, ⟨b0, b1, b2, b3⟩, bf, hbW, hsz⟩ := box4 w (.bool n.leaf) (.slice a1 n.keys.length c1) (.slice a2 n.vals.length c2) (.slice a3 n.kids.length c3) 31
  have HW := Hid.mk' hbW
  have HZ := Hid.mk' hsz
  have hx0 : W.heap[w.heap.size]? = some (.cells #[.bool n.leaf, .slice a1 n.keys.length c1, .slice a2 n.vals.length c2, .slice a3 n.kids.length c3] 31 (0, 0)) := by rw [hW]; exact heap_alloc_new w _
  clear hbW hsz b0 b1 b2 b3 bf
  rw [← hW]
  clear hW
  refine (awake8_any W).mono ?_
  rintro e w2 ⟨rfl, h2⟩
  have H2 := Hid.mk' h2
  have hx2 : w2.heap[w.heap.size]? = some (.cells #[.bool n.leaf, .slice a1 n.keys.length c1, .slice a2 n.vals.length c2, .slice a3 n.kids.length c3] 31 (0, 0)) := by rw [h2.block _ (by have := HZ.out; omega)]; exact hx0
  clear hx0 h2
  obtain ⟨⟨b0, b1, b2, b3⟩, bf⟩ := cells4_get hx2
  have HFEW : Hid (Calls Try.prog 17 #[.agg #[.bool n.leaf, .slice a1 n.keys.length c1, .slice a2 n.vals.length c2, .slice a3 n.kids.length c3], .int .i64 600] w2 fun e w' => ∃ v', e = .returned v' ∧ RN (Lt w.heap.size) w' v' (few 600 n) ∧ Below w2.heap.size w2 w') := few_any (HN.out.up (bt HW.out H2.out)) 600 (by omega)
  go_wp2_with fail
  refine HFEW.out.mono ?_
  rintro e w3 ⟨v3, rfl, n3, h3⟩
  have H3 := Hid.mk' h3
  have hx3 : w3.heap[w.heap.size]? = some (.cells #[.bool n.leaf, .slice a1 n.keys.length c1, .slice a2 n.vals.length c2, .slice a3 n.kids.length c3] 31 (0, 0)) := by rw [h3.block _ (by have := HZ.out; have := H2.out.size; omega)]; exact hx2
  have hlens := few_lens 600 n
  obtain ⟨x1, y1, x2, y2, x3, y3, e3⟩ := n3.form
  subst e3
  have HN3 := Hid.mk' n3
  have HLN := Hid.mk' hlens
  have HB3 := Hid.mk' (bt HW.out (bt H2.out H3.out))
  have hs3 : w.heap.size + 1 ≤ w3.heap.size := by have := HZ.out; have := H2.out.size; have := H3.out.size; omega
  clear hx2 b0 b1 b2 b3 bf h3 n3 hlens HFEW
  generalize few 600 n = m at *
  obtain ⟨⟨b0, b1, b2, b3⟩, bf⟩ := cells4_get hx3
  have hset : Wb (fun k => k = w.heap.size) w3 ((((w3.setCell ⟨w.heap.size, 0, none⟩ (.bool m.leaf)).setCell ⟨w.heap.size, 1, none⟩ (.slice x1 m.keys.length y1)).setCell ⟨w.heap.size, 2, none⟩ (.slice x2 m.vals.length y2)).setCell ⟨w.heap.size, 3, none⟩ (.slice x3 m.kids.length y3)) :=
    (((Wb.set (X := fun k => k = w.heap.size) _ _ _ _ rfl).trans (Wb.set (X := fun k => k = w.heap.size) _ _ _ _ rfl)).trans (Wb.set (X := fun k => k = w.heap.size) _ _ _ _ rfl)).trans (Wb.set (X := fun k => k = w.heap.size) _ _ _ _ rfl)
  have hx4 : ((((w3.setCell ⟨w.heap.size, 0, none⟩ (.bool m.leaf)).setCell ⟨w.heap.size, 1, none⟩ (.slice x1 m.keys.length y1)).setCell ⟨w.heap.size, 2, none⟩ (.slice x2 m.vals.length y2)).setCell ⟨w.heap.size, 3, none⟩ (.slice x3 m.kids.length y3)).heap[w.heap.size]? = some (.cells #[.bool m.leaf, .slice x1 m.keys.length y1, .slice x2 m.vals.length y2, .slice x3 m.kids.length y3] 31 (0, 0)) := by
    have q1 := cells4_set (o := 0) (u := .bool m.leaf) hx3
    have q2 := cells4_set (o := 1) (u := .slice x1 m.keys.length y1) q1
    have q3 := cells4_set (o := 2) (u := .slice x2 m.vals.length y2) q2
    exact cells4_set (o := 3) (u := .slice x3 m.kids.length y3) q3
  have hset := Hid.mk' hset
  have hx4 := Hid.mk' hx4
  go_wp2_with fail
  clear b0 b1 b2 b3 bf hx3
  generalize (((w3.setCell ⟨w.heap.size, 0, none⟩ (.bool m.leaf)).setCell ⟨w.heap.size, 1, none⟩ (.slice x1 m.keys.length y1)).setCell ⟨w.heap.size, 2, none⟩ (.slice x2 m.vals.length y2)).setCell ⟨w.heap.size, 3, none⟩ (.slice x3 m.kids.length y3) = w4 at *
  have HN4 := Hid.mk' (HN3.out.keepS fun b hb => hset.out.block b (by have : b < w.heap.size := hb; omega) (by have : b < w.heap.size := hb; omega))
  have HB4 := Hid.mk' (HB3.out.trans (hset.out.below (by omega) (fun k hk => by subst hk; exact Nat.le_refl _)))
  have hs4 : w.heap.size + 1 ≤ w4.heap.size := Nat.le_trans hs3 hset.out.size
  clear hset HN3 hs3
  refine (own_any HN4.out).mono ?_
  rintro e w5 ⟨v5, rfl, n5, h5⟩
  have HE := Hid.mk' (encode_any n5 (by have := HLN.out; omega) (by have := HLN.out; omega) (by have := HLN.out; omega))
  have H5 := Hid.mk' h5
  clear n5 h5
  go_wp2_with fail
  refine HE.out.mono ?_
  rintro e w6 ⟨v6, rfl, o6, h6⟩
  have H6 := Hid.mk' (bt H5.out h6)
  have O6 := Hid.mk' (Ob.mono o6 (Nat.zero_le _))
  have hx6 : w6.heap[w.heap.size]? = some (.cells #[.bool m.leaf, .slice x1 m.keys.length y1, .slice x2 m.vals.length y2, .slice x3 m.kids.length y3] 31 (0, 0)) := by rw [H6.out.block _ (by omega)]; exact hx4.out
  obtain ⟨⟨b0, b1, b2, b3⟩, bf⟩ := cells4_get hx6
  have HE := Hid.mk' (rencode_any (HN4.out.up H6.out) (by have := HLN.out; omega) (by have := HLN.out; omega) (by have := HLN.out; omega))
  clear o6 h6 hx6
  go_wp2_with fail
  refine HE.out.mono ?_
  rintro e w7 ⟨v7, rfl, o7, h7⟩
  have H7 := Hid.mk' (bt H6.out h7)
  have hpl : (encP m).length ≤ lim := by have := encP_len m; unfold lim; omega
  have O7 := Hid.mk' (o7.bs hpl)
  have O6 := Hid.mk' ((Ob.keep O6.out h7 (Nat.le_refl _)).bs hpl)
  have hx7 : w7.heap[w.heap.size]? = some (.cells #[.bool m.leaf, .slice x1 m.keys.length y1, .slice x2 m.vals.length y2, .slice x3 m.kids.length y3] 31 (0, 0)) := by rw [H7.out.block _ (by omega)]; exact hx4.out
  obtain ⟨a6, c6, e6, _⟩ := O6.out.at
  obtain ⟨a7, c7, e7, _⟩ := O7.out.at
  subst e6; subst e7
  clear o7 h7 hpl b0 b1 b2 b3 bf HE
  obtain ⟨⟨b0, b1, b2, b3⟩, bf⟩ := cells4_get hx7
  go_wp2_with fail
  have r0 : ∀ q : Ups w7, q.nx.cell? ⟨w.heap.size, 0, none⟩ = some _ := fun q => q.cell b0
  have r1 : ∀ q : Ups w7, q.nx.cell? ⟨w.heap.size, 1, none⟩ = some _ := fun q => q.cell b1
  have r2 : ∀ q : Ups w7, q.nx.cell? ⟨w.heap.size, 2, none⟩ = some _ := fun q => q.cell b2
  have r3 : ∀ q : Ups w7, q.nx.cell? ⟨w.heap.size, 3, none⟩ = some _ := fun q => q.cell b3
  have HN7 := Hid.mk' (HN4.out.up H7.out)
  refine wp_region_free 25 Up (fun w' => ∃ q : Ups w7, w' = q.nx) (ul [(29, UL.node m), (30, UL.is (.int .i64 (check m))), (32, UL.is (.int .i64 (check m))), (36, UL.node m), (37, UL.is (.int .i64 (size m))), (39, UL.is (.int .i64 (size m))), (50, UL.is (.bool true))]) (by kernel_rfl) (by kernel_rfl) (ul_ck _) (up_first w7) ?_
  simp only [List.take_succ_cons, List.take_zero, List.drop_succ_cons, List.drop_zero]
  refine wf_take 1 rfl ?_
  simp only [List.take_succ_cons, List.take_zero, List.drop_succ_cons, List.drop_zero]
  repeat (go_big_quiet_step (fail))
  refine wpQuiet_nil ?_
  refine wf_call (V := (UL.node m).1) (vals := [.agg #[.bool m.leaf, .slice x1 m.keys.length y1, .slice x2 m.vals.length y2, .slice x3 m.kids.length y3]]) Try.func19 (by kernel_rfl) rfl rfl (by kernel_rfl) (by kernel_rfl) (by kernel_rfl) (fun w1 hC hK => ?_) (fun u1 hu1 => ?_)
  · obtain ⟨q, rfl⟩ := hC; exact own_free (HN7.out.up q.ok)
  obtain ⟨e1, e2, e3, rfl⟩ := hu1
  simp only [Act.put, List.setIfInBounds_toArray, List.set_cons_succ, List.set_cons_zero]
  refine wf_call (V := (UL.is (.int .i64 (check m))).1) (vals := [.agg #[.bool m.leaf, e1, e2, e3]]) Try.func21 (by kernel_rfl) rfl rfl (by kernel_rfl) (by kernel_rfl) (by kernel_rfl) (fun w1 hC hK => ?_) (fun u2 hu2 => ?_)
  · exact is_free (check_any (hK 29 _ _ (looks_of (by kernel_rfl)) (.inr ⟨rfl, rfl⟩) rfl))
  obtain rfl : u2 = .int .i64 (check m) := hu2
  simp only [Act.put, List.setIfInBounds_toArray, List.set_cons_succ, List.set_cons_zero]
  refine wf_take 1 rfl ?_
  simp only [List.take_succ_cons, List.take_zero, List.drop_succ_cons, List.drop_zero]
  repeat (go_big_quiet_step (fail))
  refine wpQuiet_nil ?_
  refine wf_call (V := (UL.is (.int .i64 (check m))).1) (vals := [.agg #[.bool m.leaf, .slice x1 m.keys.length y1, .slice x2 m.vals.length y2, .slice x3 m.kids.length y3]]) Try.func22 (by kernel_rfl) rfl rfl (by kernel_rfl) (by kernel_rfl) (by kernel_rfl) (fun w1 hC hK => ?_) (fun u3 hu3 => ?_)
  · obtain ⟨q, rfl⟩ := hC; exact is_free (rcheck_any (HN7.out.up q.ok))
  obtain rfl : u3 = .int .i64 (check m) := hu3
  simp only [Act.put, List.setIfInBounds_toArray, List.set_cons_succ, List.set_cons_zero]
  refine wf_take 3 rfl ?_
  simp only [List.take_succ_cons, List.take_zero, List.drop_succ_cons, List.drop_zero]
  repeat (go_big_quiet_step (fail))
  refine wpQuiet_nil ?_
  refine wf_call (V := (UL.node m).1) (vals := [.agg #[.bool m.leaf, .slice x1 m.keys.length y1, .slice x2 m.vals.length y2, .slice x3 m.kids.length y3]]) Try.func19 (by kernel_rfl) rfl rfl (by kernel_rfl) (by kernel_rfl) (by kernel_rfl) (fun w1 hC hK => ?_) (fun u4 hu4 => ?_)
  · obtain ⟨q, rfl⟩ := hC; exact own_free (HN7.out.up q.ok)
  obtain ⟨e4, e5, e6, rfl⟩ := hu4
  simp only [Act.put, List.setIfInBounds_toArray, List.set_cons_succ, List.set_cons_zero]
  refine wf_call (V := (UL.is (.int .i64 (size m))).1) (vals := [.agg #[.bool m.leaf, e4, e5, e6]]) Try.func23 (by kernel_rfl) rfl rfl (by kernel_rfl) (by kernel_rfl) (by kernel_rfl) (fun w1 hC hK => ?_) (fun u5 hu5 => ?_)
  · exact is_free (size_any (hK 36 _ _ (looks_of (by kernel_rfl)) (.inr ⟨rfl, rfl⟩) rfl) (by have := HLN.out; omega) (by have := HLN.out; omega) (by have := HLN.out; omega))
  obtain rfl : u5 = .int .i64 (size m) := hu5
  simp only [Act.put, List.setIfInBounds_toArray, List.set_cons_succ, List.set_cons_zero]
  refine wf_take 1 rfl ?_
  simp only [List.take_succ_cons, List.take_zero, List.drop_succ_cons, List.drop_zero]
  repeat (go_big_quiet_step (fail))
  refine wpQuiet_nil ?_
  refine wf_call (V := (UL.is (.int .i64 (size m))).1) (vals := [.agg #[.bool m.leaf, .slice x1 m.keys.length y1, .slice x2 m.vals.length y2, .slice x3 m.kids.length y3]]) Try.func24 (by kernel_rfl) rfl rfl (by kernel_rfl) (by kernel_rfl) (by kernel_rfl) (fun w1 hC hK => ?_) (fun u6 hu6 => ?_)
  · obtain ⟨q, rfl⟩ := hC; exact is_free (rsize_any (HN7.out.up q.ok) (by have := HLN.out; omega) (by have := HLN.out; omega) (by have := HLN.out; omega))
  obtain rfl : u6 = .int .i64 (size m) := hu6
  simp only [Act.put, List.setIfInBounds_toArray, List.set_cons_succ, List.set_cons_zero]
  refine wf_take 10 rfl ?_
  simp only [List.take_succ_cons, List.take_zero, List.drop_succ_cons, List.drop_zero]
  repeat (go_big_quiet_step (fail))
  refine wpQuiet_nil ?_
  refine wf_call (V := (UL.is (.bool true)).1) (vals := [.slice a6 (encP m).length c6, .slice a7 (encP m).length c7]) Try.func25 (by kernel_rfl) rfl rfl (by kernel_rfl) (by kernel_rfl) (by kernel_rfl) (fun w1 hC hK => ?_) (fun u7 hu7 => ?_)
  · obtain ⟨q, rfl⟩ := hC; have hq := requal_any _ _ _ _ q.nx (O6.out.up q.ok) (O7.out.up q.ok); rw [beq_self_eq_true] at hq; exact is_free_dn hq
  obtain rfl : u7 = .bool true := hu7
  simp only [Act.put, List.setIfInBounds_toArray, List.set_cons_succ, List.set_cons_zero]
  refine wf_take 2 rfl ?_
  simp only [List.take_succ_cons, List.take_zero, List.drop_succ_cons, List.drop_zero]
  repeat (go_big_quiet_step (fail))
  refine wpQuiet_nil ?_
  intro w8 hC hK
  clear hK
  obtain ⟨q, rfl⟩ := hC
  have H8 := Hid.mk' (bt H7.out q.ok)
  have hx8 : q.nx.heap[w.heap.size]? = some (.cells #[.bool m.leaf, .slice x1 m.keys.length y1, .slice x2 m.vals.length y2, .slice x3 m.kids.length y3] 31 (0, 0)) := by rw [H8.out.block _ (by omega)]; exact hx4.out
  have O8 := Hid.mk' (O6.out.up q.ok)
  clear r0 r1 r2 r3 b0 b1 b2 b3 bf HN7 O6 O7 H5 H6 H7
  generalize q.nx = w8 at *
  clear q
  by_cases he : encE m = 0
  · have he' : (encE m == 0) = true := by simp [he]
    obtain ⟨hc0, hs0, hp0⟩ := enc_zero he
    have HD := decode_any O8.out
    have hdp := dec_page hc0 hs0
    rw [hp0, hdp] at HD
    rw [hp0]
    have HD := Hid.mk' HD
    clear he hp0 hdp hc0 hs0
    go_wp2_with fail
    refine HD.out.mono ?_
    rintro e w9 ⟨kv, vv, cv, rfl, k1, k2, k3, h9, l1, l2, l3, l4⟩
    have n9 : RN (Ty w9) w9 (.agg #[.bool m.leaf, kv, vv, cv]) m := ⟨kv, vv, cv, rfl, (k1.mono0' (Nat.zero_le _)).ty (by unfold lim; omega), (k2.mono0' (Nat.zero_le _)).ty (by unfold lim; omega), row_ty k3 (.inl rfl), by unfold lim; omega, fun x hx => by have := l4 x hx; omega⟩
    obtain ⟨z1, y1', z2, y2', z3, y3', ez⟩ := n9.form
    obtain ⟨rfl, rfl, rfl⟩ : kv = .slice z1 m.keys.length y1' ∧ vv = .slice z2 m.vals.length y2' ∧ cv = .slice z3 m.kids.length y3' := by simpa using ez
    have hup := up_alloc w9 (.cells #[.bool m.leaf, .slice z1 m.keys.length y1', .slice z2 m.vals.length y2', .slice z3 m.kids.length y3'] 37)
    have hx10 : (w9.alloc (.cells #[.bool m.leaf, .slice z1 m.keys.length y1', .slice z2 m.vals.length y2', .slice z3 m.kids.length y3'] 37)).heap[w9.heap.size]? = _ := heap_alloc_new w9 _
    have hxb : (w9.alloc (.cells #[.bool m.leaf, .slice z1 m.keys.length y1', .slice z2 m.vals.length y2', .slice z3 m.kids.length y3'] 37)).heap[w.heap.size]? = some (.cells #[.bool m.leaf, .slice x1 m.keys.length y1, .slice x2 m.vals.length y2, .slice x3 m.kids.length y3] 31 (0, 0)) := by
      rw [hup.block _ (by have := h9.size; have := H8.out.size; omega), h9.block _ (by have := H8.out.size; omega)]; exact hx8
    have H10 := Hid.mk' (bt H8.out (bt h9 hup))
    have N10 := Hid.mk' (n9.up hup)
    clear n9 hup h9 k1 k2 k3 ez
    go_wp2_with fail
    generalize hV : (w9.alloc (.cells #[.bool m.leaf, .slice z1 m.keys.length y1', .slice z2 m.vals.length y2', .slice z3 m.kids.length y3'] 37)) = V at *
    obtain ⟨⟨b0, b1, b2, b3⟩, bf⟩ := cells4_get hx10
    obtain ⟨⟨d0, d1, d2, d3⟩, df⟩ := cells4_get hxb
    have r0 : ∀ q : Ups V, q.nx.cell? ⟨w9.heap.size, 0, none⟩ = some _ := fun q => q.cell b0
    have r1 : ∀ q : Ups V, q.nx.cell? ⟨w9.heap.size, 1, none⟩ = some _ := fun q => q.cell b1
    have r2 : ∀ q : Ups V, q.nx.cell? ⟨w9.heap.size, 2, none⟩ = some _ := fun q => q.cell b2
    have r3 : ∀ q : Ups V, q.nx.cell? ⟨w9.heap.size, 3, none⟩ = some _ := fun q => q.cell b3
    have s0 : ∀ q : Ups V, q.nx.cell? ⟨w.heap.size, 0, none⟩ = some _ := fun q => q.cell d0
    have s1 : ∀ q : Ups V, q.nx.cell? ⟨w.heap.size, 1, none⟩ = some _ := fun q => q.cell d1
    have s2 : ∀ q : Ups V, q.nx.cell? ⟨w.heap.size, 2, none⟩ = some _ := fun q => q.cell d2
    have s3 : ∀ q : Ups V, q.nx.cell? ⟨w.heap.size, 3, none⟩ = some _ := fun q => q.cell d3
    have HTD := Hid.mk' (fun q : Ups V => told_any (N10.out.up q.ok))
    have HSM := Hid.mk' (fun q : Ups V => same_any (N10.out.up q.ok) (HN4.out.up (bt H10.out q.ok)))
    rw [same_self] at HSM
    refine wp_region_up (by kernel_rfl) (by kernel_rfl) ?_
    repeat (go_big_quiet_step (first | exact ups_call (HTD.out _) | exact ups_call (HSM.out _)))
    refine wpQuiet_nil ?_
    intro _ hw11
    obtain ⟨q, hw12⟩ := hw11
    subst hw12
    have H11 := Hid.mk' (bt H10.out q.ok)
    clear r0 r1 r2 r3 s0 s1 s2 s3 b0 b1 b2 b3 bf d0 d1 d2 d3 df HTD HSM HD hx10 hxb N10 H10
    generalize q.nx = w11 at *
    clear q hV
    go_wp2_with fail
    have HBW := Hid.mk' (HB4.out.trans (H11.out.mono (by omega)))
    have hlg : pg.length ≤ lim := HP.out.2
    refine (copy_any _ _ w11 (HP.out.up HBW.out)).mono ?_
    rintro e wA ⟨vA, rfl, hA, oA⟩
    have HA := Hid.mk' (bt HBW.out hA)
    have HD := decode_any (oA.bs hlg)
    clear hA oA
    rcases dec_cases pg with ⟨hl, hd⟩ | ⟨hl, hd | ⟨x, hd⟩⟩
    · rw [hd] at HD
      have HD := Hid.mk' HD
      have hl' : ((pg.length : Int) != 512) = true := by simp; omega
      clear hd hl hlg
      go_wp2_with fail
      refine HD.out.mono ?_
      rintro e wB ⟨kv, vv, cv, rfl, k1, k2, k3, hB, _, _, _, _⟩
      obtain ⟨za, zc, rfl⟩ : ∃ a c, kv = .slice a 0 c := (let ⟨_, h, _⟩ := k1; own_slice h)
      obtain ⟨za', zc', rfl⟩ : ∃ a c, vv = .slice a 0 c := (let ⟨_, h, _⟩ := k2; own_slice h)
      obtain ⟨za'', zc'', rfl⟩ : ∃ a c, cv = .slice a 0 c := own_slice k3
      have HBB := Hid.mk' (bt HA.out hB)
      clear k1 k2 k3 hB
      go_wp2_with fail
      go_ret
      exact ⟨rfl, bt HBB.out (up_alloc _ _)⟩
    · rw [hd] at HD
      have HD := Hid.mk' HD
      have hl' : ((pg.length : Int) != 512) = false := by simp; omega
      clear hd hl hlg
      go_wp2_with fail
      refine HD.out.mono ?_
      rintro e wB ⟨kv, vv, cv, rfl, k1, k2, k3, hB, _, _, _, _⟩
      obtain ⟨za, zc, rfl⟩ : ∃ a c, kv = .slice a 0 c := (let ⟨_, h, _⟩ := k1; own_slice h)
      obtain ⟨za', zc', rfl⟩ : ∃ a c, vv = .slice a 0 c := (let ⟨_, h, _⟩ := k2; own_slice h)
      obtain ⟨za'', zc'', rfl⟩ : ∃ a c, cv = .slice a 0 c := own_slice k3
      have HBB := Hid.mk' (bt HA.out hB)
      clear k1 k2 k3 hB
      go_wp2_with fail
      go_ret
      exact ⟨rfl, bt HBB.out (up_alloc _ _)⟩
    · obtain ⟨_, hcx, hsx, hpx⟩ := dec_ok hd
      rw [hd] at HD
      have HD := Hid.mk' HD
      have hl' : ((pg.length : Int) != 512) = false := by simp; omega
      have HX := Hid.mk' (enc_ok hcx (show ¬ 512 < size x by omega))
      rw [hpx] at HX
      have hXL : Hid (x.keys.length ≤ 1000 ∧ x.vals.length ≤ 1000 ∧ x.kids.length ≤ 2000) := small_of hcx hsx
      have hlm : Hid (pg.length ≤ lim) := hlg
      have hlE := Hid.mk' hl
      clear hd hl hcx hsx hpx hlg
      go_wp2_with fail
      refine HD.out.mono ?_
      rintro e wB ⟨kv, vv, cv, rfl, k1, k2, k3, hB, l1, l2, l3, l4⟩
      have n9 : RN (Ty wB) wB (.agg #[.bool x.leaf, kv, vv, cv]) x := ⟨kv, vv, cv, rfl, (k1.mono0' (Nat.zero_le _)).ty (by unfold lim; omega), (k2.mono0' (Nat.zero_le _)).ty (by unfold lim; omega), row_ty k3 (.inl rfl), by unfold lim; omega, fun y hy => by have := l4 y hy; omega⟩
      have hxk : x.keys.length ≤ 1000 ∧ x.vals.length ≤ 1000 ∧ x.kids.length ≤ 2000 := hXL.out
      obtain ⟨z1, y1', z2, y2', z3, y3', ez⟩ := n9.form
      obtain ⟨rfl, rfl, rfl⟩ : kv = .slice z1 x.keys.length y1' ∧ vv = .slice z2 x.vals.length y2' ∧ cv = .slice z3 x.kids.length y3' := by simpa using ez
      have hup := up_alloc wB (.cells #[.bool x.leaf, .slice z1 x.keys.length y1', .slice z2 x.vals.length y2', .slice z3 x.kids.length y3'] 37)
      have HTD := Hid.mk' (told_any (n9.up hup))
      have N10 := Hid.mk' (n9.up hup)
      have HBB := Hid.mk' (bt HA.out (bt hB hup))
      clear n9 hup hB k1 k2 k3 ez
      go_wp2_with fail
      refine HTD.out.mono ?_
      rintro e wC ⟨rfl, hC⟩
      have HE := Hid.mk' (rencode_any (N10.out.up hC) hxk.1 hxk.2.1 hxk.2.2)
      have HBC := Hid.mk' (bt HBB.out hC)
      clear hC
      go_wp2_with fail
      refine HE.out.mono ?_
      rintro e wD ⟨vD, rfl, oD, hD⟩
      rw [HX.out.2] at oD
      have HBD := Hid.mk' (bt HBC.out hD)
      have HEQ := requal_any _ _ _ _ wD (oD.bs hlm.out) (HP.out.up HBD.out)
      rw [beq_self_eq_true, hlE.out] at HEQ
      have HEQ := Hid.mk' HEQ
      rw [HX.out.1]
      clear oD hD
      go_wp2_with fail
      refine HEQ.out.mono ?_
      rintro e wE ⟨rfl, hE⟩
      have HBE := Hid.mk' (HBD.out.trans (hE.below _))
      clear hE
      go_wp2_with fail
      go_ret
      exact ⟨rfl, HBE.out⟩
  · have he' : (encE m == 0) = false := by simp [he]
    clear he
    go_wp2_with fail
    have HBW := Hid.mk' (HB4.out.trans (H8.out.mono (by omega)))
    have hlg : pg.length ≤ lim := HP.out.2
    refine (copy_any _ _ w8 (HP.out.up HBW.out)).mono ?_
    rintro e wA ⟨vA, rfl, hA, oA⟩
    have HA := Hid.mk' (bt HBW.out hA)
    have HD := decode_any (oA.bs hlg)
    clear hA oA
    rcases dec_cases pg with ⟨hl, hd⟩ | ⟨hl, hd | ⟨x, hd⟩⟩
    · rw [hd] at HD
      have HD := Hid.mk' HD
      have hl' : ((pg.length : Int) != 512) = true := by simp; omega
      clear hd hl hlg
      go_wp2_with fail
      refine HD.out.mono ?_
      rintro e wB ⟨kv, vv, cv, rfl, k1, k2, k3, hB, _, _, _, _⟩
      obtain ⟨za, zc, rfl⟩ : ∃ a c, kv = .slice a 0 c := (let ⟨_, h, _⟩ := k1; own_slice h)
      obtain ⟨za', zc', rfl⟩ : ∃ a c, vv = .slice a 0 c := (let ⟨_, h, _⟩ := k2; own_slice h)
      obtain ⟨za'', zc'', rfl⟩ : ∃ a c, cv = .slice a 0 c := own_slice k3
      have HBB := Hid.mk' (bt HA.out hB)
      clear k1 k2 k3 hB
      go_wp2_with fail
      go_ret
      exact ⟨rfl, bt HBB.out (up_alloc _ _)⟩
    · rw [hd] at HD
      have HD := Hid.mk' HD
      have hl' : ((pg.length : Int) != 512) = false := by simp; omega
      clear hd hl hlg
      go_wp2_with fail
      refine HD.out.mono ?_
      rintro e wB ⟨kv, vv, cv, rfl, k1, k2, k3, hB, _, _, _, _⟩
      obtain ⟨za, zc, rfl⟩ : ∃ a c, kv = .slice a 0 c := (let ⟨_, h, _⟩ := k1; own_slice h)
      obtain ⟨za', zc', rfl⟩ : ∃ a c, vv = .slice a 0 c := (let ⟨_, h, _⟩ := k2; own_slice h)
      obtain ⟨za'', zc'', rfl⟩ : ∃ a c, cv = .slice a 0 c := own_slice k3
      have HBB := Hid.mk' (bt HA.out hB)
      clear k1 k2 k3 hB
      go_wp2_with fail
      go_ret
      exact ⟨rfl, bt HBB.out (up_alloc _ _)⟩
    · obtain ⟨_, hcx, hsx, hpx⟩ := dec_ok hd
      rw [hd] at HD
      have HD := Hid.mk' HD
      have hl' : ((pg.length : Int) != 512) = false := by simp; omega
      have HX := Hid.mk' (enc_ok hcx (show ¬ 512 < size x by omega))
      rw [hpx] at HX
      have hXL : Hid (x.keys.length ≤ 1000 ∧ x.vals.length ≤ 1000 ∧ x.kids.length ≤ 2000) := small_of hcx hsx
      have hlm : Hid (pg.length ≤ lim) := hlg
      have hlE := Hid.mk' hl
      clear hd hl hcx hsx hpx hlg
      go_wp2_with fail
      refine HD.out.mono ?_
      rintro e wB ⟨kv, vv, cv, rfl, k1, k2, k3, hB, l1, l2, l3, l4⟩
      have n9 : RN (Ty wB) wB (.agg #[.bool x.leaf, kv, vv, cv]) x := ⟨kv, vv, cv, rfl, (k1.mono0' (Nat.zero_le _)).ty (by unfold lim; omega), (k2.mono0' (Nat.zero_le _)).ty (by unfold lim; omega), row_ty k3 (.inl rfl), by unfold lim; omega, fun y hy => by have := l4 y hy; omega⟩
      have hxk : x.keys.length ≤ 1000 ∧ x.vals.length ≤ 1000 ∧ x.kids.length ≤ 2000 := hXL.out
      obtain ⟨z1, y1', z2, y2', z3, y3', ez⟩ := n9.form
      obtain ⟨rfl, rfl, rfl⟩ : kv = .slice z1 x.keys.length y1' ∧ vv = .slice z2 x.vals.length y2' ∧ cv = .slice z3 x.kids.length y3' := by simpa using ez
      have hup := up_alloc wB (.cells #[.bool x.leaf, .slice z1 x.keys.length y1', .slice z2 x.vals.length y2', .slice z3 x.kids.length y3'] 37)
      have HTD := Hid.mk' (told_any (n9.up hup))
      have N10 := Hid.mk' (n9.up hup)
      have HBB := Hid.mk' (bt HA.out (bt hB hup))
      clear n9 hup hB k1 k2 k3 ez
      go_wp2_with fail
      refine HTD.out.mono ?_
      rintro e wC ⟨rfl, hC⟩
      have HE := Hid.mk' (rencode_any (N10.out.up hC) hxk.1 hxk.2.1 hxk.2.2)
      have HBC := Hid.mk' (bt HBB.out hC)
      clear hC
      go_wp2_with fail
      refine HE.out.mono ?_
      rintro e wD ⟨vD, rfl, oD, hD⟩
      rw [HX.out.2] at oD
      have HBD := Hid.mk' (bt HBC.out hD)
      have HEQ := requal_any _ _ _ _ wD (oD.bs hlm.out) (HP.out.up HBD.out)
      rw [beq_self_eq_true, hlE.out] at HEQ
      have HEQ := Hid.mk' HEQ
      rw [HX.out.1]
      clear oD hD
      go_wp2_with fail
      refine HEQ.out.mono ?_
      rintro e wE ⟨rfl, hE⟩
      have HBE := Hid.mk' (HBD.out.trans (hE.below _))
      clear hE
      go_wp2_with fail
      go_ret
      exact ⟨rfl, HBE.out⟩
end Go.Proofs.Ytfmbbpfklhkljaa
