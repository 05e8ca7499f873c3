/- groyneref08.Without. -/
import Derived.Test.YtfmbbpfklhkljaaRWa
set_option linter.unusedVariables false
set_option linter.unusedSimpArgs false
namespace Go.Proofs.Ytfmbbpfklhkljaa
open Go.RowKit
set_option maxRecDepth 100000 in
set_option maxHeartbeats 4000000 in
/-- groyneref08.Without -/
theorem rwithout_any {A : Nat → Prop} {w : World} {v : Value} {n : Nd} {i : Int} (h : RN A w v n) (hev : Even n) (hb1 : (n.keys.length + 1) * 24 ≤ lim) :
    Calls Try.prog 39 #[v, .int .i64 i] w fun e w' => ∃ v', e = .returned v' ∧ RN (Lt w'.heap.size) w' v' (wout n i) ∧ Below w.heap.size w w' := by
  obtain ⟨a1, c1, a2, c2, a3, c3, rfl⟩ := h.form
  have HN := Hid.mk' h
  have HEV := Hid.mk' hev
  have HW : Hid (∀ i, wout n i = if n.leaf = true ∧ 0 ≤ i ∧ i < n.keys.length ∧ i < n.vals.length then ⟨n.leaf, n.keys.take i.toNat ++ n.keys.drop (i.toNat + 1), n.vals.take i.toNat ++ n.vals.drop (i.toNat + 1), n.kids⟩ else n) := fun _ => rfl
  have hl1 : (n.keys.length + 1) * 24 ≤ 140737488351232 := hb1
  obtain ⟨_, _, _, eq0, g1, g2, g3⟩ := id h
  simp only [Value.agg.injEq, Array.mk.injEq, List.cons.injEq, and_true, true_and] at eq0
  obtain ⟨rfl, rfl, rfl⟩ := eq0
  have G1 := Hid.mk' g1
  have G2 := Hid.mk' g2
  clear h hev g1 g2 g3 
  obtain ⟨W1, hW1⟩ : ∃ W1, W1 = w.alloc (.cells #[.bool n.leaf, .slice a1 n.keys.length c1, .slice a2 n.vals.length c2, .slice a3 n.kids.length c3] 31) := ⟨_, rfl⟩
  have hb1 : Below w.heap.size w W1 := by rw [hW1]; exact up_alloc _ _
  have hx1 : W1.heap[w.heap.size]? = some (.cells #[.bool n.leaf, .slice a1 n.keys.length c1, .slice a2 n.vals.length c2, .slice a3 n.kids.length c3] 31 (0, 0)) := by rw [hW1]; exact heap_alloc_new w _
  have hsz1 : W1.heap.size = w.heap.size + 1 := by rw [hW1]; simp
  obtain ⟨V, hV⟩ : ∃ V, V = W1.alloc (.cells #[.bool false, .slice none 0 0, .slice none 0 0, .slice none 0 0] 31) := ⟨_, rfl⟩
  have hb2 : Below W1.heap.size W1 V := by rw [hV]; exact up_alloc _ _
  have hx2 : V.heap[w.heap.size]? = some (.cells #[.bool n.leaf, .slice a1 n.keys.length c1, .slice a2 n.vals.length c2, .slice a3 n.kids.length c3] 31 (0, 0)) := by rw [hb2.block _ (by omega)]; exact hx1
  have hz2 : V.heap[w.heap.size + 1]? = some (.cells #[.bool false, .slice none 0 0, .slice none 0 0, .slice none 0 0] 31 (0, 0)) := by rw [hV, ← hsz1]; exact heap_alloc_new W1 _
  have hszV : V.heap.size = w.heap.size + 2 := by rw [hV]; simp; omega
  have HBV := Hid.mk' (bt hb1 hb2)
  have he : ((w.alloc (.cells #[.bool n.leaf, .slice a1 n.keys.length c1, .slice a2 n.vals.length c2, .slice a3 n.kids.length c3] 31)).alloc (.cells #[.bool false, .slice none 0 0, .slice none 0 0, .slice none 0 0] 31)) = V := by rw [hV, hW1]
  have BX : Hid (Bx4 w.heap.size (.bool n.leaf) (.slice a1 n.keys.length c1) (.slice a2 n.vals.length c2) (.slice a3 n.kids.length c3) V) := (cells4_get hx2).1
  have HZ2 := Hid.mk' hz2
  have HZV := Hid.mk' hszV
  obtain ⟨⟨b0, b1, b2, b3⟩, bf⟩ := cells4_get hx2
  obtain ⟨⟨z0, z1, z2, z3⟩, zf⟩ := cells4_get hz2
  clear hV hW1 hb1 hb2 hx1 hsz1 hx2 hz2 hszV
  by_cases hc : n.leaf = true ∧ 0 ≤ i ∧ i < n.keys.length ∧ i < n.vals.length
  · obtain ⟨hc1, hc2, hc3, hc4⟩ := hc
    have HWT : Hid (wout n i = ⟨n.leaf, n.keys.take i.toNat ++ n.keys.drop (i.toNat + 1), n.vals.take i.toNat ++ n.vals.drop (i.toNat + 1), n.kids⟩) := by show _ = _; rw [HW.out, if_pos ⟨hc1, hc2, hc3, hc4⟩]
    obtain ⟨hev1, hev2⟩ := HEV.out hc1
    obtain ⟨j, rfl⟩ : ∃ j : Nat, i = (j : Int) := ⟨i.toNat, by omega⟩
    rw [Int.toNat_natCast] at HWT
    rw [hc1] at b0
    have k1 : decide ((j : Int) < 0) = false := by simp
    have k2 : decide ((n.keys.length : Int) ≤ (j : Int)) = false := by simp; omega
    obtain ⟨p1, q1, p2, q2, us, vs, S1, S2, R1, E1, R2, E2⟩ := bss_cut G1.out j (j + 1) (by omega) (by omega)
    obtain ⟨p3, q3, p4, q4, us', vs', S3, S4, R3, E3, R4, E4⟩ := bss_cut G2.out j (j + 1) (by omega) (by omega)
    have T1 := Hid.mk' (And.intro R1 E1)
    have T2 := Hid.mk' (And.intro R2 E2)
    have T3 := Hid.mk' (And.intro R3 E3)
    have T4 := Hid.mk' (And.intro R4 E4)
    have HJ3 : Hid (j ≤ n.keys.length ∧ (j < n.keys.length)) := ⟨by omega, by first | trivial | omega⟩
    have hj1 : j ≤ n.keys.length := by omega
    have hj2 : j ≤ n.vals.length := by omega
    have hl2 : n.vals.length ≤ n.keys.length := by omega
    have HLF := Hid.mk' hc1
    have HKD := Hid.mk' hev2
    clear hc1 hc2 hc3 hc4 hev1 hev2 R1 E1 R2 E2 R3 E3 R4 E4
    go_enter Try.func39, Try.ntmps39
    have hD : w.heap.size ≤ V.heap.size := HBV.out.size
    have hlt0 : w.heap.size < V.heap.size := by have := HZV.out; omega
    go_wp2_with (first
      | (at_builtin; refine app28 (W := V) (l := []) (m := n.keys.take j) (us := us) (A := Lt w.heap.size) hD rfl (.tmp 22) (.tmp 26) rfl rfl (up_alloc _ _) (obb_empty (Nat.le_refl _)) rfl (T1.out.1.up (bt HBV.out (up_alloc _ _))) (lt_td (D := 0) T1.out.2 (bt HBV.out (up_alloc _ _))) (by simp; unfold lim; omega) ?_; intro v5 w5 ho5 hb5; obtain ⟨b0, b1, b2, b3⟩ := BX.out.up hb5; obtain ⟨L5, f5, g5, ef5⟩ : ∃ L a c, v5 = .slice a L c := (let ⟨_, h, _⟩ := ho5; ⟨_, own_slice h⟩); subst ef5; have hlt5 : w.heap.size < w5.heap.size := Nat.lt_of_lt_of_le hlt0 hb5.size; have HO5 := Hid.mk' ho5; have HB5 := Hid.mk' hb5; clear ho5 hb5)
      | (at_builtin; refine app28 (W := w5) (l := []) (m := n.vals.take j) (us := us') (A := Lt w.heap.size) (D := w.heap.size) (Nat.le_trans hD HB5.out.size) rfl (.tmp 28) (.tmp 32) rfl rfl (up_alloc _ _) (obb_empty (Nat.le_refl _)) rfl (T3.out.1.up (bt HBV.out (bt HB5.out (up_alloc _ _)))) (lt_td (D := 0) T3.out.2 (bt HBV.out (bt HB5.out (up_alloc _ _)))) (by simp; unfold lim; omega) ?_; intro v7 w7 ho7 hb7; obtain ⟨b0, b1, b2, b3⟩ := BX.out.up (bt HB5.out hb7); obtain ⟨L7, f7, g7, ef7⟩ : ∃ L a c, v7 = .slice a L c := (let ⟨_, h, _⟩ := ho7; ⟨_, own_slice h⟩); subst ef7; have hlt7 : w.heap.size < w7.heap.size := Nat.lt_of_lt_of_le hlt5 hb7.size; have HO7 := Hid.mk' ho7; have HB7 := Hid.mk' hb7; clear ho7 hb7))
    · exfalso; have := HJ3.out.2; omega
    have hob5 := HO5.out.up HB7.out
    have hwj : IntKind.i64.wrap ((j : Int) + 1) = (j : Int) + 1 := by rw [IntKind.wrap_i64]; have := HJ3.out; omega
    have S2 : ∀ w : World, (Instr.slice 28 (.slice a1 n.keys.length c1) (some (.int .i64 ((j : Int) + 1))) none none).run Try.prog w = .ok (.slice p2 (n.keys.length - (j + 1)) q2) w := S2
    have S4 : ∀ w : World, (Instr.slice 28 (.slice a2 n.vals.length c2) (some (.int .i64 ((j : Int) + 1))) none none).run Try.prog w = .ok (.slice p4 (n.vals.length - (j + 1)) q4) w := S4
    have hbv := bt HBV.out (bt HB5.out HB7.out)
    have hdw : Below w7.heap.size w7 w7.drew := ⟨rfl, rfl, rfl, Nat.le_refl _, fun _ _ => rfl⟩
    have hsz8 := HB7.out.size
    have hsz6 := HB5.out.size
    have hszv := HZV.out
    have r1 : ∀ q : Kp (fun b => some b = (Value.slice f5 L5 g5).ownBlock) w7, q.nx.cell? ⟨w.heap.size, 1, none⟩ = some _ := fun q => q.cell b1 (fun e => by have := (hob5.typed _ e.symm).1; omega)
    have r2 : ∀ q : Kp (fun b => some b = (Value.slice f5 L5 g5).ownBlock) w7, q.nx.cell? ⟨w.heap.size, 2, none⟩ = some _ := fun q => q.cell b2 (fun e => by have := (hob5.typed _ e.symm).1; omega)
    obtain ⟨vk, wa, ra, xa, oa, ja⟩ := app_row (m := n.keys.drop (j + 1)) (us := vs) (hob5.up hdw) (T2.out.1.up (bt hbv hdw)) (lt_td (D := 0) T2.out.2 (bt hbv hdw)) (by simp; unfold lim; omega) (by have : w7.drew.heap.size = w7.heap.size := rfl; omega) hD
    have hov : Obb w.heap.size w5.heap.size wa (.slice f7 L7 g7) ([] ++ n.vals.take j) := (HO7.out.up hdw).wbD xa (by have : w7.drew.heap.size = w7.heap.size := rfl; omega) fun k hk => by
      obtain ⟨h1, cur, fr, h2⟩ := hob5.typed k hk.symm
      have h6 : k < w5.heap.size := by
        obtain ⟨_, _, _, h3⟩ := HO5.out.typed k hk.symm
        exact (Array.getElem?_eq_some_iff.1 h3).1
      refine ⟨fun e => ?_, by omega, fun cu f h3 => absurd (typed_ne h2 h3) (by decide)⟩
      have := (HO7.out.typed k e.symm).1
      omega
    have hba : Below w7.drew.heap.size w7.drew w7.drew := Below.refl _ _
    have hwa : Below w.heap.size w wa := (bt hbv hdw).trans (xa.below (by have : w7.drew.heap.size = w7.heap.size := rfl; omega) fun k hk => by have := (hob5.typed k hk.symm).1; omega)
    obtain ⟨vw, wb, rb, xb', ob, jb⟩ := app_row (m := n.vals.drop (j + 1)) (us := vs') hov (T4.out.1.up hwa) (lt_td (D := 0) T4.out.2 hwa) (by simp; unfold lim; omega) (by have := xa.size; have : w7.drew.heap.size = w7.heap.size := rfl; omega) (by omega)
    have hok : Obb w.heap.size V.heap.size wb vk ([] ++ n.keys.take j ++ n.keys.drop (j + 1)) := oa.wbD xb' (by have := hwa.size; omega) fun k hk => by
      obtain ⟨h1, cur, fr, h2⟩ := hov.typed k hk.symm
      refine ⟨fun e => ?_, by omega, fun cu f h3 => absurd (typed_ne h2 h3) (by decide)⟩
      rcases ja with ja | ⟨k', ja, jb'⟩
      · obtain ⟨_, _, _, h3⟩ := HO5.out.typed k (by rw [← ja]; exact e.symm)
        have := (Array.getElem?_eq_some_iff.1 h3).1
        omega
      · rw [ja] at e; cases e
        obtain ⟨_, _, _, h3⟩ := HO7.out.typed _ hk.symm
        have := (Array.getElem?_eq_some_iff.1 h3).1
        have : w7.drew.heap.size = w7.heap.size := rfl
        omega
    have hwb : Below w.heap.size w wb := hwa.trans (xb'.below (by have := hwa.size; omega) fun k hk => by have := (hov.typed k hk.symm).1; omega)
    have gac : Wb (fun b => some b = (Value.slice f5 L5 g5).ownBlock) w7 wa := (Wb.of_below _ hdw).trans xa
    have hzb : wb.heap[w.heap.size + 1]? = some (.cells #[.bool false, .slice none 0 0, .slice none 0 0, .slice none 0 0] 31 (0, 0)) := by
      rw [xb'.block _ (by have := hwa.size; have := gac.size; omega) (fun e => by have := (hov.typed _ e.symm).1; omega), gac.block _ (by omega) (fun e => by have := (hob5.typed _ e.symm).1; omega), (bt HB5.out HB7.out).block _ (by omega)]
      exact HZ2.out
    have hg1 : ¬ (some w.heap.size = (Value.slice f5 L5 g5).ownBlock ∨ some w.heap.size = (Value.slice f7 L7 g7).ownBlock) := fun e => by
      rcases e with e | e
      · have := (hob5.typed _ e.symm).1; omega
      · have := (hov.typed _ e.symm).1; omega
    have r1 : ∀ q : Kp (fun b => some b = (Value.slice f5 L5 g5).ownBlock ∨ some b = (Value.slice f7 L7 g7).ownBlock) w7, q.nx.cell? ⟨w.heap.size, 1, none⟩ = some _ := fun q => q.cell b1 hg1
    have r2 : ∀ q : Kp (fun b => some b = (Value.slice f5 L5 g5).ownBlock ∨ some b = (Value.slice f7 L7 g7).ownBlock) w7, q.nx.cell? ⟨w.heap.size, 2, none⟩ = some _ := fun q => q.cell b2 hg1
    have gb : Wb (fun b => some b = (Value.slice f5 L5 g5).ownBlock ∨ some b = (Value.slice f7 L7 g7).ownBlock) w7 wb := (gac.mono fun k hk => .inl hk).trans (xb'.mono fun k hk => .inr hk)
    refine wp_region_mix 15 (fun w' => ∃ q : Kp (fun b => some b = (Value.slice f5 L5 g5).ownBlock ∨ some b = (Value.slice f7 L7 g7).ownBlock) w7, w' = q.nx) (by kernel_rfl) (by kernel_rfl) (kp_first _ w7) ?_
    simp only [List.take_succ_cons, List.take_zero, List.drop_succ_cons, List.drop_zero]
    refine mx_take 6 rfl ?_
    simp only [List.take_succ_cons, List.take_zero, List.drop_succ_cons, List.drop_zero]
    repeat (go_big_quiet_step (fail))
    refine wpQuiet_nil ?_
    refine mx_app rfl rfl rfl (by kernel_rfl) ra (kp_mk gac.size fun b hb hx => gac.block b hb (fun e => hx (.inl e))) ?_
    simp only [Act.put, List.setIfInBounds_toArray, List.set_cons_succ, List.set_cons_zero]
    refine mx_take 6 rfl ?_
    simp only [List.take_succ_cons, List.take_zero, List.drop_succ_cons, List.drop_zero]
    repeat (go_big_quiet_step (fail))
    refine wpQuiet_nil ?_
    refine mx_app rfl rfl rfl (by kernel_rfl) rb (kp_mk gb.size fun b hb hx => gb.block b hb hx) ?_
    simp only [Act.put, List.setIfInBounds_toArray, List.set_cons_succ, List.set_cons_zero]
    obtain ⟨M1, m1, n1, em1⟩ : ∃ L a c, vk = .slice a L c := (let ⟨_, h, _⟩ := hok; ⟨_, own_slice h⟩)
    obtain ⟨M2, m2, n2, em2⟩ : ∃ L a c, vw = .slice a L c := (let ⟨_, h, _⟩ := ob; ⟨_, own_slice h⟩)
    subst em1; subst em2
    refine mx_take 1 rfl ?_
    simp only [List.take_succ_cons, List.take_zero, List.drop_succ_cons, List.drop_zero]
    repeat (go_big_quiet_step (fail))
    refine wpQuiet_nil ?_
    simp only [wpMix]
    have HOK := Hid.mk' hok
    have HOV := Hid.mk' ob
    have HZB := Hid.mk' hzb
    have HWB := Hid.mk' hwb
    have hwbs := hwb.size
    obtain ⟨⟨z0', z1', z2', z3'⟩, zf'⟩ := cells4_get hzb
    clear r1 r2 gb gac xa oa ja xb' ob jb hok hov hwb hzb hba hwa ra rb hob5 hbv hdw hg1 b0 b1 b2 b3
    go_wp2_with fail
    refine bodyPost_ret (v := .agg #[.bool true, .slice m1 M1 n1, .slice m2 M2 n2, .slice none 0 0]) (by simp [results, Try.results39, go_sem, z0', z1', z2', z3']) rfl ?_
    have hs4 := four_wb wb (w.heap.size + 1) (.bool true) (.slice m1 M1 n1) (.slice m2 M2 n2) (.slice none 0 0)
    have hfin : ∀ {B : Nat} {v : Value} {l : List (List UInt8)}, Obb w.heap.size B wb v l → l.length * 24 ≤ lim → Bss (Lt ((((wb.setCell ⟨w.heap.size + 1, 0, none⟩ (.bool true)).setCell ⟨w.heap.size + 1, 1, none⟩ (.slice m1 M1 n1)).setCell ⟨w.heap.size + 1, 2, none⟩ (.slice m2 M2 n2)).setCell ⟨w.heap.size + 1, 3, none⟩ (.slice none 0 0)).heap.size) ((((wb.setCell ⟨w.heap.size + 1, 0, none⟩ (.bool true)).setCell ⟨w.heap.size + 1, 1, none⟩ (.slice m1 M1 n1)).setCell ⟨w.heap.size + 1, 2, none⟩ (.slice m2 M2 n2)).setCell ⟨w.heap.size + 1, 3, none⟩ (.slice none 0 0)) v l := fun ho hl =>
      (ho.wbD hs4 hwbs fun k hk => by
        subst hk
        exact ⟨fun e => by obtain ⟨_, _, _, h1⟩ := ho.typed _ e.symm; exact absurd (typed_ne h1 HZB.out) (by decide), by omega, fun cu f h3 => absurd (typed_ne h3 HZB.out) (by decide)⟩).bss (Nat.le_trans hwbs hs4.size) hl
    refine ⟨_, rfl, ?_, HWB.out.trans (hs4.below hwbs (fun k hk => by subst hk; omega))⟩
    rw [HWT.out, HKD.out, HLF.out]
    exact ⟨_, _, _, rfl, by have := hfin HOK.out (by simp; unfold lim; omega); simpa using this, by have := hfin HOV.out (by simp; unfold lim; omega); simpa using this, Row.void (fun _ => rfl), by simp [lim], by simp⟩
  · have HWT : Hid (wout n i = n) := by show _ = _; rw [HW.out, if_neg hc]
    by_cases dl : n.leaf = true
    · rw [dl] at b0
      have DL := Hid.mk' dl
      by_cases dm : i < 0
      · have k1 : decide (i < 0) = true := by simp [dm]
        clear dl
        clear hc
        go_enter Try.func39, Try.ntmps39
        go_wp2_with fail
        refine bodyPost_ret (v := .agg #[.bool n.leaf, .slice a1 n.keys.length c1, .slice a2 n.vals.length c2, .slice a3 n.kids.length c3]) (by simp [results, Try.results39, go_sem, z0, z1, z2, z3]; exact DL.out) rfl ?_
        have hbw := HBV.out.trans ((four_wb V (w.heap.size + 1) (.bool true) (.slice a1 n.keys.length c1) (.slice a2 n.vals.length c2) (.slice a3 n.kids.length c3)).below HBV.out.size (fun k hk => by subst hk; omega))
        exact ⟨_, rfl, by rw [HWT.out]; exact (HN.out.up hbw).toLt, hbw⟩
      · have k1 : decide (i < 0) = false := by simp; omega
        have k2 : decide ((n.keys.length : Int) ≤ i) = true := by
          simp
          by_cases h : (n.keys.length : Int) ≤ i
          · exact h
          · exact absurd ⟨dl, by omega, by omega, by have := (HEV.out dl).1; omega⟩ hc
        clear dl
        clear hc
        go_enter Try.func39, Try.ntmps39
        go_wp2_with fail
        refine bodyPost_ret (v := .agg #[.bool n.leaf, .slice a1 n.keys.length c1, .slice a2 n.vals.length c2, .slice a3 n.kids.length c3]) (by simp [results, Try.results39, go_sem, z0, z1, z2, z3]; exact DL.out) rfl ?_
        have hbw := HBV.out.trans ((four_wb V (w.heap.size + 1) (.bool true) (.slice a1 n.keys.length c1) (.slice a2 n.vals.length c2) (.slice a3 n.kids.length c3)).below HBV.out.size (fun k hk => by subst hk; omega))
        exact ⟨_, rfl, by rw [HWT.out]; exact (HN.out.up hbw).toLt, hbw⟩
    · have d1' : n.leaf = false := by simpa using dl
      rw [d1'] at b0
      have DF := Hid.mk' d1'
      clear d1'
      clear dl
      clear hc
      go_enter Try.func39, Try.ntmps39
      go_wp2_with fail
      refine bodyPost_ret (v := .agg #[.bool n.leaf, .slice a1 n.keys.length c1, .slice a2 n.vals.length c2, .slice a3 n.kids.length c3]) (by simp [results, Try.results39, go_sem, z0, z1, z2, z3]; exact DF.out) rfl ?_
      have hbw := HBV.out.trans ((four_wb V (w.heap.size + 1) (.bool false) (.slice a1 n.keys.length c1) (.slice a2 n.vals.length c2) (.slice a3 n.kids.length c3)).below HBV.out.size (fun k hk => by subst hk; omega))
      exact ⟨_, rfl, by rw [HWT.out]; exact (HN.out.up hbw).toLt, hbw⟩
end Go.Proofs.Ytfmbbpfklhkljaa
