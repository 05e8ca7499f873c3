/- leaf.part; groyneref08.front, back, greater. -/
import Derived.Test.YtfmbbpfklhkljaaSP
import Derived.BigRegion
set_option linter.unusedVariables false
set_option linter.unusedSimpArgs false
namespace Go.Proofs.Ytfmbbpfklhkljaa
open Go.RowKit
set_option maxRecDepth 100000 in
set_option maxHeartbeats 4000000 in
/-- groyneref08.front -/
theorem front_any {A : Nat → Prop} {w : World} {v : Value} {n : Nd} {k : Nat} (h : RN A w v n) (h1 : k ≤ n.keys.length) (h2 : n.leaf = true → k ≤ n.vals.length) (h3 : n.leaf = false → k + 1 ≤ n.kids.length) : Calls Try.prog 78 #[v, .int .i64 k] w fun e w' => ∃ v', e = .returned v' ∧ RN A w' v' (prt n 0 k) ∧ Below w.heap.size w w' := by
  obtain ⟨a1, c1, a2, c2, a3, c3, rfl⟩ := h.form
  obtain ⟨_, _, _, eq0, g1, g2, g3⟩ := id h
  simp only [Value.agg.injEq, Array.mk.injEq, List.cons.injEq, and_true, true_and] at eq0
  obtain ⟨rfl, rfl, rfl⟩ := eq0
  have hl1 : n.keys.length * 24 ≤ 140737488351232 := by obtain ⟨_, _, _, h⟩ := g1; exact h
  obtain ⟨x1, y1, S1, B1⟩ := bss_to g1 k h1
  have B1 := Hid.mk' B1
  cases hl : n.leaf with
  | true =>
    obtain ⟨x2, y2, S2, B2⟩ := bss_to g2 k (h2 hl)
    have B2 := Hid.mk' B2
    have HP : Hid (prt n 0 k = ⟨true, n.keys.take k, n.vals.take k, []⟩) := by
      show _ = _
      rw [prt_leaf hl]; rfl
    have hk9 : (k : Int) + 1 ≤ 9223372036854775807 := by omega
    clear h g1 g2 g3 h1 h2 h3 hl
    go_enter Try.func78, Try.ntmps78
    go_wp2_with fail
    obtain ⟨W, hW⟩ : ∃ W, W = ((w.alloc (.cells #[.bool true, .slice a1 n.keys.length c1, .slice a2 n.vals.length c2, .slice a3 n.kids.length c3] 31)).alloc (.cells #[.bool false, .slice none 0 0, .slice none 0 0, .slice none 0 0] 31)) := ⟨_, rfl⟩
    rw [← hW]
    obtain ⟨HB, hx, hy, _⟩ := two_boxes hW
    have HB := Hid.mk' HB
    have HY := Hid.mk' hy
    clear hW
    obtain ⟨⟨b0, b1, b2, b3⟩, bf⟩ := cells4_get hx
    obtain ⟨⟨d0, d1, d2, d3⟩, df⟩ := cells4_get hy
    clear hx hy
    go_big_region
    go_wp2_with fail
    obtain ⟨hq, hr⟩ := put4 (w := W) (b := w.heap.size + 1) (B := w.heap.size) (.bool true) (.slice x1 k y1) (.slice x2 k y2) (.slice none 0 0) HY.out (by omega)
    obtain ⟨⟨z0, z1, z2, z3⟩, zf⟩ := cells4_get hr
    refine bodyPost_ret (v := .agg #[.bool true, .slice x1 k y1, .slice x2 k y2, .slice none 0 0]) (by simp [results, Try.results78, go_sem, z0, z1, z2, z3]) rfl ?_
    have hb := (HB.out.trans hq).trans (drew_bl _ w.heap.size)
    exact ⟨_, rfl, by rw [HP.out]; exact ⟨_, _, _, rfl, B1.out.up hb, B2.out.up hb, is_nil⟩, hb⟩
  | false =>
    have hl3 : n.kids.length * 8 ≤ 140737488351232 := g3.2.1
    obtain ⟨x2, y2, S2, B2⟩ := is_to g3 (k + 1) (h3 hl)
    have B2 := Hid.mk' B2
    have S2 : ∀ w, (Instr.slice 29 (.slice a3 n.kids.length c3) none (some (.int .i64 ((k : Int) + 1))) none).run Try.prog w = .ok (.slice x2 (k + 1) y2) w := S2
    have HP : Hid (prt n 0 k = ⟨false, n.keys.take k, [], n.kids.take (k + 1)⟩) := by
      show _ = _
      rw [prt_inner hl]; rfl
    have hk9 : (k : Int) + 1 ≤ 9223372036854775807 := by omega
    clear h g1 g2 g3 h1 h2 h3 hl
    go_enter Try.func78, Try.ntmps78
    go_wp2_with fail
    obtain ⟨W, hW⟩ : ∃ W, W = ((w.alloc (.cells #[.bool false, .slice a1 n.keys.length c1, .slice a2 n.vals.length c2, .slice a3 n.kids.length c3] 31)).alloc (.cells #[.bool false, .slice none 0 0, .slice none 0 0, .slice none 0 0] 31)) := ⟨_, rfl⟩
    rw [← hW]
    obtain ⟨HB, hx, hy, _⟩ := two_boxes hW
    have HB := Hid.mk' HB
    have HY := Hid.mk' hy
    clear hW
    obtain ⟨⟨b0, b1, b2, b3⟩, bf⟩ := cells4_get hx
    obtain ⟨⟨d0, d1, d2, d3⟩, df⟩ := cells4_get hy
    clear hx hy
    go_big_region
    go_wp2_with fail
    obtain ⟨hq, hr⟩ := put4 (w := W) (b := w.heap.size + 1) (B := w.heap.size) (.bool false) (.slice x1 k y1) (.slice none 0 0) (.slice x2 (k + 1) y2) HY.out (by omega)
    obtain ⟨⟨z0, z1, z2, z3⟩, zf⟩ := cells4_get hr
    refine bodyPost_ret (v := .agg #[.bool false, .slice x1 k y1, .slice none 0 0, .slice x2 (k + 1) y2]) (by simp [results, Try.results78, go_sem, z0, z1, z2, z3]) rfl ?_
    have hb := (HB.out.trans hq).trans (drew_bl _ w.heap.size)
    exact ⟨_, rfl, by rw [HP.out]; exact ⟨_, _, _, rfl, B1.out.up hb, bss_nil, B2.out.up hb⟩, hb⟩
set_option maxRecDepth 100000 in
set_option maxHeartbeats 4000000 in
/-- groyneref08.back -/
theorem back_any {A : Nat → Prop} {w : World} {v : Value} {n : Nd} {k : Nat} (h : RN A w v n) (h1 : k + bh n ≤ n.keys.length) (h2 : n.leaf = true → n.vals.length = n.keys.length) (h3 : n.leaf = false → n.kids.length = n.keys.length + 1) : Calls Try.prog 79 #[v, .int .i64 k] w fun e w' => ∃ v', e = .returned v' ∧ RN A w' v' (prt n (k + bh n) n.keys.length) ∧ Below w.heap.size w w' := by
  obtain ⟨a1, c1, a2, c2, a3, c3, rfl⟩ := h.form
  obtain ⟨_, _, _, eq0, g1, g2, g3⟩ := id h
  simp only [Value.agg.injEq, Array.mk.injEq, List.cons.injEq, and_true, true_and] at eq0
  obtain ⟨rfl, rfl, rfl⟩ := eq0
  have hl1 : n.keys.length * 24 ≤ 140737488351232 := by obtain ⟨_, _, _, h⟩ := g1; exact h
  cases hl : n.leaf with
  | true =>
    have hbh : bh n = 0 := by unfold bh; rw [hl]; rfl
    rw [hbh] at h1 ⊢
    obtain ⟨x1, y1, S1, B1⟩ := bss_from g1 k h1
    have B1 := Hid.mk' B1
    obtain ⟨x2, y2, S2, B2⟩ := bss_from g2 k (by rw [h2 hl]; exact h1)
    have B2 := Hid.mk' B2
    have HP : Hid (prt n (k + 0) n.keys.length = ⟨true, n.keys.drop k, n.vals.drop k, []⟩) := by
      show _ = _
      rw [prt_leaf hl, List.take_length, ← h2 hl, List.take_length]; rfl
    have hk9 : (k : Int) + 1 ≤ 9223372036854775807 := by omega
    clear h g1 g2 g3 h1 h2 h3 hl
    go_enter Try.func79, Try.ntmps79
    go_wp2_with fail
    obtain ⟨W, hW⟩ : ∃ W, W = ((w.alloc (.cells #[.bool true, .slice a1 n.keys.length c1, .slice a2 n.vals.length c2, .slice a3 n.kids.length c3] 31)).alloc (.cells #[.bool false, .slice none 0 0, .slice none 0 0, .slice none 0 0] 31)) := ⟨_, rfl⟩
    rw [← hW]
    obtain ⟨HB, hx, hy, _⟩ := two_boxes hW
    have HB := Hid.mk' HB
    have HY := Hid.mk' hy
    clear hW
    obtain ⟨⟨b0, b1, b2, b3⟩, bf⟩ := cells4_get hx
    obtain ⟨⟨d0, d1, d2, d3⟩, df⟩ := cells4_get hy
    clear hx hy
    go_big_region
    go_wp2_with fail
    obtain ⟨hq, hr⟩ := put4 (w := W) (b := w.heap.size + 1) (B := w.heap.size) (.bool true) (.slice x1 (n.keys.length - k) y1) (.slice x2 (n.vals.length - k) y2) (.slice none 0 0) HY.out (by omega)
    obtain ⟨⟨z0, z1, z2, z3⟩, zf⟩ := cells4_get hr
    refine bodyPost_ret (v := .agg #[.bool true, .slice x1 (n.keys.length - k) y1, .slice x2 (n.vals.length - k) y2, .slice none 0 0]) (by simp [results, Try.results79, go_sem, z0, z1, z2, z3]) rfl ?_
    have hb := (HB.out.trans hq).trans (drew_bl _ w.heap.size)
    exact ⟨_, rfl, by rw [HP.out]; exact ⟨_, _, _, rfl, B1.out.up hb, B2.out.up hb, is_nil⟩, hb⟩
  | false =>
    have hl3 : n.kids.length * 8 ≤ 140737488351232 := g3.2.1
    have hbh : bh n = 1 := by unfold bh; rw [hl]; rfl
    rw [hbh] at h1 ⊢
    obtain ⟨x1, y1, S1, B1⟩ := bss_from g1 (k + 1) h1
    have B1 := Hid.mk' B1
    have S1 : ∀ w, (Instr.slice 28 (.slice a1 n.keys.length c1) (some (.int .i64 ((k : Int) + 1))) none none).run Try.prog w = .ok (.slice x1 (n.keys.length - (k + 1)) y1) w := S1
    obtain ⟨x2, y2, S2, B2⟩ := is_from g3 (k + 1) (by rw [h3 hl]; omega)
    have B2 := Hid.mk' B2
    have S2 : ∀ w, (Instr.slice 29 (.slice a3 n.kids.length c3) (some (.int .i64 ((k : Int) + 1))) none none).run Try.prog w = .ok (.slice x2 (n.kids.length - (k + 1)) y2) w := S2
    have HP : Hid (prt n (k + 1) n.keys.length = ⟨false, n.keys.drop (k + 1), [], n.kids.drop (k + 1)⟩) := by
      show _ = _
      rw [prt_inner hl, List.take_length, ← h3 hl, List.take_length]
    have hk9 : (k : Int) + 1 ≤ 9223372036854775807 := by omega
    clear h g1 g2 g3 h1 h2 h3 hl
    go_enter Try.func79, Try.ntmps79
    go_wp2_with fail
    obtain ⟨W, hW⟩ : ∃ W, W = ((w.alloc (.cells #[.bool false, .slice a1 n.keys.length c1, .slice a2 n.vals.length c2, .slice a3 n.kids.length c3] 31)).alloc (.cells #[.bool false, .slice none 0 0, .slice none 0 0, .slice none 0 0] 31)) := ⟨_, rfl⟩
    rw [← hW]
    obtain ⟨HB, hx, hy, _⟩ := two_boxes hW
    have HB := Hid.mk' HB
    have HY := Hid.mk' hy
    clear hW
    obtain ⟨⟨b0, b1, b2, b3⟩, bf⟩ := cells4_get hx
    obtain ⟨⟨d0, d1, d2, d3⟩, df⟩ := cells4_get hy
    clear hx hy
    go_big_region
    go_wp2_with fail
    obtain ⟨hq, hr⟩ := put4 (w := W) (b := w.heap.size + 1) (B := w.heap.size) (.bool false) (.slice x1 (n.keys.length - (k + 1)) y1) (.slice none 0 0) (.slice x2 (n.kids.length - (k + 1)) y2) HY.out (by omega)
    obtain ⟨⟨z0, z1, z2, z3⟩, zf⟩ := cells4_get hr
    refine bodyPost_ret (v := .agg #[.bool false, .slice x1 (n.keys.length - (k + 1)) y1, .slice none 0 0, .slice x2 (n.kids.length - (k + 1)) y2]) (by simp [results, Try.results79, go_sem, z0, z1, z2, z3]) rfl ?_
    have hb := (HB.out.trans hq).trans (drew_bl _ w.heap.size)
    exact ⟨_, rfl, by rw [HP.out]; exact ⟨_, _, _, rfl, B1.out.up hb, bss_nil, B2.out.up hb⟩, hb⟩
theorem exec_store37 {w : World} {o : Oper} {a : Act} {x y : Operand} {b : Nat} {x0 x1 x2 x3 : Value} {l : Bool} {a1 a2 a3 : Option Addr} {n1 n2 n3 c1 c2 c3 : Nat} (ho : o.op = .store 37 x y) (hx : a.eval x = .pointer (some ⟨b, 0, none⟩)) (hy : a.eval y = .agg #[.bool l, .slice a1 n1 c1, .slice a2 n2 c2, .slice a3 n3 c3])
    (h : w.heap[b]? = some (.cells #[x0, x1, x2, x3] 37 (0, 0))) : (execOp a.eval o).run Try.prog w = .ok .skip ((((w.setCell ⟨b, 0, none⟩ (.bool l)).setCell ⟨b, 1, none⟩ (.slice a1 n1 c1)).setCell ⟨b, 2, none⟩ (.slice a2 n2 c2)).setCell ⟨b, 3, none⟩ (.slice a3 n3 c3)) := by
  obtain ⟨⟨z0, z1, z2, z3⟩, zf⟩ := cells4_get h
  unfold execOp
  simp only [ho, hx, hy]
  simp [go_sem, z0, z1, z2, z3, zf]
theorem mx_store {P : Program} {ops : Array Oper} {C : World → Prop} {Q : Act → World → Prop} {o : Oper} {rest : List Oper} {a : Act} {w w' : World} (hp : plainB o = false) (hw : Region.wanted o (yielded ops a.tmps) = true) (h : (execOp a.eval o).run P w = .ok .skip w') (hC : C w')
    (hn : wpMix P ops C Q rest (a.put o.dst undef) w') : wpMix P ops C Q (o :: rest) a w := by
  show pmix P ops C o a w _
  unfold pmix
  rw [if_pos hw, if_neg (by rw [hp]; decide), h]
  exact ⟨hC, hn⟩
theorem exec_alloc37 {w : World} {o : Oper} {a : Act} (ho : o.op = .alloc 37) : (execOp a.eval o).run Try.prog w = .ok (.value (.pointer (some ⟨w.heap.size, 0, none⟩))) (w.alloc (.cells #[.bool false, .slice none 0 0, .slice none 0 0, .slice none 0 0] 37)) := by
  unfold execOp
  simp only [ho]
  simp [go_sem]
set_option maxRecDepth 100000 in
set_option maxHeartbeats 4000000 in
/-- leaf.part -/
theorem part_any {A : Nat → Prop} {w : World} {v : Value} {n : Nd} {i j : Nat} (h : RN A w v n) (hij : i ≤ j) (h1 : j ≤ n.keys.length) (h2 : n.leaf = true → j ≤ n.vals.length) (h3 : n.leaf = false → j + 1 ≤ n.kids.length) : Calls Try.prog 75 #[v, .int .i64 i, .int .i64 j] w fun e w' => ∃ v', e = .returned v' ∧ OwnN w.heap.size w' v' (prt n i j) ∧ Below w.heap.size w w' := by
  obtain ⟨a1, c1, a2, c2, a3, c3, rfl⟩ := h.form
  obtain ⟨_, _, _, eq0, g1, g2, g3⟩ := id h
  simp only [Value.agg.injEq, Array.mk.injEq, List.cons.injEq, and_true, true_and] at eq0
  obtain ⟨rfl, rfl, rfl⟩ := eq0
  have hl1 : n.keys.length * 24 ≤ 140737488351232 := by obtain ⟨_, _, _, h⟩ := g1; exact h
  obtain ⟨x1, y1, S1, B1⟩ := bss_lh g1 i j hij h1
  have B1 := Hid.mk' B1
  have HG2 := Hid.mk' g2
  have HG3 := Hid.mk' g3
  have H2 := Hid.mk' h2
  have H3 := Hid.mk' h3
  have HIJ := Hid.mk' hij
  have hk9 : (j : Int) + 1 ≤ 9223372036854775807 := by omega
  clear h g1 g2 g3 h1 h2 h3 hij
  go_enter Try.func75, Try.ntmps75
  go_wp2_with fail
  obtain ⟨W, hW⟩ : ∃ W, W = ((w.alloc (.cells #[.bool n.leaf, .slice a1 n.keys.length c1, .slice a2 n.vals.length c2, .slice a3 n.kids.length c3] 37)).alloc (.cells #[.bool false, .slice none 0 0, .slice none 0 0, .slice none 0 0] 37)) := ⟨_, rfl⟩
  rw [← hW]
  obtain ⟨HB, hx, hy, hsz⟩ := two_boxes hW
  have HB := Hid.mk' HB
  have HX := Hid.mk' hx
  have HY := Hid.mk' hy
  clear hW
  obtain ⟨⟨b0, b1, b2, b3⟩, bf⟩ := cells4_get hx
  clear hx hy
  have r0 : ∀ q : Kp (fun _ => False) W, q.nx.cell? ⟨w.heap.size, 0, none⟩ = some _ := fun q => q.cell b0 id
  have r1 : ∀ q : Kp (fun _ => False) W, q.nx.cell? ⟨w.heap.size, 1, none⟩ = some _ := fun q => q.cell b1 id
  refine wp_region_mix 10 (fun w' => ∃ q : Kp (fun _ => False) W, w' = q.nx) (by kernel_rfl) (by kernel_rfl) (kp_first _ W) ?_
  simp only [List.take_succ_cons, List.take_zero, List.drop_succ_cons, List.drop_zero]
  refine mx_take 8 rfl ?_
  simp only [List.take_succ_cons, List.take_zero, List.drop_succ_cons, List.drop_zero]
  repeat (go_big_quiet_step (fail))
  refine wpQuiet_nil ?_
  refine mx_make rfl (by kernel_rfl) (exec_alloc37 rfl) (kp_mk (by simp) fun b hb _ => (up_alloc W.drew _).block b hb) ?_
  simp only [Act.put, List.setIfInBounds_toArray, List.set_cons_succ, List.set_cons_zero]
  have hz := heap_alloc_new W.drew (.cells #[.bool false, .slice none 0 0, .slice none 0 0, .slice none 0 0] 37)
  have hbz : Below w.heap.size w (W.drew.alloc (.cells #[.bool false, .slice none 0 0, .slice none 0 0, .slice none 0 0] 37)) := (HB.out.trans (drew_bl _ w.heap.size)).trans ((up_alloc W.drew _).mono (by show w.heap.size ≤ W.heap.size; omega))
  have hxz := (bt (show Below W.heap.size W W.drew from drew_bl _ _) (up_alloc W.drew (.cells #[.bool false, .slice none 0 0, .slice none 0 0, .slice none 0 0] 37)))
  obtain ⟨hq, hz'⟩ := put4 (B := W.heap.size) (.bool n.leaf) (.slice x1 (j - i) y1) (.slice none 0 0) (.slice none 0 0) hz (Nat.le_refl _)
  have hxq := hxz.trans hq
  refine mx_store rfl (by kernel_rfl) (exec_store37 rfl rfl rfl hz) (kp_mk hxq.size fun b hb _ => hxq.block b hb) ?_
  simp only [Act.put, wpMix]
  have HX := Hid.mk' ((hxq.block w.heap.size (by omega)).trans HX.out)
  have HY := Hid.mk' ((hxq.block (w.heap.size + 1) (by omega)).trans HY.out)
  have HZ := Hid.mk' hz'
  have HBZ := Hid.mk' (HB.out.trans (hxq.mono (show w.heap.size ≤ W.heap.size by omega)))
  have hne : w.heap.size + 2 ≤ W.drew.heap.size := by show _ ≤ W.heap.size; omega
  clear r0 r1 b0 b1 b2 b3 bf hxz hz hbz hq hz' hxq HB hsz
  generalize ((((W.drew.alloc (.cells #[.bool false, .slice none 0 0, .slice none 0 0, .slice none 0 0] 37)).setCell ⟨W.drew.heap.size, 0, none⟩ (.bool n.leaf)).setCell ⟨W.drew.heap.size, 1, none⟩ (.slice x1 (j - i) y1)).setCell ⟨W.drew.heap.size, 2, none⟩ (.slice none 0 0)).setCell ⟨W.drew.heap.size, 3, none⟩ (.slice none 0 0) = X at *
  generalize W.drew.heap.size = p at *
  cases hlf : n.leaf with
  | true =>
    have hx := HX.out
    have hz := HZ.out
    rw [hlf] at hx hz
    obtain ⟨x2, y2, S2, B2⟩ := bss_lh HG2.out i j HIJ.out (H2.out hlf)
    have B2 := Hid.mk' B2
    have HP : Hid (prt n i j = ⟨true, (n.keys.take j).drop i, (n.vals.take j).drop i, []⟩) := by show _ = _; rw [prt_leaf hlf]
    clear hlf
    obtain ⟨⟨b0, b1, b2, b3⟩, bf⟩ := cells4_get hx
    obtain ⟨⟨z0, z1, z2, z3⟩, zf⟩ := cells4_get hz
    clear hx hz
    go_wp2_with fail
    have hY := (Wb.set (X := fun k => k = p) X p 2 (.slice x2 (j - i) y2) rfl).below (D := w.heap.size) HBZ.out.size (fun k hk => by subst hk; omega)
    have HBY := Hid.mk' (HBZ.out.trans hY)
    have HYY := Hid.mk' (show (X.setCell ⟨p, 2, none⟩ (.slice x2 (j - i) y2)).heap[w.heap.size + 1]? = _ from (Below.heap_setCell _ _ _ _ (by show w.heap.size + 1 ≠ p; omega)).trans HY.out)
    have hzY := Hid.mk' hY
    clear hY b0 b1 b2 b3 bf z0 z1 z2 z3 zf HZ HX HY HBZ
    generalize X.setCell ⟨p, 2, none⟩ (.slice x2 (j - i) y2) = Y at *
    have HRN : Hid (RN A Y (.agg #[.bool true, .slice x1 (j - i) y1, .slice x2 (j - i) y2, .slice none 0 0]) (prt n i j)) := by
      rw [HP.out]
      exact ⟨_, _, _, rfl, B1.out.up HBY.out, B2.out.up HBY.out, is_nil⟩
    have HTW := Hid.mk' (twin_any HRN.out)
    refine HTW.out.mono ?_
    rintro e w5 ⟨v5, rfl, n5, h5⟩
    have HBL := Hid.mk' (HBY.out.trans (h5.mono HBY.out.size))
    have hlt2 : w.heap.size + 1 < Y.heap.size := (Array.getElem?_eq_some_iff.1 HYY.out).1
    have HY5 := Hid.mk' ((h5.block (w.heap.size + 1) hlt2).trans HYY.out)
    have N5 := Hid.mk' (n5.mono HBY.out.size)
    obtain ⟨p1, q1, p2, q2, p3, q3, rfl⟩ := n5.form
    rw [show (prt n i j).leaf = true by rw [HP.out]] at N5 ⊢
    clear n5 h5 HTW hlt2
    obtain ⟨⟨z0, z1, z2, z3⟩, zf⟩ := cells4_get HY5.out
    generalize (prt n i j).keys.length = l1 at *
    generalize (prt n i j).vals.length = l2 at *
    generalize (prt n i j).kids.length = l3 at *
    go_wp2_with fail
    refine bodyPost_ret (v := .agg #[.bool true, .slice p1 l1 q1, .slice p2 l2 q2, .slice p3 l3 q3]) (by simp [results, Try.results75, go_sem, z0, z1, z2, z3]) rfl ?_
    have ho := four_wb w5 (w.heap.size + 1) (.bool true) (.slice p1 l1 q1) (.slice p2 l2 q2) (.slice p3 l3 q3)
    exact ⟨_, rfl, N5.out.wbz HY5.out ho, HBL.out.trans (ho.below HBL.out.size fun k hk => by subst hk; omega)⟩
  | false =>
    have hx := HX.out
    have hz := HZ.out
    rw [hlf] at hx hz
    obtain ⟨x2, y2, S2, B2⟩ := is_lh HG3.out i (j + 1) (Nat.le_succ_of_le HIJ.out) (H3.out hlf)
    have B2 := Hid.mk' B2
    have S2 : ∀ w, (Instr.slice 29 (.slice a3 n.kids.length c3) (some (.int .i64 (i : Int))) (some (.int .i64 ((j : Int) + 1))) none).run Try.prog w = .ok (.slice x2 (j + 1 - i) y2) w := S2
    have HP : Hid (prt n i j = ⟨false, (n.keys.take j).drop i, [], (n.kids.take (j + 1)).drop i⟩) := by show _ = _; rw [prt_inner hlf]
    clear hlf
    obtain ⟨⟨b0, b1, b2, b3⟩, bf⟩ := cells4_get hx
    obtain ⟨⟨z0, z1, z2, z3⟩, zf⟩ := cells4_get hz
    clear hx hz
    go_wp2_with fail
    have hY := (Wb.set (X := fun k => k = p) X p 3 (.slice x2 (j + 1 - i) y2) rfl).below (D := w.heap.size) HBZ.out.size (fun k hk => by subst hk; omega)
    have HBY := Hid.mk' (HBZ.out.trans hY)
    have HYY := Hid.mk' (show (X.setCell ⟨p, 3, none⟩ (.slice x2 (j + 1 - i) y2)).heap[w.heap.size + 1]? = _ from (Below.heap_setCell _ _ _ _ (by show w.heap.size + 1 ≠ p; omega)).trans HY.out)
    have hzY := Hid.mk' hY
    clear hY b0 b1 b2 b3 bf z0 z1 z2 z3 zf HZ HX HY HBZ
    generalize X.setCell ⟨p, 3, none⟩ (.slice x2 (j + 1 - i) y2) = Y at *
    have HRN : Hid (RN A Y (.agg #[.bool false, .slice x1 (j - i) y1, .slice none 0 0, .slice x2 (j + 1 - i) y2]) (prt n i j)) := by
      rw [HP.out]
      exact ⟨_, _, _, rfl, B1.out.up HBY.out, bss_nil, B2.out.up HBY.out⟩
    have HTW := Hid.mk' (twin_any HRN.out)
    refine HTW.out.mono ?_
    rintro e w5 ⟨v5, rfl, n5, h5⟩
    have HBL := Hid.mk' (HBY.out.trans (h5.mono HBY.out.size))
    have hlt2 : w.heap.size + 1 < Y.heap.size := (Array.getElem?_eq_some_iff.1 HYY.out).1
    have HY5 := Hid.mk' ((h5.block (w.heap.size + 1) hlt2).trans HYY.out)
    have N5 := Hid.mk' (n5.mono HBY.out.size)
    obtain ⟨p1, q1, p2, q2, p3, q3, rfl⟩ := n5.form
    rw [show (prt n i j).leaf = false by rw [HP.out]] at N5 ⊢
    clear n5 h5 HTW hlt2
    obtain ⟨⟨z0, z1, z2, z3⟩, zf⟩ := cells4_get HY5.out
    generalize (prt n i j).keys.length = l1 at *
    generalize (prt n i j).vals.length = l2 at *
    generalize (prt n i j).kids.length = l3 at *
    go_wp2_with fail
    refine bodyPost_ret (v := .agg #[.bool false, .slice p1 l1 q1, .slice p2 l2 q2, .slice p3 l3 q3]) (by simp [results, Try.results75, go_sem, z0, z1, z2, z3]) rfl ?_
    have ho := four_wb w5 (w.heap.size + 1) (.bool false) (.slice p1 l1 q1) (.slice p2 l2 q2) (.slice p3 l3 q3)
    exact ⟨_, rfl, N5.out.wbz HY5.out ho, HBL.out.trans (ho.below HBL.out.size fun k hk => by subst hk; omega)⟩
/-- a node whose rows belong together -/
structure Fm (n : Nd) : Prop where
  lf : n.leaf = true → n.vals.length = n.keys.length
  kd : n.leaf = false → n.kids.length = n.keys.length + 1
  sm : n.keys.length ≤ 200
  sv : n.vals.length ≤ 200
  sc : n.kids.length ≤ 201
theorem prt_sm {n : Nd} (h : Fm n) (i j : Nat) : (prt n i j).keys.length ≤ 1000 ∧ (prt n i j).vals.length ≤ 1000 ∧ (prt n i j).kids.length ≤ 2000 := by
  have := h.sm
  have := h.sv
  have := h.sc
  cases hl : n.leaf with
  | true => rw [prt_leaf hl]; simp only [List.length_drop, List.length_take, List.length_nil]; omega
  | false => rw [prt_inner hl]; simp only [List.length_drop, List.length_take, List.length_nil]; omega
set_option maxRecDepth 100000 in
set_option maxHeartbeats 4000000 in
/-- groyneref08.greater -/
theorem greater_any {A : Nat → Prop} {w : World} {v : Value} {n : Nd} {k : Nat} (h : RN A w v n) (hf : Fm n) (h1 : k + bh n ≤ n.keys.length) : Calls Try.prog 77 #[v, .int .i64 k] w fun e w' => e = .returned (.int .i64 (gr n k)) ∧ Below w.heap.size w w' := by
  obtain ⟨a1, c1, a2, c2, a3, c3, rfl⟩ := h.form
  have HN := Hid.mk' h
  have HF := Hid.mk' hf
  have H1 := Hid.mk' h1
  have HG : Hid (gr n k = max (size (prt n 0 k)) (size (prt n (k + bh n) n.keys.length))) := rfl
  clear h hf h1
  go_enter Try.func77, Try.ntmps77
  go_wp2_with fail
  have HFR := Hid.mk' (front_any (k := k) (HN.out.up (up_alloc w (.cells #[.bool n.leaf, .slice a1 n.keys.length c1, .slice a2 n.vals.length c2, .slice a3 n.kids.length c3] 31))) (by have := H1.out; omega) (fun h => by rw [HF.out.lf h]; have := H1.out; omega) (fun h => by rw [HF.out.kd h]; have := H1.out; omega))
  have hx := heap_alloc_new w (.cells #[.bool n.leaf, .slice a1 n.keys.length c1, .slice a2 n.vals.length c2, .slice a3 n.kids.length c3] 31)
  have hb := up_alloc w (.cells #[.bool n.leaf, .slice a1 n.keys.length c1, .slice a2 n.vals.length c2, .slice a3 n.kids.length c3] 31)
  generalize w.alloc (.cells #[.bool n.leaf, .slice a1 n.keys.length c1, .slice a2 n.vals.length c2, .slice a3 n.kids.length c3] 31) = W at *
  have hlt := (Array.getElem?_eq_some_iff.1 hx).1
  refine HFR.out.mono ?_
  rintro e w2 ⟨v2, rfl, n2, h2⟩
  have HB2 := Hid.mk' (bt hb h2)
  have hx2 := (h2.block _ hlt).trans hx
  have HSZ := Hid.mk' (rsize_any n2 (prt_sm HF.out 0 k).1 (prt_sm HF.out 0 k).2.1 (prt_sm HF.out 0 k).2.2)
  have hlt2 := (Array.getElem?_eq_some_iff.1 hx2).1
  clear hx hb hlt n2 h2 HFR
  go_wp2_with fail
  refine HSZ.out.mono ?_
  rintro e w3 ⟨rfl, h3⟩
  have HB3 := Hid.mk' (bt HB2.out h3)
  have hx3 := (h3.block _ hlt2).trans hx2
  have HX3 := Hid.mk' hx3
  obtain ⟨⟨b0, b1, b2, b3⟩, bf⟩ := cells4_get hx3
  have HBK := Hid.mk' (back_any (HN.out.up HB3.out) H1.out HF.out.lf HF.out.kd)
  have hlt3 := (Array.getElem?_eq_some_iff.1 hx3).1
  clear h3 hx2 hlt2 HSZ HB2 hx3
  go_wp2_with fail
  refine HBK.out.mono ?_
  rintro e w4 ⟨v4, rfl, n4, h4⟩
  have HB4 := Hid.mk' (bt HB3.out h4)
  have HSZ := Hid.mk' (rsize_any n4 (prt_sm HF.out (k + bh n) n.keys.length).1 (prt_sm HF.out (k + bh n) n.keys.length).2.1 (prt_sm HF.out (k + bh n) n.keys.length).2.2)
  clear n4 h4 HBK b0 b1 b2 b3 bf
  go_wp2_with fail
  refine HSZ.out.mono ?_
  rintro e w5 ⟨rfl, h5⟩
  have HB5 := Hid.mk' (bt HB4.out h5)
  clear h5 HSZ
  have HQ := HG.out
  generalize size (prt n 0 k) = s1 at *
  generalize size (prt n (k + bh n) n.keys.length) = s2 at *
  by_cases hgt : s2 < s1
  · have HQ := Hid.mk' (show gr n k = s1 by omega)
    clear HG
    have hgt' : (s2 : Int) < (s1 : Int) := by omega
    go_wp2_with fail
    go_ret
    exact ⟨by rw [HQ.out]; rfl, HB5.out⟩
  · have HQ := Hid.mk' (show gr n k = s2 by omega)
    clear HG
    have hgt' : ¬ (s2 : Int) < (s1 : Int) := by omega
    go_wp2_with fail
    go_ret
    exact ⟨by rw [HQ.out]; rfl, HB5.out⟩
end Go.Proofs.Ytfmbbpfklhkljaa
