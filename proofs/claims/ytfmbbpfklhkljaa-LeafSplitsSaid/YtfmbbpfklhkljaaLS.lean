/- groynelaw08.LeafSplits. -/
import Derived.Test.YtfmbbpfklhkljaaSL
import Derived.Test.YtfmbbpfklhkljaaJN
set_option linter.unusedVariables false
set_option linter.unusedSimpArgs false
namespace Go.Proofs.Ytfmbbpfklhkljaa
open Go.RowKit
theorem lays117 (w : World) (l1 l2 : Bool) (a1 a2 a3 b1 b2 b3 : Option Addr) (n1 n2 n3 m1 m2 m3 c1 c2 c3 d1 d2 d3 : Nat) :
    (Instr.buildSlice 117 2 #[(0, .agg #[.bool l1, .slice a1 n1 c1, .slice a2 n2 c2, .slice a3 n3 c3]), (1, .agg #[.bool l2, .slice b1 m1 d1, .slice b2 m2 d2, .slice b3 m3 d3])]).run Try.prog w = .ok (.slice (some ⟨w.heap.size, 0, none⟩) 2 2) (w.alloc (.cells #[.bool l1, .slice a1 n1 c1, .slice a2 n2 c2, .slice a3 n3 c3, .bool l2, .slice b1 m1 d1, .slice b2 m2 d2, .slice b3 m3 d3] 37)) := by
  kernel_rfl
theorem exec_two {w : World} {o : Oper} {a : Act} {x y : Operand} {l1 l2 : Bool} {a1 a2 a3 b1 b2 b3 : Option Addr} {n1 n2 n3 m1 m2 m3 c1 c2 c3 d1 d2 d3 : Nat} (ho : o.op = .buildSlice 117 2 #[(0, x), (1, y)]) (hx : a.eval x = .agg #[.bool l1, .slice a1 n1 c1, .slice a2 n2 c2, .slice a3 n3 c3]) (hy : a.eval y = .agg #[.bool l2, .slice b1 m1 d1, .slice b2 m2 d2, .slice b3 m3 d3]) :
    (execOp a.eval o).run Try.prog w = .ok (.value (.slice (some ⟨w.heap.size, 0, none⟩) 2 2)) (w.alloc (.cells #[.bool l1, .slice a1 n1 c1, .slice a2 n2 c2, .slice a3 n3 c3, .bool l2, .slice b1 m1 d1, .slice b2 m2 d2, .slice b3 m3 d3] 37)) := by
  unfold execOp
  simp only [ho, List.map_toArray, List.map_cons, List.map_nil, hx, hy]
  exact run_v (lays117 w l1 l2 a1 a2 a3 b1 b2 b3 n1 n2 n3 m1 m2 m3 c1 c2 c3 d1 d2 d3)
theorem wq_behind {P : Program} {ops : Array Oper} {C : World → Prop} {Q : Act → Prop} {l : List Oper} {a : Act} (h : ∀ Q' : Act → Prop, (∀ a', Q a' → Q' a') → wpQuiet P ops C Q' l a) : wpQuiet P ops C Q l a := h Q fun _ h => h
/-- a block of two nodes -/
def UL.two (c : Array Value) : UL := ⟨⟨fun v => ∃ g : Nat, v = .slice (some ⟨g, 0, none⟩) 2 2, fun v w => ∃ g : Nat, v = .slice (some ⟨g, 0, none⟩) 2 2 ∧ w.heap[g]? = some (.cells c 37 (0, 0))⟩,
  fun _ _ _ ⟨g, h1, h2⟩ hb => ⟨g, h1, by rw [hb.block g (Array.getElem?_eq_some_iff.1 h2).1]; exact h2⟩⟩
theorem check_fm {n : Nd} (h : check n = 0) (h1 : n.keys.length ≤ 200) (h2 : n.vals.length ≤ 200) (h3 : n.kids.length ≤ 201) : Fm n :=
  ⟨fun hl => (formed_leaf (check_zero h).1 hl).1, fun hl => (formed_inner (check_zero h).1 hl).2.1, h1, h2, h3⟩
theorem kk_min {n : Nd} {i : Nat} (h1 : 1 ≤ i) (h2 : i ≤ n.keys.length - 1 - bh n) (h3 : sml n = false) : gr n (kk n) ≤ gr n i := by
  have h' : ¬ n.keys.length < 2 + bh n := by simpa [sml] using h3
  exact bst_min n _ i h1 (by omega)
/-- what is split fits, if it was not too great -/
theorem sp_fit {n : Nd} (hc : check n = 0) (hs : sml n = false) (hw : (n.leaf = true ∧ size n ≤ 707) ∨ (n.leaf = false ∧ size n ≤ 579)) : size (spA n) ≤ 512 ∧ size (spB n) ≤ 512 := by
  have h' : ¬ n.keys.length < 2 + bh n := by simpa [sml] using hs
  have hg : gr n (kk n) ≤ 512 := by
    rcases hw with ⟨hl, hw⟩ | ⟨hl, hw⟩
    · have hb : bh n = 0 := by unfold bh; rw [hl]; rfl
      obtain ⟨i, h1, h2, h3⟩ := fit_leaf hc hl (by omega) hw
      exact Nat.le_trans (kk_min h1 (by omega) hs) h3
    · have hb : bh n = 1 := by unfold bh; rw [hl]; rfl
      obtain ⟨i, h1, h2, h3⟩ := fit_inner hc hl (by omega) hw
      exact Nat.le_trans (kk_min h1 (by omega) hs) h3
  have := gr_fit hg
  unfold spA spB
  rw [hs]
  exact this
/-- a leaf's halves -/
theorem sp_leaf {n : Nd} (hc : check n = 0) (hl : n.leaf = true) (hs : sml n = false) : (⟨true, (spA n).keys ++ (spB n).keys, (spA n).vals ++ (spB n).vals, []⟩ : Nd) = n ∧ (spA n).leaf = true ∧ (spB n).leaf = true ∧ 0 < (spA n).keys.length ∧ 0 < (spB n).keys.length ∧
    (∀ h, cmp ((spA n).keys[(spA n).keys.length - 1]'h) (spK n) < 0) ∧ (∀ h, (spB n).keys[0]'h = spK n) := by
  obtain ⟨hk1, hk2⟩ := kk_lt hs
  have hb : bh n = 0 := by unfold bh; rw [hl]; rfl
  obtain ⟨hv, hkd⟩ := formed_leaf (check_zero hc).1 hl
  have ha := (check_asc hc).1
  have eA : spA n = ⟨true, n.keys.take (kk n), n.vals.take (kk n), []⟩ := by unfold spA; rw [hs]; show prt n 0 (kk n) = _; rw [prt_leaf hl]; rfl
  have eB : spB n = ⟨true, n.keys.drop (kk n), n.vals.drop (kk n), []⟩ := by unfold spB; rw [hs]; show prt n (kk n + bh n) n.keys.length = _; rw [prt_leaf hl, hb, List.take_length, ← hv, List.take_length]; rfl
  have eK : spK n = n.keys[kk n]'(by omega) := by unfold spK; rw [hs]; show n.keys.getD (kk n) [] = _; rw [List.getD_eq_getElem?_getD, List.getElem?_eq_getElem (by omega)]; rfl
  rw [eA, eB, eK]
  refine ⟨?_, rfl, rfl, by simp; omega, by simp; omega, fun h => ?_, fun h => by simp⟩
  · simp only [List.take_append_drop]
    cases n
    simp only at hl hkd
    rw [hl, hkd]
  · have := (asc_iff n.keys).1 ha (kk n - 1) (by omega)
    simp only [show kk n - 1 + 1 = kk n by omega] at this
    simp only [List.length_take, List.getElem_take, show min (kk n) n.keys.length - 1 = kk n - 1 by omega]
    exact this
theorem sp_Sm {n : Nd} (hf : Fm n) (hs : Sm n) : (Sm (spA n) ∧ (spA n).keys.length ≤ 1000 ∧ (spA n).vals.length ≤ 1000 ∧ (spA n).kids.length ≤ 2000) ∧ Sm (spB n) ∧ (spB n).keys.length ≤ 1000 ∧ (spB n).vals.length ≤ 1000 ∧ (spB n).kids.length ≤ 2000 := by
  have := hf.sm
  have := hf.sv
  have := hf.sc
  unfold spA spB
  refine ⟨?_, ?_⟩
  · split
    · exact ⟨hs, by omega, by omega, by omega⟩
    · exact ⟨prt_Sm hf hs _ _, prt_sm hf _ _⟩
  · split
    · exact ⟨⟨by decide, by decide, by decide, fun x hx => by cases hx⟩, by decide, by decide, by decide⟩
    · exact ⟨prt_Sm hf hs _ _, prt_sm hf _ _⟩
/-- the three blocks that are read again and again -/
structure Sps (pn pa pb : Nat) (nx ax bx : Array Value) (w : World) : Prop where
  h0 : w.heap[pn]? = some (.cells nx 31 (0, 0))
  h1 : w.heap[pa]? = some (.cells ax 37 (0, 0))
  h2 : w.heap[pb]? = some (.cells bx 37 (0, 0))
theorem Sps.up {pn pa pb : Nat} {nx ax bx : Array Value} {w w' : World} (h : Sps pn pa pb nx ax bx w) (hb : Below w.heap.size w w') : Sps pn pa pb nx ax bx w' :=
  ⟨by rw [hb.block _ (Array.getElem?_eq_some_iff.1 h.h0).1]; exact h.h0, by rw [hb.block _ (Array.getElem?_eq_some_iff.1 h.h1).1]; exact h.h1, by rw [hb.block _ (Array.getElem?_eq_some_iff.1 h.h2).1]; exact h.h2⟩
set_option maxRecDepth 100000 in
set_option maxHeartbeats 4000000 in
/-- groynelaw08.LeafSplits -/
theorem leafSplits_any {A : Nat → Prop} {w : World} {v : Value} {n : Nd} (h : RN A w v n) : Calls Try.prog 5 #[v] w fun e w' => e = .returned (.bool true) ∧ Below w.heap.size w w' := by
  obtain ⟨a1, c1, a2, c2, a3, c3, rfl⟩ := h.form
  have HN := Hid.mk' h.toLt
  clear h
  go_enter Try.func5, Try.ntmps5
  go_wp2_with fail
  obtain ⟨W, hW, ⟨b0, b1, b2, b3⟩, bf, hbW, hsz⟩ := box4 w (.bool n.leaf) (.slice a1 n.keys.length c1) (.slice a2 n.vals.length c2) (.slice a3 n.kids.length c3) 31
  have HW := Hid.mk' hbW
  have HZ := Hid.mk' hsz
  have hx0 : W.heap[w.heap.size]? = some (.cells #[.bool n.leaf, .slice a1 n.keys.length c1, .slice a2 n.vals.length c2, .slice a3 n.kids.length c3] 31 (0, 0)) := by rw [hW]; exact heap_alloc_new w _
  clear hbW hsz b0 b1 b2 b3 bf
  rw [← hW]
  clear hW
  refine (awake8_any W).mono ?_
  rintro e w2 ⟨rfl, h2⟩
  have H2 := Hid.mk' h2
  have hx2 : w2.heap[w.heap.size]? = some (.cells #[.bool n.leaf, .slice a1 n.keys.length c1, .slice a2 n.vals.length c2, .slice a3 n.kids.length c3] 31 (0, 0)) := by rw [h2.block _ (by have := HZ.out; omega)]; exact hx0
  clear hx0 h2
  obtain ⟨⟨b0, b1, b2, b3⟩, bf⟩ := cells4_get hx2
  have HFEW : Hid (Calls Try.prog 17 #[.agg #[.bool n.leaf, .slice a1 n.keys.length c1, .slice a2 n.vals.length c2, .slice a3 n.kids.length c3], .int .i64 200] w2 fun e w' => ∃ v', e = .returned v' ∧ RN (Lt w.heap.size) w' v' (few 200 n) ∧ Below w2.heap.size w2 w') := few_any (HN.out.up (bt HW.out H2.out)) 200 (by omega)
  go_wp2_with fail
  refine HFEW.out.mono ?_
  rintro e w3 ⟨v3, rfl, n3, h3⟩
  have H3 := Hid.mk' h3
  have hx3 : w3.heap[w.heap.size]? = some (.cells #[.bool n.leaf, .slice a1 n.keys.length c1, .slice a2 n.vals.length c2, .slice a3 n.kids.length c3] 31 (0, 0)) := by rw [h3.block _ (by have := HZ.out; have := H2.out.size; omega)]; exact hx2
  have hlens := few_lens 200 n
  obtain ⟨x1, y1, x2, y2, x3, y3, e3⟩ := n3.form
  subst e3
  have HN3 := Hid.mk' n3
  have HLN := Hid.mk' hlens
  have HB3 := Hid.mk' (bt HW.out (bt H2.out H3.out))
  have hs3 : w.heap.size + 1 ≤ w3.heap.size := by have := HZ.out; have := H2.out.size; have := H3.out.size; omega
  clear hx2 b0 b1 b2 b3 bf h3 n3 hlens HFEW
  generalize few 200 n = m at *
  obtain ⟨⟨b0, b1, b2, b3⟩, bf⟩ := cells4_get hx3
  have hset : Wb (fun k => k = w.heap.size) w3 ((((w3.setCell ⟨w.heap.size, 0, none⟩ (.bool m.leaf)).setCell ⟨w.heap.size, 1, none⟩ (.slice x1 m.keys.length y1)).setCell ⟨w.heap.size, 2, none⟩ (.slice x2 m.vals.length y2)).setCell ⟨w.heap.size, 3, none⟩ (.slice x3 m.kids.length y3)) :=
    (((Wb.set (X := fun k => k = w.heap.size) _ _ _ _ rfl).trans (Wb.set (X := fun k => k = w.heap.size) _ _ _ _ rfl)).trans (Wb.set (X := fun k => k = w.heap.size) _ _ _ _ rfl)).trans (Wb.set (X := fun k => k = w.heap.size) _ _ _ _ rfl)
  have hx4 : ((((w3.setCell ⟨w.heap.size, 0, none⟩ (.bool m.leaf)).setCell ⟨w.heap.size, 1, none⟩ (.slice x1 m.keys.length y1)).setCell ⟨w.heap.size, 2, none⟩ (.slice x2 m.vals.length y2)).setCell ⟨w.heap.size, 3, none⟩ (.slice x3 m.kids.length y3)).heap[w.heap.size]? = some (.cells #[.bool m.leaf, .slice x1 m.keys.length y1, .slice x2 m.vals.length y2, .slice x3 m.kids.length y3] 31 (0, 0)) := by
    have q1 := cells4_set (o := 0) (u := .bool m.leaf) hx3
    have q2 := cells4_set (o := 1) (u := .slice x1 m.keys.length y1) q1
    have q3 := cells4_set (o := 2) (u := .slice x2 m.vals.length y2) q2
    exact cells4_set (o := 3) (u := .slice x3 m.kids.length y3) q3
  have hset := Hid.mk' hset
  have hx4 := Hid.mk' hx4
  go_wp2_with fail
  clear b0 b1 b2 b3 bf hx3
  generalize (((w3.setCell ⟨w.heap.size, 0, none⟩ (.bool m.leaf)).setCell ⟨w.heap.size, 1, none⟩ (.slice x1 m.keys.length y1)).setCell ⟨w.heap.size, 2, none⟩ (.slice x2 m.vals.length y2)).setCell ⟨w.heap.size, 3, none⟩ (.slice x3 m.kids.length y3) = w4 at *
  have HN4 := Hid.mk' (HN3.out.keepS fun b hb => hset.out.block b (by have : b < w.heap.size := hb; omega) (by have : b < w.heap.size := hb; omega))
  have HB4 := Hid.mk' (HB3.out.trans (hset.out.below (by omega) (fun k hk => by subst hk; exact Nat.le_refl _)))
  have hs4 : w.heap.size + 1 ≤ w4.heap.size := Nat.le_trans hs3 hset.out.size
  clear hset HN3 hs3
  have HRC := Hid.mk' (rcheck_any HN4.out)
  obtain ⟨⟨b0, b1, b2, b3⟩, bf⟩ := cells4_get hx4.out
  go_wp2_with fail
  refine HRC.out.mono ?_
  rintro e w5 ⟨rfl, h5⟩
  have H5 := Hid.mk' h5
  clear HRC h5 b0 b1 b2 b3 bf
  have hx5 : w5.heap[w.heap.size]? = some (.cells #[.bool m.leaf, .slice x1 m.keys.length y1, .slice x2 m.vals.length y2, .slice x3 m.kids.length y3] 31 (0, 0)) := by rw [H5.out.block _ (by omega)]; exact hx4.out
  obtain ⟨⟨b0, b1, b2, b3⟩, bf⟩ := cells4_get hx5
  by_cases hck : check m = 0
  · have HF : Hid (Fm m) := check_fm hck HLN.out.1 HLN.out.2.1 HLN.out.2.2
    have hckb : (check m != 0) = false := by rw [hck]; rfl
    have HCK := Hid.mk' hck
    clear hck
    have HO := Hid.mk' (own_any (HN4.out.up H5.out))
    go_wp2_with fail
    refine HO.out.mono ?_
    rintro e w6 ⟨v6, rfl, n6, h6⟩
    have H6 := Hid.mk' (bt H5.out h6)
    have HSP := Hid.mk' (split_any n6 HF.out)
    clear HO h6 n6 b0 b1 b2 b3 bf
    go_wp2_with fail
    refine HSP.out.mono ?_
    rintro e w7 ⟨va, vk, vb, rfl, na, kb, nb, h7⟩
    obtain ⟨⟨sa0, sa1⟩, sb0, sb1⟩ := sp_Sm HF.out HN4.out.sm
    have HSA := Hid.mk' sa1
    have HSB := Hid.mk' sb1
    have RA := na.rn sa0
    have RB := nb.rn sb0
    have HFT : Hid (sml m = false → ((m.leaf = true ∧ size m ≤ 707) ∨ (m.leaf = false ∧ size m ≤ 579)) → size (spA m) ≤ 512 ∧ size (spB m) ≤ 512) := fun h1 h2 => sp_fit HCK.out h1 h2
    have HLF : Hid (m.leaf = true → sml m = false → (⟨true, (spA m).keys ++ (spB m).keys, (spA m).vals ++ (spB m).vals, []⟩ : Nd) = m ∧ (spA m).leaf = true ∧ (spB m).leaf = true ∧ 0 < (spA m).keys.length ∧ 0 < (spB m).keys.length ∧
      (∀ h, cmp ((spA m).keys[(spA m).keys.length - 1]'h) (spK m) < 0) ∧ (∀ h, (spB m).keys[0]'h = spK m)) := fun h1 h2 => sp_leaf HCK.out h1 h2
    have H7 := Hid.mk' (bt H6.out h7)
    have HRS : Hid (∀ W', Below w7.heap.size w7 W' → Calls Try.prog 31 #[.agg #[.bool m.leaf, .slice x1 m.keys.length y1, .slice x2 m.vals.length y2, .slice x3 m.kids.length y3]] W' fun e w' => ∃ v1 v2 v3, e = .returned (.tuple #[v1, v2, v3]) ∧ RN (Lt W'.heap.size) w' v1 (spA m) ∧ Bs (Lt W'.heap.size) w' v2 (spK m) ∧ RN (Lt W'.heap.size) w' v3 (spB m) ∧ Below W'.heap.size W' w') := fun W' hW' => rsplit_any (HN4.out.up (bt H7.out hW')) HF.out
    obtain ⟨ka, kc, rfl, _⟩ := kb.at
    clear HSP sa0 sa1 sb0 sb1 hx5
    have hx7 : w7.heap[w.heap.size]? = some (.cells #[.bool m.leaf, .slice x1 m.keys.length y1, .slice x2 m.vals.length y2, .slice x3 m.kids.length y3] 31 (0, 0)) := by rw [H7.out.block _ (by omega)]; exact hx4.out
    generalize spA m = sA at *
    generalize spB m = sB at *
    generalize spK m = sK at *
    obtain ⟨p1, q1, p2, q2, p3, q3, rfl⟩ := na.form
    obtain ⟨r1, s1, r2, s2, r3, s3, rfl⟩ := nb.form
    have RA := Hid.mk' RA
    have RB := Hid.mk' RB
    have RK := Hid.mk' kb
    have HX7 := Hid.mk' hx7
    have hlt7 : w.heap.size < w7.heap.size := (Array.getElem?_eq_some_iff.1 hx7).1
    obtain ⟨⟨b0, b1, b2, b3⟩, bf⟩ := cells4_get hx7
    clear na nb kb h7 hx7
    go_wp2_with fail
    obtain ⟨W8, hW8⟩ : ∃ W, W = (w7.alloc (.cells #[.bool sA.leaf, .slice p1 sA.keys.length q1, .slice p2 sA.vals.length q2, .slice p3 sA.kids.length q3] 37)).alloc (.cells #[.bool sB.leaf, .slice r1 sB.keys.length s1, .slice r2 sB.vals.length s2, .slice r3 sB.kids.length s3] 37) := ⟨_, rfl⟩
    rw [← hW8]
    obtain ⟨hb8, hx, hy, hsz8⟩ := two_boxes hW8
    have HS8 : Hid (Sps w.heap.size w7.heap.size (w7.heap.size + 1) #[.bool m.leaf, .slice x1 m.keys.length y1, .slice x2 m.vals.length y2, .slice x3 m.kids.length y3] #[.bool sA.leaf, .slice p1 sA.keys.length q1, .slice p2 sA.vals.length q2, .slice p3 sA.kids.length q3] #[.bool sB.leaf, .slice r1 sB.keys.length s1, .slice r2 sB.vals.length s2, .slice r3 sB.kids.length s3] W8) := ⟨(hb8.block _ (Array.getElem?_eq_some_iff.1 HX7.out).1).trans HX7.out, hx, hy⟩
    have HB8 := Hid.mk' hb8
    clear hW8 hb8 hx hy hsz8 b0 b1 b2 b3 bf
    obtain ⟨⟨b0, b1, b2, b3⟩, bf⟩ := cells4_get HS8.out.h0
    refine (HRS.out W8 HB8.out).mono ?_
    rintro e w9 ⟨v1, v2, v3, rfl, nx, kx, ny, h9⟩
    have HS9 := Hid.mk' (HS8.out.up h9)
    have H9 := Hid.mk' (bt HB8.out h9)
    obtain ⟨e1, f1, e2, f2, e3, f3, rfl⟩ := nx.form
    obtain ⟨g1, i1, g2, i2, g3, i3, rfl⟩ := ny.form
    obtain ⟨kxa, kxc, rfl, _⟩ := kx.at
    have NXX := Hid.mk' nx
    have NYY := Hid.mk' ny
    have KXX := Hid.mk' kx
    clear nx ny kx h9 b0 b1 b2 b3 bf HRS
    go_wp2_with fail
    obtain ⟨U, hU⟩ : ∃ W, W = (w9.alloc (.cells #[.bool sA.leaf, .slice e1 sA.keys.length f1, .slice e2 sA.vals.length f2, .slice e3 sA.kids.length f3] 31)).alloc (.cells #[.bool sB.leaf, .slice g1 sB.keys.length i1, .slice g2 sB.vals.length i2, .slice g3 sB.kids.length i3] 31) := ⟨_, rfl⟩
    rw [← hU]
    obtain ⟨hbU, hx, hy, hszU⟩ := two_boxes hU
    have HS := Hid.mk' (HS9.out.up hbU)
    have HBU := Hid.mk' (bt H9.out hbU)
    have HBA := Hid.mk' (bt H7.out HBU.out)
    have RM := Hid.mk' (HN4.out.up HBA.out)
    have RA := Hid.mk' (RA.out.up HBU.out)
    have RB := Hid.mk' (RB.out.up HBU.out)
    have RK := Hid.mk' (RK.out.up HBU.out)
    have RX := Hid.mk' (NXX.out.up hbU)
    have RY := Hid.mk' (NYY.out.up hbU)
    have RKX := Hid.mk' (KXX.out.up hbU)
    have HWU := Hid.mk' (HB4.out.trans (HBA.out.mono (by omega)))
    clear hU hbU hszU HS9 HS8 H9 HB8 HBU HBA NXX NYY KXX HX7 H7 H6 H5 HB4 HN4 hx4
    generalize w7.heap.size = pa at *
    generalize w9.heap.size = px at *
    obtain ⟨⟨b0, b1, b2, b3⟩, bf⟩ := cells4_get HS.out.h0
    obtain ⟨⟨d0, d1, d2, d3⟩, df⟩ := cells4_get HS.out.h1
    obtain ⟨⟨t0, t1, t2, t3⟩, tf⟩ := cells4_get HS.out.h2
    obtain ⟨⟨m0, m1, m2, m3⟩, mf⟩ := cells4_get hx
    obtain ⟨⟨z0, z1, z2, z3⟩, zf⟩ := cells4_get hy
    have rr0 : ∀ q : Ups U, q.nx.cell? ⟨pa, 0, none⟩ = some _ := fun q => q.cell d0
    have rr1 : ∀ q : Ups U, q.nx.cell? ⟨pa, 1, none⟩ = some _ := fun q => q.cell d1
    have rr2 : ∀ q : Ups U, q.nx.cell? ⟨pa, 2, none⟩ = some _ := fun q => q.cell d2
    have rr3 : ∀ q : Ups U, q.nx.cell? ⟨pa, 3, none⟩ = some _ := fun q => q.cell d3
    have rr4 : ∀ q : Ups U, q.nx.cell? ⟨pa + 1, 0, none⟩ = some _ := fun q => q.cell t0
    have rr5 : ∀ q : Ups U, q.nx.cell? ⟨pa + 1, 1, none⟩ = some _ := fun q => q.cell t1
    have rr6 : ∀ q : Ups U, q.nx.cell? ⟨pa + 1, 2, none⟩ = some _ := fun q => q.cell t2
    have rr7 : ∀ q : Ups U, q.nx.cell? ⟨pa + 1, 3, none⟩ = some _ := fun q => q.cell t3
    have rr8 : ∀ q : Ups U, q.nx.cell? ⟨px, 0, none⟩ = some _ := fun q => q.cell m0
    have rr9 : ∀ q : Ups U, q.nx.cell? ⟨px, 1, none⟩ = some _ := fun q => q.cell m1
    have rr10 : ∀ q : Ups U, q.nx.cell? ⟨px, 2, none⟩ = some _ := fun q => q.cell m2
    have rr11 : ∀ q : Ups U, q.nx.cell? ⟨px, 3, none⟩ = some _ := fun q => q.cell m3
    have rr12 : ∀ q : Ups U, q.nx.cell? ⟨px + 1, 0, none⟩ = some _ := fun q => q.cell z0
    have rr13 : ∀ q : Ups U, q.nx.cell? ⟨px + 1, 1, none⟩ = some _ := fun q => q.cell z1
    have rr14 : ∀ q : Ups U, q.nx.cell? ⟨px + 1, 2, none⟩ = some _ := fun q => q.cell z2
    have rr15 : ∀ q : Ups U, q.nx.cell? ⟨px + 1, 3, none⟩ = some _ := fun q => q.cell z3
    refine wp_region_free 18 Up (fun w' => ∃ q : Ups U, w' = q.nx) (ul [(31, UL.nd sA), (33, UL.is (.bool true)), (37, UL.nd sB), (39, UL.is (.bool true)), (45, UL.is (.bool true))]) (by kernel_rfl) (by kernel_rfl) (ul_ck _) (up_first U) ?_
    simp only [List.take_succ_cons, List.take_zero, List.drop_succ_cons, List.drop_zero]
    refine wf_take 1 rfl ?_
    simp only [List.take_succ_cons, List.take_zero, List.drop_succ_cons, List.drop_zero]
    repeat (go_big_quiet_step (fail))
    refine wpQuiet_nil ?_
    refine wf_call (V := (UL.nd sA).1) (vals := [.agg #[.bool sA.leaf, .slice p1 sA.keys.length q1, .slice p2 sA.vals.length q2, .slice p3 sA.kids.length q3]]) Try.func28 (by kernel_rfl) rfl rfl (by kernel_rfl) (by kernel_rfl) (by kernel_rfl) (fun w1 hC hK => ?_) (fun u1 hu1 => ?_)
    · obtain ⟨q, rfl⟩ := hC; exact told_nd (RA.out.up q.ok)
    obtain ⟨j1, j2, j3, rfl⟩ := hu1
    simp only [Act.put, List.setIfInBounds_toArray, List.set_cons_succ, List.set_cons_zero]
    refine wf_take 1 rfl ?_
    simp only [List.take_succ_cons, List.take_zero, List.drop_succ_cons, List.drop_zero]
    repeat (go_big_quiet_step (fail))
    refine wpQuiet_nil ?_
    refine wf_call (V := (UL.is (.bool true)).1) (vals := [.agg #[.bool sA.leaf, j1, j2, j3], .agg #[.bool sA.leaf, .slice e1 sA.keys.length f1, .slice e2 sA.vals.length f2, .slice e3 sA.kids.length f3]]) Try.func27 (by kernel_rfl) rfl rfl (by kernel_rfl) (by kernel_rfl) (by kernel_rfl) (fun w1 hC hK => ?_) (fun u1 hu1 => ?_)
    · obtain ⟨A1, k1⟩ := hK 31 _ _ (looks_of (by kernel_rfl)) (.inr ⟨rfl, rfl⟩) rfl; obtain ⟨q, rfl⟩ := hC; have hq := same_any k1 (RX.out.up q.ok); rw [same_self] at hq; exact is_free hq
    obtain rfl : u1 = .bool true := hu1
    simp only [Act.put, List.setIfInBounds_toArray, List.set_cons_succ, List.set_cons_zero]
    refine wf_take 3 rfl ?_
    simp only [List.take_succ_cons, List.take_zero, List.drop_succ_cons, List.drop_zero]
    repeat (go_big_quiet_step (fail))
    refine wpQuiet_nil ?_
    refine wf_call (V := (UL.nd sB).1) (vals := [.agg #[.bool sB.leaf, .slice r1 sB.keys.length s1, .slice r2 sB.vals.length s2, .slice r3 sB.kids.length s3]]) Try.func28 (by kernel_rfl) rfl rfl (by kernel_rfl) (by kernel_rfl) (by kernel_rfl) (fun w1 hC hK => ?_) (fun u1 hu1 => ?_)
    · obtain ⟨q, rfl⟩ := hC; exact told_nd (RB.out.up q.ok)
    obtain ⟨j4, j5, j6, rfl⟩ := hu1
    simp only [Act.put, List.setIfInBounds_toArray, List.set_cons_succ, List.set_cons_zero]
    refine wf_take 1 rfl ?_
    simp only [List.take_succ_cons, List.take_zero, List.drop_succ_cons, List.drop_zero]
    repeat (go_big_quiet_step (fail))
    refine wpQuiet_nil ?_
    refine wf_call (V := (UL.is (.bool true)).1) (vals := [.agg #[.bool sB.leaf, j4, j5, j6], .agg #[.bool sB.leaf, .slice g1 sB.keys.length i1, .slice g2 sB.vals.length i2, .slice g3 sB.kids.length i3]]) Try.func27 (by kernel_rfl) rfl rfl (by kernel_rfl) (by kernel_rfl) (by kernel_rfl) (fun w1 hC hK => ?_) (fun u1 hu1 => ?_)
    · obtain ⟨A1, k1⟩ := hK 37 _ _ (looks_of (by kernel_rfl)) (.inr ⟨rfl, rfl⟩) rfl; obtain ⟨q, rfl⟩ := hC; have hq := same_any k1 (RY.out.up q.ok); rw [same_self] at hq; exact is_free hq
    obtain rfl : u1 = .bool true := hu1
    simp only [Act.put, List.setIfInBounds_toArray, List.set_cons_succ, List.set_cons_zero]
    refine wf_take 5 rfl ?_
    simp only [List.take_succ_cons, List.take_zero, List.drop_succ_cons, List.drop_zero]
    repeat (go_big_quiet_step (fail))
    refine wpQuiet_nil ?_
    refine wf_call (V := (UL.is (.bool true)).1) (vals := [.slice ka sK.length kc, .slice kxa sK.length kxc]) Try.func25 (by kernel_rfl) rfl rfl (by kernel_rfl) (by kernel_rfl) (by kernel_rfl) (fun w1 hC hK => ?_) (fun u1 hu1 => ?_)
    · obtain ⟨q, rfl⟩ := hC; have hq := requal_any _ _ _ _ _ (RK.out.up q.ok) (RKX.out.up q.ok); rw [beq_self_eq_true] at hq; exact is_free_dn hq
    obtain rfl : u1 = .bool true := hu1
    simp only [Act.put, List.setIfInBounds_toArray, List.set_cons_succ, List.set_cons_zero]
    refine wf_take 2 rfl ?_
    simp only [List.take_succ_cons, List.take_zero, List.drop_succ_cons, List.drop_zero]
    repeat (go_big_quiet_step (fail))
    refine wpQuiet_nil ?_
    intro wE hC hK
    clear hK
    obtain ⟨q, rfl⟩ := hC
    have HS := Hid.mk' (HS.out.up q.ok)
    have RM := Hid.mk' (RM.out.up q.ok)
    have RA := Hid.mk' (RA.out.up q.ok)
    have RB := Hid.mk' (RB.out.up q.ok)
    have RK := Hid.mk' (RK.out.up q.ok)
    have HWU := Hid.mk' (HWU.out.trans (q.ok.mono HWU.out.size))
    clear rr0 rr1 rr2 rr3 rr4 rr5 rr6 rr7 rr8 rr9 rr10 rr11 rr12 rr13 rr14 rr15 b0 b1 b2 b3 bf d0 d1 d2 d3 df t0 t1 t2 t3 tf m0 m1 m2 m3 mf z0 z1 z2 z3 zf hx hy RX RY RKX
    generalize q.nx = wE at *
    clear q
    obtain ⟨⟨b0, b1, b2, b3⟩, bf⟩ := cells4_get HS.out.h0
    have HRZ : Hid (∀ (A' : Nat → Prop) (W' : World) (v' : Value), RN A' W' v' m → Calls Try.prog 24 #[v'] W' fun e w' => e = .returned (.int .i64 (size m)) ∧ Below W'.heap.size W' w') := fun A' W' v' h => rsize_any h (by have := HLN.out; omega) (by have := HLN.out; omega) (by have := HLN.out; omega)
    have HRA : Hid (∀ (A' : Nat → Prop) (W' : World) (v' : Value), RN A' W' v' sA → Calls Try.prog 24 #[v'] W' fun e w' => e = .returned (.int .i64 (size sA)) ∧ Below W'.heap.size W' w') := fun A' W' v' h => rsize_any h HSA.out.1 HSA.out.2.1 HSA.out.2.2
    have HRB : Hid (∀ (A' : Nat → Prop) (W' : World) (v' : Value), RN A' W' v' sB → Calls Try.prog 24 #[v'] W' fun e w' => e = .returned (.int .i64 (size sB)) ∧ Below W'.heap.size W' w') := fun A' W' v' h => rsize_any h HSB.out.1 HSB.out.2.1 HSB.out.2.2
    generalize size m = zm at *
    generalize size sA = za at *
    generalize size sB = zb at *
    rcases Bool.eq_false_or_eq_true m.leaf with hl | hl
    · have hsm : sml m = decide (m.keys.length < 2) := by unfold sml bh; rw [hl]; rfl
      rw [hl] at b0
      by_cases hs : m.keys.length < 2
      · have hs' : (m.keys.length : Int) < 2 := by omega
        clear hsm
        go_wp2_with fail
        go_ret
        exact ⟨rfl, HWU.out⟩
      · have hs' : ¬ (m.keys.length : Int) < 2 := by omega
        have HSM : Hid (sml m = false) := by show _ = _; rw [hsm]; simp [hs]
        have HLL := Hid.mk' (HLF.out hl HSM.out)
        clear hsm hs
        go_wp2_with fail
        obtain ⟨hj, hla, hlb, hna, hnb, hca, hcb⟩ := HLL.out
        obtain ⟨_, _, _, ea, ra1, _, _⟩ := RA.out
        obtain ⟨_, _, _, eb, rb1, _, _⟩ := RB.out
        simp only [Value.agg.injEq, Array.mk.injEq, List.cons.injEq, and_true, true_and] at ea eb
        obtain ⟨rfl, rfl, rfl⟩ := ea
        obtain ⟨rfl, rfl, rfl⟩ := eb
        obtain ⟨_, _, hea, _, _, Ha⟩ := ra1.at
        obtain ⟨_, _, heb, _, _, Hb⟩ := rb1.at
        cases hea
        cases heb
        obtain ⟨ga, oa, xa, hxa, _, ua, ba⟩ := Ha (sA.keys.length - 1) (by omega)
        obtain ⟨gb, ob, xb, hxb, _, ub, bb⟩ := Hb 0 hnb
        subst hxa
        subst hxb
        have HCA := Hid.mk' (hca (by omega))
        have HCB := Hid.mk' (hcb hnb)
        have HBA := Hid.mk' ba
        have HBB := Hid.mk' bb
        have HJJ := Hid.mk' hj
        have HLA := Hid.mk' hla
        have HLB := Hid.mk' hlb
        have hn1 : IntKind.i64.wrap ((sA.keys.length : Int) - 1) = ((sA.keys.length - 1 : Nat) : Int) := by rw [IntKind.wrap_i64]; have := HSA.out.1; omega
        have hnx : sA.keys.length - 1 < sA.keys.length := by omega
        have hnx' : ((sA.keys.length - 1 : Nat) : Int) < (sA.keys.length : Int) := by omega
        have hnb' : (0 : Int) < (sB.keys.length : Int) := by omega
        clear hj hla hlb hca hcb ra1 rb1 Ha Hb ba bb
        obtain ⟨⟨d0, d1, d2, d3⟩, df⟩ := cells4_get HS.out.h1
        obtain ⟨⟨t0, t1, t2, t3⟩, tf⟩ := cells4_get HS.out.h2
        have rr0 : ∀ q : Ups wE, q.nx.cell? ⟨w.heap.size, 0, none⟩ = some _ := fun q => q.cell b0
        have rr1 : ∀ q : Ups wE, q.nx.cell? ⟨w.heap.size, 1, none⟩ = some _ := fun q => q.cell b1
        have rr2 : ∀ q : Ups wE, q.nx.cell? ⟨w.heap.size, 2, none⟩ = some _ := fun q => q.cell b2
        have rr3 : ∀ q : Ups wE, q.nx.cell? ⟨w.heap.size, 3, none⟩ = some _ := fun q => q.cell b3
        have rr4 : ∀ q : Ups wE, q.nx.cell? ⟨pa, 0, none⟩ = some _ := fun q => q.cell d0
        have rr5 : ∀ q : Ups wE, q.nx.cell? ⟨pa, 1, none⟩ = some _ := fun q => q.cell d1
        have rr6 : ∀ q : Ups wE, q.nx.cell? ⟨pa, 2, none⟩ = some _ := fun q => q.cell d2
        have rr7 : ∀ q : Ups wE, q.nx.cell? ⟨pa, 3, none⟩ = some _ := fun q => q.cell d3
        have rr8 : ∀ q : Ups wE, q.nx.cell? ⟨pa + 1, 0, none⟩ = some _ := fun q => q.cell t0
        have rr9 : ∀ q : Ups wE, q.nx.cell? ⟨pa + 1, 1, none⟩ = some _ := fun q => q.cell t1
        have rr10 : ∀ q : Ups wE, q.nx.cell? ⟨pa + 1, 2, none⟩ = some _ := fun q => q.cell t2
        have rr11 : ∀ q : Ups wE, q.nx.cell? ⟨pa + 1, 3, none⟩ = some _ := fun q => q.cell t3
        have rr12 : ∀ q : Ups wE, q.nx.cell? ⟨ga, oa + (sA.keys.length - 1), none⟩ = some xa := fun q => q.cell ua
        have rr13 : ∀ q : Ups wE, q.nx.cell? ⟨gb, ob, none⟩ = some xb := fun q => q.cell ub
        have hv1 : decide ((0 : Int) ≤ cmp (sA.keys[sA.keys.length - 1]'hnx) sK) = false := by have := HCA.out; simp; omega
        have HZ2 : Hid (cmp sK (sB.keys[0]'hnb) = 0) := by show _ = _; rw [HCB.out]; exact (cmp_zero _ _).2 rfl
        obtain ⟨zc, hzc⟩ : ∃ z, z = cmp (sA.keys[sA.keys.length - 1]'hnx) sK := ⟨_, rfl⟩
        rw [← hzc] at hv1
        have HZC := Hid.mk' hzc
        clear hzc
        refine wp_region_free 34 Up (fun w' => ∃ q : Ups wE, w' = q.nx) (ul [(68, UL.two #[.bool sA.leaf, .slice (some ⟨ga, oa, none⟩) sA.keys.length q1, .slice p2 sA.vals.length q2, .slice p3 sA.kids.length q3, .bool sB.leaf, .slice (some ⟨gb, ob, none⟩) sB.keys.length s1, .slice r2 sB.vals.length s2, .slice r3 sB.kids.length s3]), (69, UL.nd m), (70, UL.nd m), (72, UL.is (.bool true)), (84, UL.is (.int .i64 zc)), (93, UL.is (.int .i64 0))]) (by kernel_rfl) (by kernel_rfl) (ul_ck _) (up_first wE) ?_
        simp only [List.take_succ_cons, List.take_zero, List.drop_succ_cons, List.drop_zero]
        refine wf_take 5 rfl ?_
        simp only [List.take_succ_cons, List.take_zero, List.drop_succ_cons, List.drop_zero]
        repeat (go_big_quiet_step (fail))
        refine wpQuiet_nil ?_
        refine wf_make (V := (UL.two #[.bool sA.leaf, .slice (some ⟨ga, oa, none⟩) sA.keys.length q1, .slice p2 sA.vals.length q2, .slice p3 sA.kids.length q3, .bool sB.leaf, .slice (some ⟨gb, ob, none⟩) sB.keys.length s1, .slice r2 sB.vals.length s2, .slice r3 sB.kids.length s3]).1) (by kernel_rfl) (by kernel_rfl) (fun w1 hC _ => ?_) (fun u2 hu2 => ?_)
        · refine ⟨.slice (some ⟨w1.heap.size, 0, none⟩) 2 2, w1.alloc (.cells #[.bool sA.leaf, .slice (some ⟨ga, oa, none⟩) sA.keys.length q1, .slice p2 sA.vals.length q2, .slice p3 sA.kids.length q3, .bool sB.leaf, .slice (some ⟨gb, ob, none⟩) sB.keys.length s1, .slice r2 sB.vals.length s2, .slice r3 sB.kids.length s3] 37), ?_, up_alloc _ _, ⟨w1.heap.size, rfl⟩, ⟨w1.heap.size, rfl, heap_alloc_new w1 _⟩⟩
          exact exec_two rfl rfl rfl
        obtain ⟨gg, rfl⟩ := hu2
        simp only [Act.put, List.setIfInBounds_toArray, List.set_cons_succ, List.set_cons_zero]
        refine wf_call (V := (UL.nd m).1) (vals := [.slice (some ⟨gg, 0, none⟩) 2 2]) Try.func32 (by kernel_rfl) rfl rfl (by kernel_rfl) (by kernel_rfl) (by kernel_rfl) (fun w1 hC hK => ?_) (fun u1 hu1 => ?_)
        · obtain ⟨gh, k1, k2⟩ := hK 68 _ _ (looks_of (by kernel_rfl)) (.inr ⟨rfl, rfl⟩) rfl; cases k1; obtain ⟨q, rfl⟩ := hC; rw [HLA.out, HLB.out] at k2; have hj := join_any (n1 := sA) (n2 := sB) k2 (by have := RA.out.up q.ok; rw [HLA.out] at this; exact this) (by have := RB.out.up q.ok; rw [HLB.out] at this; exact this) HSA.out.1 HSA.out.2.1 HSB.out.1 HSB.out.2.1; rw [HJJ.out] at hj; exact nd_free (hj.mono fun e w' ⟨v', k1, k2, k3⟩ => ⟨v', k1, ⟨_, k2.rn RM.out.sm⟩, k3⟩)
        obtain ⟨e4, e5, e6, rfl⟩ := hu1
        simp only [Act.put, List.setIfInBounds_toArray, List.set_cons_succ, List.set_cons_zero]
        refine wf_call (V := (UL.nd m).1) (vals := [.agg #[.bool m.leaf, e4, e5, e6]]) Try.func28 (by kernel_rfl) rfl rfl (by kernel_rfl) (by kernel_rfl) (by kernel_rfl) (fun w1 hC hK => ?_) (fun u1 hu1 => ?_)
        · obtain ⟨A1, k1⟩ := hK 69 _ _ (looks_of (by kernel_rfl)) (.inr ⟨rfl, rfl⟩) rfl; exact told_nd k1
        obtain ⟨e7, e8, e9, rfl⟩ := hu1
        simp only [Act.put, List.setIfInBounds_toArray, List.set_cons_succ, List.set_cons_zero]
        refine wf_take 1 rfl ?_
        simp only [List.take_succ_cons, List.take_zero, List.drop_succ_cons, List.drop_zero]
        repeat (go_big_quiet_step (fail))
        refine wpQuiet_nil ?_
        refine wf_call (V := (UL.is (.bool true)).1) (vals := [.agg #[.bool m.leaf, e7, e8, e9], .agg #[.bool true, .slice x1 m.keys.length y1, .slice x2 m.vals.length y2, .slice x3 m.kids.length y3]]) Try.func27 (by kernel_rfl) rfl rfl (by kernel_rfl) (by kernel_rfl) (by kernel_rfl) (fun w1 hC hK => ?_) (fun u1 hu1 => ?_)
        · obtain ⟨A1, k1⟩ := hK 70 _ _ (looks_of (by kernel_rfl)) (.inr ⟨rfl, rfl⟩) rfl; obtain ⟨q, rfl⟩ := hC; have k2 := RM.out.up q.ok; rw [hl] at k2; have hq := same_any k1 k2; rw [same_self] at hq; exact is_free hq
        obtain rfl : u1 = .bool true := hu1
        simp only [Act.put, List.setIfInBounds_toArray, List.set_cons_succ, List.set_cons_zero]
        refine wf_take 11 rfl ?_
        simp only [List.take_succ_cons, List.take_zero, List.drop_succ_cons, List.drop_zero]
        repeat (go_big_quiet_step (fail))
        refine wpQuiet_nil ?_
        refine wf_call (V := (UL.is (.int .i64 zc)).1) (vals := [xa, .slice ka sK.length kc]) Try.func33 (by kernel_rfl) rfl rfl (by kernel_rfl) (by kernel_rfl) (by kernel_rfl) (fun w1 hC hK => ?_) (fun u1 hu1 => ?_)
        · obtain ⟨q, rfl⟩ := hC; have hq := cmp_any _ _ _ _ _ (HBA.out.up q.ok) (RK.out.up q.ok); rw [← HZC.out] at hq; exact is_free_dn hq
        obtain rfl : u1 = .int .i64 zc := hu1
        simp only [Act.put, List.setIfInBounds_toArray, List.set_cons_succ, List.set_cons_zero]
        refine wf_take 8 rfl ?_
        simp only [List.take_succ_cons, List.take_zero, List.drop_succ_cons, List.drop_zero]
        repeat (go_big_quiet_step (fail))
        refine wpQuiet_nil ?_
        refine wf_call (V := (UL.is (.int .i64 0)).1) (vals := [.slice ka sK.length kc, xb]) Try.func33 (by kernel_rfl) rfl rfl (by kernel_rfl) (by kernel_rfl) (by kernel_rfl) (fun w1 hC hK => ?_) (fun u1 hu1 => ?_)
        · obtain ⟨q, rfl⟩ := hC; have hq := cmp_any _ _ _ _ _ (RK.out.up q.ok) (HBB.out.up q.ok); rw [HZ2.out] at hq; exact is_free_dn hq
        obtain rfl : u1 = .int .i64 0 := hu1
        simp only [Act.put, List.setIfInBounds_toArray, List.set_cons_succ, List.set_cons_zero]
        refine wf_take 3 rfl ?_
        simp only [List.take_succ_cons, List.take_zero, List.drop_succ_cons, List.drop_zero]
        repeat (go_big_quiet_step (fail))
        refine wpQuiet_nil ?_
        intro wF hC hK
        clear hK
        obtain ⟨q, rfl⟩ := hC
        have HS := Hid.mk' (HS.out.up q.ok)
        have RM := Hid.mk' (RM.out.up q.ok)
        have RA := Hid.mk' (RA.out.up q.ok)
        have RB := Hid.mk' (RB.out.up q.ok)
        have HWU := Hid.mk' (HWU.out.trans (q.ok.mono HWU.out.size))
        clear rr0 rr1 rr2 rr3 rr4 rr5 rr6 rr7 rr8 rr9 rr10 rr11 rr12 rr13 ua ub HBA HBB
        generalize q.nx = wF at *
        clear q
        clear b0 b1 b2 b3 bf d0 d1 d2 d3 df t0 t1 t2 t3 tf
        obtain ⟨⟨b0, b1, b2, b3⟩, bf⟩ := cells4_get HS.out.h0
        obtain ⟨⟨d0, d1, d2, d3⟩, df⟩ := cells4_get HS.out.h1
        obtain ⟨⟨t0, t1, t2, t3⟩, tf⟩ := cells4_get HS.out.h2
        rw [hl] at b0
        have RM := RM.out
        rw [hl] at RM
        have RM := Hid.mk' RM
        by_cases h7 : zm ≤ 707
        · have h7' : (zm : Int) ≤ 707 := by omega
          have HWH : Hid ((m.leaf = true ∧ zm ≤ 707) ∨ (m.leaf = false ∧ zm ≤ 579)) := .inl ⟨hl, h7⟩
          go_wp2_with fail
          refine (HRZ.out _ _ _ RM.out).mono ?_
          rintro e wh1 ⟨rfl, hup⟩
          have HS := Hid.mk' (HS.out.up hup)
          have RM := Hid.mk' (RM.out.up hup)
          have RA := Hid.mk' (RA.out.up hup)
          have RB := Hid.mk' (RB.out.up hup)
          have HWU := Hid.mk' (HWU.out.trans (hup.mono HWU.out.size))
          clear hup b0 b1 b2 b3 bf d0 d1 d2 d3 df t0 t1 t2 t3 tf
          obtain ⟨⟨b0, b1, b2, b3⟩, bf⟩ := cells4_get HS.out.h0
          obtain ⟨⟨d0, d1, d2, d3⟩, df⟩ := cells4_get HS.out.h1
          obtain ⟨⟨t0, t1, t2, t3⟩, tf⟩ := cells4_get HS.out.h2
          rw [hl] at b0
          obtain ⟨fa, fb⟩ := HFT.out HSM.out HWH.out
          have fa' : (za : Int) ≤ 512 := by omega
          have fb' : (zb : Int) ≤ 512 := by omega
          clear fa fb
          go_wp2_with fail
          refine (told_any RA.out).mono ?_
          rintro e wk1 ⟨rfl, hup⟩
          have HS := Hid.mk' (HS.out.up hup)
          have RM := Hid.mk' (RM.out.up hup)
          have RA := Hid.mk' (RA.out.up hup)
          have RB := Hid.mk' (RB.out.up hup)
          have HWU := Hid.mk' (HWU.out.trans (hup.mono HWU.out.size))
          clear hup b0 b1 b2 b3 bf d0 d1 d2 d3 df t0 t1 t2 t3 tf
          obtain ⟨⟨b0, b1, b2, b3⟩, bf⟩ := cells4_get HS.out.h0
          obtain ⟨⟨d0, d1, d2, d3⟩, df⟩ := cells4_get HS.out.h1
          obtain ⟨⟨t0, t1, t2, t3⟩, tf⟩ := cells4_get HS.out.h2
          go_wp2_with fail
          refine (HRA.out _ _ _ RA.out).mono ?_
          rintro e wk2 ⟨rfl, hup⟩
          have HS := Hid.mk' (HS.out.up hup)
          have RM := Hid.mk' (RM.out.up hup)
          have RA := Hid.mk' (RA.out.up hup)
          have RB := Hid.mk' (RB.out.up hup)
          have HWU := Hid.mk' (HWU.out.trans (hup.mono HWU.out.size))
          clear hup b0 b1 b2 b3 bf d0 d1 d2 d3 df t0 t1 t2 t3 tf
          obtain ⟨⟨b0, b1, b2, b3⟩, bf⟩ := cells4_get HS.out.h0
          obtain ⟨⟨d0, d1, d2, d3⟩, df⟩ := cells4_get HS.out.h1
          obtain ⟨⟨t0, t1, t2, t3⟩, tf⟩ := cells4_get HS.out.h2
          go_wp2_with fail
          refine (told_any RB.out).mono ?_
          rintro e wk3 ⟨rfl, hup⟩
          have HS := Hid.mk' (HS.out.up hup)
          have RM := Hid.mk' (RM.out.up hup)
          have RA := Hid.mk' (RA.out.up hup)
          have RB := Hid.mk' (RB.out.up hup)
          have HWU := Hid.mk' (HWU.out.trans (hup.mono HWU.out.size))
          clear hup b0 b1 b2 b3 bf d0 d1 d2 d3 df t0 t1 t2 t3 tf
          obtain ⟨⟨b0, b1, b2, b3⟩, bf⟩ := cells4_get HS.out.h0
          obtain ⟨⟨d0, d1, d2, d3⟩, df⟩ := cells4_get HS.out.h1
          obtain ⟨⟨t0, t1, t2, t3⟩, tf⟩ := cells4_get HS.out.h2
          go_wp2_with fail
          refine (HRB.out _ _ _ RB.out).mono ?_
          rintro e wk4 ⟨rfl, hup⟩
          have HS := Hid.mk' (HS.out.up hup)
          have RM := Hid.mk' (RM.out.up hup)
          have RA := Hid.mk' (RA.out.up hup)
          have RB := Hid.mk' (RB.out.up hup)
          have HWU := Hid.mk' (HWU.out.trans (hup.mono HWU.out.size))
          clear hup b0 b1 b2 b3 bf d0 d1 d2 d3 df t0 t1 t2 t3 tf
          obtain ⟨⟨b0, b1, b2, b3⟩, bf⟩ := cells4_get HS.out.h0
          obtain ⟨⟨d0, d1, d2, d3⟩, df⟩ := cells4_get HS.out.h1
          obtain ⟨⟨t0, t1, t2, t3⟩, tf⟩ := cells4_get HS.out.h2
          go_wp2_with fail
          go_ret
          exact ⟨rfl, HWU.out⟩
        · have h7' : ¬ (zm : Int) ≤ 707 := by omega
          have h5' : ¬ (zm : Int) ≤ 579 := by omega
          go_wp2_with fail
          refine (HRZ.out _ _ _ RM.out).mono ?_
          rintro e wh1 ⟨rfl, hup⟩
          have HS := Hid.mk' (HS.out.up hup)
          have RM := Hid.mk' (RM.out.up hup)
          have RA := Hid.mk' (RA.out.up hup)
          have RB := Hid.mk' (RB.out.up hup)
          have HWU := Hid.mk' (HWU.out.trans (hup.mono HWU.out.size))
          clear hup b0 b1 b2 b3 bf d0 d1 d2 d3 df t0 t1 t2 t3 tf
          obtain ⟨⟨b0, b1, b2, b3⟩, bf⟩ := cells4_get HS.out.h0
          obtain ⟨⟨d0, d1, d2, d3⟩, df⟩ := cells4_get HS.out.h1
          obtain ⟨⟨t0, t1, t2, t3⟩, tf⟩ := cells4_get HS.out.h2
          rw [hl] at b0
          go_wp2_with fail
          refine (HRZ.out _ _ _ RM.out).mono ?_
          rintro e wh2 ⟨rfl, hup⟩
          have HS := Hid.mk' (HS.out.up hup)
          have RM := Hid.mk' (RM.out.up hup)
          have RA := Hid.mk' (RA.out.up hup)
          have RB := Hid.mk' (RB.out.up hup)
          have HWU := Hid.mk' (HWU.out.trans (hup.mono HWU.out.size))
          clear hup b0 b1 b2 b3 bf d0 d1 d2 d3 df t0 t1 t2 t3 tf
          obtain ⟨⟨b0, b1, b2, b3⟩, bf⟩ := cells4_get HS.out.h0
          obtain ⟨⟨d0, d1, d2, d3⟩, df⟩ := cells4_get HS.out.h1
          obtain ⟨⟨t0, t1, t2, t3⟩, tf⟩ := cells4_get HS.out.h2
          rw [hl] at b0
          go_wp2_with fail
          go_ret
          exact ⟨rfl, HWU.out⟩
    · have hsm : sml m = decide (m.keys.length < 3) := by unfold sml bh; rw [hl]; rfl
      rw [hl] at b0
      by_cases hs2 : m.keys.length < 2
      · have hs' : (m.keys.length : Int) < 2 := by omega
        clear hsm
        go_wp2_with fail
        go_ret
        exact ⟨rfl, HWU.out⟩
      · have hs2' : ¬ (m.keys.length : Int) < 2 := by omega
        by_cases hs : m.keys.length < 3
        · have hs' : (m.keys.length : Int) < 3 := by omega
          clear hsm
          go_wp2_with fail
          go_ret
          exact ⟨rfl, HWU.out⟩
        · have hs' : ¬ (m.keys.length : Int) < 3 := by omega
          have HSM : Hid (sml m = false) := by show _ = _; rw [hsm]; simp [hs]
          clear hsm hs hs2
          go_wp2_with fail
          obtain ⟨⟨d0, d1, d2, d3⟩, df⟩ := cells4_get HS.out.h1
          obtain ⟨⟨t0, t1, t2, t3⟩, tf⟩ := cells4_get HS.out.h2
          have rr0 : ∀ q : Ups wE, q.nx.cell? ⟨w.heap.size, 0, none⟩ = some _ := fun q => q.cell b0
          have rr1 : ∀ q : Ups wE, q.nx.cell? ⟨w.heap.size, 1, none⟩ = some _ := fun q => q.cell b1
          have rr2 : ∀ q : Ups wE, q.nx.cell? ⟨w.heap.size, 2, none⟩ = some _ := fun q => q.cell b2
          have rr3 : ∀ q : Ups wE, q.nx.cell? ⟨w.heap.size, 3, none⟩ = some _ := fun q => q.cell b3
          refine wp_region_free 34 Up (fun w' => ∃ q : Ups wE, w' = q.nx) (ul []) (by kernel_rfl) (by kernel_rfl) (ul_ck _) (up_first wE) ?_
          simp only [List.take_succ_cons, List.take_zero, List.drop_succ_cons, List.drop_zero]
          refine wf_take 3 rfl ?_
          simp only [List.take_succ_cons, List.take_zero, List.drop_succ_cons, List.drop_zero]
          refine wq_behind ?_
          intro Qq hQq
          repeat (go_big_quiet_step (fail))
          refine wpQuiet_nil ?_
          refine hQq _ ?_
          clear hQq
          show wpFree Try.prog _ _ _ _ _ _ _ _
          with_reducible refine wf_skip (by kernel_rfl) ?_
          simp only [Act.put, List.setIfInBounds_toArray, List.set_cons_succ, List.set_cons_zero]
          with_reducible refine wf_skip (by kernel_rfl) ?_
          simp only [Act.put, List.setIfInBounds_toArray, List.set_cons_succ, List.set_cons_zero]
          with_reducible refine wf_skip (by kernel_rfl) ?_
          simp only [Act.put, List.setIfInBounds_toArray, List.set_cons_succ, List.set_cons_zero]
          with_reducible refine wf_skip (by kernel_rfl) ?_
          simp only [Act.put, List.setIfInBounds_toArray, List.set_cons_succ, List.set_cons_zero]
          with_reducible refine wf_skip (by kernel_rfl) ?_
          simp only [Act.put, List.setIfInBounds_toArray, List.set_cons_succ, List.set_cons_zero]
          with_reducible refine wf_skip (by kernel_rfl) ?_
          simp only [Act.put, List.setIfInBounds_toArray, List.set_cons_succ, List.set_cons_zero]
          with_reducible refine wf_skip (by kernel_rfl) ?_
          simp only [Act.put, List.setIfInBounds_toArray, List.set_cons_succ, List.set_cons_zero]
          with_reducible refine wf_skip (by kernel_rfl) ?_
          simp only [Act.put, List.setIfInBounds_toArray, List.set_cons_succ, List.set_cons_zero]
          with_reducible refine wf_skip (by kernel_rfl) ?_
          simp only [Act.put, List.setIfInBounds_toArray, List.set_cons_succ, List.set_cons_zero]
          with_reducible refine wf_skip (by kernel_rfl) ?_
          simp only [Act.put, List.setIfInBounds_toArray, List.set_cons_succ, List.set_cons_zero]
          with_reducible refine wf_skip (by kernel_rfl) ?_
          simp only [Act.put, List.setIfInBounds_toArray, List.set_cons_succ, List.set_cons_zero]
          with_reducible refine wf_skip (by kernel_rfl) ?_
          simp only [Act.put, List.setIfInBounds_toArray, List.set_cons_succ, List.set_cons_zero]
          with_reducible refine wf_skip (by kernel_rfl) ?_
          simp only [Act.put, List.setIfInBounds_toArray, List.set_cons_succ, List.set_cons_zero]
          with_reducible refine wf_skip (by kernel_rfl) ?_
          simp only [Act.put, List.setIfInBounds_toArray, List.set_cons_succ, List.set_cons_zero]
          with_reducible refine wf_skip (by kernel_rfl) ?_
          simp only [Act.put, List.setIfInBounds_toArray, List.set_cons_succ, List.set_cons_zero]
          with_reducible refine wf_skip (by kernel_rfl) ?_
          simp only [Act.put, List.setIfInBounds_toArray, List.set_cons_succ, List.set_cons_zero]
          with_reducible refine wf_skip (by kernel_rfl) ?_
          simp only [Act.put, List.setIfInBounds_toArray, List.set_cons_succ, List.set_cons_zero]
          with_reducible refine wf_skip (by kernel_rfl) ?_
          simp only [Act.put, List.setIfInBounds_toArray, List.set_cons_succ, List.set_cons_zero]
          with_reducible refine wf_skip (by kernel_rfl) ?_
          simp only [Act.put, List.setIfInBounds_toArray, List.set_cons_succ, List.set_cons_zero]
          with_reducible refine wf_skip (by kernel_rfl) ?_
          simp only [Act.put, List.setIfInBounds_toArray, List.set_cons_succ, List.set_cons_zero]
          with_reducible refine wf_skip (by kernel_rfl) ?_
          simp only [Act.put, List.setIfInBounds_toArray, List.set_cons_succ, List.set_cons_zero]
          with_reducible refine wf_skip (by kernel_rfl) ?_
          simp only [Act.put, List.setIfInBounds_toArray, List.set_cons_succ, List.set_cons_zero]
          with_reducible refine wf_skip (by kernel_rfl) ?_
          simp only [Act.put, List.setIfInBounds_toArray, List.set_cons_succ, List.set_cons_zero]
          with_reducible refine wf_skip (by kernel_rfl) ?_
          simp only [Act.put, List.setIfInBounds_toArray, List.set_cons_succ, List.set_cons_zero]
          with_reducible refine wf_skip (by kernel_rfl) ?_
          simp only [Act.put, List.setIfInBounds_toArray, List.set_cons_succ, List.set_cons_zero]
          with_reducible refine wf_skip (by kernel_rfl) ?_
          simp only [Act.put, List.setIfInBounds_toArray, List.set_cons_succ, List.set_cons_zero]
          with_reducible refine wf_skip (by kernel_rfl) ?_
          simp only [Act.put, List.setIfInBounds_toArray, List.set_cons_succ, List.set_cons_zero]
          with_reducible refine wf_skip (by kernel_rfl) ?_
          simp only [Act.put, List.setIfInBounds_toArray, List.set_cons_succ, List.set_cons_zero]
          with_reducible refine wf_skip (by kernel_rfl) ?_
          simp only [Act.put, List.setIfInBounds_toArray, List.set_cons_succ, List.set_cons_zero]
          with_reducible refine wf_skip (by kernel_rfl) ?_
          simp only [Act.put, List.setIfInBounds_toArray, List.set_cons_succ, List.set_cons_zero]
          refine wf_take 1 rfl ?_
          simp only [List.take_succ_cons, List.take_zero, List.drop_succ_cons, List.drop_zero]
          repeat (go_big_quiet_step (fail))
          refine wpQuiet_nil ?_
          intro wF hC hK
          clear hK
          obtain ⟨q, rfl⟩ := hC
          have HS := Hid.mk' (HS.out.up q.ok)
          have RM := Hid.mk' (RM.out.up q.ok)
          have RA := Hid.mk' (RA.out.up q.ok)
          have RB := Hid.mk' (RB.out.up q.ok)
          have HWU := Hid.mk' (HWU.out.trans (q.ok.mono HWU.out.size))
          clear rr0 rr1 rr2 rr3
          generalize q.nx = wF at *
          clear q
          clear b0 b1 b2 b3 bf d0 d1 d2 d3 df t0 t1 t2 t3 tf
          obtain ⟨⟨b0, b1, b2, b3⟩, bf⟩ := cells4_get HS.out.h0
          obtain ⟨⟨d0, d1, d2, d3⟩, df⟩ := cells4_get HS.out.h1
          obtain ⟨⟨t0, t1, t2, t3⟩, tf⟩ := cells4_get HS.out.h2
          rw [hl] at b0
          have RM := RM.out
          rw [hl] at RM
          have RM := Hid.mk' RM
          by_cases h7 : zm ≤ 707
          · have h7' : (zm : Int) ≤ 707 := by omega
            by_cases h5 : zm ≤ 579
            · have h5' : (zm : Int) ≤ 579 := by omega
              have HWH : Hid ((m.leaf = true ∧ zm ≤ 707) ∨ (m.leaf = false ∧ zm ≤ 579)) := .inr ⟨hl, h5⟩
              go_wp2_with fail
              refine (HRZ.out _ _ _ RM.out).mono ?_
              rintro e wh1 ⟨rfl, hup⟩
              have HS := Hid.mk' (HS.out.up hup)
              have RM := Hid.mk' (RM.out.up hup)
              have RA := Hid.mk' (RA.out.up hup)
              have RB := Hid.mk' (RB.out.up hup)
              have HWU := Hid.mk' (HWU.out.trans (hup.mono HWU.out.size))
              clear hup b0 b1 b2 b3 bf d0 d1 d2 d3 df t0 t1 t2 t3 tf
              obtain ⟨⟨b0, b1, b2, b3⟩, bf⟩ := cells4_get HS.out.h0
              obtain ⟨⟨d0, d1, d2, d3⟩, df⟩ := cells4_get HS.out.h1
              obtain ⟨⟨t0, t1, t2, t3⟩, tf⟩ := cells4_get HS.out.h2
              rw [hl] at b0
              go_wp2_with fail
              refine (HRZ.out _ _ _ RM.out).mono ?_
              rintro e wh2 ⟨rfl, hup⟩
              have HS := Hid.mk' (HS.out.up hup)
              have RM := Hid.mk' (RM.out.up hup)
              have RA := Hid.mk' (RA.out.up hup)
              have RB := Hid.mk' (RB.out.up hup)
              have HWU := Hid.mk' (HWU.out.trans (hup.mono HWU.out.size))
              clear hup b0 b1 b2 b3 bf d0 d1 d2 d3 df t0 t1 t2 t3 tf
              obtain ⟨⟨b0, b1, b2, b3⟩, bf⟩ := cells4_get HS.out.h0
              obtain ⟨⟨d0, d1, d2, d3⟩, df⟩ := cells4_get HS.out.h1
              obtain ⟨⟨t0, t1, t2, t3⟩, tf⟩ := cells4_get HS.out.h2
              rw [hl] at b0
              obtain ⟨fa, fb⟩ := HFT.out HSM.out HWH.out
              have fa' : (za : Int) ≤ 512 := by omega
              have fb' : (zb : Int) ≤ 512 := by omega
              clear fa fb
              go_wp2_with fail
              refine (told_any RA.out).mono ?_
              rintro e wk1 ⟨rfl, hup⟩
              have HS := Hid.mk' (HS.out.up hup)
              have RM := Hid.mk' (RM.out.up hup)
              have RA := Hid.mk' (RA.out.up hup)
              have RB := Hid.mk' (RB.out.up hup)
              have HWU := Hid.mk' (HWU.out.trans (hup.mono HWU.out.size))
              clear hup b0 b1 b2 b3 bf d0 d1 d2 d3 df t0 t1 t2 t3 tf
              obtain ⟨⟨b0, b1, b2, b3⟩, bf⟩ := cells4_get HS.out.h0
              obtain ⟨⟨d0, d1, d2, d3⟩, df⟩ := cells4_get HS.out.h1
              obtain ⟨⟨t0, t1, t2, t3⟩, tf⟩ := cells4_get HS.out.h2
              go_wp2_with fail
              refine (HRA.out _ _ _ RA.out).mono ?_
              rintro e wk2 ⟨rfl, hup⟩
              have HS := Hid.mk' (HS.out.up hup)
              have RM := Hid.mk' (RM.out.up hup)
              have RA := Hid.mk' (RA.out.up hup)
              have RB := Hid.mk' (RB.out.up hup)
              have HWU := Hid.mk' (HWU.out.trans (hup.mono HWU.out.size))
              clear hup b0 b1 b2 b3 bf d0 d1 d2 d3 df t0 t1 t2 t3 tf
              obtain ⟨⟨b0, b1, b2, b3⟩, bf⟩ := cells4_get HS.out.h0
              obtain ⟨⟨d0, d1, d2, d3⟩, df⟩ := cells4_get HS.out.h1
              obtain ⟨⟨t0, t1, t2, t3⟩, tf⟩ := cells4_get HS.out.h2
              go_wp2_with fail
              refine (told_any RB.out).mono ?_
              rintro e wk3 ⟨rfl, hup⟩
              have HS := Hid.mk' (HS.out.up hup)
              have RM := Hid.mk' (RM.out.up hup)
              have RA := Hid.mk' (RA.out.up hup)
              have RB := Hid.mk' (RB.out.up hup)
              have HWU := Hid.mk' (HWU.out.trans (hup.mono HWU.out.size))
              clear hup b0 b1 b2 b3 bf d0 d1 d2 d3 df t0 t1 t2 t3 tf
              obtain ⟨⟨b0, b1, b2, b3⟩, bf⟩ := cells4_get HS.out.h0
              obtain ⟨⟨d0, d1, d2, d3⟩, df⟩ := cells4_get HS.out.h1
              obtain ⟨⟨t0, t1, t2, t3⟩, tf⟩ := cells4_get HS.out.h2
              go_wp2_with fail
              refine (HRB.out _ _ _ RB.out).mono ?_
              rintro e wk4 ⟨rfl, hup⟩
              have HS := Hid.mk' (HS.out.up hup)
              have RM := Hid.mk' (RM.out.up hup)
              have RA := Hid.mk' (RA.out.up hup)
              have RB := Hid.mk' (RB.out.up hup)
              have HWU := Hid.mk' (HWU.out.trans (hup.mono HWU.out.size))
              clear hup b0 b1 b2 b3 bf d0 d1 d2 d3 df t0 t1 t2 t3 tf
              obtain ⟨⟨b0, b1, b2, b3⟩, bf⟩ := cells4_get HS.out.h0
              obtain ⟨⟨d0, d1, d2, d3⟩, df⟩ := cells4_get HS.out.h1
              obtain ⟨⟨t0, t1, t2, t3⟩, tf⟩ := cells4_get HS.out.h2
              go_wp2_with fail
              go_ret
              exact ⟨rfl, HWU.out⟩
            · have h5' : ¬ (zm : Int) ≤ 579 := by omega
              go_wp2_with fail
              refine (HRZ.out _ _ _ RM.out).mono ?_
              rintro e wh1 ⟨rfl, hup⟩
              have HS := Hid.mk' (HS.out.up hup)
              have RM := Hid.mk' (RM.out.up hup)
              have RA := Hid.mk' (RA.out.up hup)
              have RB := Hid.mk' (RB.out.up hup)
              have HWU := Hid.mk' (HWU.out.trans (hup.mono HWU.out.size))
              clear hup b0 b1 b2 b3 bf d0 d1 d2 d3 df t0 t1 t2 t3 tf
              obtain ⟨⟨b0, b1, b2, b3⟩, bf⟩ := cells4_get HS.out.h0
              obtain ⟨⟨d0, d1, d2, d3⟩, df⟩ := cells4_get HS.out.h1
              obtain ⟨⟨t0, t1, t2, t3⟩, tf⟩ := cells4_get HS.out.h2
              rw [hl] at b0
              go_wp2_with fail
              refine (HRZ.out _ _ _ RM.out).mono ?_
              rintro e wh2 ⟨rfl, hup⟩
              have HS := Hid.mk' (HS.out.up hup)
              have RM := Hid.mk' (RM.out.up hup)
              have RA := Hid.mk' (RA.out.up hup)
              have RB := Hid.mk' (RB.out.up hup)
              have HWU := Hid.mk' (HWU.out.trans (hup.mono HWU.out.size))
              clear hup b0 b1 b2 b3 bf d0 d1 d2 d3 df t0 t1 t2 t3 tf
              obtain ⟨⟨b0, b1, b2, b3⟩, bf⟩ := cells4_get HS.out.h0
              obtain ⟨⟨d0, d1, d2, d3⟩, df⟩ := cells4_get HS.out.h1
              obtain ⟨⟨t0, t1, t2, t3⟩, tf⟩ := cells4_get HS.out.h2
              rw [hl] at b0
              go_wp2_with fail
              go_ret
              exact ⟨rfl, HWU.out⟩
          · have h7' : ¬ (zm : Int) ≤ 707 := by omega
            have h5' : ¬ (zm : Int) ≤ 579 := by omega
            go_wp2_with fail
            refine (HRZ.out _ _ _ RM.out).mono ?_
            rintro e wh1 ⟨rfl, hup⟩
            have HS := Hid.mk' (HS.out.up hup)
            have RM := Hid.mk' (RM.out.up hup)
            have RA := Hid.mk' (RA.out.up hup)
            have RB := Hid.mk' (RB.out.up hup)
            have HWU := Hid.mk' (HWU.out.trans (hup.mono HWU.out.size))
            clear hup b0 b1 b2 b3 bf d0 d1 d2 d3 df t0 t1 t2 t3 tf
            obtain ⟨⟨b0, b1, b2, b3⟩, bf⟩ := cells4_get HS.out.h0
            obtain ⟨⟨d0, d1, d2, d3⟩, df⟩ := cells4_get HS.out.h1
            obtain ⟨⟨t0, t1, t2, t3⟩, tf⟩ := cells4_get HS.out.h2
            rw [hl] at b0
            go_wp2_with fail
            refine (HRZ.out _ _ _ RM.out).mono ?_
            rintro e wh2 ⟨rfl, hup⟩
            have HS := Hid.mk' (HS.out.up hup)
            have RM := Hid.mk' (RM.out.up hup)
            have RA := Hid.mk' (RA.out.up hup)
            have RB := Hid.mk' (RB.out.up hup)
            have HWU := Hid.mk' (HWU.out.trans (hup.mono HWU.out.size))
            clear hup b0 b1 b2 b3 bf d0 d1 d2 d3 df t0 t1 t2 t3 tf
            obtain ⟨⟨b0, b1, b2, b3⟩, bf⟩ := cells4_get HS.out.h0
            obtain ⟨⟨d0, d1, d2, d3⟩, df⟩ := cells4_get HS.out.h1
            obtain ⟨⟨t0, t1, t2, t3⟩, tf⟩ := cells4_get HS.out.h2
            rw [hl] at b0
            go_wp2_with fail
            go_ret
            exact ⟨rfl, HWU.out⟩
  · have hckb : (check m != 0) = true := by simp [hck]
    clear hck
    go_wp2_with fail
    go_ret
    exact ⟨rfl, HB4.out.trans (H5.out.mono (by omega))⟩
end Go.Proofs.Ytfmbbpfklhkljaa
