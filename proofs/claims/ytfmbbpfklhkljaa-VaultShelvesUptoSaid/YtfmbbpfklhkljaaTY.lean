/- leaf.twin, walked. -/
import Derived.Test.YtfmbbpfklhkljaaTX
set_option linter.unusedVariables false
set_option linter.unusedSimpArgs false
namespace Go.Proofs.Ytfmbbpfklhkljaa
open Go.RowKit
theorem exec_store28 {w : World} {o : Oper} {a : Act} {x y : Operand} {b off n c : Nat} {ad : Option Addr} {old : Value} (ho : o.op = .store 28 x y) (hx : a.eval x = .pointer (some ⟨b, off, none⟩)) (hy : a.eval y = .slice ad n c)
    (hc : w.cell? ⟨b, off, none⟩ = some old) (hf : w.frozen? ⟨b, off, none⟩ = false) : (execOp a.eval o).run Try.prog w = .ok .skip (w.setCell ⟨b, off, none⟩ (.slice ad n c)) := by
  unfold execOp
  simp only [ho, hx, hy]
  simp [go_sem, hc, hf]
theorem exec_store29 {w : World} {o : Oper} {a : Act} {x y : Operand} {b off n c : Nat} {ad : Option Addr} {old : Value} (ho : o.op = .store 29 x y) (hx : a.eval x = .pointer (some ⟨b, off, none⟩)) (hy : a.eval y = .slice ad n c)
    (hc : w.cell? ⟨b, off, none⟩ = some old) (hf : w.frozen? ⟨b, off, none⟩ = false) : (execOp a.eval o).run Try.prog w = .ok .skip (w.setCell ⟨b, off, none⟩ (.slice ad n c)) := by
  unfold execOp
  simp only [ho, hx, hy]
  simp [go_sem, hc, hf]
theorem Bss.rows {A : Nat → Prop} {w : World} {v : Value} {l : List (List UInt8)} (h : Bss A w v l) : ∃ vs, Row 1 A w v l.length vs ∧ Each A w vs l ∧ l.length * 24 ≤ lim := h
theorem own_ne {B n m : Nat} {e : TypeId} {w w' : World} {v u : Value} {vs us : List Value} (h : w.ownsRow B e 1 v n vs) (h' : w'.ownsRow w.heap.size e 1 u m us) : ∀ k, v.ownBlock = some k → u.ownBlock ≠ some k := by
  intro k hk hu
  obtain ⟨_, cur, fr, h1⟩ := own_typed h k hk
  have h2 := (own_typed h' k hu).1
  have := (Array.getElem?_eq_some_iff.1 h1).1
  omega
def zr : Array Value := #[.bool false, .slice none 0 0, .slice none 0 0, .slice none 0 0]
/-- how a node's copy stands on the way -/
structure Tst (w0 : World) (n : Nd) (kv vv cv : Value) (i j : Nat) (w : World) : Prop where
  bl : Below w0.heap.size w0 w
  at_ : w.heap[w0.heap.size]? = some (.cells #[.bool n.leaf, kv, vv, cv] 37 (0, 0))
  z : w.heap[w0.heap.size + 1]? = some (.cells zr 37 (0, 0))
  keys : Rw w0.heap.size (w0.heap.size + 2) i w kv n.keys
  vals : Rw w0.heap.size (w0.heap.size + 2) j w vv n.vals
  kids : w.ownsRow (w0.heap.size + 2) 3 1 cv n.kids.length (iv n.kids)
theorem Tst.up {w0 : World} {n : Nd} {kv vv cv : Value} {i j : Nat} {w w' : World} (h : Tst w0 n kv vv cv i j w) (hb : Below w.heap.size w w') : Tst w0 n kv vv cv i j w' :=
  ⟨bt h.bl hb, by rw [hb.block _ (Array.getElem?_eq_some_iff.1 h.at_).1]; exact h.at_, by rw [hb.block _ (Array.getElem?_eq_some_iff.1 h.z).1]; exact h.z, h.keys.up hb, h.vals.up hb, own_keep h.kids hb (Nat.le_refl _)⟩
theorem Tst.key {w0 : World} {n : Nd} {g m c : Nat} {vv cv : Value} {k j : Nat} {w : World} {u : Value} (h : Tst w0 n (.slice (some ⟨g, 0, none⟩) m c) vv cv k j w) (ha : ∀ b, (Value.slice (some ⟨g, 0, none⟩) m c).ownBlock = some b → vv.ownBlock ≠ some b) (hk : k < n.keys.length) (hu : Bs (Td 0 w) w u n.keys[k]) :
    Tst w0 n (.slice (some ⟨g, 0, none⟩) m c) vv cv (k + 1) j (w.setCell ⟨g, k, none⟩ u) := by
  obtain ⟨hg1, cur, fr, hg⟩ := h.keys.typed g rfl
  have hs := Wb.set (X := fun b => b = g) w g k u rfl
  have hne : ∀ {e : TypeId} {b : Nat} {cu f}, e ≠ 32 → w.heap[b]? = some (.cells cu e f) → b ≠ g := by
    rintro e b cu f he h1 rfl
    exact he (typed_ne h1 hg)
  refine ⟨h.bl.trans (hs.below h.bl.size fun b hb => by subst hb; omega), ?_, ?_, h.keys.set hk (by omega) hu, h.vals.wb hs h.bl.size fun b hb => ?_, own_wb h.kids hs fun b hb e => ?_⟩
  · rw [hs.block _ (Array.getElem?_eq_some_iff.1 h.at_).1 (hne (by decide) h.at_)]; exact h.at_
  · rw [hs.block _ (Array.getElem?_eq_some_iff.1 h.z).1 (hne (by decide) h.z)]; exact h.z
  · subst hb
    exact ⟨fun e => ha b rfl e.symm, fun cu f h1 => hne (by decide) h1 rfl, by omega⟩
  · obtain ⟨_, _, _, h1⟩ := own_typed h.kids b e.symm
    exact hne (by decide) h1 hb
theorem Tst.val {w0 : World} {n : Nd} {g m c : Nat} {kv cv : Value} {k j : Nat} {w : World} {u : Value} (h : Tst w0 n kv (.slice (some ⟨g, 0, none⟩) m c) cv j k w) (ha : ∀ b, kv.ownBlock = some b → (Value.slice (some ⟨g, 0, none⟩) m c).ownBlock ≠ some b) (hk : k < n.vals.length) (hu : Bs (Td 0 w) w u n.vals[k]) :
    Tst w0 n kv (.slice (some ⟨g, 0, none⟩) m c) cv j (k + 1) (w.setCell ⟨g, k, none⟩ u) := by
  obtain ⟨hg1, cur, fr, hg⟩ := h.vals.typed g rfl
  have hs := Wb.set (X := fun b => b = g) w g k u rfl
  have hne : ∀ {e : TypeId} {b : Nat} {cu f}, e ≠ 32 → w.heap[b]? = some (.cells cu e f) → b ≠ g := by
    rintro e b cu f he h1 rfl
    exact he (typed_ne h1 hg)
  refine ⟨h.bl.trans (hs.below h.bl.size fun b hb => by subst hb; omega), ?_, ?_, h.keys.wb hs h.bl.size fun b hb => ?_, h.vals.set hk (by omega) hu, own_wb h.kids hs fun b hb e => ?_⟩
  · rw [hs.block _ (Array.getElem?_eq_some_iff.1 h.at_).1 (hne (by decide) h.at_)]; exact h.at_
  · rw [hs.block _ (Array.getElem?_eq_some_iff.1 h.z).1 (hne (by decide) h.z)]; exact h.z
  · subst hb
    exact ⟨fun e => ha b e.symm rfl, fun cu f h1 => hne (by decide) h1 rfl, by omega⟩
  · obtain ⟨_, _, _, h1⟩ := own_typed h.kids b e.symm
    exact hne (by decide) h1 hb
/-- the k-th element of such a row, where there is one -/
theorem Rw.at {D B k : Nat} {w : World} {a : Option Addr} {m c : Nat} {l : List (List UInt8)} (h : Rw D B k w (.slice a m c) l) (hk : k < l.length) : ∃ g x, a = some ⟨g, 0, none⟩ ∧ m = l.length ∧ w.cell? ⟨g, k, none⟩ = some x ∧ w.frozen? ⟨g, k, none⟩ = false ∧ Bs (Lt D) w x l[k] := by
  obtain ⟨vs, h1, _, h3⟩ := h
  have hlen : vs.length = l.length := by have := h1.1; simpa using this
  have h1' := h1
  obtain ⟨_, h | ⟨g', cap', cur, hv, _⟩⟩ := h1
  · have := h.2; omega
  · simp only [Value.slice.injEq] at hv
    obtain ⟨rfl, rfl, rfl⟩ := hv
    exact ⟨g', vs[k]'(by omega), rfl, rfl, by rw [World.ownsRow.cellAt h1' k (by omega)]; simp [hlen, hk], World.ownsRow.frozenAt h1' k, h3 k (by omega) hk (Nat.le_refl _)⟩
set_option maxRecDepth 100000 in
set_option maxHeartbeats 4000000 in
/-- leaf.twin -/
theorem twin_any {A : Nat → Prop} {w : World} {v : Value} {n : Nd} (h : RN A w v n) : Calls Try.prog 74 #[v] w fun e w' => ∃ v', e = .returned v' ∧ OwnN w.heap.size w' v' n ∧ Below w.heap.size w w' := by
  have HSM := Hid.mk' h.sm
  obtain ⟨k, u, c, rfl, h1, h2, h3⟩ := h.toLt
  obtain ⟨a1, c1, rfl, _⟩ := h1.at
  obtain ⟨a2, c2, rfl, _⟩ := h2.at
  obtain ⟨a3, c3, rfl, _⟩ := h3.at
  obtain ⟨ks, r1, s1, l1⟩ := h1
  obtain ⟨us, r2, s2, l2⟩ := h2
  have R1 := Hid.mk' r1
  have S1 := Hid.mk' s1
  have R2 := Hid.mk' r2
  have S2 := Hid.mk' s2
  have R3 := Hid.mk' h3
  have hl1 : n.keys.length * 24 ≤ 140737488351232 := l1
  have hl2 : n.vals.length * 24 ≤ 140737488351232 := l2
  clear h r1 s1 r2 s2 h3
  go_enter Try.func74, Try.ntmps74
  go_wp2_with fail
  obtain ⟨W1, hW1⟩ : ∃ W1, W1 = w.alloc (.cells #[.bool n.leaf, .slice a1 n.keys.length c1, .slice a2 n.vals.length c2, .slice a3 n.kids.length c3] 37) := ⟨_, rfl⟩
  have hb1 : Below w.heap.size w W1 := by rw [hW1]; exact up_alloc _ _
  have hx1 : W1.heap[w.heap.size]? = some (.cells #[.bool n.leaf, .slice a1 n.keys.length c1, .slice a2 n.vals.length c2, .slice a3 n.kids.length c3] 37 (0, 0)) := by rw [hW1]; exact heap_alloc_new w _
  have hsz1 : W1.heap.size = w.heap.size + 1 := by rw [hW1]; simp
  obtain ⟨V, hV⟩ : ∃ V, V = W1.alloc (.cells #[.bool false, .slice none 0 0, .slice none 0 0, .slice none 0 0] 37) := ⟨_, rfl⟩
  have hb2 : Below W1.heap.size W1 V := by rw [hV]; exact up_alloc _ _
  have hx2 : V.heap[w.heap.size]? = some (.cells #[.bool n.leaf, .slice a1 n.keys.length c1, .slice a2 n.vals.length c2, .slice a3 n.kids.length c3] 37 (0, 0)) := by rw [hb2.block _ (by omega)]; exact hx1
  have hz2 : V.heap[w.heap.size + 1]? = some (.cells zr 37 (0, 0)) := by rw [hV, ← hsz1]; exact heap_alloc_new W1 _
  have hszV : V.heap.size = w.heap.size + 2 := by rw [hV]; simp; omega
  have HBV := Hid.mk' (bt hb1 hb2)
  have he : ((w.alloc (.cells #[.bool n.leaf, .slice a1 n.keys.length c1, .slice a2 n.vals.length c2, .slice a3 n.kids.length c3] 37)).alloc (.cells #[.bool false, .slice none 0 0, .slice none 0 0, .slice none 0 0] 37)) = V := by rw [hV, hW1]
  rw [he]
  clear he hV hW1 hb1 hb2 hx1 hsz1 W1
  obtain ⟨⟨b0, b1, b2, b3⟩, bf⟩ := cells4_get hx2
  have q0 : ∀ q : Kp (fun _ => False) V, q.nx.cell? ⟨w.heap.size, 1, none⟩ = some _ := fun q => q.cell b1 (fun h => h)
  have q1 : ∀ q : Kp (fun _ => False) V, q.nx.cell? ⟨w.heap.size, 2, none⟩ = some _ := fun q => q.cell b2 (fun h => h)
  have q2 : ∀ q : Kp (fun _ => False) V, q.nx.cell? ⟨w.heap.size, 3, none⟩ = some _ := fun q => q.cell b3 (fun h => h)
  have HV0 : Hid (Below V.heap.size V V.drew) := ⟨rfl, rfl, rfl, Nat.le_refl _, fun _ _ => rfl⟩
  refine wp_region_nix 14 (fun w' => ∃ q : Kp (fun _ => False) V, w' = q.nx) (fun w' => ∃ q : Kp (fun _ => True) V, w' = q.nx) (by kernel_rfl) (by kernel_rfl) (fun _ h => kp_all h) (kp_first _ V) ?_
  simp only [List.take_succ_cons, List.take_zero, List.drop_succ_cons, List.drop_zero]
  refine nx_pure rfl rfl ?_
  go_big_quiet_step (fail)
  refine wpQuiet_nil ?_
  refine nx_load rfl rfl ?_
  go_big_quiet_step (fail)
  refine wpQuiet_nil ?_
  refine nx_call (vals := [.slice a1 n.keys.length c1]) Try.func98 (by kernel_rfl) rfl rfl (by kernel_rfl) (by kernel_rfl) (clone98_any (R1.out.up (bt HBV.out HV0.out)) S1.out.one l1) (fun e w1 hp1 => ?_)
  obtain ⟨v1, rfl, o1, h1⟩ := hp1
  have HV1 := Hid.mk' (bt HV0.out h1)
  refine ⟨_, rfl, kp_mk HV1.out.size fun b hb _ => HV1.out.block b hb, ?_⟩
  simp only [Act.put, List.setIfInBounds_toArray, List.set_cons_succ, List.set_cons_zero]
  refine nx_pure rfl rfl ?_
  go_big_quiet_step (fail)
  refine wpQuiet_nil ?_
  refine nx_load rfl rfl ?_
  go_big_quiet_step (fail)
  refine wpQuiet_nil ?_
  refine nx_call (vals := [.slice a2 n.vals.length c2]) Try.func98 (by kernel_rfl) rfl rfl (by kernel_rfl) (by kernel_rfl) (clone98_any (R2.out.up (bt HBV.out HV1.out)) S2.out.one l2) (fun e w2 hp2 => ?_)
  obtain ⟨v2, rfl, o2, h2⟩ := hp2
  have HV2 := Hid.mk' (bt HV1.out h2)
  refine ⟨_, rfl, kp_mk HV2.out.size fun b hb _ => HV2.out.block b hb, ?_⟩
  simp only [Act.put, List.setIfInBounds_toArray, List.set_cons_succ, List.set_cons_zero]
  refine nx_pure rfl rfl ?_
  go_big_quiet_step (fail)
  refine wpQuiet_nil ?_
  refine nx_load rfl rfl ?_
  go_big_quiet_step (fail)
  refine wpQuiet_nil ?_
  refine nx_call (vals := [.slice a3 n.kids.length c3]) Try.func99 (by kernel_rfl) rfl rfl (by kernel_rfl) (by kernel_rfl) (clone99_any (R3.out.up (bt HBV.out HV2.out))) (fun e w3 hp3 => ?_)
  obtain ⟨v3, rfl, o3, h3⟩ := hp3
  have HV3 := Hid.mk' (bt HV2.out h3)
  refine ⟨_, rfl, kp_mk HV3.out.size fun b hb _ => HV3.out.block b hb, ?_⟩
  simp only [Act.put, List.setIfInBounds_toArray, List.set_cons_succ, List.set_cons_zero]
  have hsV3 : w.heap.size + 2 ≤ w3.heap.size := by have := HV3.out.size; omega
  have hap : ∀ k, v1.ownBlock = some k → v2.ownBlock ≠ some k := own_ne o1 o2
  have hsd : V.drew.heap.size = w.heap.size + 2 := hszV
  have o1' := own_mono (own_keep (own_keep o1 h2 (Nat.le_refl _)) h3 (Nat.le_refl _)) (show w.heap.size + 2 ≤ _ from Nat.le_of_eq hsd.symm)
  have o2' := own_mono (own_keep o2 h3 (Nat.le_refl _)) (show w.heap.size + 2 ≤ _ from by have := HV1.out.size; omega)
  have o3' := own_mono o3 (show w.heap.size + 2 ≤ _ from by have := HV2.out.size; omega)
  obtain ⟨e1, d1, ef1⟩ := own_slice o1
  obtain ⟨e2, d2, ef2⟩ := own_slice o2
  obtain ⟨e3, d3, ef3⟩ := own_slice o3
  subst ef1; subst ef2; subst ef3
  have hx3 : w3.heap[w.heap.size]? = some (.cells #[.bool n.leaf, .slice a1 n.keys.length c1, .slice a2 n.vals.length c2, .slice a3 n.kids.length c3] 37 (0, 0)) := by rw [HV3.out.block _ (by omega)]; exact hx2
  have y1 := cells4_set (o := 1) (u := .slice e1 n.keys.length d1) hx3
  have y2 := cells4_set (o := 2) (u := .slice e2 n.vals.length d2) y1
  have y3 := cells4_set (o := 3) (u := .slice e3 n.kids.length d3) y2
  obtain ⟨⟨_, p1, _, _⟩, pf⟩ := cells4_get hx3
  obtain ⟨⟨_, _, p2, _⟩, pf2⟩ := cells4_get y1
  obtain ⟨⟨_, _, _, p3⟩, pf3⟩ := cells4_get y2
  refine nx_pure rfl rfl ?_
  go_big_quiet_step (fail)
  refine wpQuiet_nil ?_
  refine nx_store rfl rfl (by kernel_rfl) (exec_store28 rfl rfl rfl p1 (pf 1)) (kp_any (by rw [size_setCell]; exact HV3.out.size)) ?_
  simp only [Act.put]
  refine nx_pure rfl rfl ?_
  go_big_quiet_step (fail)
  refine wpQuiet_nil ?_
  refine nx_store rfl rfl (by kernel_rfl) (exec_store28 rfl rfl rfl p2 (pf2 2)) (kp_any (by rw [size_setCell, size_setCell]; exact HV3.out.size)) ?_
  simp only [Act.put]
  refine nx_pure rfl rfl ?_
  go_big_quiet_step (fail)
  refine wpQuiet_nil ?_
  simp only [wpNix]
  have X4 : Hid (Wb (fun k => k = w.heap.size) w3 (((w3.setCell ⟨w.heap.size, 1, none⟩ (.slice e1 n.keys.length d1)).setCell ⟨w.heap.size, 2, none⟩ (.slice e2 n.vals.length d2)).setCell ⟨w.heap.size, 3, none⟩ (.slice e3 n.kids.length d3))) :=
    ((Wb.set (X := fun k => k = w.heap.size) _ _ _ _ rfl).trans (Wb.set (X := fun k => k = w.heap.size) _ _ _ _ rfl)).trans (Wb.set (X := fun k => k = w.heap.size) _ _ _ _ rfl)
  have Y4 := Hid.mk' y3
  have O1 := Hid.mk' o1'
  have O2 := Hid.mk' o2'
  have O3 := Hid.mk' o3'
  clear o1 o2 o3 h1 h2 h3 o1' o2' o3' y1 y2 y3 p1 pf p2 pf2 q0 q1 q2 b0 b1 b2 b3 bf
  have p3' := p3
  have pf3' := pf3 3
  have T0 : Hid (Tst w n (.slice e1 n.keys.length d1) (.slice e2 n.vals.length d2) (.slice e3 n.kids.length d3) 0 0 (((w3.setCell ⟨w.heap.size, 1, none⟩ (.slice e1 n.keys.length d1)).setCell ⟨w.heap.size, 2, none⟩ (.slice e2 n.vals.length d2)).setCell ⟨w.heap.size, 3, none⟩ (.slice e3 n.kids.length d3))) := by
    have hb := bt HBV.out HV3.out
    have hty : ∀ b, b = w.heap.size → ∃ cur fr, w3.heap[b]? = some (.cells cur 37 fr) := fun b e => by subst e; exact ⟨_, _, hx3⟩
    have hrw : ∀ {v : Value} {l : List (List UInt8)} {vs : List Value}, w3.ownsRow (w.heap.size + 2) 32 1 v l.length vs → Each (Lt w.heap.size) w vs l → Rw w.heap.size (w.heap.size + 2) 0 (((w3.setCell ⟨w.heap.size, 1, none⟩ (.slice e1 n.keys.length d1)).setCell ⟨w.heap.size, 2, none⟩ (.slice e2 n.vals.length d2)).setCell ⟨w.heap.size, 3, none⟩ (.slice e3 n.kids.length d3)) v l := fun ho hs =>
      (Rw.zero ho (hs.up hb)).wb X4.out hb.size fun b hb' => by
        obtain ⟨cu, f, ht⟩ := hty b hb'
        refine ⟨fun e => ?_, fun cu' f' h1 => absurd (typed_ne ht h1) (by decide), by omega⟩
        obtain ⟨_, _, _, h1⟩ := own_typed ho b e.symm
        exact absurd (typed_ne ht h1) (by decide)
    refine ⟨hb.trans (X4.out.below hb.size fun b hb' => by omega), Y4.out, ?_, hrw O1.out S1.out, hrw O2.out S2.out, own_wb O3.out X4.out fun b hb' e => ?_⟩
    · rw [X4.out.block _ (by omega) (by omega), HV3.out.block _ (by omega)]; exact hz2
    · obtain ⟨cu, f, ht⟩ := hty b hb'
      obtain ⟨_, _, _, h1⟩ := own_typed O3.out b e.symm
      exact absurd (typed_ne ht h1) (by decide)
  have HAP := Hid.mk' hap
  obtain ⟨⟨b0, b1, b2, b3⟩, bf⟩ := cells4_get Y4.out
  go_wp2_with fail
  clear b0 b1 b2 b3 bf p3 p3' pf3 pf3' hap hx3 X4 Y4 O1 O2 O3 HV1 HV2 HV3 hx2 hz2
  generalize (((w3.setCell ⟨w.heap.size, 1, none⟩ (.slice e1 n.keys.length d1)).setCell ⟨w.heap.size, 2, none⟩ (.slice e2 n.vals.length d2)).setCell ⟨w.heap.size, 3, none⟩ (.slice e3 n.kids.length d3)) = w4 at *
  go_loopw [22] (fun i wr => ∃ k : Nat, k ≤ n.keys.length ∧ i = .int .i64 k ∧ Hid (Tst w n (.slice e1 n.keys.length d1) (.slice e2 n.vals.length d2) (.slice e3 n.kids.length d3) k 0 wr)) (fun i _ => n.keys.length - (intOf i).toNat)
  case atStart => exact ⟨0, by omega, rfl, T0⟩
  case round =>
    obtain ⟨k, hk, rfl, HT⟩ := hrel
    obtain ⟨⟨b0, b1, b2, b3⟩, bf⟩ := cells4_get HT.out.at_
    by_cases hlt : k < n.keys.length
    · have hlt' : (k : Int) < (n.keys.length : Int) := by omega
      obtain ⟨g, x, rfl, _, hu, hfz, hx⟩ := HT.out.keys.at hlt
      have HX := Hid.mk' hx
      have hkap := HAP.out
      clear hx
      go_wp2_with fail
      have q0 : ∀ q : Kp (fun _ => False) wr, q.nx.cell? ⟨w.heap.size, 1, none⟩ = some _ := fun q => q.cell b1 (fun h => h)
      refine wp_region_mix 6 (fun w' => ∃ q : Kp (fun _ => False) wr, w' = q.nx) (by kernel_rfl) (by kernel_rfl) (kp_first _ wr) ?_
      simp only [List.take_succ_cons, List.take_zero, List.drop_succ_cons, List.drop_zero]
      refine mx_take 4 rfl ?_
      simp only [List.take_succ_cons, List.take_zero, List.drop_succ_cons, List.drop_zero]
      repeat (go_big_quiet_step (fail))
      refine wpQuiet_nil ?_
      have hdw : Below wr.heap.size wr wr.drew := ⟨rfl, rfl, rfl, Nat.le_refl _, fun _ _ => rfl⟩
      refine mx_call (vals := [x]) Try.func76 (by kernel_rfl) rfl rfl (by kernel_rfl) (by kernel_rfl) (clone_any _ _ _ (HX.out.up hdw)) (fun e w5 hp5 => ?_)
      obtain ⟨v5, rfl, h5, o5⟩ := hp5
      have h5' := bt hdw h5
      refine ⟨_, rfl, kp_mk h5'.size fun b hb _ => h5'.block b hb, ?_⟩
      simp only [Act.put, List.setIfInBounds_toArray, List.set_cons_succ, List.set_cons_zero]
      refine mx_take 1 rfl ?_
      simp only [List.take_succ_cons, List.take_zero, List.drop_succ_cons, List.drop_zero]
      repeat (go_big_quiet_step (fail))
      refine wpQuiet_nil ?_
      simp only [wpMix]
      obtain ⟨a5, c5, e5, _⟩ := (o5.bs HX.out.2).at
      have HT5 := Hid.mk' ((HT.out.up h5').key hkap hlt (Bs.td (B := 0) o5 HX.out.2))
      have hu5 := cell_later h5' hu
      have hf5 : w5.frozen? ⟨g, k, none⟩ = false := by rw [h5'.frozen (p := ⟨g, k, none⟩) (World.block_lt_of_cell? wr ⟨g, k, none⟩ hu)]; exact hfz
      subst e5
      clear b0 b1 b2 b3 bf q0 h5 h5' o5 hu hfz hdw
      go_wp2_with fail
      go_roundw
      case rel => exact ⟨k + 1, by omega, by go_num, HT5⟩
      case measure => simp [intOf]; omega
    · obtain rfl : k = n.keys.length := by omega
      go_wp2_with fail
      have T0 := HT
      clear b0 b1 b2 b3 bf
      rename World => wv
      go_loopw [37] (fun i wr => ∃ k : Nat, k ≤ n.vals.length ∧ i = .int .i64 k ∧ Hid (Tst w n (.slice e1 n.keys.length d1) (.slice e2 n.vals.length d2) (.slice e3 n.kids.length d3) n.keys.length k wr)) (fun i _ => n.vals.length - (intOf i).toNat)
      case atStart => exact ⟨0, by omega, rfl, T0⟩
      case round =>
        obtain ⟨k, hk, rfl, HT⟩ := hrel
        obtain ⟨⟨b0, b1, b2, b3⟩, bf⟩ := cells4_get HT.out.at_
        by_cases hlt : k < n.vals.length
        · have hlt' : (k : Int) < (n.vals.length : Int) := by omega
          obtain ⟨g, x, rfl, _, hu, hfz, hx⟩ := HT.out.vals.at hlt
          have HX := Hid.mk' hx
          have hkap := HAP.out
          clear hx
          go_wp2_with fail
          have q0 : ∀ q : Kp (fun _ => False) wr, q.nx.cell? ⟨w.heap.size, 2, none⟩ = some _ := fun q => q.cell b2 (fun h => h)
          refine wp_region_mix 6 (fun w' => ∃ q : Kp (fun _ => False) wr, w' = q.nx) (by kernel_rfl) (by kernel_rfl) (kp_first _ wr) ?_
          simp only [List.take_succ_cons, List.take_zero, List.drop_succ_cons, List.drop_zero]
          refine mx_take 4 rfl ?_
          simp only [List.take_succ_cons, List.take_zero, List.drop_succ_cons, List.drop_zero]
          repeat (go_big_quiet_step (fail))
          refine wpQuiet_nil ?_
          have hdw : Below wr.heap.size wr wr.drew := ⟨rfl, rfl, rfl, Nat.le_refl _, fun _ _ => rfl⟩
          refine mx_call (vals := [x]) Try.func76 (by kernel_rfl) rfl rfl (by kernel_rfl) (by kernel_rfl) (clone_any _ _ _ (HX.out.up hdw)) (fun e w5 hp5 => ?_)
          obtain ⟨v5, rfl, h5, o5⟩ := hp5
          have h5' := bt hdw h5
          refine ⟨_, rfl, kp_mk h5'.size fun b hb _ => h5'.block b hb, ?_⟩
          simp only [Act.put, List.setIfInBounds_toArray, List.set_cons_succ, List.set_cons_zero]
          refine mx_take 1 rfl ?_
          simp only [List.take_succ_cons, List.take_zero, List.drop_succ_cons, List.drop_zero]
          repeat (go_big_quiet_step (fail))
          refine wpQuiet_nil ?_
          simp only [wpMix]
          obtain ⟨a5, c5, e5, _⟩ := (o5.bs HX.out.2).at
          have HT5 := Hid.mk' ((HT.out.up h5').val hkap hlt (Bs.td (B := 0) o5 HX.out.2))
          have hu5 := cell_later h5' hu
          have hf5 : w5.frozen? ⟨g, k, none⟩ = false := by rw [h5'.frozen (p := ⟨g, k, none⟩) (World.block_lt_of_cell? wr ⟨g, k, none⟩ hu)]; exact hfz
          subst e5
          clear b0 b1 b2 b3 bf q0 h5 h5' o5 hu hfz hdw
          go_wp2_with fail
          go_roundw
          case rel => exact ⟨k + 1, by omega, by go_num, HT5⟩
          case measure => simp [intOf]; omega
        · obtain rfl : k = n.vals.length := by omega
          have hz5 : wr.heap[w.heap.size + 1]? = some (.cells #[.bool false, .slice none 0 0, .slice none 0 0, .slice none 0 0] 37 (0, 0)) := HT.out.z
          obtain ⟨⟨z0, z1, z2, z3⟩, zf⟩ := cells4_get hz5
          go_wp2_with fail
          refine bodyPost_ret (v := .agg #[.bool n.leaf, .slice e1 n.keys.length d1, .slice e2 n.vals.length d2, .slice e3 n.kids.length d3]) (by simp [results, Try.results74, go_sem, z0, z1, z2, z3]) rfl ?_
          have hset : Wb (fun k => k = w.heap.size + 1) wr ((((wr.setCell ⟨w.heap.size + 1, 0, none⟩ (.bool n.leaf)).setCell ⟨w.heap.size + 1, 1, none⟩ (.slice e1 n.keys.length d1)).setCell ⟨w.heap.size + 1, 2, none⟩ (.slice e2 n.vals.length d2)).setCell ⟨w.heap.size + 1, 3, none⟩ (.slice e3 n.kids.length d3)) :=
            (((Wb.set (X := fun k => k = w.heap.size + 1) _ _ _ _ rfl).trans (Wb.set (X := fun k => k = w.heap.size + 1) _ _ _ _ rfl)).trans (Wb.set (X := fun k => k = w.heap.size + 1) _ _ _ _ rfl)).trans (Wb.set (X := fun k => k = w.heap.size + 1) _ _ _ _ rfl)
          have hob : ∀ {v : Value} {ls : List (List UInt8)}, Obb 0 (w.heap.size + 2) wr v ls → Obb 0 w.heap.size ((((wr.setCell ⟨w.heap.size + 1, 0, none⟩ (.bool n.leaf)).setCell ⟨w.heap.size + 1, 1, none⟩ (.slice e1 n.keys.length d1)).setCell ⟨w.heap.size + 1, 2, none⟩ (.slice e2 n.vals.length d2)).setCell ⟨w.heap.size + 1, 3, none⟩ (.slice e3 n.kids.length d3)) v ls := fun ho => (ho.wb hset fun k hk => by
            subst hk
            exact ⟨fun e => by obtain ⟨_, _, _, h1⟩ := ho.typed _ e.symm; exact absurd (typed_ne h1 hz5) (by decide), fun cur fr h1 => absurd (typed_ne h1 hz5) (by decide)⟩).mono0' (by omega)
          refine ⟨_, rfl, ⟨_, _, _, rfl, hob (HT.out.keys.full (Nat.le_refl _)), hob (HT.out.vals.full (Nat.le_refl _)), own_mono (own_wb HT.out.kids hset fun k hk e => ?_) (by omega), HAP.out⟩, HT.out.bl.trans (hset.below HT.out.bl.size fun k hk => by subst hk; omega)⟩
          subst hk
          obtain ⟨_, _, _, h1⟩ := own_typed HT.out.kids _ e.symm
          exact absurd (typed_ne h1 hz5) (by decide)
end Go.Proofs.Ytfmbbpfklhkljaa
