/- leaf.Without. -/
import Derived.Test.YtfmbbpfklhkljaaDL
set_option linter.unusedVariables false
set_option linter.unusedSimpArgs false
namespace Go.Proofs.Ytfmbbpfklhkljaa
open Go.RowKit
theorem nod_two {B nb : Nat} {w w1 w2 : World} {n : Nd} {kv vv cv u1 u2 : Value} {l1 l2 : List (List UInt8)} (h : Nod B nb w n kv vv cv) (k2 : Wb (fun k => some k = kv.ownBlock) w w1) (k3 : Obb 0 B w1 u1 l1) (k4 : u1.ownBlock = kv.ownBlock) (m2 : Wb (fun k => some k = vv.ownBlock) w1 w2) (m3 : Obb 0 B w2 u2 l2) (m4 : u2.ownBlock = vv.ownBlock) :
    w2.heap[nb]? = some (.cells #[.bool n.leaf, kv, vv, cv] 37 (0, 0)) ∧ (w2.setCell ⟨nb, 1, none⟩ u1).heap[nb]? = some (.cells #[.bool n.leaf, u1, vv, cv] 37 (0, 0)) ∧ Nod B nb ((w2.setCell ⟨nb, 1, none⟩ u1).setCell ⟨nb, 2, none⟩ u2) ⟨n.leaf, l1, l2, n.kids⟩ u1 u2 cv := by
  have hnk : ∀ k, some k = kv.ownBlock → ∃ cur fr, w.heap[k]? = some (.cells cur 32 fr) := fun k hk => (h.keys.typed k hk.symm).2
  have hnv0 : ∀ k, some k = vv.ownBlock → ∃ cur fr, w.heap[k]? = some (.cells cur 32 fr) := fun k hk => (h.vals.typed k hk.symm).2
  have hat1 : w1.heap[nb]? = some (.cells #[.bool n.leaf, kv, vv, cv] 37 (0, 0)) := by
    rw [k2.block nb h.lt fun e => by obtain ⟨_, _, h1⟩ := hnk nb e; exact absurd (typed_ne h1 h.at_) (by decide)]; exact h.at_
  have hap : ∀ k, some k = vv.ownBlock → some k ≠ kv.ownBlock := fun k hk e => h.apart k e.symm hk.symm
  have hnv : ∀ k, some k = vv.ownBlock → ∃ cur fr, w1.heap[k]? = some (.cells cur 32 fr) := fun k hk => by
    obtain ⟨cur, fr, h1⟩ := hnv0 k hk
    exact ⟨cur, fr, by rw [k2.block k (Array.getElem?_eq_some_iff.1 h1).1 (hap k hk)]; exact h1⟩
  have hat2 : w2.heap[nb]? = some (.cells #[.bool n.leaf, kv, vv, cv] 37 (0, 0)) := by
    rw [m2.block nb (Array.getElem?_eq_some_iff.1 hat1).1 fun e => by obtain ⟨_, _, h1⟩ := hnv nb e; exact absurd (typed_ne h1 hat1) (by decide)]; exact hat1
  have hs := (Wb.set (X := fun k => k = nb) w2 nb 1 u1 rfl).trans (Wb.set (X := fun k => k = nb) (w2.setCell ⟨nb, 1, none⟩ u1) nb 2 u2 rfl)
  have hu1 : Obb 0 B w2 u1 l1 := k3.wb m2 fun k hk => ⟨fun e => hap k hk (by rw [e, k4]), fun cur fr h1 => by obtain ⟨_, _, h2⟩ := hnv k hk; exact absurd (typed_ne h1 h2) (by decide)⟩
  have hcv1 : w1.ownsRow B 3 1 cv n.kids.length (iv n.kids) := own_wb h.kids k2 fun k hk e => by
    obtain ⟨_, _, h2⟩ := hnk k hk
    obtain ⟨_, _, _, h1⟩ := own_typed h.kids k e.symm
    exact absurd (typed_ne h1 h2) (by decide)
  have hcv2 : w2.ownsRow B 3 1 cv n.kids.length (iv n.kids) := own_wb hcv1 m2 fun k hk e => by
    obtain ⟨_, _, h2⟩ := hnv k hk
    obtain ⟨_, _, _, h1⟩ := own_typed hcv1 k e.symm
    exact absurd (typed_ne h1 h2) (by decide)
  have hnb : ∀ {e : TypeId} {k : Nat} {cur fr}, e ≠ 37 → w2.heap[k]? = some (.cells cur e fr) → k ≠ nb := by
    rintro e k cur fr he h1 rfl
    exact he (typed_ne h1 hat2)
  have y1 := cells4_set (o := 1) (u := u1) hat2
  have y2 := cells4_set (o := 2) (u := u2) y1
  refine ⟨hat2, y1, y2, ?_, ?_, ?_, fun k hk => ?_⟩
  · exact hu1.wb hs fun k hk => ⟨fun e => by obtain ⟨_, _, _, h1⟩ := hu1.typed k e.symm; exact hnb (by decide) h1 hk, fun cur fr h1 => hnb (by decide) h1 hk⟩
  · exact m3.wb hs fun k hk => ⟨fun e => by obtain ⟨_, _, _, h1⟩ := m3.typed k e.symm; exact hnb (by decide) h1 hk, fun cur fr h1 => hnb (by decide) h1 hk⟩
  · exact own_wb hcv2 hs fun k hk e => by obtain ⟨_, _, _, h1⟩ := own_typed hcv2 k e.symm; exact hnb (by decide) h1 hk
  · rw [m4]; exact h.apart k (by rw [← k4]; exact hk)
set_option maxRecDepth 100000 in
set_option maxHeartbeats 4000000 in
/-- leaf.Without -/
theorem without_any {A : Nat → Prop} {w : World} {v : Value} {n : Nd} {i : Int} (h : RN A w v n) (hb1 : n.keys.length * 24 ≤ lim) :
    Calls Try.prog 38 #[v, .int .i64 i] w fun e w' => ∃ v', e = .returned v' ∧ OwnN w.heap.size w' v' (wout n i) ∧ Below w.heap.size w w' := by
  obtain ⟨a1, c1, a2, c2, a3, c3, rfl⟩ := h.form
  have HN := Hid.mk' h
  have HW : Hid (∀ i, wout n i = if n.leaf = true ∧ 0 ≤ i ∧ i < n.keys.length ∧ i < n.vals.length then ⟨n.leaf, n.keys.take i.toNat ++ n.keys.drop (i.toNat + 1), n.vals.take i.toNat ++ n.vals.drop (i.toNat + 1), n.kids⟩ else n) := fun _ => rfl
  have hl1 : n.keys.length * 24 ≤ 140737488351232 := hb1
  clear h
  go_enter Try.func38, Try.ntmps38
  go_wp2_with fail
  obtain ⟨W1, hW1⟩ : ∃ W1, W1 = w.alloc (.cells #[.bool n.leaf, .slice a1 n.keys.length c1, .slice a2 n.vals.length c2, .slice a3 n.kids.length c3] 37) := ⟨_, rfl⟩
  have hb1 : Below w.heap.size w W1 := by rw [hW1]; exact up_alloc _ _
  have hx1 : W1.heap[w.heap.size]? = some (.cells #[.bool n.leaf, .slice a1 n.keys.length c1, .slice a2 n.vals.length c2, .slice a3 n.kids.length c3] 37 (0, 0)) := by rw [hW1]; exact heap_alloc_new w _
  have hsz1 : W1.heap.size = w.heap.size + 1 := by rw [hW1]; simp
  obtain ⟨V, hV⟩ : ∃ V, V = W1.alloc (.cells #[.bool false, .slice none 0 0, .slice none 0 0, .slice none 0 0] 37) := ⟨_, rfl⟩
  have hb2 : Below W1.heap.size W1 V := by rw [hV]; exact up_alloc _ _
  have hx2 : V.heap[w.heap.size]? = some (.cells #[.bool n.leaf, .slice a1 n.keys.length c1, .slice a2 n.vals.length c2, .slice a3 n.kids.length c3] 37 (0, 0)) := by rw [hb2.block _ (by omega)]; exact hx1
  have hz2 : V.heap[w.heap.size + 1]? = some (.cells #[.bool false, .slice none 0 0, .slice none 0 0, .slice none 0 0] 37 (0, 0)) := by rw [hV, ← hsz1]; exact heap_alloc_new W1 _
  have hszV : V.heap.size = w.heap.size + 2 := by rw [hV]; simp; omega
  have HBV := Hid.mk' (bt hb1 hb2)
  have he : ((w.alloc (.cells #[.bool n.leaf, .slice a1 n.keys.length c1, .slice a2 n.vals.length c2, .slice a3 n.kids.length c3] 37)).alloc (.cells #[.bool false, .slice none 0 0, .slice none 0 0, .slice none 0 0] 37)) = V := by rw [hV, hW1]
  rw [he]
  clear he hV hW1 hb1 hb2 hx1 hsz1 W1
  refine (twin_any (HN.out.up HBV.out)).mono ?_
  rintro e w2 ⟨v2, rfl, n2, h2⟩
  obtain ⟨e1, d1, e2, d2, e3, d3, rfl⟩ := n2.form
  have hN3 := (n2.mono (show w.heap.size ≤ V.heap.size by omega)).nod
  have h3 := up_alloc w2 (.cells #[.bool n.leaf, .slice e1 n.keys.length d1, .slice e2 n.vals.length d2, .slice e3 n.kids.length d3] 37)
  obtain ⟨V3, hV3⟩ : ∃ V3, V3 = w2.alloc (.cells #[.bool n.leaf, .slice e1 n.keys.length d1, .slice e2 n.vals.length d2, .slice e3 n.kids.length d3] 37) := ⟨_, rfl⟩
  rw [← hV3] at hN3 h3
  have hx3 : V3.heap[w.heap.size]? = some (.cells #[.bool n.leaf, .slice a1 n.keys.length c1, .slice a2 n.vals.length c2, .slice a3 n.kids.length c3] 37 (0, 0)) := by rw [(bt h2 h3).block _ (by omega)]; exact hx2
  have hz3 : V3.heap[w.heap.size + 1]? = some (.cells #[.bool false, .slice none 0 0, .slice none 0 0, .slice none 0 0] 37 (0, 0)) := by rw [(bt h2 h3).block _ (by omega)]; exact hz2
  have HB3 := Hid.mk' (bt HBV.out (bt h2 h3))
  have N3 := Hid.mk' hN3
  have hs2 : w.heap.size + 2 ≤ w2.heap.size := by have := h2.size; omega
  have hs3 : w2.heap.size < V3.heap.size := hN3.lt
  have hxw : w2.heap[w.heap.size]? = some (.cells #[.bool n.leaf, .slice a1 n.keys.length c1, .slice a2 n.vals.length c2, .slice a3 n.kids.length c3] 37 (0, 0)) := by rw [h2.block _ (by omega)]; exact hx2
  have hzw : w2.heap[w.heap.size + 1]? = some (.cells #[.bool false, .slice none 0 0, .slice none 0 0, .slice none 0 0] 37 (0, 0)) := by rw [h2.block _ (by omega)]; exact hz2
  have hlt0 : w.heap.size < w2.heap.size := by omega
  have hlt1 : w.heap.size + 1 < w2.heap.size := by omega
  have N2 := Hid.mk' (n2.mono (show w.heap.size ≤ V.heap.size by omega))
  have HB2 := Hid.mk' (bt HBV.out h2)
  have HZW := Hid.mk' hzw
  clear n2 h2 h3 hN3 hx2 hz2 hszV
  obtain ⟨⟨b0, b1, b2, b3⟩, bf⟩ := cells4_get hxw
  obtain ⟨⟨z0, z1, z2, z3⟩, zf⟩ := cells4_get hzw
  subst hV3
  by_cases hc : n.leaf = true ∧ 0 ≤ i ∧ i < n.keys.length ∧ i < n.vals.length
  · obtain ⟨hc1, hc2, hc3, hc4⟩ := hc
    have HWT : Hid (wout n i = ⟨n.leaf, n.keys.take i.toNat ++ n.keys.drop (i.toNat + 1), n.vals.take i.toNat ++ n.vals.drop (i.toNat + 1), n.kids⟩) := by show _ = _; rw [HW.out, if_pos ⟨hc1, hc2, hc3, hc4⟩]
    obtain ⟨j, rfl⟩ : ∃ j : Nat, i = (j : Int) := ⟨i.toNat, by omega⟩
    rw [Int.toNat_natCast] at HWT
    rw [hc1] at b0
    have k1 : decide ((j : Int) < 0) = false := by simp
    have k2 : decide ((n.keys.length : Int) ≤ (j : Int)) = false := by simp; omega
    have k3 : decide ((n.vals.length : Int) ≤ (j : Int)) = false := by simp; omega
    have HJ1 : Hid (j < n.keys.length) := by show j < _; omega
    have HJ2 : Hid (j < n.vals.length) := by show j < _; omega
    have HLF := Hid.mk' hc1
    clear hc1 hc2 hc3 hc4
    have HJW : Hid (IntKind.i64.wrap ((j : Int) + 1) = (j : Int) + 1) := by show _ = _; rw [IntKind.wrap_i64]; have := HJ1.out; omega
    go_wp2_with fail
    · exfalso; rename_i h; have := HJ1.out; have := HJ2.out; omega
    rename_i hlj hx K' hK; clear hlj hx
    generalize (w2.alloc (.cells #[.bool n.leaf, .slice e1 n.keys.length d1, .slice e2 n.vals.length d2, .slice e3 n.kids.length d3] 37)) = V3 at *
    have hwj := HJW.out
    have hdw : Below V3.heap.size V3 V3.drew := ⟨rfl, rfl, rfl, Nat.le_refl _, fun _ _ => rfl⟩
    have hg37 : ∀ {x : Value} {l : List (List UInt8)}, Obb 0 w.heap.size V3 x l → ¬ some w2.heap.size = x.ownBlock := fun hx e => by obtain ⟨_, _, _, h1⟩ := hx.typed _ e.symm; exact absurd (typed_ne h1 N3.out.at_) (by decide)
    have hrk : ∀ q : Kp (fun b => some b = (Value.slice e1 n.keys.length d1).ownBlock ∨ some b = (Value.slice e2 n.vals.length d2).ownBlock) V3, q.nx.cell? ⟨w2.heap.size, 1, none⟩ = some (Value.slice e1 n.keys.length d1) := fun q => q.cell (by have := (cells4_get N3.out.at_).1; exact this.2.1) (fun e => e.elim (hg37 N3.out.keys) (hg37 N3.out.vals))
    have hrv : ∀ q : Kp (fun b => some b = (Value.slice e1 n.keys.length d1).ownBlock ∨ some b = (Value.slice e2 n.vals.length d2).ownBlock) V3, q.nx.cell? ⟨w2.heap.size, 2, none⟩ = some (Value.slice e2 n.vals.length d2) := fun q => q.cell (by have := (cells4_get N3.out.at_).1; exact this.2.2.1) (fun e => e.elim (hg37 N3.out.keys) (hg37 N3.out.vals))
    refine wp_region_nix 15 (fun w' => ∃ q : Kp (fun b => some b = (Value.slice e1 n.keys.length d1).ownBlock ∨ some b = (Value.slice e2 n.vals.length d2).ownBlock) V3, w' = q.nx) (fun w' => ∃ q : Kp (fun _ => True) V3, w' = q.nx) (by kernel_rfl) (by kernel_rfl) (fun _ h => kp_all h) (kp_first _ V3) ?_
    simp only [List.take_succ_cons, List.take_zero, List.drop_succ_cons, List.drop_zero]
    refine nx_pure rfl rfl ?_
    go_big_quiet_step (fail)
    refine wpQuiet_nil ?_
    refine nx_load rfl rfl ?_
    go_big_quiet_step (fail)
    refine wpQuiet_nil ?_
    refine nx_pure rfl rfl ?_
    go_big_quiet_step (fail)
    refine wpQuiet_nil ?_
    refine nx_pure rfl rfl ?_
    go_big_quiet_step (fail)
    refine wpQuiet_nil ?_
    refine nx_pure rfl rfl ?_
    go_big_quiet_step (fail)
    refine wpQuiet_nil ?_
    refine nx_call (vals := [Value.slice e1 n.keys.length d1, .int .i64 j, .int .i64 ((j : Int) + 1)]) Try.func83 (by kernel_rfl) rfl rfl (by kernel_rfl) (by kernel_rfl) (delete_any ((N3.out.keys).wb (Wb.of_below (fun _ => False) hdw) (fun k hk => hk.elim)) j HJ1.out) (fun e wa ha => ?_)
    obtain ⟨va, rfl, k3, k2, k4⟩ := ha
    have k2 : Wb (fun k => some k = (Value.slice e1 n.keys.length d1).ownBlock) V3 wa := (Wb.of_below _ hdw).trans k2
    have KA := Hid.mk' k2
    refine ⟨_, rfl, kp_mk KA.out.size fun b hb hx => KA.out.block b hb (fun e => hx (.inl e)), ?_⟩
    simp only [Act.put, List.setIfInBounds_toArray, List.set_cons_succ, List.set_cons_zero]
    refine nx_pure rfl rfl ?_
    go_big_quiet_step (fail)
    refine wpQuiet_nil ?_
    refine nx_load rfl rfl ?_
    go_big_quiet_step (fail)
    refine wpQuiet_nil ?_
    refine nx_pure rfl rfl ?_
    go_big_quiet_step (fail)
    refine wpQuiet_nil ?_
    refine nx_pure rfl rfl ?_
    go_big_quiet_step (fail)
    refine wpQuiet_nil ?_
    refine nx_pure rfl rfl ?_
    go_big_quiet_step (fail)
    refine wpQuiet_nil ?_
    have hap : ∀ k, some k = (Value.slice e1 n.keys.length d1).ownBlock → some k ≠ (Value.slice e2 n.vals.length d2).ownBlock := fun k hk e => N3.out.apart k hk.symm e.symm
    refine nx_call (vals := [Value.slice e2 n.vals.length d2, .int .i64 j, .int .i64 ((j : Int) + 1)]) Try.func83 (by kernel_rfl) rfl rfl (by kernel_rfl) (by kernel_rfl) (delete_any ((N3.out.vals).wb KA.out (fun k hk => ⟨hap k hk, fun cur fr h1 => by obtain ⟨_, _, _, h2⟩ := N3.out.keys.typed k hk.symm; exact absurd (typed_ne h1 h2) (by decide)⟩)) j HJ2.out) (fun e wc hc => ?_)
    obtain ⟨vb, rfl, m3, m2, m4⟩ := hc
    have gac : Wb (fun k => some k = (Value.slice e1 n.keys.length d1).ownBlock ∨ some k = (Value.slice e2 n.vals.length d2).ownBlock) V3 wc := (KA.out.mono fun k hk => .inl hk).trans (m2.mono fun k hk => .inr hk)
    refine ⟨_, rfl, kp_mk gac.size fun b hb hx => gac.block b hb hx, ?_⟩
    simp only [Act.put, List.setIfInBounds_toArray, List.set_cons_succ, List.set_cons_zero]
    obtain ⟨hat', y1, hN'⟩ := nod_two N3.out k2 k3 k4 m2 m3 m4
    obtain ⟨L1, f1, g1, ef1⟩ : ∃ L a c, va = .slice a L c := (let ⟨_, h, _⟩ := k3; ⟨_, own_slice h⟩)
    obtain ⟨L2, f2, g2, ef2⟩ : ∃ L a c, vb = .slice a L c := (let ⟨_, h, _⟩ := m3; ⟨_, own_slice h⟩)
    subst ef1; subst ef2
    obtain ⟨⟨_, p1, _, _⟩, pf⟩ := cells4_get hat'
    obtain ⟨⟨_, _, p2, _⟩, pf2⟩ := cells4_get y1
    refine nx_pure rfl rfl ?_
    go_big_quiet_step (fail)
    refine wpQuiet_nil ?_
    refine nx_store rfl rfl (by kernel_rfl) (exec_store28 rfl rfl rfl p1 (pf 1)) (kp_any (by rw [size_setCell]; exact gac.size)) ?_
    simp only [Act.put]
    refine nx_pure rfl rfl ?_
    go_big_quiet_step (fail)
    refine wpQuiet_nil ?_
    simp only [wpNix]
    have N5 := Hid.mk' hN'
    have hkb : ∀ k, (some k = (Value.slice e1 n.keys.length d1).ownBlock ∨ some k = (Value.slice e2 n.vals.length d2).ownBlock) → w.heap.size ≤ k ∧ k ≠ w.heap.size ∧ k ≠ w.heap.size + 1 := fun k hk => by
      have h2 : w.heap.size ≤ k ∧ ∃ cur fr, V3.heap[k]? = some (.cells cur 32 fr) := hk.elim (fun e => N3.out.keys.typed k e.symm) (fun e => N3.out.vals.typed k e.symm)
      obtain ⟨h1, _, _, h2⟩ := h2
      refine ⟨h1, ?_, ?_⟩
      · rintro rfl; exact absurd (typed_ne h2 hx3) (by decide)
      · rintro rfl; exact absurd (typed_ne h2 hz3) (by decide)
    have X5 : Wb (fun b => b = w2.heap.size ∨ (some b = (Value.slice e1 n.keys.length d1).ownBlock ∨ some b = (Value.slice e2 n.vals.length d2).ownBlock)) V3 ((wc.setCell ⟨w2.heap.size, 1, none⟩ (.slice f1 L1 g1)).setCell ⟨w2.heap.size, 2, none⟩ (.slice f2 L2 g2)) := ((gac.mono fun k hk => .inr hk).trans (Wb.set _ _ _ _ (.inl rfl))).trans (Wb.set _ _ _ _ (.inl rfl))
    have HZ5 : Hid (((wc.setCell ⟨w2.heap.size, 1, none⟩ (.slice f1 L1 g1)).setCell ⟨w2.heap.size, 2, none⟩ (.slice f2 L2 g2)).heap[w.heap.size + 1]? = some (.cells #[.bool false, .slice none 0 0, .slice none 0 0, .slice none 0 0] 37 (0, 0))) := by
      show _ = _
      rw [X5.block _ (by omega) (by rintro (e | e) <;> first | omega | exact (hkb _ e).2.2 rfl)]; exact hz3
    have HB5 := Hid.mk' (HB3.out.trans (X5.below HB3.out.size (fun k hk => by
      rcases hk with hk | hk
      · omega
      · exact (hkb k hk).1)))
    have hsz5 := X5.size
    have pf2' := pf2 2
    clear hrk hrv hdw hg37 k2 k3 k4 m2 m3 m4 gac hat' hN' hkb X5 hap p1 pf y1 pf2
    obtain ⟨⟨m0, m1, m2, m3⟩, mf⟩ := cells4_get N5.out.at_
    obtain ⟨⟨z0, z1, z2, z3⟩, zf⟩ := cells4_get HZ5.out
    dsimp only at m0 m1 m2 m3
    go_wp2_with fail
    have hzf : w2.heap.size ≠ w.heap.size + 1 := by omega
    go_wp2_with fail
    refine bodyPost_ret (v := .agg #[.bool n.leaf, .slice f1 L1 g1, .slice f2 L2 g2, .slice e3 n.kids.length d3]) (by simp [results, Try.results38, go_sem, z0, z1, z2, z3]) rfl ?_
    exact ⟨_, rfl, by rw [HWT.out]; exact N5.out.out HZ5.out (four_wb _ _ _ _ _ _), HB5.out.trans ((four_wb _ _ _ _ _ _).below HB5.out.size (fun k hk => by subst hk; omega))⟩
  · have HWT : Hid (wout n i = n) := by show _ = _; rw [HW.out, if_neg hc]
    by_cases dl : n.leaf = true
    · rw [dl] at b0
      have DL := Hid.mk' dl
      by_cases dm : i < 0
      · have k1 : decide (i < 0) = true := by simp [dm]
        clear hc
        go_wp2_with fail
        refine bodyPost_ret (v := .agg #[.bool n.leaf, .slice e1 n.keys.length d1, .slice e2 n.vals.length d2, .slice e3 n.kids.length d3]) (by simp [results, Try.results38, go_sem, z0, z1, z2, z3, hlt1]; exact DL.out) rfl ?_
        exact ⟨_, rfl, by rw [HWT.out]; exact (N2.out.wbz HZW.out (four_wb _ _ _ _ _ _)).up (up_alloc _ _), bt (HB2.out.trans ((four_wb _ _ _ _ _ _).below HB2.out.size (fun k hk => by subst hk; omega))) (up_alloc _ _)⟩
      · have k1 : decide (i < 0) = false := by simp; omega
        by_cases dn : (n.keys.length : Int) ≤ i
        · have k2 : decide ((n.keys.length : Int) ≤ i) = true := by simp [dn]
          clear hc
          go_wp2_with fail
          refine bodyPost_ret (v := .agg #[.bool n.leaf, .slice e1 n.keys.length d1, .slice e2 n.vals.length d2, .slice e3 n.kids.length d3]) (by simp [results, Try.results38, go_sem, z0, z1, z2, z3, hlt1]; exact DL.out) rfl ?_
          exact ⟨_, rfl, by rw [HWT.out]; exact (N2.out.wbz HZW.out (four_wb _ _ _ _ _ _)).up (up_alloc _ _), bt (HB2.out.trans ((four_wb _ _ _ _ _ _).below HB2.out.size (fun k hk => by subst hk; omega))) (up_alloc _ _)⟩
        · have k2 : decide ((n.keys.length : Int) ≤ i) = false := by simp; omega
          have k3 : decide ((n.vals.length : Int) ≤ i) = true := by
            simp
            by_cases h : (n.vals.length : Int) ≤ i
            · exact h
            · exact absurd ⟨dl, by omega, by omega, by omega⟩ hc
          clear hc
          go_wp2_with fail
          refine bodyPost_ret (v := .agg #[.bool n.leaf, .slice e1 n.keys.length d1, .slice e2 n.vals.length d2, .slice e3 n.kids.length d3]) (by simp [results, Try.results38, go_sem, z0, z1, z2, z3, hlt1]; exact DL.out) rfl ?_
          exact ⟨_, rfl, by rw [HWT.out]; exact (N2.out.wbz HZW.out (four_wb _ _ _ _ _ _)).up (up_alloc _ _), bt (HB2.out.trans ((four_wb _ _ _ _ _ _).below HB2.out.size (fun k hk => by subst hk; omega))) (up_alloc _ _)⟩
    · have d1' : n.leaf = false := by simpa using dl
      rw [d1'] at b0
      have DF := Hid.mk' d1'
      clear d1'
      clear hc
      go_wp2_with fail
      refine bodyPost_ret (v := .agg #[.bool n.leaf, .slice e1 n.keys.length d1, .slice e2 n.vals.length d2, .slice e3 n.kids.length d3]) (by simp [results, Try.results38, go_sem, z0, z1, z2, z3, hlt1]; exact DF.out) rfl ?_
      exact ⟨_, rfl, by rw [HWT.out]; exact (N2.out.wbz HZW.out (four_wb _ _ _ _ _ _)).up (up_alloc _ _), bt (HB2.out.trans ((four_wb _ _ _ _ _ _).below HB2.out.size (fun k hk => by subst hk; omega))) (up_alloc _ _)⟩

end Go.Proofs.Ytfmbbpfklhkljaa
