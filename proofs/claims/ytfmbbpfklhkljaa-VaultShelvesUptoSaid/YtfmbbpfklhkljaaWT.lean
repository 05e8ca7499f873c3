/- leaf.With. -/
import Derived.Test.YtfmbbpfklhkljaaIM
set_option linter.unusedVariables false
set_option linter.unusedSimpArgs false
namespace Go.Proofs.Ytfmbbpfklhkljaa
open Go.RowKit
/-- other keys, stored into a node that is being built -/
theorem nod_setk {B nb : Nat} {w w' : World} {n : Nd} {kv vv cv u : Value} {l : List (List UInt8)} (h : Nod B nb w n kv vv cv) (k2 : Wb (fun k => some k = kv.ownBlock) w w') (k3 : Obb 0 B w' u l) (k4 : u.ownBlock = kv.ownBlock ∨ ∃ k, u.ownBlock = some k ∧ w.heap.size ≤ k) :
    w'.heap[nb]? = some (.cells #[.bool n.leaf, kv, vv, cv] 37 (0, 0)) ∧ Nod B nb (w'.setCell ⟨nb, 1, none⟩ u) ⟨n.leaf, l, n.vals, n.kids⟩ u vv cv := by
  have hnk : ∀ k, some k = kv.ownBlock → ∃ cur fr, w.heap[k]? = some (.cells cur 32 fr) := fun k hk => (h.keys.typed k hk.symm).2
  have hat : w'.heap[nb]? = some (.cells #[.bool n.leaf, kv, vv, cv] 37 (0, 0)) := by
    rw [k2.block nb h.lt fun e => by obtain ⟨_, _, h1⟩ := hnk nb e; exact absurd (typed_ne h1 h.at_) (by decide)]; exact h.at_
  have hs := Wb.set (X := fun k => k = nb) w' nb 1 u rfl
  have hvv : Obb 0 B w' vv n.vals := h.vals.wb k2 fun k hk => ⟨fun e => h.apart k hk.symm e.symm, fun cur fr h1 => by obtain ⟨_, _, h2⟩ := hnk k hk; exact absurd (typed_ne h1 h2) (by decide)⟩
  have hcv : w'.ownsRow B 3 1 cv n.kids.length (iv n.kids) := own_wb h.kids k2 fun k hk e => by
    obtain ⟨_, _, h2⟩ := hnk k hk
    obtain ⟨_, _, _, h1⟩ := own_typed h.kids k e.symm
    exact absurd (typed_ne h1 h2) (by decide)
  have hnb : ∀ {e : TypeId} {k : Nat} {cur fr}, e ≠ 37 → w'.heap[k]? = some (.cells cur e fr) → k ≠ nb := by
    rintro e k cur fr he h1 rfl
    exact he (typed_ne h1 hat)
  refine ⟨hat, by rw [cells4_set hat]; rfl, ?_, ?_, ?_, fun k hk => ?_⟩
  · exact k3.wb hs fun k hk => ⟨fun e => by obtain ⟨_, _, _, h1⟩ := k3.typed k e.symm; exact hnb (by decide) h1 hk, fun cur fr h1 => hnb (by decide) h1 hk⟩
  · exact hvv.wb hs fun k hk => ⟨fun e => by obtain ⟨_, _, _, h1⟩ := hvv.typed k e.symm; exact hnb (by decide) h1 hk, fun cur fr h1 => hnb (by decide) h1 hk⟩
  · exact own_wb hcv hs fun k hk e => by obtain ⟨_, _, _, h1⟩ := own_typed hcv k e.symm; exact hnb (by decide) h1 hk
  · intro e
    rcases k4 with k4 | ⟨k', k4, k5⟩
    · exact h.apart k (by rw [← k4]; exact hk) e
    · rw [k4] at hk; cases hk
      obtain ⟨_, _, _, h1⟩ := h.vals.typed _ e
      have := (Array.getElem?_eq_some_iff.1 h1).1
      omega
theorem nod_setv {B nb : Nat} {w w' : World} {n : Nd} {kv vv cv u : Value} {l : List (List UInt8)} (h : Nod B nb w n kv vv cv) (k2 : Wb (fun k => some k = vv.ownBlock) w w') (k3 : Obb 0 B w' u l) (k4 : u.ownBlock = vv.ownBlock ∨ ∃ k, u.ownBlock = some k ∧ w.heap.size ≤ k) :
    w'.heap[nb]? = some (.cells #[.bool n.leaf, kv, vv, cv] 37 (0, 0)) ∧ Nod B nb (w'.setCell ⟨nb, 2, none⟩ u) ⟨n.leaf, n.keys, l, n.kids⟩ kv u cv := by
  have hnk : ∀ k, some k = vv.ownBlock → ∃ cur fr, w.heap[k]? = some (.cells cur 32 fr) := fun k hk => (h.vals.typed k hk.symm).2
  have hat : w'.heap[nb]? = some (.cells #[.bool n.leaf, kv, vv, cv] 37 (0, 0)) := by
    rw [k2.block nb h.lt fun e => by obtain ⟨_, _, h1⟩ := hnk nb e; exact absurd (typed_ne h1 h.at_) (by decide)]; exact h.at_
  have hs := Wb.set (X := fun k => k = nb) w' nb 2 u rfl
  have hvv : Obb 0 B w' kv n.keys := h.keys.wb k2 fun k hk => ⟨fun e => h.apart k e.symm hk.symm, fun cur fr h1 => by obtain ⟨_, _, h2⟩ := hnk k hk; exact absurd (typed_ne h1 h2) (by decide)⟩
  have hcv : w'.ownsRow B 3 1 cv n.kids.length (iv n.kids) := own_wb h.kids k2 fun k hk e => by
    obtain ⟨_, _, h2⟩ := hnk k hk
    obtain ⟨_, _, _, h1⟩ := own_typed h.kids k e.symm
    exact absurd (typed_ne h1 h2) (by decide)
  have hnb : ∀ {e : TypeId} {k : Nat} {cur fr}, e ≠ 37 → w'.heap[k]? = some (.cells cur e fr) → k ≠ nb := by
    rintro e k cur fr he h1 rfl
    exact he (typed_ne h1 hat)
  refine ⟨hat, by rw [cells4_set hat]; rfl, ?_, ?_, ?_, fun k hk => ?_⟩
  · exact hvv.wb hs fun k hk => ⟨fun e => by obtain ⟨_, _, _, h1⟩ := hvv.typed k e.symm; exact hnb (by decide) h1 hk, fun cur fr h1 => hnb (by decide) h1 hk⟩
  · exact k3.wb hs fun k hk => ⟨fun e => by obtain ⟨_, _, _, h1⟩ := k3.typed k e.symm; exact hnb (by decide) h1 hk, fun cur fr h1 => hnb (by decide) h1 hk⟩
  · exact own_wb hcv hs fun k hk e => by obtain ⟨_, _, _, h1⟩ := own_typed hcv k e.symm; exact hnb (by decide) h1 hk
  · intro e
    rcases k4 with k4 | ⟨k', k4, k5⟩
    · exact h.apart k hk (by rw [← k4]; exact e)
    · rw [k4] at e; cases e
      obtain ⟨_, _, _, h1⟩ := h.keys.typed _ hk
      have := (Array.getElem?_eq_some_iff.1 h1).1
      omega
/-- a node that is read as a whole and stored into another block -/
theorem Nod.out {B nb rb : Nat} {w w' : World} {n : Nd} {kv vv cv : Value} {x : Array Value} (h : Nod B nb w n kv vv cv) (hr : w.heap[rb]? = some (.cells x 37 (0, 0))) (hs : Wb (fun k => k = rb) w w') : OwnN B w' (.agg #[.bool n.leaf, kv, vv, cv]) n := by
  have hob : ∀ {v : Value} {ls : List (List UInt8)}, Obb 0 B w v ls → Obb 0 B w' v ls := fun ho => ho.wb hs fun k hk => by
    subst hk
    exact ⟨fun e => by obtain ⟨_, _, _, h1⟩ := ho.typed _ e.symm; exact absurd (typed_ne h1 hr) (by decide), fun cur fr h1 => absurd (typed_ne h1 hr) (by decide)⟩
  exact ⟨kv, vv, cv, rfl, hob h.keys, hob h.vals, own_wb h.kids hs fun k hk e => by subst hk; obtain ⟨_, _, _, h1⟩ := own_typed h.kids _ e.symm; exact absurd (typed_ne h1 hr) (by decide), h.apart⟩
/-- the four stores -/
theorem four_wb (w : World) (b : Nat) (x0 x1 x2 x3 : Value) : Wb (fun k => k = b) w ((((w.setCell ⟨b, 0, none⟩ x0).setCell ⟨b, 1, none⟩ x1).setCell ⟨b, 2, none⟩ x2).setCell ⟨b, 3, none⟩ x3) :=
  (((Wb.set (X := fun k => k = b) _ _ _ _ rfl).trans (Wb.set (X := fun k => k = b) _ _ _ _ rfl)).trans (Wb.set (X := fun k => k = b) _ _ _ _ rfl)).trans (Wb.set (X := fun k => k = b) _ _ _ _ rfl)
theorem OwnN.wbz {B rb : Nat} {w w' : World} {v : Value} {n : Nd} {x : Array Value} (h : OwnN B w v n) (hr : w.heap[rb]? = some (.cells x 37 (0, 0))) (hs : Wb (fun k => k = rb) w w') : OwnN B w' v n := by
  obtain ⟨kv, vv, cv, rfl, h1, h2, h3, h4⟩ := h
  have hob : ∀ {v : Value} {ls : List (List UInt8)}, Obb 0 B w v ls → Obb 0 B w' v ls := fun ho => ho.wb hs fun k hk => by
    subst hk
    exact ⟨fun e => by obtain ⟨_, _, _, h1⟩ := ho.typed _ e.symm; exact absurd (typed_ne h1 hr) (by decide), fun cur fr h1 => absurd (typed_ne h1 hr) (by decide)⟩
  exact ⟨kv, vv, cv, rfl, hob h1, hob h2, own_wb h3 hs fun k hk e => by subst hk; obtain ⟨_, _, _, h1⟩ := own_typed h3 _ e.symm; exact absurd (typed_ne h1 hr) (by decide), h4⟩
def wth (n : Nd) (i : Int) (k x : List UInt8) : Nd :=
  if n.leaf = true ∧ 0 ≤ i ∧ i ≤ n.keys.length ∧ i ≤ n.vals.length then ⟨n.leaf, n.keys.take i.toNat ++ [k] ++ n.keys.drop i.toNat, n.vals.take i.toNat ++ [x] ++ n.vals.drop i.toNat, n.kids⟩ else n
theorem OwnN.form {B : Nat} {w : World} {v : Value} {n : Nd} (h : OwnN B w v n) : ∃ a1 c1 a2 c2 a3 c3, v = .agg #[.bool n.leaf, .slice a1 n.keys.length c1, .slice a2 n.vals.length c2, .slice a3 n.kids.length c3] := by
  obtain ⟨kv, vv, cv, rfl, ⟨_, h1, _⟩, ⟨_, h2, _⟩, h3, _⟩ := h
  obtain ⟨a1, c1, rfl⟩ := own_slice h1
  obtain ⟨a2, c2, rfl⟩ := own_slice h2
  obtain ⟨a3, c3, rfl⟩ := own_slice h3
  exact ⟨_, _, _, _, _, _, rfl⟩
/-- stored into a block of its own -/
theorem OwnN.nod {B : Nat} {w : World} {n : Nd} {kv vv cv : Value} (h : OwnN B w (.agg #[.bool n.leaf, kv, vv, cv]) n) : Nod B w.heap.size (w.alloc (.cells #[.bool n.leaf, kv, vv, cv] 37)) n kv vv cv := by
  have h' := h.up (up_alloc w (.cells #[.bool n.leaf, kv, vv, cv] 37))
  obtain ⟨kv', vv', cv', e, h1, h2, h3, h4⟩ := h'
  simp only [Value.agg.injEq, Array.mk.injEq, List.cons.injEq, and_true, true_and] at e
  obtain ⟨rfl, rfl, rfl⟩ := e
  exact ⟨heap_alloc_new w _, h1, h2, h3, h4⟩
set_option maxRecDepth 100000 in
set_option maxHeartbeats 4000000 in
/-- leaf.With -/
theorem with_any {A A1 A2 : Nat → Prop} {w : World} {v kb xb : Value} {n : Nd} {kl xl : List UInt8} {i : Int} (h : RN A w v n) (hk : Bs A1 w kb kl) (hx : Bs A2 w xb xl) (hb1 : (n.keys.length + 1) * 24 ≤ lim) (hb2 : (n.vals.length + 1) * 24 ≤ lim) :
    Calls Try.prog 36 #[v, .int .i64 i, kb, xb] w fun e w' => ∃ v', e = .returned v' ∧ OwnN w.heap.size w' v' (wth n i kl xl) ∧ Below w.heap.size w w' := by
  obtain ⟨a1, c1, a2, c2, a3, c3, rfl⟩ := h.form
  have HN := Hid.mk' h
  have HK := Hid.mk' hk
  have HX := Hid.mk' hx
  have HW : Hid (∀ i, wth n i kl xl = if n.leaf = true ∧ 0 ≤ i ∧ i ≤ n.keys.length ∧ i ≤ n.vals.length then ⟨n.leaf, n.keys.take i.toNat ++ [kl] ++ n.keys.drop i.toNat, n.vals.take i.toNat ++ [xl] ++ n.vals.drop i.toNat, n.kids⟩ else n) := fun _ => rfl
  have hl1 : (n.keys.length + 1) * 24 ≤ 140737488351232 := hb1
  have hl2 : (n.vals.length + 1) * 24 ≤ 140737488351232 := hb2
  clear h hk hx
  go_enter Try.func36, Try.ntmps36
  go_wp2_with fail
  obtain ⟨W1, hW1⟩ : ∃ W1, W1 = w.alloc (.cells #[.bool n.leaf, .slice a1 n.keys.length c1, .slice a2 n.vals.length c2, .slice a3 n.kids.length c3] 37) := ⟨_, rfl⟩
  have hb1 : Below w.heap.size w W1 := by rw [hW1]; exact up_alloc _ _
  have hx1 : W1.heap[w.heap.size]? = some (.cells #[.bool n.leaf, .slice a1 n.keys.length c1, .slice a2 n.vals.length c2, .slice a3 n.kids.length c3] 37 (0, 0)) := by rw [hW1]; exact heap_alloc_new w _
  have hsz1 : W1.heap.size = w.heap.size + 1 := by rw [hW1]; simp
  obtain ⟨V, hV⟩ : ∃ V, V = W1.alloc (.cells #[.bool false, .slice none 0 0, .slice none 0 0, .slice none 0 0] 37) := ⟨_, rfl⟩
  have hb2 : Below W1.heap.size W1 V := by rw [hV]; exact up_alloc _ _
  have hx2 : V.heap[w.heap.size]? = some (.cells #[.bool n.leaf, .slice a1 n.keys.length c1, .slice a2 n.vals.length c2, .slice a3 n.kids.length c3] 37 (0, 0)) := by rw [hb2.block _ (by omega)]; exact hx1
  have hz2 : V.heap[w.heap.size + 1]? = some (.cells #[.bool false, .slice none 0 0, .slice none 0 0, .slice none 0 0] 37 (0, 0)) := by rw [hV, ← hsz1]; exact heap_alloc_new W1 _
  have hszV : V.heap.size = w.heap.size + 2 := by rw [hV]; simp; omega
  have HBV := Hid.mk' (bt hb1 hb2)
  have he : ((w.alloc (.cells #[.bool n.leaf, .slice a1 n.keys.length c1, .slice a2 n.vals.length c2, .slice a3 n.kids.length c3] 37)).alloc (.cells #[.bool false, .slice none 0 0, .slice none 0 0, .slice none 0 0] 37)) = V := by rw [hV, hW1]
  rw [he]
  clear he hV hW1 hb1 hb2 hx1 hsz1 W1
  refine (twin_any (HN.out.up HBV.out)).mono ?_
  rintro e w2 ⟨v2, rfl, n2, h2⟩
  obtain ⟨e1, d1, e2, d2, e3, d3, rfl⟩ := n2.form
  have hN3 := (n2.mono (show w.heap.size ≤ V.heap.size by omega)).nod
  have h3 := up_alloc w2 (.cells #[.bool n.leaf, .slice e1 n.keys.length d1, .slice e2 n.vals.length d2, .slice e3 n.kids.length d3] 37)
  obtain ⟨V3, hV3⟩ : ∃ V3, V3 = w2.alloc (.cells #[.bool n.leaf, .slice e1 n.keys.length d1, .slice e2 n.vals.length d2, .slice e3 n.kids.length d3] 37) := ⟨_, rfl⟩
  rw [← hV3] at hN3 h3
  have hx3 : V3.heap[w.heap.size]? = some (.cells #[.bool n.leaf, .slice a1 n.keys.length c1, .slice a2 n.vals.length c2, .slice a3 n.kids.length c3] 37 (0, 0)) := by rw [(bt h2 h3).block _ (by omega)]; exact hx2
  have hz3 : V3.heap[w.heap.size + 1]? = some (.cells #[.bool false, .slice none 0 0, .slice none 0 0, .slice none 0 0] 37 (0, 0)) := by rw [(bt h2 h3).block _ (by omega)]; exact hz2
  have HB3 := Hid.mk' (bt HBV.out (bt h2 h3))
  have N3 := Hid.mk' hN3
  have hs2 : w.heap.size + 2 ≤ w2.heap.size := by have := h2.size; omega
  have hs3 : w2.heap.size < V3.heap.size := hN3.lt
  have hxw : w2.heap[w.heap.size]? = some (.cells #[.bool n.leaf, .slice a1 n.keys.length c1, .slice a2 n.vals.length c2, .slice a3 n.kids.length c3] 37 (0, 0)) := by rw [h2.block _ (by omega)]; exact hx2
  have hzw : w2.heap[w.heap.size + 1]? = some (.cells #[.bool false, .slice none 0 0, .slice none 0 0, .slice none 0 0] 37 (0, 0)) := by rw [h2.block _ (by omega)]; exact hz2
  have hlt0 : w.heap.size < w2.heap.size := by omega
  have hlt1 : w.heap.size + 1 < w2.heap.size := by omega
  have N2 := Hid.mk' (n2.mono (show w.heap.size ≤ V.heap.size by omega))
  have HB2 := Hid.mk' (bt HBV.out h2)
  have HZW := Hid.mk' hzw
  clear n2 h2 h3 hN3 hx2 hz2 hszV
  obtain ⟨⟨b0, b1, b2, b3⟩, bf⟩ := cells4_get hxw
  obtain ⟨⟨z0, z1, z2, z3⟩, zf⟩ := cells4_get hzw
  subst hV3
  by_cases hc : n.leaf = true ∧ 0 ≤ i ∧ i ≤ n.keys.length ∧ i ≤ n.vals.length
  · obtain ⟨hc1, hc2, hc3, hc4⟩ := hc
    have HWT : Hid (wth n i kl xl = ⟨n.leaf, n.keys.take i.toNat ++ [kl] ++ n.keys.drop i.toNat, n.vals.take i.toNat ++ [xl] ++ n.vals.drop i.toNat, n.kids⟩) := by show _ = _; rw [HW.out, if_pos ⟨hc1, hc2, hc3, hc4⟩]
    obtain ⟨j, rfl⟩ : ∃ j : Nat, i = (j : Int) := ⟨i.toNat, by omega⟩
    rw [Int.toNat_natCast] at HWT
    rw [hc1] at b0
    have k1 : decide ((j : Int) < 0) = false := by simp
    have k2 : decide ((n.keys.length : Int) < (j : Int)) = false := by simp; omega
    have k3 : decide ((n.vals.length : Int) < (j : Int)) = false := by simp; omega
    have hj1 : j ≤ n.keys.length := by omega
    have hj2 : j ≤ n.vals.length := by omega
    have HLF := Hid.mk' hc1
    clear hc1 hc2 hc3 hc4
    go_wp2_with fail
    generalize (w2.alloc (.cells #[.bool n.leaf, .slice e1 n.keys.length d1, .slice e2 n.vals.length d2, .slice e3 n.kids.length d3] 37)) = V3 at *
    have hrr : ∀ q : Kp (fun b => some b = (Value.slice e1 n.keys.length d1).ownBlock) V3, q.nx.cell? ⟨w2.heap.size, 1, none⟩ = some (Value.slice e1 n.keys.length d1) := fun q => q.cell (by have := (cells4_get N3.out.at_).1; exact this.2.1) (fun e => by obtain ⟨_, _, _, h1⟩ := N3.out.keys.typed _ e.symm; exact absurd (typed_ne h1 N3.out.at_) (by decide))
    have hdw : Below V3.heap.size V3 V3.drew := ⟨rfl, rfl, rfl, Nat.le_refl _, fun _ _ => rfl⟩
    refine wp_region_mix 8 (fun w' => ∃ q : Kp (fun b => some b = (Value.slice e1 n.keys.length d1).ownBlock) V3, w' = q.nx) (by kernel_rfl) (by kernel_rfl) (kp_first _ V3) ?_
    simp only [List.take_succ_cons, List.take_zero, List.drop_succ_cons, List.drop_zero]
    refine mx_take 4 rfl ?_
    simp only [List.take_succ_cons, List.take_zero, List.drop_succ_cons, List.drop_zero]
    repeat (go_big_quiet_step (fail))
    refine wpQuiet_nil ?_
    refine mx_call (vals := [kb]) Try.func76 (by kernel_rfl) rfl rfl (by kernel_rfl) (by kernel_rfl) (clone_any _ _ _ (HK.out.up (HB3.out.trans (hdw.mono HB3.out.size)))) (fun e wa ha => ?_)
    obtain ⟨va, rfl, ha, oa⟩ := ha
    have hda := bt hdw ha
    refine ⟨_, rfl, kp_mk hda.size fun b hb _ => hda.block b hb, ?_⟩
    simp only [Act.put, List.setIfInBounds_toArray, List.set_cons_succ, List.set_cons_zero]
    obtain ⟨fa, ga, ea, _⟩ := (oa.bs HK.out.2).at
    have hup := up_alloc wa (.cells #[va] 32)
    have hdb := bt hda hup
    refine mx_make (by rfl) (by kernel_rfl) (by simp only [execOp, List.map_toArray, List.map_cons, List.map_nil, go_sem]; exact run_v (lays28 _ _ _ _ _ ea)) (kp_mk hdb.size fun b hb _ => hdb.block b hb) ?_
    simp only [Act.put, List.setIfInBounds_toArray, List.set_cons_succ, List.set_cons_zero]
    have hNb := N3.out.wb (Wb.of_below (fun _ => False) hdb) (fun k hk => hk.elim)
    have hlitv : (wa.alloc (.cells #[va] 32)).heap[wa.heap.size]? = some (.cells #[va] 32 (0, 0)) := heap_alloc_new wa _
    have hyb : Bs (Td 0 (wa.alloc (.cells #[va] 32))) (wa.alloc (.cells #[va] 32)) va kl := ((Bs.td (B := 0) oa HK.out.2).up hup).monoS fun b hb => hb.up hup
    have hneb : (Value.slice e1 n.keys.length d1).ownBlock ≠ some wa.heap.size := fun e => by
      obtain ⟨_, _, _, h1⟩ := N3.out.keys.typed _ e
      have := (Array.getElem?_eq_some_iff.1 h1).1
      have := hda.size
      omega
    refine mx_call (vals := [Value.slice e1 n.keys.length d1, .int .i64 j, .slice (some ⟨wa.heap.size, 0, none⟩) 1 1]) Try.func82 (by kernel_rfl) rfl rfl (by kernel_rfl) (by kernel_rfl) (insert_any hNb.keys j hj1 hlitv hyb hneb (by unfold lim; omega) (by have := N3.out.lt; have := hdb.size; omega)) (fun e wc hc => ?_)
    obtain ⟨un, rfl, r3, r2, r5⟩ := hc
    have gac : Wb (fun b => some b = (Value.slice e1 n.keys.length d1).ownBlock) V3 wc := (Wb.of_below _ hdb).trans r2
    refine ⟨_, rfl, kp_mk gac.size fun b hb hx => gac.block b hb hx, ?_⟩
    simp only [Act.put, List.setIfInBounds_toArray, List.set_cons_succ, List.set_cons_zero]
    refine mx_take 1 rfl ?_
    simp only [List.take_succ_cons, List.take_zero, List.drop_succ_cons, List.drop_zero]
    repeat (go_big_quiet_step (fail))
    refine wpQuiet_nil ?_
    simp only [wpMix]
    obtain ⟨hat', hN'⟩ := nod_setk hNb r2 r3 r5
    obtain ⟨L1, f1, g1, ef1⟩ : ∃ L a c, un = .slice a L c := (let ⟨_, h, _⟩ := r3; ⟨_, own_slice h⟩)
    subst ef1
    have N4 := Hid.mk' hN'
    have hcl' := (cells4_get hat').1.2.1
    have hcf' := (cells4_get hat').2 1
    have hkb : ∀ k, some k = (Value.slice e1 n.keys.length d1).ownBlock → w.heap.size ≤ k ∧ k ≠ w.heap.size ∧ k ≠ w.heap.size + 1 := fun k hk => by
      obtain ⟨h1, _, _, h2⟩ := N3.out.keys.typed k hk.symm
      refine ⟨h1, ?_, ?_⟩
      · rintro rfl; exact absurd (typed_ne h2 hx3) (by decide)
      · rintro rfl; exact absurd (typed_ne h2 hz3) (by decide)
    have X4 : Wb (fun b => b = w2.heap.size ∨ some b = (Value.slice e1 n.keys.length d1).ownBlock) V3 (wc.setCell ⟨w2.heap.size, 1, none⟩ (.slice f1 L1 g1)) := (gac.mono fun k hk => .inr hk).trans (Wb.set _ _ _ _ (.inl rfl))
    have HZ4 : Hid ((wc.setCell ⟨w2.heap.size, 1, none⟩ (.slice f1 L1 g1)).heap[w.heap.size + 1]? = some (.cells #[.bool false, .slice none 0 0, .slice none 0 0, .slice none 0 0] 37 (0, 0))) := by
      show _ = _
      rw [X4.block _ (by omega) (by rintro (e | e) <;> first | omega | exact (hkb _ e).2.2 rfl)]; exact hz3
    have HX4 : Hid ((wc.setCell ⟨w2.heap.size, 1, none⟩ (.slice f1 L1 g1)).heap[w.heap.size]? = some (.cells #[.bool n.leaf, .slice a1 n.keys.length c1, .slice a2 n.vals.length c2, .slice a3 n.kids.length c3] 37 (0, 0))) := by
      show _ = _
      rw [X4.block _ (by omega) (by rintro (e | e) <;> first | omega | exact (hkb _ e).2.1 rfl)]; exact hx3
    have HB4 := Hid.mk' (HB3.out.trans (X4.below HB3.out.size (fun k hk => by
      rcases hk with hk | hk
      · omega
      · exact (hkb k hk).1)))
    have hsz4 := X4.size
    clear hrr hdw ha oa hda hup hdb hNb hlitv hyb hneb r2 r3 r5 gac hat' hN' hkb X4
    obtain ⟨⟨m0, m1, m2, m3⟩, mf⟩ := cells4_get N4.out.at_
    obtain ⟨⟨z0, z1, z2, z3⟩, zf⟩ := cells4_get HZ4.out
    dsimp only at m0 m1 m2 m3
    go_wp2_with fail
    clear m0 m1 m2 m3 mf hcl' hcf'
    obtain ⟨V4, hV4⟩ : ∃ V4, V4 = wc.setCell ⟨w2.heap.size, 1, none⟩ (.slice f1 L1 g1) := ⟨_, rfl⟩
    rw [← hV4] at N4 HZ4 HX4 HB4 hsz4 ⊢
    clear hV4 z0 z1 z2 z3 zf
    have hrr : ∀ q : Kp (fun b => some b = (Value.slice e2 n.vals.length d2).ownBlock) V4, q.nx.cell? ⟨w2.heap.size, 2, none⟩ = some (Value.slice e2 n.vals.length d2) := fun q => q.cell (by have := (cells4_get N4.out.at_).1; exact this.2.2.1) (fun e => by obtain ⟨_, _, _, h1⟩ := N4.out.vals.typed _ e.symm; exact absurd (typed_ne h1 N4.out.at_) (by decide))
    have hdw : Below V4.heap.size V4 V4.drew := ⟨rfl, rfl, rfl, Nat.le_refl _, fun _ _ => rfl⟩
    refine wp_region_mix 8 (fun w' => ∃ q : Kp (fun b => some b = (Value.slice e2 n.vals.length d2).ownBlock) V4, w' = q.nx) (by kernel_rfl) (by kernel_rfl) (kp_first _ V4) ?_
    simp only [List.take_succ_cons, List.take_zero, List.drop_succ_cons, List.drop_zero]
    refine mx_take 4 rfl ?_
    simp only [List.take_succ_cons, List.take_zero, List.drop_succ_cons, List.drop_zero]
    repeat (go_big_quiet_step (fail))
    refine wpQuiet_nil ?_
    refine mx_call (vals := [xb]) Try.func76 (by kernel_rfl) rfl rfl (by kernel_rfl) (by kernel_rfl) (clone_any _ _ _ (HX.out.up (HB4.out.trans (hdw.mono HB4.out.size)))) (fun e wa ha => ?_)
    obtain ⟨va, rfl, ha, oa⟩ := ha
    have hda := bt hdw ha
    refine ⟨_, rfl, kp_mk hda.size fun b hb _ => hda.block b hb, ?_⟩
    simp only [Act.put, List.setIfInBounds_toArray, List.set_cons_succ, List.set_cons_zero]
    obtain ⟨fa, ga, ea, _⟩ := (oa.bs HX.out.2).at
    have hup := up_alloc wa (.cells #[va] 32)
    have hdb := bt hda hup
    refine mx_make (by rfl) (by kernel_rfl) (by simp only [execOp, List.map_toArray, List.map_cons, List.map_nil, go_sem]; exact run_v (lays28 _ _ _ _ _ ea)) (kp_mk hdb.size fun b hb _ => hdb.block b hb) ?_
    simp only [Act.put, List.setIfInBounds_toArray, List.set_cons_succ, List.set_cons_zero]
    have hNb := N4.out.wb (Wb.of_below (fun _ => False) hdb) (fun k hk => hk.elim)
    have hlitv : (wa.alloc (.cells #[va] 32)).heap[wa.heap.size]? = some (.cells #[va] 32 (0, 0)) := heap_alloc_new wa _
    have hyb : Bs (Td 0 (wa.alloc (.cells #[va] 32))) (wa.alloc (.cells #[va] 32)) va xl := ((Bs.td (B := 0) oa HX.out.2).up hup).monoS fun b hb => hb.up hup
    have hneb : (Value.slice e2 n.vals.length d2).ownBlock ≠ some wa.heap.size := fun e => by
      obtain ⟨_, _, _, h1⟩ := N4.out.vals.typed _ e
      have := (Array.getElem?_eq_some_iff.1 h1).1
      have := hda.size
      omega
    refine mx_call (vals := [Value.slice e2 n.vals.length d2, .int .i64 j, .slice (some ⟨wa.heap.size, 0, none⟩) 1 1]) Try.func82 (by kernel_rfl) rfl rfl (by kernel_rfl) (by kernel_rfl) (insert_any hNb.vals j hj2 hlitv hyb hneb (by unfold lim; omega) (by have := N4.out.lt; have := hdb.size; omega)) (fun e wc hc => ?_)
    obtain ⟨un, rfl, r3, r2, r5⟩ := hc
    have gac : Wb (fun b => some b = (Value.slice e2 n.vals.length d2).ownBlock) V4 wc := (Wb.of_below _ hdb).trans r2
    refine ⟨_, rfl, kp_mk gac.size fun b hb hx => gac.block b hb hx, ?_⟩
    simp only [Act.put, List.setIfInBounds_toArray, List.set_cons_succ, List.set_cons_zero]
    refine mx_take 1 rfl ?_
    simp only [List.take_succ_cons, List.take_zero, List.drop_succ_cons, List.drop_zero]
    repeat (go_big_quiet_step (fail))
    refine wpQuiet_nil ?_
    simp only [wpMix]
    obtain ⟨hat', hN'⟩ := nod_setv hNb r2 r3 r5
    obtain ⟨L2, f2, g2, ef2⟩ : ∃ L a c, un = .slice a L c := (let ⟨_, h, _⟩ := r3; ⟨_, own_slice h⟩)
    subst ef2
    have N5 := Hid.mk' hN'
    have hcl' := (cells4_get hat').1.2.2.1
    have hcf' := (cells4_get hat').2 2
    have hkb : ∀ k, some k = (Value.slice e2 n.vals.length d2).ownBlock → w.heap.size ≤ k ∧ k ≠ w.heap.size ∧ k ≠ w.heap.size + 1 := fun k hk => by
      obtain ⟨h1, _, _, h2⟩ := N4.out.vals.typed k hk.symm
      refine ⟨h1, ?_, ?_⟩
      · rintro rfl; exact absurd (typed_ne h2 HX4.out) (by decide)
      · rintro rfl; exact absurd (typed_ne h2 HZ4.out) (by decide)
    have X5 : Wb (fun b => b = w2.heap.size ∨ some b = (Value.slice e2 n.vals.length d2).ownBlock) V4 (wc.setCell ⟨w2.heap.size, 2, none⟩ (.slice f2 L2 g2)) := (gac.mono fun k hk => .inr hk).trans (Wb.set _ _ _ _ (.inl rfl))
    have HZ5 : Hid ((wc.setCell ⟨w2.heap.size, 2, none⟩ (.slice f2 L2 g2)).heap[w.heap.size + 1]? = some (.cells #[.bool false, .slice none 0 0, .slice none 0 0, .slice none 0 0] 37 (0, 0))) := by
      show _ = _
      rw [X5.block _ (by omega) (by rintro (e | e) <;> first | omega | exact (hkb _ e).2.2 rfl)]; exact HZ4.out
    have HX5 : Hid ((wc.setCell ⟨w2.heap.size, 2, none⟩ (.slice f2 L2 g2)).heap[w.heap.size]? = some (.cells #[.bool n.leaf, .slice a1 n.keys.length c1, .slice a2 n.vals.length c2, .slice a3 n.kids.length c3] 37 (0, 0))) := by
      show _ = _
      rw [X5.block _ (by omega) (by rintro (e | e) <;> first | omega | exact (hkb _ e).2.1 rfl)]; exact HX4.out
    have HB5 := Hid.mk' (HB4.out.trans (X5.below HB4.out.size (fun k hk => by
      rcases hk with hk | hk
      · omega
      · exact (hkb k hk).1)))
    have hsz5 := X5.size
    clear hrr hdw ha oa hda hup hdb hNb hlitv hyb hneb r2 r3 r5 gac hat' hN' hkb X5
    obtain ⟨⟨m0, m1, m2, m3⟩, mf⟩ := cells4_get N5.out.at_
    obtain ⟨⟨z0, z1, z2, z3⟩, zf⟩ := cells4_get HZ5.out
    dsimp only at m0 m1 m2 m3
    go_wp2_with fail
    have hzf : w2.heap.size ≠ w.heap.size + 1 := by omega
    go_wp2_with fail
    refine bodyPost_ret (v := .agg #[.bool n.leaf, .slice f1 L1 g1, .slice f2 L2 g2, .slice e3 n.kids.length d3]) (by simp [results, Try.results36, go_sem, z0, z1, z2, z3]) rfl ?_
    exact ⟨_, rfl, by rw [HWT.out]; exact N5.out.out HZ5.out (four_wb _ _ _ _ _ _), HB5.out.trans ((four_wb _ _ _ _ _ _).below HB5.out.size (fun k hk => by subst hk; omega))⟩
  · have HWT : Hid (wth n i kl xl = n) := by show _ = _; rw [HW.out, if_neg hc]
    by_cases dl : n.leaf = true
    · rw [dl] at b0
      have DL := Hid.mk' dl
      by_cases dm : i < 0
      · have k1 : decide (i < 0) = true := by simp [dm]
        clear hc
        go_wp2_with fail
        refine bodyPost_ret (v := .agg #[.bool n.leaf, .slice e1 n.keys.length d1, .slice e2 n.vals.length d2, .slice e3 n.kids.length d3]) (by simp [results, Try.results36, go_sem, z0, z1, z2, z3, hlt1]; exact DL.out) rfl ?_
        exact ⟨_, rfl, by rw [HWT.out]; exact (N2.out.wbz HZW.out (four_wb _ _ _ _ _ _)).up (up_alloc _ _), bt (HB2.out.trans ((four_wb _ _ _ _ _ _).below HB2.out.size (fun k hk => by subst hk; omega))) (up_alloc _ _)⟩
      · have k1 : decide (i < 0) = false := by simp; omega
        by_cases dn : (n.keys.length : Int) < i
        · have k2 : decide ((n.keys.length : Int) < i) = true := by simp [dn]
          clear hc
          go_wp2_with fail
          refine bodyPost_ret (v := .agg #[.bool n.leaf, .slice e1 n.keys.length d1, .slice e2 n.vals.length d2, .slice e3 n.kids.length d3]) (by simp [results, Try.results36, go_sem, z0, z1, z2, z3, hlt1]; exact DL.out) rfl ?_
          exact ⟨_, rfl, by rw [HWT.out]; exact (N2.out.wbz HZW.out (four_wb _ _ _ _ _ _)).up (up_alloc _ _), bt (HB2.out.trans ((four_wb _ _ _ _ _ _).below HB2.out.size (fun k hk => by subst hk; omega))) (up_alloc _ _)⟩
        · have k2 : decide ((n.keys.length : Int) < i) = false := by simp; omega
          have k3 : decide ((n.vals.length : Int) < i) = true := by
            simp
            by_cases h : (n.vals.length : Int) < i
            · exact h
            · exact absurd ⟨dl, by omega, by omega, by omega⟩ hc
          clear hc
          go_wp2_with fail
          refine bodyPost_ret (v := .agg #[.bool n.leaf, .slice e1 n.keys.length d1, .slice e2 n.vals.length d2, .slice e3 n.kids.length d3]) (by simp [results, Try.results36, go_sem, z0, z1, z2, z3, hlt1]; exact DL.out) rfl ?_
          exact ⟨_, rfl, by rw [HWT.out]; exact (N2.out.wbz HZW.out (four_wb _ _ _ _ _ _)).up (up_alloc _ _), bt (HB2.out.trans ((four_wb _ _ _ _ _ _).below HB2.out.size (fun k hk => by subst hk; omega))) (up_alloc _ _)⟩
    · have d1' : n.leaf = false := by simpa using dl
      rw [d1'] at b0
      have DF := Hid.mk' d1'
      clear d1'
      clear hc
      go_wp2_with fail
      refine bodyPost_ret (v := .agg #[.bool n.leaf, .slice e1 n.keys.length d1, .slice e2 n.vals.length d2, .slice e3 n.kids.length d3]) (by simp [results, Try.results36, go_sem, z0, z1, z2, z3, hlt1]; exact DF.out) rfl ?_
      exact ⟨_, rfl, by rw [HWT.out]; exact (N2.out.wbz HZW.out (four_wb _ _ _ _ _ _)).up (up_alloc _ _), bt (HB2.out.trans ((four_wb _ _ _ _ _ _).below HB2.out.size (fun k hk => by subst hk; omega))) (up_alloc _ _)⟩
end Go.Proofs.Ytfmbbpfklhkljaa
