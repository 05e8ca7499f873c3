/- leaf.Join. -/
import Derived.Test.YtfmbbpfklhkljaaSQ
set_option linter.unusedVariables false
set_option linter.unusedSimpArgs false
namespace Go.Proofs.Ytfmbbpfklhkljaa
open Go.RowKit
/-- both rows grow, then both are stored -/
theorem nod_grow {B nb : Nat} {w w1 w2 : World} {n : Nd} {kv vv cv u1 u2 : Value} {l1 l2 : List (List UInt8)} (h : Nod B nb w n kv vv cv) (k2 : Wb (fun k => some k = kv.ownBlock) w w1) (k3 : Obb 0 B w1 u1 l1) (k4 : u1.ownBlock = kv.ownBlock ∨ ∃ k, u1.ownBlock = some k ∧ w.heap.size ≤ k) (m2 : Wb (fun k => some k = vv.ownBlock) w1 w2) (m3 : Obb 0 B w2 u2 l2) (m4 : u2.ownBlock = vv.ownBlock ∨ ∃ k, u2.ownBlock = some k ∧ w1.heap.size ≤ k) :
    w2.heap[nb]? = some (.cells #[.bool n.leaf, kv, vv, cv] 37 (0, 0)) ∧ (w2.setCell ⟨nb, 1, none⟩ u1).heap[nb]? = some (.cells #[.bool n.leaf, u1, vv, cv] 37 (0, 0)) ∧ Nod B nb ((w2.setCell ⟨nb, 1, none⟩ u1).setCell ⟨nb, 2, none⟩ u2) ⟨n.leaf, l1, l2, n.kids⟩ u1 u2 cv := by
  have hnk : ∀ k, some k = kv.ownBlock → ∃ cur fr, w.heap[k]? = some (.cells cur 32 fr) := fun k hk => (h.keys.typed k hk.symm).2
  have hnv0 : ∀ k, some k = vv.ownBlock → ∃ cur fr, w.heap[k]? = some (.cells cur 32 fr) := fun k hk => (h.vals.typed k hk.symm).2
  have hat1 : w1.heap[nb]? = some (.cells #[.bool n.leaf, kv, vv, cv] 37 (0, 0)) := by
    rw [k2.block nb h.lt fun e => by obtain ⟨_, _, h1⟩ := hnk nb e; exact absurd (typed_ne h1 h.at_) (by decide)]; exact h.at_
  have hap : ∀ k, some k = vv.ownBlock → some k ≠ kv.ownBlock := fun k hk e => h.apart k e.symm hk.symm
  have hap1 : ∀ k, some k = vv.ownBlock → some k ≠ u1.ownBlock := fun k hk e => by
    rcases k4 with k4 | ⟨j, k4, k5⟩
    · exact hap k hk (by rw [e, k4])
    · rw [k4] at e; cases e
      obtain ⟨_, _, h1⟩ := hnv0 k hk
      have := (Array.getElem?_eq_some_iff.1 h1).1
      omega
  have hnv : ∀ k, some k = vv.ownBlock → ∃ cur fr, w1.heap[k]? = some (.cells cur 32 fr) := fun k hk => by
    obtain ⟨cur, fr, h1⟩ := hnv0 k hk
    exact ⟨cur, fr, by rw [k2.block k (Array.getElem?_eq_some_iff.1 h1).1 (hap k hk)]; exact h1⟩
  have hat2 : w2.heap[nb]? = some (.cells #[.bool n.leaf, kv, vv, cv] 37 (0, 0)) := by
    rw [m2.block nb (Array.getElem?_eq_some_iff.1 hat1).1 fun e => by obtain ⟨_, _, h1⟩ := hnv nb e; exact absurd (typed_ne h1 hat1) (by decide)]; exact hat1
  have hs := (Wb.set (X := fun k => k = nb) w2 nb 1 u1 rfl).trans (Wb.set (X := fun k => k = nb) (w2.setCell ⟨nb, 1, none⟩ u1) nb 2 u2 rfl)
  have hu1 : Obb 0 B w2 u1 l1 := k3.wb m2 fun k hk => ⟨hap1 k hk, fun cur fr h1 => by obtain ⟨_, _, h2⟩ := hnv k hk; exact absurd (typed_ne h1 h2) (by decide)⟩
  have hcv1 : w1.ownsRow B 3 1 cv n.kids.length (iv n.kids) := own_wb h.kids k2 fun k hk e => by
    obtain ⟨_, _, h2⟩ := hnk k hk
    obtain ⟨_, _, _, h1⟩ := own_typed h.kids k e.symm
    exact absurd (typed_ne h1 h2) (by decide)
  have hcv2 : w2.ownsRow B 3 1 cv n.kids.length (iv n.kids) := own_wb hcv1 m2 fun k hk e => by
    obtain ⟨_, _, h2⟩ := hnv k hk
    obtain ⟨_, _, _, h1⟩ := own_typed hcv1 k e.symm
    exact absurd (typed_ne h1 h2) (by decide)
  have hnb : ∀ {e : TypeId} {k : Nat} {cur fr}, e ≠ 37 → w2.heap[k]? = some (.cells cur e fr) → k ≠ nb := by
    rintro e k cur fr he h1 rfl
    exact he (typed_ne h1 hat2)
  have y1 := cells4_set (o := 1) (u := u1) hat2
  have y2 := cells4_set (o := 2) (u := u2) y1
  refine ⟨hat2, y1, y2, ?_, ?_, ?_, fun k hk e => ?_⟩
  · exact hu1.wb hs fun k hk => ⟨fun e => by obtain ⟨_, _, _, h1⟩ := hu1.typed k e.symm; exact hnb (by decide) h1 hk, fun cur fr h1 => hnb (by decide) h1 hk⟩
  · exact m3.wb hs fun k hk => ⟨fun e => by obtain ⟨_, _, _, h1⟩ := m3.typed k e.symm; exact hnb (by decide) h1 hk, fun cur fr h1 => hnb (by decide) h1 hk⟩
  · exact own_wb hcv2 hs fun k hk e => by obtain ⟨_, _, _, h1⟩ := own_typed hcv2 k e.symm; exact hnb (by decide) h1 hk
  · rcases m4 with m4 | ⟨j, m4, m5⟩
    · exact hap1 k (by rw [← m4]; exact e.symm) hk.symm
    · rw [m4] at e; cases e
      obtain ⟨_, _, _, h1⟩ := k3.typed k hk
      have := (Array.getElem?_eq_some_iff.1 h1).1
      omega
theorem Obb.row0 {B : Nat} {w : World} {v : Value} {l : List (List UInt8)} (h : Obb 0 B w v l) : ∃ us, Row 1 (Lt w.heap.size) w v l.length us ∧ Each (Td 0 w) w us l := by
  obtain ⟨us, h1, h2⟩ := h
  exact ⟨us, Row.of_own h1, h2⟩
theorem jn_step {B S nb : Nat} {w : World} {n : Nd} {kv vv cv sk sv : Value} {mk mv : List (List UInt8)} (h : Nod B nb w n kv vv cv) (hk : Obb 0 S w sk mk) (hv : Obb 0 S w sv mv) (h1 : ∀ k, kv.ownBlock = some k → k < S) (l1 : (n.keys.length + mk.length) * 24 ≤ lim) (l2 : (n.vals.length + mv.length) * 24 ≤ lim) (hB : B ≤ w.heap.size) :
    ∃ u1 w1 u2 w2, (Builtin.append_ #[28, 28] 28 #[kv, sk]).run Try.prog w = .ok u1 w1 ∧ Wb (fun k => some k = kv.ownBlock) w w1 ∧ (Builtin.append_ #[28, 28] 28 #[vv, sv]).run Try.prog w1 = .ok u2 w2 ∧ Wb (fun k => some k = vv.ownBlock) w1 w2 ∧
      w2.heap[nb]? = some (.cells #[.bool n.leaf, kv, vv, cv] 37 (0, 0)) ∧ (w2.setCell ⟨nb, 1, none⟩ u1).heap[nb]? = some (.cells #[.bool n.leaf, u1, vv, cv] 37 (0, 0)) ∧ Nod B nb ((w2.setCell ⟨nb, 1, none⟩ u1).setCell ⟨nb, 2, none⟩ u2) ⟨n.leaf, n.keys ++ mk, n.vals ++ mv, n.kids⟩ u1 u2 cv := by
  obtain ⟨us, r1, r2⟩ := hk.row0
  obtain ⟨u1, w1, a1, a2, a3, a4⟩ := app_row h.keys r1 r2 l1 hB (Nat.zero_le _)
  have hnk : ∀ k, some k = kv.ownBlock → ∃ cur fr, w.heap[k]? = some (.cells cur 32 fr) := fun k hk => (h.keys.typed k hk.symm).2
  have hv1 : Obb 0 S w1 sv mv := hv.wb a2 fun k hk => ⟨fun e => by have := (hv.typed k e.symm).1; have := h1 k hk.symm; omega, fun cur fr h3 => by obtain ⟨_, _, h2⟩ := hnk k hk; exact absurd (typed_ne h3 h2) (by decide)⟩
  have hvv : Obb 0 B w1 vv n.vals := h.vals.wb a2 fun k hk => ⟨fun e => h.apart k hk.symm e.symm, fun cur fr h3 => by obtain ⟨_, _, h2⟩ := hnk k hk; exact absurd (typed_ne h3 h2) (by decide)⟩
  obtain ⟨vs, r3, r4⟩ := hv1.row0
  obtain ⟨u2, w2, b1, b2, b3, b4⟩ := app_row hvv r3 r4 l2 (Nat.le_trans hB a2.size) (Nat.zero_le _)
  exact ⟨u1, w1, u2, w2, a1, a2, b1, b2, nod_grow h a2 a3 a4 b2 b3 b4⟩
theorem obb_slice {B : Nat} {w : World} {v : Value} {l : List (List UInt8)} (h : Obb 0 B w v l) : ∃ a c, v = .slice a l.length c := by
  obtain ⟨_, h1, _⟩ := h
  exact own_slice h1
/-- another block of four cells is written -/
theorem Nod.wbq {B nb q : Nat} {w w' : World} {n : Nd} {kv vv cv : Value} {x : Array Value} (h : Nod B nb w n kv vv cv) (hr : w.heap[q]? = some (.cells x 37 (0, 0))) (hs : Wb (fun k => k = q) w w') (hne : nb ≠ q) : Nod B nb w' n kv vv cv := by
  have hob : ∀ {v : Value} {ls : List (List UInt8)}, Obb 0 B w v ls → Obb 0 B w' v ls := fun ho => ho.wb hs fun k hk => by
    subst hk
    exact ⟨fun e => by obtain ⟨_, _, _, h1⟩ := ho.typed _ e.symm; exact absurd (typed_ne h1 hr) (by decide), fun cur fr h1 => absurd (typed_ne h1 hr) (by decide)⟩
  exact ⟨(hs.block nb h.lt hne).trans h.at_, hob h.keys, hob h.vals, own_wb h.kids hs fun k hk e => by subst hk; obtain ⟨_, _, _, h1⟩ := own_typed h.kids _ e.symm; exact absurd (typed_ne h1 hr) (by decide), h.apart⟩
/-- how the joining stands -/
structure Jst (w0 : World) (n : Nd) (kv vv cv : Value) (w : World) : Prop where
  bl : Below w0.heap.size w0 w
  z : w.heap[w0.heap.size]? = some (.cells #[.bool false, .slice none 0 0, .slice none 0 0, .slice none 0 0] 37 (0, 0))
  nd : Nod w0.heap.size (w0.heap.size + 1) w n kv vv cv
theorem Nod.up {B nb : Nat} {w w' : World} {n : Nd} {kv vv cv : Value} (h : Nod B nb w n kv vv cv) (hb : Below w.heap.size w w') : Nod B nb w' n kv vv cv := h.wb (Wb.of_below (fun _ => False) hb) fun k hk => hk.elim
theorem Jst.up {w0 w w' : World} {n : Nd} {kv vv cv : Value} (h : Jst w0 n kv vv cv w) (hb : Below w.heap.size w w') : Jst w0 n kv vv cv w' :=
  ⟨bt h.bl hb, by rw [hb.block _ (Array.getElem?_eq_some_iff.1 h.z).1]; exact h.z, h.nd.up hb⟩
def cat (n1 n2 : Nd) : Nat → Nd
  | 0 => ⟨true, [], [], []⟩
  | 1 => ⟨true, n1.keys, n1.vals, []⟩
  | _ => ⟨true, n1.keys ++ n2.keys, n1.vals ++ n2.vals, []⟩
set_option maxRecDepth 100000 in
set_option maxHeartbeats 4000000 in
/-- leaf.Join of two leaves -/
theorem join_any {A1 A2 : Nat → Prop} {w : World} {p : Nat} {n1 n2 : Nd} {x1 x2 x3 y1 y2 y3 : Value} (hp : w.heap[p]? = some (.cells #[.bool true, x1, x2, x3, .bool true, y1, y2, y3] 37 (0, 0))) (h1 : RN A1 w (.agg #[.bool true, x1, x2, x3]) n1) (h2 : RN A2 w (.agg #[.bool true, y1, y2, y3]) n2) (s1 : n1.keys.length ≤ 1000) (s2 : n1.vals.length ≤ 1000) (s3 : n2.keys.length ≤ 1000) (s4 : n2.vals.length ≤ 1000) :
    Calls Try.prog 32 #[.slice (some ⟨p, 0, none⟩) 2 2] w fun e w' => ∃ v', e = .returned v' ∧ OwnN w.heap.size w' v' ⟨true, n1.keys ++ n2.keys, n1.vals ++ n2.vals, []⟩ ∧ Below w.heap.size w w' := by
  obtain ⟨g1, j1, g2, j2, g3, j3, e1⟩ := h1.form
  obtain ⟨f1, i1, f2, i2, f3, i3, e2⟩ := h2.form
  simp only [Value.agg.injEq, Array.mk.injEq, List.cons.injEq, and_true] at e1 e2
  obtain ⟨lg1, rfl, rfl, rfl⟩ := e1
  obtain ⟨lg2, rfl, rfl, rfl⟩ := e2
  have lf1 : n1.leaf = true := by simpa using lg1.symm
  have lf2 : n2.leaf = true := by simpa using lg2.symm
  have hcat : ∀ {j : Nat} {u : Value}, w.cell? ⟨p, j, none⟩ = some u → w.cell? ⟨p, j, none⟩ = some u := id
  have c0 : w.cell? ⟨p, 0, none⟩ = some (.bool true) := by simp only [World.cell?, hp]; rfl
  have c1 : w.cell? ⟨p, 1, none⟩ = some (.slice g1 n1.keys.length j1) := by simp only [World.cell?, hp]; rfl
  have c2 : w.cell? ⟨p, 2, none⟩ = some (.slice g2 n1.vals.length j2) := by simp only [World.cell?, hp]; rfl
  have c3 : w.cell? ⟨p, 3, none⟩ = some (.slice g3 n1.kids.length j3) := by simp only [World.cell?, hp]; rfl
  have c4 : w.cell? ⟨p, 4, none⟩ = some (.bool true) := by simp only [World.cell?, hp]; rfl
  have c5 : w.cell? ⟨p, 5, none⟩ = some (.slice f1 n2.keys.length i1) := by simp only [World.cell?, hp]; rfl
  have c6 : w.cell? ⟨p, 6, none⟩ = some (.slice f2 n2.vals.length i2) := by simp only [World.cell?, hp]; rfl
  have c7 : w.cell? ⟨p, 7, none⟩ = some (.slice f3 n2.kids.length i3) := by simp only [World.cell?, hp]; rfl
  have H1 := Hid.mk' h1
  have H2 := Hid.mk' h2
  have hpl : p < w.heap.size := (Array.getElem?_eq_some_iff.1 hp).1
  have L1 := Hid.mk' lf1
  have L2 := Hid.mk' lf2
  clear h1 h2 hp hcat lf1 lf2 lg1 lg2
  go_enter Try.func32, Try.ntmps32
  go_wp2_with fail
  obtain ⟨W, hW⟩ : ∃ W, W = (w.alloc (.cells #[.bool false, .slice none 0 0, .slice none 0 0, .slice none 0 0] 37)).alloc (.cells #[.bool true, .slice none 0 0, .slice none 0 0, .slice none 0 0] 37) := ⟨_, rfl⟩
  rw [← hW]
  obtain ⟨hb0, hx0, hx1, hsz⟩ := two_boxes hW
  have T0 : Hid (Jst w ⟨true, [], [], []⟩ (.slice none 0 0) (.slice none 0 0) (.slice none 0 0) W) := ⟨hb0, hx0, hx1, obb_nil, obb_nil, World.ownsRow_nil _ _ _ _, fun k hk => by cases hk⟩
  clear hW hb0 hx0 hx1 hsz
  go_loopw [9] (fun i wr => ∃ k : Nat, k ≤ 2 ∧ i = .int .i64 k ∧ Hid (∃ kv vv cv, Jst w (cat n1 n2 k) kv vv cv wr)) (fun i _ => 2 - (intOf i).toNat)
  case atStart => exact ⟨0, by omega, rfl, _, _, _, T0⟩
  case round =>
    obtain ⟨k, hk, rfl, kv, vv, cv, HJ⟩ := hrel
    have HJ := Hid.mk' HJ
    have hk3 : k = 0 ∨ k = 1 ∨ k = 2 := by omega
    clear T0
    rcases hk3 with rfl | rfl | rfl
    · obtain ⟨ka, K, kc, ek⟩ : ∃ a L c, kv = .slice a L c := by obtain ⟨a, c, e⟩ := obb_slice HJ.out.nd.keys; exact ⟨a, _, c, e⟩
      obtain ⟨va, M, vc, evv⟩ : ∃ a L c, vv = .slice a L c := by obtain ⟨a, c, e⟩ := obb_slice HJ.out.nd.vals; exact ⟨a, _, c, e⟩
      obtain ⟨ca, L, cc, ecv⟩ : ∃ a L c, cv = .slice a L c := by obtain ⟨a, c, e⟩ := own_slice HJ.out.nd.kids; exact ⟨a, _, c, e⟩
      subst ek; subst evv; subst ecv
      have r0 := cell_later HJ.out.bl c0
      have r1 := cell_later HJ.out.bl c1
      have r2 := cell_later HJ.out.bl c2
      have r3 := cell_later HJ.out.bl c3
      go_wp2_with fail
      obtain ⟨V0, hV0⟩ : ∃ V, V = wr.alloc (.cells #[.bool true, (.slice g1 n1.keys.length j1), (.slice g2 n1.vals.length j2), (.slice g3 n1.kids.length j3)] 37) := ⟨_, rfl⟩
      have hbV := up_alloc wr (.cells #[.bool true, (.slice g1 n1.keys.length j1), (.slice g2 n1.vals.length j2), (.slice g3 n1.kids.length j3)] 37)
      have hqV := heap_alloc_new wr (.cells #[.bool true, (.slice g1 n1.keys.length j1), (.slice g2 n1.vals.length j2), (.slice g3 n1.kids.length j3)] 37)
      have hszV : V0.heap.size = wr.heap.size + 1 := by rw [hV0]; simp
      rw [← hV0] at hbV hqV ⊢
      clear hV0
      have HR := Hid.mk' (H1.out.up (bt HJ.out.bl hbV))
      refine (twin_any HR.out).mono ?_
      rintro e w2 ⟨v2, rfl, n2', h2⟩
      have HJ2 := Hid.mk' (HJ.out.up (bt hbV h2))
      have hq2 := (h2.block wr.heap.size (by omega)).trans hqV
      obtain ⟨p1, q1, p2, q2, p3, q3, rfl⟩ := n2'.form
      rw [L1.out] at n2' ⊢
      have N2 := Hid.mk' n2'
      have hsV : wr.heap.size < V0.heap.size := by omega
      have hs2 : V0.heap.size ≤ w2.heap.size := h2.size
      have hns : w.heap.size + 1 < wr.heap.size := HJ.out.nd.lt
      clear r0 r1 r2 r3 HR n2' h2 hbV hqV hszV
      obtain ⟨⟨z0, z1, z2, z3⟩, zf⟩ := cells4_get hq2
      go_wp2_with fail
      have hw1 := four_wb w2 wr.heap.size (.bool true) (.slice p1 n1.keys.length q1) (.slice p2 n1.vals.length q2) (.slice p3 n1.kids.length q3)
      obtain ⟨hqb, hqx⟩ := put4 (B := w.heap.size) (.bool true) (.slice p1 n1.keys.length q1) (.slice p2 n1.vals.length q2) (.slice p3 n1.kids.length q3) hq2 (by omega)
      have NX := Hid.mk' (N2.out.wbz hq2 hw1)
      have DX := Hid.mk' (HJ2.out.nd.wbq hq2 hw1 (by omega))
      have ZX := Hid.mk' ((hw1.block w.heap.size (by omega) (by omega)).trans HJ2.out.z)
      have BX := Hid.mk' (HJ2.out.bl.trans hqb)
      clear z0 z1 z2 z3 zf hw1 hqb hq2
      generalize ((((w2.setCell ⟨wr.heap.size, 0, none⟩ (.bool true)).setCell ⟨wr.heap.size, 1, none⟩ (.slice p1 n1.keys.length q1)).setCell ⟨wr.heap.size, 2, none⟩ (.slice p2 n1.vals.length q2)).setCell ⟨wr.heap.size, 3, none⟩ (.slice p3 n1.kids.length q3)) = X at *
      have hd := drew_bl X X.heap.size
      obtain ⟨_, _, _, es, sk1, sk2, _, _⟩ := NX.out
      simp only [Value.agg.injEq, Array.mk.injEq, List.cons.injEq, and_true, true_and] at es
      obtain ⟨lq, rfl, rfl, rfl⟩ := es
      clear lq
      have hlk : ∀ j, (Value.slice ka K kc).ownBlock = some j → j < V0.heap.size := fun j hj => by
        obtain ⟨_, _, _, h1⟩ := HJ.out.nd.keys.typed j hj
        have := (Array.getElem?_eq_some_iff.1 h1).1
        omega
      obtain ⟨u1, wA, u2, wB, a1, a2, b1, b2, hat, mid, hN⟩ := jn_step (S := V0.heap.size) (DX.out.up hd) (sk1.up hd) (sk2.up hd) hlk (by simp only [cat, List.length_nil]; unfold lim; omega) (by simp only [cat, List.length_nil]; unfold lim; omega) (by have := BX.out.size; exact this)
      obtain ⟨ua, uL, uc, rfl⟩ : ∃ a L c, u1 = .slice a L c := by obtain ⟨a, c, e⟩ := obb_slice hN.keys; exact ⟨a, _, c, e⟩
      obtain ⟨xa, xL, xc, rfl⟩ : ∃ a L c, u2 = .slice a L c := by obtain ⟨a, c, e⟩ := obb_slice hN.vals; exact ⟨a, _, c, e⟩
      have hnb : ∀ {x : Value} {l : List (List UInt8)} {j : Nat} {c : Array Value}, Obb 0 w.heap.size X x l → X.heap[j]? = some (.cells c 37 (0, 0)) → ¬ some j = x.ownBlock := fun hx h3 e => by obtain ⟨_, _, _, h1⟩ := hx.typed _ e.symm; exact absurd (typed_ne h1 h3) (by decide)
      have hnb2 : ∀ {j : Nat} {c : Array Value}, X.heap[j]? = some (.cells c 37 (0, 0)) → ¬ (some j = (Value.slice ka K kc).ownBlock ∨ some j = (Value.slice va M vc).ownBlock) := fun h3 e => e.elim (hnb DX.out.keys h3) (hnb DX.out.vals h3)
      obtain ⟨⟨z0, z1, z2, z3⟩, zf⟩ := cells4_get hqx
      obtain ⟨⟨b0, b1', b2', b3⟩, bf⟩ := cells4_get DX.out.at_
      have e1 : ∀ q : Kp (fun b => some b = (Value.slice ka K kc).ownBlock ∨ some b = (Value.slice va M vc).ownBlock) X, q.nx.cell? ⟨w.heap.size + 1, 1, none⟩ = some (Value.slice ka K kc) := fun q => q.cell b1' (hnb2 DX.out.at_)
      have e2 : ∀ q : Kp (fun b => some b = (Value.slice ka K kc).ownBlock ∨ some b = (Value.slice va M vc).ownBlock) X, q.nx.cell? ⟨w.heap.size + 1, 2, none⟩ = some (Value.slice va M vc) := fun q => q.cell b2' (hnb2 DX.out.at_)
      have e3 : ∀ q : Kp (fun b => some b = (Value.slice ka K kc).ownBlock ∨ some b = (Value.slice va M vc).ownBlock) X, q.nx.cell? ⟨wr.heap.size, 1, none⟩ = some _ := fun q => q.cell z1 (hnb2 hqx)
      have e4 : ∀ q : Kp (fun b => some b = (Value.slice ka K kc).ownBlock ∨ some b = (Value.slice va M vc).ownBlock) X, q.nx.cell? ⟨wr.heap.size, 2, none⟩ = some _ := fun q => q.cell z2 (hnb2 hqx)
      have w1b : Wb (fun j => some j = (Value.slice ka K kc).ownBlock) X wA := (Wb.of_below _ hd).trans a2
      have w2b : Wb (fun j => some j = (Value.slice ka K kc).ownBlock ∨ some j = (Value.slice va M vc).ownBlock) X wB := (w1b.mono fun j hj => .inl hj).trans (b2.mono fun j hj => .inr hj)
      refine wp_region_mix 11 (fun w' => ∃ q : Kp (fun b => some b = (Value.slice ka K kc).ownBlock ∨ some b = (Value.slice va M vc).ownBlock) X, w' = q.nx) (by kernel_rfl) (by kernel_rfl) (kp_first _ X) ?_
      simp only [List.take_succ_cons, List.take_zero, List.drop_succ_cons, List.drop_zero]
      refine mx_take 4 rfl ?_
      simp only [List.take_succ_cons, List.take_zero, List.drop_succ_cons, List.drop_zero]
      repeat (go_big_quiet_step (fail))
      refine wpQuiet_nil ?_
      refine mx_app rfl rfl rfl (by kernel_rfl) a1 (kp_mk w1b.size fun b hb hx => w1b.block b hb fun e => hx (.inl e)) ?_
      simp only [Act.put, List.setIfInBounds_toArray, List.set_cons_succ, List.set_cons_zero]
      refine mx_take 4 rfl ?_
      simp only [List.take_succ_cons, List.take_zero, List.drop_succ_cons, List.drop_zero]
      repeat (go_big_quiet_step (fail))
      refine wpQuiet_nil ?_
      refine mx_app rfl rfl rfl (by kernel_rfl) b1 (kp_mk w2b.size fun b hb hx => w2b.block b hb hx) ?_
      simp only [Act.put, List.setIfInBounds_toArray, List.set_cons_succ, List.set_cons_zero]
      refine mx_take 1 rfl ?_
      simp only [List.take_succ_cons, List.take_zero, List.drop_succ_cons, List.drop_zero]
      repeat (go_big_quiet_step (fail))
      refine wpQuiet_nil ?_
      simp only [wpMix]
      obtain ⟨⟨_, p1', _, _⟩, pf⟩ := cells4_get hat
      obtain ⟨⟨_, _, p2', _⟩, pf2⟩ := cells4_get mid
      have hsx : w.heap.size + 1 < X.heap.size := DX.out.lt
      have ND := Hid.mk' hN
      have X5 : Wb (fun j => j = w.heap.size + 1 ∨ (some j = (Value.slice ka K kc).ownBlock ∨ some j = (Value.slice va M vc).ownBlock)) X ((wB.setCell ⟨w.heap.size + 1, 1, none⟩ (.slice ua uL uc)).setCell ⟨w.heap.size + 1, 2, none⟩ (.slice xa xL xc)) := ((w2b.mono fun j hj => .inr hj).trans (Wb.set _ _ _ _ (.inl rfl))).trans (Wb.set _ _ _ _ (.inl rfl))
      have ZN := Hid.mk' ((X5.block w.heap.size (by omega) (by rintro (e | e) <;> first | omega | exact hnb2 ZX.out e)).trans ZX.out)
      have BN := Hid.mk' (BX.out.trans (X5.below (D := w.heap.size) (by omega) fun j hj => by
        rcases hj with hj | hj | hj
        · omega
        · exact (DX.out.keys.typed j hj.symm).1
        · exact (DX.out.vals.typed j hj.symm).1))
      clear e1 e2 e3 e4 w1b w2b a1 a2 b1 b2 hat mid hN hnb hnb2 z0 z1 z2 z3 zf b0 b1' b2' b3 bf hd sk1 sk2 hlk X5
      go_wp2_with fail
      go_roundw
      case rel => exact ⟨1, by omega, by go_num, _, _, _, BN.out, ZN.out, ND.out⟩
      case measure => simp [intOf]
    · obtain ⟨ka, K, kc, ek⟩ : ∃ a L c, kv = .slice a L c := by obtain ⟨a, c, e⟩ := obb_slice HJ.out.nd.keys; exact ⟨a, _, c, e⟩
      obtain ⟨va, M, vc, evv⟩ : ∃ a L c, vv = .slice a L c := by obtain ⟨a, c, e⟩ := obb_slice HJ.out.nd.vals; exact ⟨a, _, c, e⟩
      obtain ⟨ca, L, cc, ecv⟩ : ∃ a L c, cv = .slice a L c := by obtain ⟨a, c, e⟩ := own_slice HJ.out.nd.kids; exact ⟨a, _, c, e⟩
      subst ek; subst evv; subst ecv
      have r0 := cell_later HJ.out.bl c4
      have r1 := cell_later HJ.out.bl c5
      have r2 := cell_later HJ.out.bl c6
      have r3 := cell_later HJ.out.bl c7
      go_wp2_with fail
      obtain ⟨V0, hV0⟩ : ∃ V, V = wr.alloc (.cells #[.bool true, (.slice f1 n2.keys.length i1), (.slice f2 n2.vals.length i2), (.slice f3 n2.kids.length i3)] 37) := ⟨_, rfl⟩
      have hbV := up_alloc wr (.cells #[.bool true, (.slice f1 n2.keys.length i1), (.slice f2 n2.vals.length i2), (.slice f3 n2.kids.length i3)] 37)
      have hqV := heap_alloc_new wr (.cells #[.bool true, (.slice f1 n2.keys.length i1), (.slice f2 n2.vals.length i2), (.slice f3 n2.kids.length i3)] 37)
      have hszV : V0.heap.size = wr.heap.size + 1 := by rw [hV0]; simp
      rw [← hV0] at hbV hqV ⊢
      clear hV0
      have HR := Hid.mk' (H2.out.up (bt HJ.out.bl hbV))
      refine (twin_any HR.out).mono ?_
      rintro e w2 ⟨v2, rfl, n2', h2⟩
      have HJ2 := Hid.mk' (HJ.out.up (bt hbV h2))
      have hq2 := (h2.block wr.heap.size (by omega)).trans hqV
      obtain ⟨p1, q1, p2, q2, p3, q3, rfl⟩ := n2'.form
      rw [L2.out] at n2' ⊢
      have N2 := Hid.mk' n2'
      have hsV : wr.heap.size < V0.heap.size := by omega
      have hs2 : V0.heap.size ≤ w2.heap.size := h2.size
      have hns : w.heap.size + 1 < wr.heap.size := HJ.out.nd.lt
      clear r0 r1 r2 r3 HR n2' h2 hbV hqV hszV
      obtain ⟨⟨z0, z1, z2, z3⟩, zf⟩ := cells4_get hq2
      go_wp2_with fail
      have hw1 := four_wb w2 wr.heap.size (.bool true) (.slice p1 n2.keys.length q1) (.slice p2 n2.vals.length q2) (.slice p3 n2.kids.length q3)
      obtain ⟨hqb, hqx⟩ := put4 (B := w.heap.size) (.bool true) (.slice p1 n2.keys.length q1) (.slice p2 n2.vals.length q2) (.slice p3 n2.kids.length q3) hq2 (by omega)
      have NX := Hid.mk' (N2.out.wbz hq2 hw1)
      have DX := Hid.mk' (HJ2.out.nd.wbq hq2 hw1 (by omega))
      have ZX := Hid.mk' ((hw1.block w.heap.size (by omega) (by omega)).trans HJ2.out.z)
      have BX := Hid.mk' (HJ2.out.bl.trans hqb)
      clear z0 z1 z2 z3 zf hw1 hqb hq2
      generalize ((((w2.setCell ⟨wr.heap.size, 0, none⟩ (.bool true)).setCell ⟨wr.heap.size, 1, none⟩ (.slice p1 n2.keys.length q1)).setCell ⟨wr.heap.size, 2, none⟩ (.slice p2 n2.vals.length q2)).setCell ⟨wr.heap.size, 3, none⟩ (.slice p3 n2.kids.length q3)) = X at *
      have hd := drew_bl X X.heap.size
      obtain ⟨_, _, _, es, sk1, sk2, _, _⟩ := NX.out
      simp only [Value.agg.injEq, Array.mk.injEq, List.cons.injEq, and_true, true_and] at es
      obtain ⟨lq, rfl, rfl, rfl⟩ := es
      clear lq
      have hlk : ∀ j, (Value.slice ka K kc).ownBlock = some j → j < V0.heap.size := fun j hj => by
        obtain ⟨_, _, _, h1⟩ := HJ.out.nd.keys.typed j hj
        have := (Array.getElem?_eq_some_iff.1 h1).1
        omega
      obtain ⟨u1, wA, u2, wB, a1, a2, b1, b2, hat, mid, hN⟩ := jn_step (S := V0.heap.size) (DX.out.up hd) (sk1.up hd) (sk2.up hd) hlk (by simp only [cat, List.length_nil]; unfold lim; omega) (by simp only [cat, List.length_nil]; unfold lim; omega) (by have := BX.out.size; exact this)
      obtain ⟨ua, uL, uc, rfl⟩ : ∃ a L c, u1 = .slice a L c := by obtain ⟨a, c, e⟩ := obb_slice hN.keys; exact ⟨a, _, c, e⟩
      obtain ⟨xa, xL, xc, rfl⟩ : ∃ a L c, u2 = .slice a L c := by obtain ⟨a, c, e⟩ := obb_slice hN.vals; exact ⟨a, _, c, e⟩
      have hnb : ∀ {x : Value} {l : List (List UInt8)} {j : Nat} {c : Array Value}, Obb 0 w.heap.size X x l → X.heap[j]? = some (.cells c 37 (0, 0)) → ¬ some j = x.ownBlock := fun hx h3 e => by obtain ⟨_, _, _, h1⟩ := hx.typed _ e.symm; exact absurd (typed_ne h1 h3) (by decide)
      have hnb2 : ∀ {j : Nat} {c : Array Value}, X.heap[j]? = some (.cells c 37 (0, 0)) → ¬ (some j = (Value.slice ka K kc).ownBlock ∨ some j = (Value.slice va M vc).ownBlock) := fun h3 e => e.elim (hnb DX.out.keys h3) (hnb DX.out.vals h3)
      obtain ⟨⟨z0, z1, z2, z3⟩, zf⟩ := cells4_get hqx
      obtain ⟨⟨b0, b1', b2', b3⟩, bf⟩ := cells4_get DX.out.at_
      have e1 : ∀ q : Kp (fun b => some b = (Value.slice ka K kc).ownBlock ∨ some b = (Value.slice va M vc).ownBlock) X, q.nx.cell? ⟨w.heap.size + 1, 1, none⟩ = some (Value.slice ka K kc) := fun q => q.cell b1' (hnb2 DX.out.at_)
      have e2 : ∀ q : Kp (fun b => some b = (Value.slice ka K kc).ownBlock ∨ some b = (Value.slice va M vc).ownBlock) X, q.nx.cell? ⟨w.heap.size + 1, 2, none⟩ = some (Value.slice va M vc) := fun q => q.cell b2' (hnb2 DX.out.at_)
      have e3 : ∀ q : Kp (fun b => some b = (Value.slice ka K kc).ownBlock ∨ some b = (Value.slice va M vc).ownBlock) X, q.nx.cell? ⟨wr.heap.size, 1, none⟩ = some _ := fun q => q.cell z1 (hnb2 hqx)
      have e4 : ∀ q : Kp (fun b => some b = (Value.slice ka K kc).ownBlock ∨ some b = (Value.slice va M vc).ownBlock) X, q.nx.cell? ⟨wr.heap.size, 2, none⟩ = some _ := fun q => q.cell z2 (hnb2 hqx)
      have w1b : Wb (fun j => some j = (Value.slice ka K kc).ownBlock) X wA := (Wb.of_below _ hd).trans a2
      have w2b : Wb (fun j => some j = (Value.slice ka K kc).ownBlock ∨ some j = (Value.slice va M vc).ownBlock) X wB := (w1b.mono fun j hj => .inl hj).trans (b2.mono fun j hj => .inr hj)
      refine wp_region_mix 11 (fun w' => ∃ q : Kp (fun b => some b = (Value.slice ka K kc).ownBlock ∨ some b = (Value.slice va M vc).ownBlock) X, w' = q.nx) (by kernel_rfl) (by kernel_rfl) (kp_first _ X) ?_
      simp only [List.take_succ_cons, List.take_zero, List.drop_succ_cons, List.drop_zero]
      refine mx_take 4 rfl ?_
      simp only [List.take_succ_cons, List.take_zero, List.drop_succ_cons, List.drop_zero]
      repeat (go_big_quiet_step (fail))
      refine wpQuiet_nil ?_
      refine mx_app rfl rfl rfl (by kernel_rfl) a1 (kp_mk w1b.size fun b hb hx => w1b.block b hb fun e => hx (.inl e)) ?_
      simp only [Act.put, List.setIfInBounds_toArray, List.set_cons_succ, List.set_cons_zero]
      refine mx_take 4 rfl ?_
      simp only [List.take_succ_cons, List.take_zero, List.drop_succ_cons, List.drop_zero]
      repeat (go_big_quiet_step (fail))
      refine wpQuiet_nil ?_
      refine mx_app rfl rfl rfl (by kernel_rfl) b1 (kp_mk w2b.size fun b hb hx => w2b.block b hb hx) ?_
      simp only [Act.put, List.setIfInBounds_toArray, List.set_cons_succ, List.set_cons_zero]
      refine mx_take 1 rfl ?_
      simp only [List.take_succ_cons, List.take_zero, List.drop_succ_cons, List.drop_zero]
      repeat (go_big_quiet_step (fail))
      refine wpQuiet_nil ?_
      simp only [wpMix]
      obtain ⟨⟨_, p1', _, _⟩, pf⟩ := cells4_get hat
      obtain ⟨⟨_, _, p2', _⟩, pf2⟩ := cells4_get mid
      have hsx : w.heap.size + 1 < X.heap.size := DX.out.lt
      have ND := Hid.mk' hN
      have X5 : Wb (fun j => j = w.heap.size + 1 ∨ (some j = (Value.slice ka K kc).ownBlock ∨ some j = (Value.slice va M vc).ownBlock)) X ((wB.setCell ⟨w.heap.size + 1, 1, none⟩ (.slice ua uL uc)).setCell ⟨w.heap.size + 1, 2, none⟩ (.slice xa xL xc)) := ((w2b.mono fun j hj => .inr hj).trans (Wb.set _ _ _ _ (.inl rfl))).trans (Wb.set _ _ _ _ (.inl rfl))
      have ZN := Hid.mk' ((X5.block w.heap.size (by omega) (by rintro (e | e) <;> first | omega | exact hnb2 ZX.out e)).trans ZX.out)
      have BN := Hid.mk' (BX.out.trans (X5.below (D := w.heap.size) (by omega) fun j hj => by
        rcases hj with hj | hj | hj
        · omega
        · exact (DX.out.keys.typed j hj.symm).1
        · exact (DX.out.vals.typed j hj.symm).1))
      clear e1 e2 e3 e4 w1b w2b a1 a2 b1 b2 hat mid hN hnb hnb2 z0 z1 z2 z3 zf b0 b1' b2' b3 bf hd sk1 sk2 hlk X5
      go_wp2_with fail
      go_roundw
      case rel => exact ⟨2, by omega, by go_num, _, _, _, BN.out, ZN.out, ND.out⟩
      case measure => simp [intOf]
    · obtain ⟨ka, K, kc, ek⟩ : ∃ a L c, kv = .slice a L c := by obtain ⟨a, c, e⟩ := obb_slice HJ.out.nd.keys; exact ⟨a, _, c, e⟩
      obtain ⟨va, M, vc, evv⟩ : ∃ a L c, vv = .slice a L c := by obtain ⟨a, c, e⟩ := obb_slice HJ.out.nd.vals; exact ⟨a, _, c, e⟩
      obtain ⟨ca, L, cc, ecv⟩ : ∃ a L c, cv = .slice a L c := by obtain ⟨a, c, e⟩ := own_slice HJ.out.nd.kids; exact ⟨a, _, c, e⟩
      subst ek; subst evv; subst ecv
      obtain ⟨⟨b0, b1, b2, b3⟩, bf⟩ := cells4_get (show wr.heap[w.heap.size + 1]? = some (.cells #[.bool true, .slice ka K kc, .slice va M vc, .slice ca L cc] 37 (0, 0)) from HJ.out.nd.at_)
      obtain ⟨⟨z0, z1, z2, z3⟩, zf⟩ := cells4_get HJ.out.z
      go_wp2_with fail
      have ho := four_wb wr w.heap.size (.bool true) (.slice ka K kc) (.slice va M vc) (.slice ca L cc)
      refine bodyPost_ret (v := .agg #[.bool true, .slice ka K kc, .slice va M vc, .slice ca L cc]) (by simp [results, Try.results32, go_sem, z0, z1, z2, z3]) rfl ?_
      exact ⟨_, rfl, HJ.out.nd.out HJ.out.z ho, HJ.out.bl.trans (ho.below HJ.out.bl.size fun j hj => by subst hj; exact Nat.le_refl _)⟩
end Go.Proofs.Ytfmbbpfklhkljaa
