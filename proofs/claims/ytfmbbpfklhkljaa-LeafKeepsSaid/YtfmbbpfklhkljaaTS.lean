/- leaf.twin: its copies are memory of their own, each apart from all others. leaf.Join of two leaves: its copies apart. leaf.With: its copies apart. leaf.Decode: its rows apart (the plain steps). -/
import Derived.Test.YtfmbbpfklhkljaaFL
import Derived.Test.YtfmbbpfklhkljaaJN
set_option linter.unusedVariables false
set_option linter.unusedSimpArgs false
namespace Go.Proofs.Ytfmbbpfklhkljaa
open Go.RowKit
/-- no block is in both -/
abbrev Ap (u v : Value) : Prop := ∀ k, u.ownBlock = some k → v.ownBlock ≠ some k
/-- the copies made so far -/
structure Gst (B : Nat) (n : Nd) (kv vv : Value) (us xs : List Value) (w : World) : Prop where
  kc : ∀ t (h : t < us.length), ∃ g m c, kv = .slice (some ⟨g, 0, none⟩) m c ∧ w.cell? ⟨g, t, none⟩ = some us[t]
  vc : ∀ t (h : t < xs.length), ∃ g m c, vv = .slice (some ⟨g, 0, none⟩) m c ∧ w.cell? ⟨g, t, none⟩ = some xs[t]
  ke : ∀ t (h : t < us.length) (h' : t < n.keys.length), Ob 5 B w us[t] n.keys[t]
  ve : ∀ t (h : t < xs.length) (h' : t < n.vals.length), Ob 5 B w xs[t] n.vals[t]
  kl : us.length ≤ n.keys.length
  vl : xs.length ≤ n.vals.length
  sp : (us ++ xs).Pairwise Ap
theorem Gst.zero {B : Nat} {n : Nd} {kv vv : Value} {w : World} : Gst B n kv vv [] [] w := ⟨fun t h => by simp at h, fun t h => by simp at h, fun t h => by simp at h, fun t h => by simp at h, by simp, by simp, List.Pairwise.nil⟩
theorem Gst.up {B : Nat} {n : Nd} {kv vv : Value} {us xs : List Value} {w w' : World} (h : Gst B n kv vv us xs w) (hb : Below w.heap.size w w') : Gst B n kv vv us xs w' :=
  ⟨fun t ht => by obtain ⟨g, m, c, e, h1⟩ := h.kc t ht; exact ⟨g, m, c, e, cell_later hb h1⟩, fun t ht => by obtain ⟨g, m, c, e, h1⟩ := h.vc t ht; exact ⟨g, m, c, e, cell_later hb h1⟩, fun t ht ht' => Ob.keep (h.ke t ht ht') hb (Nat.le_refl _), fun t ht ht' => Ob.keep (h.ve t ht ht') hb (Nat.le_refl _), h.kl, h.vl, h.sp⟩
/-- all copies lie below -/
theorem Gst.lt {B : Nat} {n : Nd} {kv vv : Value} {us xs : List Value} {w : World} (h : Gst B n kv vv us xs w) : ∀ v ∈ us ++ xs, ∀ k, v.ownBlock = some k → k < w.heap.size := by
  intro v hv k hk
  rcases List.mem_append.1 hv with hv | hv
  · obtain ⟨t, ht, rfl⟩ := List.mem_iff_getElem.1 hv
    exact ((h.ke t ht (Nat.lt_of_lt_of_le ht h.kl)).lt k hk).2
  · obtain ⟨t, ht, rfl⟩ := List.mem_iff_getElem.1 hv
    exact ((h.ve t ht (Nat.lt_of_lt_of_le ht h.vl)).lt k hk).2
theorem ap_snoc {l : List Value} {u : Value} {N : Nat} (h : l.Pairwise Ap) (h1 : ∀ v ∈ l, ∀ k, v.ownBlock = some k → k < N) (h2 : ∀ k, u.ownBlock = some k → N ≤ k) : (l ++ [u]).Pairwise Ap := by
  refine List.pairwise_append.2 ⟨h, List.pairwise_singleton _ _, fun a ha b hb k hk e => ?_⟩
  simp only [List.mem_singleton] at hb
  subst hb
  have := h1 a ha k hk
  have := h2 k e
  omega
theorem ob_set32 {B : Nat} {w : World} {v u : Value} {l : List UInt8} {g k : Nat} {cur : Array Value} {fr : Nat × Nat} (h : Ob 5 B w v l) (hg : w.heap[g]? = some (.cells cur 32 fr)) : Ob 5 B (w.setCell ⟨g, k, none⟩ u) v l :=
  own_wb h (Wb.set (X := fun j => j = g) w g k u rfl) fun j hj e => by
    subst hj
    obtain ⟨_, _, _, h1⟩ := own_typed h j e.symm
    exact absurd (typed_ne h1 hg) (by decide)
/-- one more key is copied -/
theorem Gst.key {B g m c : Nat} {n : Nd} {vv u : Value} {us : List Value} {w w5 : World} {cur : Array Value} (h : Gst B n (.slice (some ⟨g, 0, none⟩) m c) vv us [] w) (hb : Below w.heap.size w w5) (hg : w5.heap[g]? = some (.cells cur 32 (0, 0))) (hc : us.length < cur.size) (hk : us.length < n.keys.length) (hu : Ob 5 w.heap.size w5 u n.keys[us.length]) (hB : B ≤ w.heap.size) :
    Gst B n (.slice (some ⟨g, 0, none⟩) m c) vv (us ++ [u]) [] (w5.setCell ⟨g, us.length, none⟩ u) := by
  have h5 := h.up hb
  refine ⟨fun t ht => ⟨g, m, c, rfl, ?_⟩, fun t ht => by simp at ht, fun t ht ht' => ?_, fun t ht => by simp at ht, by simp; omega, by simp, ?_⟩
  · by_cases e : t < us.length
    · obtain ⟨g', m', c', e', h1⟩ := h5.kc t e
      cases e'
      rw [List.getElem_append_left e]
      have h6 := heap_setCell_same w5 g us.length cur 32 u hg
      simp only [World.cell?, hg] at h1
      simp only [World.cell?, h6]
      rw [Array.getElem?_setIfInBounds_ne (by omega)]
      exact h1
    · have e2 : t = us.length := by simp at ht; omega
      subst e2
      rw [List.getElem_append_right (Nat.le_refl _)]
      simp only [Nat.sub_self, List.getElem_cons_zero]
      have h6 := heap_setCell_same w5 g us.length cur 32 u hg
      simp only [World.cell?, h6]
      simp [hc]
  · by_cases e : t < us.length
    · rw [List.getElem_append_left e]; exact ob_set32 (h5.ke t e ht') hg
    · have e2 : t = us.length := by simp at ht; omega
      subst e2
      rw [List.getElem_append_right (Nat.le_refl _)]
      simp only [Nat.sub_self, List.getElem_cons_zero]
      exact ob_set32 (hu.mono hB) hg
  · have := ap_snoc (l := us ++ []) (u := u) (N := w.heap.size) h.sp h.lt fun k hk => (hu.lt k hk).1
    simpa using this
/-- one more value is copied -/
theorem Gst.val {B g m c : Nat} {n : Nd} {kv u : Value} {us xs : List Value} {w w5 : World} {cur : Array Value} (h : Gst B n kv (.slice (some ⟨g, 0, none⟩) m c) us xs w) (hb : Below w.heap.size w w5) (hg : w5.heap[g]? = some (.cells cur 32 (0, 0))) (hc : xs.length < cur.size) (hk : xs.length < n.vals.length) (hu : Ob 5 w.heap.size w5 u n.vals[xs.length]) (hB : B ≤ w.heap.size) (hkv : kv.ownBlock ≠ some g) :
    Gst B n kv (.slice (some ⟨g, 0, none⟩) m c) us (xs ++ [u]) (w5.setCell ⟨g, xs.length, none⟩ u) := by
  have h5 := h.up hb
  refine ⟨fun t ht => ?_, fun t ht => ⟨g, m, c, rfl, ?_⟩, fun t ht ht' => ob_set32 (h5.ke t ht ht') hg, fun t ht ht' => ?_, h.kl, by simp; omega, ?_⟩
  · obtain ⟨g', m', c', e', h1⟩ := h5.kc t ht
    refine ⟨g', m', c', e', ?_⟩
    rw [World.cell?_setCell_far w5 ⟨g, xs.length, none⟩ ⟨g', t, none⟩ u (fun e => hkv (by rw [e']; exact congrArg some e.symm))]
    exact h1
  · by_cases e : t < xs.length
    · obtain ⟨g', m', c', e', h1⟩ := h5.vc t e
      cases e'
      rw [List.getElem_append_left e]
      have h6 := heap_setCell_same w5 g xs.length cur 32 u hg
      simp only [World.cell?, hg] at h1
      simp only [World.cell?, h6]
      rw [Array.getElem?_setIfInBounds_ne (by omega)]
      exact h1
    · have e2 : t = xs.length := by simp at ht; omega
      subst e2
      rw [List.getElem_append_right (Nat.le_refl _)]
      simp only [Nat.sub_self, List.getElem_cons_zero]
      have h6 := heap_setCell_same w5 g xs.length cur 32 u hg
      simp only [World.cell?, h6]
      simp [hc]
  · by_cases e : t < xs.length
    · rw [List.getElem_append_left e]; exact ob_set32 (h5.ve t e ht') hg
    · have e2 : t = xs.length := by simp at ht; omega
      subst e2
      rw [List.getElem_append_right (Nat.le_refl _)]
      simp only [Nat.sub_self, List.getElem_cons_zero]
      exact ob_set32 (hu.mono hB) hg
  · have := ap_snoc (l := us ++ xs) (u := u) (N := w.heap.size) h.sp h.lt fun k hk => (hu.lt k hk).1
    simpa using this
/-- a block of four cells is written -/
theorem Gst.q {B q : Nat} {n : Nd} {kv vv : Value} {us xs : List Value} {w w' : World} {x : Array Value} (h : Gst B n kv vv us xs w) (hr : w.heap[q]? = some (.cells x 37 (0, 0))) (hs : Wb (fun k => k = q) w w') (hk : kv.ownBlock ≠ some q) (hv : vv.ownBlock ≠ some q) : Gst B n kv vv us xs w' := by
  have hc : ∀ {g t : Nat} {u : Value}, g ≠ q → w.cell? ⟨g, t, none⟩ = some u → w'.cell? ⟨g, t, none⟩ = some u := fun hne h1 => by
    have hlt := World.block_lt_of_cell? w ⟨_, _, none⟩ h1
    rw [World.cell?_of_block (w := w) (a := ⟨_, _, none⟩) (hs.block _ hlt hne)]; exact h1
  have ho : ∀ {v : Value} {l : List UInt8}, Ob 5 B w v l → Ob 5 B w' v l := fun ho => own_wb ho hs fun j hj e => by
    subst hj
    obtain ⟨_, _, _, h1⟩ := own_typed ho j e.symm
    exact absurd (typed_ne h1 hr) (by decide)
  exact ⟨fun t ht => by obtain ⟨g, m, c, e, h1⟩ := h.kc t ht; exact ⟨g, m, c, e, hc (fun e2 => hk (by rw [e]; exact congrArg some e2)) h1⟩, fun t ht => by obtain ⟨g, m, c, e, h1⟩ := h.vc t ht; exact ⟨g, m, c, e, hc (fun e2 => hv (by rw [e]; exact congrArg some e2)) h1⟩, fun t ht ht' => ho (h.ke t ht ht'), fun t ht ht' => ho (h.ve t ht ht'), h.kl, h.vl, h.sp⟩
/-- what is known of the copy -/
def SepN (B : Nat) (w : World) (v : Value) (n : Nd) : Prop := ∃ kv vv cv us xs, v = .agg #[.bool n.leaf, kv, vv, cv] ∧ us.length = n.keys.length ∧ xs.length = n.vals.length ∧ Gst B n kv vv us xs w
theorem Gst.mono {B B' : Nat} {n : Nd} {kv vv : Value} {us xs : List Value} {w : World} (h : Gst B n kv vv us xs w) (hB : B' ≤ B) : Gst B' n kv vv us xs w :=
  ⟨h.kc, h.vc, fun t a b => (h.ke t a b).mono hB, fun t a b => (h.ve t a b).mono hB, h.kl, h.vl, h.sp⟩
theorem SepN.get {B : Nat} {w : World} {l : Bool} {kv vv cv : Value} {n : Nd} (h : SepN B w (.agg #[.bool l, kv, vv, cv]) n) : ∃ us xs, us.length = n.keys.length ∧ xs.length = n.vals.length ∧ Gst B n kv vv us xs w := by
  obtain ⟨_, _, _, us, xs, e, h1, h2, h3⟩ := h
  simp only [Value.agg.injEq, Array.mk.injEq, List.cons.injEq, and_true] at e
  obtain ⟨_, rfl, rfl, rfl⟩ := e
  exact ⟨us, xs, h1, h2, h3⟩
theorem SepN.up {B : Nat} {w w' : World} {v : Value} {n : Nd} (h : SepN B w v n) (hb : Below w.heap.size w w') : SepN B w' v n := by
  obtain ⟨_, _, _, us, xs, e, h1, h2, h3⟩ := h
  exact ⟨_, _, _, us, xs, e, h1, h2, h3.up hb⟩
theorem SepN.mono {B B' : Nat} {w : World} {v : Value} {n : Nd} (h : SepN B w v n) (hB : B' ≤ B) : SepN B' w v n := by
  obtain ⟨_, _, _, us, xs, e, h1, h2, h3⟩ := h
  exact ⟨_, _, _, us, xs, e, h1, h2, h3.mono hB⟩
theorem SepN.q {B B' q : Nat} {w w' : World} {v : Value} {n : Nd} {x : Array Value} (h : SepN B w v n) (ho : OwnN B' w v n) (hr : w.heap[q]? = some (.cells x 37 (0, 0))) (hs : Wb (fun k => k = q) w w') : SepN B w' v n := by
  obtain ⟨kv, vv, cv, us, xs, e, h1, h2, h3⟩ := h
  obtain ⟨_, _, _, e', k1, k2, _⟩ := ho
  rw [e] at e'
  simp only [Value.agg.injEq, Array.mk.injEq, List.cons.injEq, and_true, true_and] at e'
  obtain ⟨rfl, rfl, rfl⟩ := e'
  exact ⟨_, _, _, us, xs, e, h1, h2, h3.q hr hs (fun e => by obtain ⟨_, _, _, h1⟩ := k1.typed _ e; exact absurd (typed_ne h1 hr) (by decide)) (fun e => by obtain ⟨_, _, _, h1⟩ := k2.typed _ e; exact absurd (typed_ne h1 hr) (by decide))⟩
theorem Rw.curs {D B k g m c : Nat} {w : World} {l : List (List UInt8)} (h : Rw D B k w (.slice (some ⟨g, 0, none⟩) m c) l) : ∃ cur, w.heap[g]? = some (.cells cur 32 (0, 0)) ∧ l.length ≤ cur.size := by
  obtain ⟨vs, h1, _⟩ := h
  obtain ⟨_, h | ⟨g', cap', cur, hv, _, hg, hn, _, hs, _⟩⟩ := h1
  · cases h.1
  · cases hv
    exact ⟨cur, hg, by omega⟩
set_option maxRecDepth 100000 in
set_option maxHeartbeats 4000000 in
/-- leaf.twin, with its copies apart -/
theorem twin_sep {A : Nat → Prop} {w : World} {v : Value} {n : Nd} (h : RN A w v n) : Calls Try.prog 74 #[v] w fun e w' => ∃ v', e = .returned v' ∧ OwnN w.heap.size w' v' n ∧ Below w.heap.size w w' ∧ SepN w.heap.size w' v' n := by
  have HSM := Hid.mk' h.sm
  obtain ⟨k, u, c, rfl, h1, h2, h3⟩ := h.toLt
  obtain ⟨a1, c1, rfl, _⟩ := h1.at
  obtain ⟨a2, c2, rfl, _⟩ := h2.at
  obtain ⟨a3, c3, rfl, _⟩ := h3.at
  obtain ⟨ks, r1, s1, l1⟩ := h1
  obtain ⟨us, r2, s2, l2⟩ := h2
  have R1 := Hid.mk' r1
  have S1 := Hid.mk' s1
  have R2 := Hid.mk' r2
  have S2 := Hid.mk' s2
  have R3 := Hid.mk' h3
  have hl1 : n.keys.length * 24 ≤ 140737488351232 := l1
  have hl2 : n.vals.length * 24 ≤ 140737488351232 := l2
  clear h r1 s1 r2 s2 h3
  go_enter Try.func74, Try.ntmps74
  go_wp2_with fail
  obtain ⟨W1, hW1⟩ : ∃ W1, W1 = w.alloc (.cells #[.bool n.leaf, .slice a1 n.keys.length c1, .slice a2 n.vals.length c2, .slice a3 n.kids.length c3] 37) := ⟨_, rfl⟩
  have hb1 : Below w.heap.size w W1 := by rw [hW1]; exact up_alloc _ _
  have hx1 : W1.heap[w.heap.size]? = some (.cells #[.bool n.leaf, .slice a1 n.keys.length c1, .slice a2 n.vals.length c2, .slice a3 n.kids.length c3] 37 (0, 0)) := by rw [hW1]; exact heap_alloc_new w _
  have hsz1 : W1.heap.size = w.heap.size + 1 := by rw [hW1]; simp
  obtain ⟨V, hV⟩ : ∃ V, V = W1.alloc (.cells #[.bool false, .slice none 0 0, .slice none 0 0, .slice none 0 0] 37) := ⟨_, rfl⟩
  have hb2 : Below W1.heap.size W1 V := by rw [hV]; exact up_alloc _ _
  have hx2 : V.heap[w.heap.size]? = some (.cells #[.bool n.leaf, .slice a1 n.keys.length c1, .slice a2 n.vals.length c2, .slice a3 n.kids.length c3] 37 (0, 0)) := by rw [hb2.block _ (by omega)]; exact hx1
  have hz2 : V.heap[w.heap.size + 1]? = some (.cells zr 37 (0, 0)) := by rw [hV, ← hsz1]; exact heap_alloc_new W1 _
  have hszV : V.heap.size = w.heap.size + 2 := by rw [hV]; simp; omega
  have HBV := Hid.mk' (bt hb1 hb2)
  have he : ((w.alloc (.cells #[.bool n.leaf, .slice a1 n.keys.length c1, .slice a2 n.vals.length c2, .slice a3 n.kids.length c3] 37)).alloc (.cells #[.bool false, .slice none 0 0, .slice none 0 0, .slice none 0 0] 37)) = V := by rw [hV, hW1]
  rw [he]
  clear he hV hW1 hb1 hb2 hx1 hsz1 W1
  obtain ⟨⟨b0, b1, b2, b3⟩, bf⟩ := cells4_get hx2
  have q0 : ∀ q : Kp (fun _ => False) V, q.nx.cell? ⟨w.heap.size, 1, none⟩ = some _ := fun q => q.cell b1 (fun h => h)
  have q1 : ∀ q : Kp (fun _ => False) V, q.nx.cell? ⟨w.heap.size, 2, none⟩ = some _ := fun q => q.cell b2 (fun h => h)
  have q2 : ∀ q : Kp (fun _ => False) V, q.nx.cell? ⟨w.heap.size, 3, none⟩ = some _ := fun q => q.cell b3 (fun h => h)
  have HV0 : Hid (Below V.heap.size V V.drew) := ⟨rfl, rfl, rfl, Nat.le_refl _, fun _ _ => rfl⟩
  refine wp_region_nix 14 (fun w' => ∃ q : Kp (fun _ => False) V, w' = q.nx) (fun w' => ∃ q : Kp (fun _ => True) V, w' = q.nx) (by kernel_rfl) (by kernel_rfl) (fun _ h => kp_all h) (kp_first _ V) ?_
  simp only [List.take_succ_cons, List.take_zero, List.drop_succ_cons, List.drop_zero]
  refine nx_pure rfl rfl ?_
  go_big_quiet_step (fail)
  refine wpQuiet_nil ?_
  refine nx_load rfl rfl ?_
  go_big_quiet_step (fail)
  refine wpQuiet_nil ?_
  refine nx_call (vals := [.slice a1 n.keys.length c1]) Try.func98 (by kernel_rfl) rfl rfl (by kernel_rfl) (by kernel_rfl) (clone98_any (R1.out.up (bt HBV.out HV0.out)) S1.out.one l1) (fun e w1 hp1 => ?_)
  obtain ⟨v1, rfl, o1, h1⟩ := hp1
  have HV1 := Hid.mk' (bt HV0.out h1)
  refine ⟨_, rfl, kp_mk HV1.out.size fun b hb _ => HV1.out.block b hb, ?_⟩
  simp only [Act.put, List.setIfInBounds_toArray, List.set_cons_succ, List.set_cons_zero]
  refine nx_pure rfl rfl ?_
  go_big_quiet_step (fail)
  refine wpQuiet_nil ?_
  refine nx_load rfl rfl ?_
  go_big_quiet_step (fail)
  refine wpQuiet_nil ?_
  refine nx_call (vals := [.slice a2 n.vals.length c2]) Try.func98 (by kernel_rfl) rfl rfl (by kernel_rfl) (by kernel_rfl) (clone98_any (R2.out.up (bt HBV.out HV1.out)) S2.out.one l2) (fun e w2 hp2 => ?_)
  obtain ⟨v2, rfl, o2, h2⟩ := hp2
  have HV2 := Hid.mk' (bt HV1.out h2)
  refine ⟨_, rfl, kp_mk HV2.out.size fun b hb _ => HV2.out.block b hb, ?_⟩
  simp only [Act.put, List.setIfInBounds_toArray, List.set_cons_succ, List.set_cons_zero]
  refine nx_pure rfl rfl ?_
  go_big_quiet_step (fail)
  refine wpQuiet_nil ?_
  refine nx_load rfl rfl ?_
  go_big_quiet_step (fail)
  refine wpQuiet_nil ?_
  refine nx_call (vals := [.slice a3 n.kids.length c3]) Try.func99 (by kernel_rfl) rfl rfl (by kernel_rfl) (by kernel_rfl) (clone99_any (R3.out.up (bt HBV.out HV2.out))) (fun e w3 hp3 => ?_)
  obtain ⟨v3, rfl, o3, h3⟩ := hp3
  have HV3 := Hid.mk' (bt HV2.out h3)
  refine ⟨_, rfl, kp_mk HV3.out.size fun b hb _ => HV3.out.block b hb, ?_⟩
  simp only [Act.put, List.setIfInBounds_toArray, List.set_cons_succ, List.set_cons_zero]
  have hsV3 : w.heap.size + 2 ≤ w3.heap.size := by have := HV3.out.size; omega
  have hap : ∀ k, v1.ownBlock = some k → v2.ownBlock ≠ some k := own_ne o1 o2
  have hsd : V.drew.heap.size = w.heap.size + 2 := hszV
  have o1' := own_mono (own_keep (own_keep o1 h2 (Nat.le_refl _)) h3 (Nat.le_refl _)) (show w.heap.size + 2 ≤ _ from Nat.le_of_eq hsd.symm)
  have o2' := own_mono (own_keep o2 h3 (Nat.le_refl _)) (show w.heap.size + 2 ≤ _ from by have := HV1.out.size; omega)
  have o3' := own_mono o3 (show w.heap.size + 2 ≤ _ from by have := HV2.out.size; omega)
  obtain ⟨e1, d1, ef1⟩ := own_slice o1
  obtain ⟨e2, d2, ef2⟩ := own_slice o2
  obtain ⟨e3, d3, ef3⟩ := own_slice o3
  subst ef1; subst ef2; subst ef3
  have hx3 : w3.heap[w.heap.size]? = some (.cells #[.bool n.leaf, .slice a1 n.keys.length c1, .slice a2 n.vals.length c2, .slice a3 n.kids.length c3] 37 (0, 0)) := by rw [HV3.out.block _ (by omega)]; exact hx2
  have y1 := cells4_set (o := 1) (u := .slice e1 n.keys.length d1) hx3
  have y2 := cells4_set (o := 2) (u := .slice e2 n.vals.length d2) y1
  have y3 := cells4_set (o := 3) (u := .slice e3 n.kids.length d3) y2
  obtain ⟨⟨_, p1, _, _⟩, pf⟩ := cells4_get hx3
  obtain ⟨⟨_, _, p2, _⟩, pf2⟩ := cells4_get y1
  obtain ⟨⟨_, _, _, p3⟩, pf3⟩ := cells4_get y2
  refine nx_pure rfl rfl ?_
  go_big_quiet_step (fail)
  refine wpQuiet_nil ?_
  refine nx_store rfl rfl (by kernel_rfl) (exec_store28 rfl rfl rfl p1 (pf 1)) (kp_any (by rw [size_setCell]; exact HV3.out.size)) ?_
  simp only [Act.put]
  refine nx_pure rfl rfl ?_
  go_big_quiet_step (fail)
  refine wpQuiet_nil ?_
  refine nx_store rfl rfl (by kernel_rfl) (exec_store28 rfl rfl rfl p2 (pf2 2)) (kp_any (by rw [size_setCell, size_setCell]; exact HV3.out.size)) ?_
  simp only [Act.put]
  refine nx_pure rfl rfl ?_
  go_big_quiet_step (fail)
  refine wpQuiet_nil ?_
  simp only [wpNix]
  have X4 : Hid (Wb (fun k => k = w.heap.size) w3 (((w3.setCell ⟨w.heap.size, 1, none⟩ (.slice e1 n.keys.length d1)).setCell ⟨w.heap.size, 2, none⟩ (.slice e2 n.vals.length d2)).setCell ⟨w.heap.size, 3, none⟩ (.slice e3 n.kids.length d3))) :=
    ((Wb.set (X := fun k => k = w.heap.size) _ _ _ _ rfl).trans (Wb.set (X := fun k => k = w.heap.size) _ _ _ _ rfl)).trans (Wb.set (X := fun k => k = w.heap.size) _ _ _ _ rfl)
  have Y4 := Hid.mk' y3
  have O1 := Hid.mk' o1'
  have O2 := Hid.mk' o2'
  have O3 := Hid.mk' o3'
  clear o1 o2 o3 h1 h2 h3 o1' o2' o3' y1 y2 y3 p1 pf p2 pf2 q0 q1 q2 b0 b1 b2 b3 bf
  have p3' := p3
  have pf3' := pf3 3
  have T0 : Hid (Tst w n (.slice e1 n.keys.length d1) (.slice e2 n.vals.length d2) (.slice e3 n.kids.length d3) 0 0 (((w3.setCell ⟨w.heap.size, 1, none⟩ (.slice e1 n.keys.length d1)).setCell ⟨w.heap.size, 2, none⟩ (.slice e2 n.vals.length d2)).setCell ⟨w.heap.size, 3, none⟩ (.slice e3 n.kids.length d3))) := by
    have hb := bt HBV.out HV3.out
    have hty : ∀ b, b = w.heap.size → ∃ cur fr, w3.heap[b]? = some (.cells cur 37 fr) := fun b e => by subst e; exact ⟨_, _, hx3⟩
    have hrw : ∀ {v : Value} {l : List (List UInt8)} {vs : List Value}, w3.ownsRow (w.heap.size + 2) 32 1 v l.length vs → Each (Lt w.heap.size) w vs l → Rw w.heap.size (w.heap.size + 2) 0 (((w3.setCell ⟨w.heap.size, 1, none⟩ (.slice e1 n.keys.length d1)).setCell ⟨w.heap.size, 2, none⟩ (.slice e2 n.vals.length d2)).setCell ⟨w.heap.size, 3, none⟩ (.slice e3 n.kids.length d3)) v l := fun ho hs =>
      (Rw.zero ho (hs.up hb)).wb X4.out hb.size fun b hb' => by
        obtain ⟨cu, f, ht⟩ := hty b hb'
        refine ⟨fun e => ?_, fun cu' f' h1 => absurd (typed_ne ht h1) (by decide), by omega⟩
        obtain ⟨_, _, _, h1⟩ := own_typed ho b e.symm
        exact absurd (typed_ne ht h1) (by decide)
    refine ⟨hb.trans (X4.out.below hb.size fun b hb' => by omega), Y4.out, ?_, hrw O1.out S1.out, hrw O2.out S2.out, own_wb O3.out X4.out fun b hb' e => ?_⟩
    · rw [X4.out.block _ (by omega) (by omega), HV3.out.block _ (by omega)]; exact hz2
    · obtain ⟨cu, f, ht⟩ := hty b hb'
      obtain ⟨_, _, _, h1⟩ := own_typed O3.out b e.symm
      exact absurd (typed_ne ht h1) (by decide)
  have HAP := Hid.mk' hap
  obtain ⟨⟨b0, b1, b2, b3⟩, bf⟩ := cells4_get Y4.out
  go_wp2_with fail
  clear b0 b1 b2 b3 bf p3 p3' pf3 pf3' hap hx3 X4 Y4 O1 O2 O3 HV1 HV2 HV3 hx2 hz2
  generalize (((w3.setCell ⟨w.heap.size, 1, none⟩ (.slice e1 n.keys.length d1)).setCell ⟨w.heap.size, 2, none⟩ (.slice e2 n.vals.length d2)).setCell ⟨w.heap.size, 3, none⟩ (.slice e3 n.kids.length d3)) = w4 at *
  go_loopw [22] (fun i wr => ∃ k : Nat, k ≤ n.keys.length ∧ i = .int .i64 k ∧ Hid (Tst w n (.slice e1 n.keys.length d1) (.slice e2 n.vals.length d2) (.slice e3 n.kids.length d3) k 0 wr) ∧ ∃ us : List Value, Hid (us.length = k ∧ Gst w.heap.size n (.slice e1 n.keys.length d1) (.slice e2 n.vals.length d2) us [] wr)) (fun i _ => n.keys.length - (intOf i).toNat)
  case atStart => exact ⟨0, by omega, rfl, T0, [], rfl, Gst.zero⟩
  case round =>
    obtain ⟨k, hk, rfl, HT, us, HU⟩ := hrel
    obtain ⟨⟨b0, b1, b2, b3⟩, bf⟩ := cells4_get HT.out.at_
    by_cases hlt : k < n.keys.length
    · have hlt' : (k : Int) < (n.keys.length : Int) := by omega
      obtain ⟨g, x, rfl, _, hu, hfz, hx⟩ := HT.out.keys.at hlt
      have HX := Hid.mk' hx
      have hkap := HAP.out
      clear hx
      go_wp2_with fail
      have q0 : ∀ q : Kp (fun _ => False) wr, q.nx.cell? ⟨w.heap.size, 1, none⟩ = some _ := fun q => q.cell b1 (fun h => h)
      refine wp_region_mix 6 (fun w' => ∃ q : Kp (fun _ => False) wr, w' = q.nx) (by kernel_rfl) (by kernel_rfl) (kp_first _ wr) ?_
      simp only [List.take_succ_cons, List.take_zero, List.drop_succ_cons, List.drop_zero]
      refine mx_take 4 rfl ?_
      simp only [List.take_succ_cons, List.take_zero, List.drop_succ_cons, List.drop_zero]
      repeat (go_big_quiet_step (fail))
      refine wpQuiet_nil ?_
      have hdw : Below wr.heap.size wr wr.drew := ⟨rfl, rfl, rfl, Nat.le_refl _, fun _ _ => rfl⟩
      refine mx_call (vals := [x]) Try.func76 (by kernel_rfl) rfl rfl (by kernel_rfl) (by kernel_rfl) (clone_any _ _ _ (HX.out.up hdw)) (fun e w5 hp5 => ?_)
      obtain ⟨v5, rfl, h5, o5⟩ := hp5
      have h5' := bt hdw h5
      refine ⟨_, rfl, kp_mk h5'.size fun b hb _ => h5'.block b hb, ?_⟩
      simp only [Act.put, List.setIfInBounds_toArray, List.set_cons_succ, List.set_cons_zero]
      refine mx_take 1 rfl ?_
      simp only [List.take_succ_cons, List.take_zero, List.drop_succ_cons, List.drop_zero]
      repeat (go_big_quiet_step (fail))
      refine wpQuiet_nil ?_
      simp only [wpMix]
      obtain ⟨a5, c5, e5, _⟩ := (o5.bs HX.out.2).at
      obtain ⟨hus, hG⟩ := HU.out
      obtain ⟨cur, hcur, hcs⟩ := (HT.out.up h5').keys.curs
      have HU5 : Hid ((us ++ [v5]).length = k + 1 ∧ Gst w.heap.size n (.slice (some ⟨g, 0, none⟩) n.keys.length d1) (.slice e2 n.vals.length d2) (us ++ [v5]) [] (w5.setCell ⟨g, k, none⟩ v5)) := by
        subst hus
        exact ⟨by simp, Gst.key hG h5' hcur (by omega) hlt o5 HT.out.bl.size⟩
      clear hG hcur hcs
      have HT5 := Hid.mk' ((HT.out.up h5').key hkap hlt (Bs.td (B := 0) o5 HX.out.2))
      have hu5 := cell_later h5' hu
      have hf5 : w5.frozen? ⟨g, k, none⟩ = false := by rw [h5'.frozen (p := ⟨g, k, none⟩) (World.block_lt_of_cell? wr ⟨g, k, none⟩ hu)]; exact hfz
      subst e5
      clear b0 b1 b2 b3 bf q0 h5 h5' o5 hu hfz hdw
      go_wp2_with fail
      go_roundw
      case rel => exact ⟨k + 1, by omega, by go_num, HT5, _, HU5⟩
      case measure => simp [intOf]; omega
    · obtain rfl : k = n.keys.length := by omega
      go_wp2_with fail
      have T0 := HT
      clear b0 b1 b2 b3 bf
      rename World => wv
      go_loopw [37] (fun i wr => ∃ k : Nat, k ≤ n.vals.length ∧ i = .int .i64 k ∧ Hid (Tst w n (.slice e1 n.keys.length d1) (.slice e2 n.vals.length d2) (.slice e3 n.kids.length d3) n.keys.length k wr) ∧ ∃ xs : List Value, Hid (xs.length = k ∧ Gst w.heap.size n (.slice e1 n.keys.length d1) (.slice e2 n.vals.length d2) us xs wr)) (fun i _ => n.vals.length - (intOf i).toNat)
      case atStart => exact ⟨0, by omega, rfl, T0, [], rfl, HU.out.2⟩
      case round =>
        obtain ⟨k, hk, rfl, HT, xs, HV⟩ := hrel
        obtain ⟨⟨b0, b1, b2, b3⟩, bf⟩ := cells4_get HT.out.at_
        by_cases hlt : k < n.vals.length
        · have hlt' : (k : Int) < (n.vals.length : Int) := by omega
          obtain ⟨g, x, rfl, _, hu, hfz, hx⟩ := HT.out.vals.at hlt
          have HX := Hid.mk' hx
          have hkap := HAP.out
          clear hx
          go_wp2_with fail
          have q0 : ∀ q : Kp (fun _ => False) wr, q.nx.cell? ⟨w.heap.size, 2, none⟩ = some _ := fun q => q.cell b2 (fun h => h)
          refine wp_region_mix 6 (fun w' => ∃ q : Kp (fun _ => False) wr, w' = q.nx) (by kernel_rfl) (by kernel_rfl) (kp_first _ wr) ?_
          simp only [List.take_succ_cons, List.take_zero, List.drop_succ_cons, List.drop_zero]
          refine mx_take 4 rfl ?_
          simp only [List.take_succ_cons, List.take_zero, List.drop_succ_cons, List.drop_zero]
          repeat (go_big_quiet_step (fail))
          refine wpQuiet_nil ?_
          have hdw : Below wr.heap.size wr wr.drew := ⟨rfl, rfl, rfl, Nat.le_refl _, fun _ _ => rfl⟩
          refine mx_call (vals := [x]) Try.func76 (by kernel_rfl) rfl rfl (by kernel_rfl) (by kernel_rfl) (clone_any _ _ _ (HX.out.up hdw)) (fun e w5 hp5 => ?_)
          obtain ⟨v5, rfl, h5, o5⟩ := hp5
          have h5' := bt hdw h5
          refine ⟨_, rfl, kp_mk h5'.size fun b hb _ => h5'.block b hb, ?_⟩
          simp only [Act.put, List.setIfInBounds_toArray, List.set_cons_succ, List.set_cons_zero]
          refine mx_take 1 rfl ?_
          simp only [List.take_succ_cons, List.take_zero, List.drop_succ_cons, List.drop_zero]
          repeat (go_big_quiet_step (fail))
          refine wpQuiet_nil ?_
          simp only [wpMix]
          obtain ⟨a5, c5, e5, _⟩ := (o5.bs HX.out.2).at
          obtain ⟨hxs, hG⟩ := HV.out
          obtain ⟨cur, hcur, hcs⟩ := (HT.out.up h5').vals.curs
          have HU5 : Hid ((xs ++ [v5]).length = k + 1 ∧ Gst w.heap.size n (.slice e1 n.keys.length d1) (.slice (some ⟨g, 0, none⟩) n.vals.length d2) us (xs ++ [v5]) (w5.setCell ⟨g, k, none⟩ v5)) := by
            subst hxs
            exact ⟨by simp, Gst.val hG h5' hcur (by omega) hlt o5 HT.out.bl.size (fun e => hkap _ e rfl)⟩
          clear hG hcur hcs
          have HT5 := Hid.mk' ((HT.out.up h5').val hkap hlt (Bs.td (B := 0) o5 HX.out.2))
          have hu5 := cell_later h5' hu
          have hf5 : w5.frozen? ⟨g, k, none⟩ = false := by rw [h5'.frozen (p := ⟨g, k, none⟩) (World.block_lt_of_cell? wr ⟨g, k, none⟩ hu)]; exact hfz
          subst e5
          clear b0 b1 b2 b3 bf q0 h5 h5' o5 hu hfz hdw
          go_wp2_with fail
          go_roundw
          case rel => exact ⟨k + 1, by omega, by go_num, HT5, _, HU5⟩
          case measure => simp [intOf]; omega
        · obtain rfl : k = n.vals.length := by omega
          have hz5 : wr.heap[w.heap.size + 1]? = some (.cells #[.bool false, .slice none 0 0, .slice none 0 0, .slice none 0 0] 37 (0, 0)) := HT.out.z
          obtain ⟨⟨z0, z1, z2, z3⟩, zf⟩ := cells4_get hz5
          go_wp2_with fail
          refine bodyPost_ret (v := .agg #[.bool n.leaf, .slice e1 n.keys.length d1, .slice e2 n.vals.length d2, .slice e3 n.kids.length d3]) (by simp [results, Try.results74, go_sem, z0, z1, z2, z3]) rfl ?_
          have hset : Wb (fun k => k = w.heap.size + 1) wr ((((wr.setCell ⟨w.heap.size + 1, 0, none⟩ (.bool n.leaf)).setCell ⟨w.heap.size + 1, 1, none⟩ (.slice e1 n.keys.length d1)).setCell ⟨w.heap.size + 1, 2, none⟩ (.slice e2 n.vals.length d2)).setCell ⟨w.heap.size + 1, 3, none⟩ (.slice e3 n.kids.length d3)) :=
            (((Wb.set (X := fun k => k = w.heap.size + 1) _ _ _ _ rfl).trans (Wb.set (X := fun k => k = w.heap.size + 1) _ _ _ _ rfl)).trans (Wb.set (X := fun k => k = w.heap.size + 1) _ _ _ _ rfl)).trans (Wb.set (X := fun k => k = w.heap.size + 1) _ _ _ _ rfl)
          have hob : ∀ {v : Value} {ls : List (List UInt8)}, Obb 0 (w.heap.size + 2) wr v ls → Obb 0 w.heap.size ((((wr.setCell ⟨w.heap.size + 1, 0, none⟩ (.bool n.leaf)).setCell ⟨w.heap.size + 1, 1, none⟩ (.slice e1 n.keys.length d1)).setCell ⟨w.heap.size + 1, 2, none⟩ (.slice e2 n.vals.length d2)).setCell ⟨w.heap.size + 1, 3, none⟩ (.slice e3 n.kids.length d3)) v ls := fun ho => (ho.wb hset fun k hk => by
            subst hk
            exact ⟨fun e => by obtain ⟨_, _, _, h1⟩ := ho.typed _ e.symm; exact absurd (typed_ne h1 hz5) (by decide), fun cur fr h1 => absurd (typed_ne h1 hz5) (by decide)⟩).mono0' (by omega)
          refine ⟨_, rfl, ⟨_, _, _, rfl, hob (HT.out.keys.full (Nat.le_refl _)), hob (HT.out.vals.full (Nat.le_refl _)), own_mono (own_wb HT.out.kids hset fun k hk e => ?_) (by omega), HAP.out⟩, HT.out.bl.trans (hset.below HT.out.bl.size fun k hk => by subst hk; omega), ⟨_, _, _, us, xs, rfl, HU.out.1, HV.out.1, Gst.q HV.out.2 hz5 hset (fun e => by obtain ⟨_, _, _, h1⟩ := HT.out.keys.typed _ e; exact absurd (typed_ne h1 hz5) (by decide)) (fun e => by obtain ⟨_, _, _, h1⟩ := HT.out.vals.typed _ e; exact absurd (typed_ne h1 hz5) (by decide))⟩⟩
          subst hk
          obtain ⟨_, _, _, h1⟩ := own_typed HT.out.kids _ e.symm
          exact absurd (typed_ne h1 hz5) (by decide)
set_option maxRecDepth 100000 in
set_option maxHeartbeats 4000000 in
/-- leaf.Without -/
theorem without_sep {A : Nat → Prop} {w : World} {v : Value} {n : Nd} {i : Int} (h : RN A w v n) (hb1 : n.keys.length * 24 ≤ lim) (hc : ¬ (n.leaf = true ∧ 0 ≤ i ∧ i < n.keys.length ∧ i < n.vals.length)) :
    Calls Try.prog 38 #[v, .int .i64 i] w fun e w' => ∃ v', e = .returned v' ∧ OwnN w.heap.size w' v' n ∧ Below w.heap.size w w' ∧ SepN w.heap.size w' v' n := by
  obtain ⟨a1, c1, a2, c2, a3, c3, rfl⟩ := h.form
  have HN := Hid.mk' h
  have HW : Hid (∀ i, wout n i = if n.leaf = true ∧ 0 ≤ i ∧ i < n.keys.length ∧ i < n.vals.length then ⟨n.leaf, n.keys.take i.toNat ++ n.keys.drop (i.toNat + 1), n.vals.take i.toNat ++ n.vals.drop (i.toNat + 1), n.kids⟩ else n) := fun _ => rfl
  have hl1 : n.keys.length * 24 ≤ 140737488351232 := hb1
  clear h
  go_enter Try.func38, Try.ntmps38
  go_wp2_with fail
  obtain ⟨W1, hW1⟩ : ∃ W1, W1 = w.alloc (.cells #[.bool n.leaf, .slice a1 n.keys.length c1, .slice a2 n.vals.length c2, .slice a3 n.kids.length c3] 37) := ⟨_, rfl⟩
  have hb1 : Below w.heap.size w W1 := by rw [hW1]; exact up_alloc _ _
  have hx1 : W1.heap[w.heap.size]? = some (.cells #[.bool n.leaf, .slice a1 n.keys.length c1, .slice a2 n.vals.length c2, .slice a3 n.kids.length c3] 37 (0, 0)) := by rw [hW1]; exact heap_alloc_new w _
  have hsz1 : W1.heap.size = w.heap.size + 1 := by rw [hW1]; simp
  obtain ⟨V, hV⟩ : ∃ V, V = W1.alloc (.cells #[.bool false, .slice none 0 0, .slice none 0 0, .slice none 0 0] 37) := ⟨_, rfl⟩
  have hb2 : Below W1.heap.size W1 V := by rw [hV]; exact up_alloc _ _
  have hx2 : V.heap[w.heap.size]? = some (.cells #[.bool n.leaf, .slice a1 n.keys.length c1, .slice a2 n.vals.length c2, .slice a3 n.kids.length c3] 37 (0, 0)) := by rw [hb2.block _ (by omega)]; exact hx1
  have hz2 : V.heap[w.heap.size + 1]? = some (.cells #[.bool false, .slice none 0 0, .slice none 0 0, .slice none 0 0] 37 (0, 0)) := by rw [hV, ← hsz1]; exact heap_alloc_new W1 _
  have hszV : V.heap.size = w.heap.size + 2 := by rw [hV]; simp; omega
  have HBV := Hid.mk' (bt hb1 hb2)
  have he : ((w.alloc (.cells #[.bool n.leaf, .slice a1 n.keys.length c1, .slice a2 n.vals.length c2, .slice a3 n.kids.length c3] 37)).alloc (.cells #[.bool false, .slice none 0 0, .slice none 0 0, .slice none 0 0] 37)) = V := by rw [hV, hW1]
  rw [he]
  clear he hV hW1 hb1 hb2 hx1 hsz1 W1
  refine (twin_sep (HN.out.up HBV.out)).mono ?_
  rintro e w2 ⟨v2, rfl, n2, h2, sp2⟩
  obtain ⟨e1, d1, e2, d2, e3, d3, rfl⟩ := n2.form
  have hN3 := (n2.mono (show w.heap.size ≤ V.heap.size by omega)).nod
  have h3 := up_alloc w2 (.cells #[.bool n.leaf, .slice e1 n.keys.length d1, .slice e2 n.vals.length d2, .slice e3 n.kids.length d3] 37)
  obtain ⟨V3, hV3⟩ : ∃ V3, V3 = w2.alloc (.cells #[.bool n.leaf, .slice e1 n.keys.length d1, .slice e2 n.vals.length d2, .slice e3 n.kids.length d3] 37) := ⟨_, rfl⟩
  rw [← hV3] at hN3 h3
  have hx3 : V3.heap[w.heap.size]? = some (.cells #[.bool n.leaf, .slice a1 n.keys.length c1, .slice a2 n.vals.length c2, .slice a3 n.kids.length c3] 37 (0, 0)) := by rw [(bt h2 h3).block _ (by omega)]; exact hx2
  have hz3 : V3.heap[w.heap.size + 1]? = some (.cells #[.bool false, .slice none 0 0, .slice none 0 0, .slice none 0 0] 37 (0, 0)) := by rw [(bt h2 h3).block _ (by omega)]; exact hz2
  have HB3 := Hid.mk' (bt HBV.out (bt h2 h3))
  have N3 := Hid.mk' hN3
  have hs2 : w.heap.size + 2 ≤ w2.heap.size := by have := h2.size; omega
  have hs3 : w2.heap.size < V3.heap.size := hN3.lt
  have hxw : w2.heap[w.heap.size]? = some (.cells #[.bool n.leaf, .slice a1 n.keys.length c1, .slice a2 n.vals.length c2, .slice a3 n.kids.length c3] 37 (0, 0)) := by rw [h2.block _ (by omega)]; exact hx2
  have hzw : w2.heap[w.heap.size + 1]? = some (.cells #[.bool false, .slice none 0 0, .slice none 0 0, .slice none 0 0] 37 (0, 0)) := by rw [h2.block _ (by omega)]; exact hz2
  have hlt0 : w.heap.size < w2.heap.size := by omega
  have hlt1 : w.heap.size + 1 < w2.heap.size := by omega
  have SP2 := Hid.mk' (sp2.mono (show w.heap.size ≤ V.heap.size by omega))
  have N2 := Hid.mk' (n2.mono (show w.heap.size ≤ V.heap.size by omega))
  have HB2 := Hid.mk' (bt HBV.out h2)
  have HZW := Hid.mk' hzw
  clear n2 h2 h3 hN3 hx2 hz2 hszV
  obtain ⟨⟨b0, b1, b2, b3⟩, bf⟩ := cells4_get hxw
  obtain ⟨⟨z0, z1, z2, z3⟩, zf⟩ := cells4_get hzw
  subst hV3
  have HWT : Hid (wout n i = n) := by show _ = _; rw [HW.out, if_neg hc]
  by_cases dl : n.leaf = true
  · rw [dl] at b0
    have DL := Hid.mk' dl
    by_cases dm : i < 0
    · have k1 : decide (i < 0) = true := by simp [dm]
      clear hc
      go_wp2_with fail
      refine bodyPost_ret (v := .agg #[.bool n.leaf, .slice e1 n.keys.length d1, .slice e2 n.vals.length d2, .slice e3 n.kids.length d3]) (by simp [results, Try.results38, go_sem, z0, z1, z2, z3, hlt1]; exact DL.out) rfl ?_
      exact ⟨_, rfl, (N2.out.wbz HZW.out (four_wb _ _ _ _ _ _)).up (up_alloc _ _), bt (HB2.out.trans ((four_wb _ _ _ _ _ _).below HB2.out.size (fun k hk => by subst hk; omega))) (up_alloc _ _), (SP2.out.q N2.out HZW.out (four_wb _ _ _ _ _ _)).up (up_alloc _ _)⟩
    · have k1 : decide (i < 0) = false := by simp; omega
      by_cases dn : (n.keys.length : Int) ≤ i
      · have k2 : decide ((n.keys.length : Int) ≤ i) = true := by simp [dn]
        clear hc
        go_wp2_with fail
        refine bodyPost_ret (v := .agg #[.bool n.leaf, .slice e1 n.keys.length d1, .slice e2 n.vals.length d2, .slice e3 n.kids.length d3]) (by simp [results, Try.results38, go_sem, z0, z1, z2, z3, hlt1]; exact DL.out) rfl ?_
        exact ⟨_, rfl, (N2.out.wbz HZW.out (four_wb _ _ _ _ _ _)).up (up_alloc _ _), bt (HB2.out.trans ((four_wb _ _ _ _ _ _).below HB2.out.size (fun k hk => by subst hk; omega))) (up_alloc _ _), (SP2.out.q N2.out HZW.out (four_wb _ _ _ _ _ _)).up (up_alloc _ _)⟩
      · have k2 : decide ((n.keys.length : Int) ≤ i) = false := by simp; omega
        have k3 : decide ((n.vals.length : Int) ≤ i) = true := by
          simp
          by_cases h : (n.vals.length : Int) ≤ i
          · exact h
          · exact absurd ⟨dl, by omega, by omega, by omega⟩ hc
        clear hc
        go_wp2_with fail
        refine bodyPost_ret (v := .agg #[.bool n.leaf, .slice e1 n.keys.length d1, .slice e2 n.vals.length d2, .slice e3 n.kids.length d3]) (by simp [results, Try.results38, go_sem, z0, z1, z2, z3, hlt1]; exact DL.out) rfl ?_
        exact ⟨_, rfl, (N2.out.wbz HZW.out (four_wb _ _ _ _ _ _)).up (up_alloc _ _), bt (HB2.out.trans ((four_wb _ _ _ _ _ _).below HB2.out.size (fun k hk => by subst hk; omega))) (up_alloc _ _), (SP2.out.q N2.out HZW.out (four_wb _ _ _ _ _ _)).up (up_alloc _ _)⟩
  · have d1' : n.leaf = false := by simpa using dl
    rw [d1'] at b0
    have DF := Hid.mk' d1'
    clear d1'
    clear hc
    go_wp2_with fail
    refine bodyPost_ret (v := .agg #[.bool n.leaf, .slice e1 n.keys.length d1, .slice e2 n.vals.length d2, .slice e3 n.kids.length d3]) (by simp [results, Try.results38, go_sem, z0, z1, z2, z3, hlt1]; exact DF.out) rfl ?_
    exact ⟨_, rfl, (N2.out.wbz HZW.out (four_wb _ _ _ _ _ _)).up (up_alloc _ _), bt (HB2.out.trans ((four_wb _ _ _ _ _ _).below HB2.out.size (fun k hk => by subst hk; omega))) (up_alloc _ _), (SP2.out.q N2.out HZW.out (four_wb _ _ _ _ _ _)).up (up_alloc _ _)⟩

end Go.Proofs.Ytfmbbpfklhkljaa
set_option linter.unusedVariables false
set_option linter.unusedSimpArgs false
namespace Go.Proofs.Ytfmbbpfklhkljaa
open Go.RowKit
/-- rows that are known exactly -/
structure Spn (B : Nat) (n : Nd) (kv vv : Value) (us xs : List Value) (w : World) : Prop where
  kr : w.ownsRow B 32 1 kv us.length us
  vr : w.ownsRow B 32 1 vv xs.length xs
  kl : us.length = n.keys.length
  vl : xs.length = n.vals.length
  ke : ∀ t (h : t < us.length) (h' : t < n.keys.length), Ob 5 B w us[t] n.keys[t]
  ve : ∀ t (h : t < xs.length) (h' : t < n.vals.length), Ob 5 B w xs[t] n.vals[t]
  sp : (us ++ xs).Pairwise Ap
theorem row_is {B : Nat} {w : World} {v : Value} {l : List (List UInt8)} {us : List Value} (h : Obb 0 B w v l) (hl : us.length = l.length) (hc : ∀ t (h : t < us.length), ∃ g m c, v = .slice (some ⟨g, 0, none⟩) m c ∧ w.cell? ⟨g, t, none⟩ = some us[t]) : w.ownsRow B 32 1 v us.length us := by
  obtain ⟨vs, h1, h2⟩ := h
  have hv : vs = us := by
    apply List.ext_getElem
    · have := h2.1; omega
    · intro t a b
      obtain ⟨g, m, c, e, h3⟩ := hc t b
      obtain ⟨a', c', e'⟩ := own_slice h1
      rw [e] at e'
      have hm : m = l.length := by simp at e'; exact e'.2.1
      subst e
      subst hm
      have hlt : t < l.length := by have := h2.1; omega
      have h4 := World.ownsRow.cellAt h1 t (by omega)
      rw [List.getElem?_eq_getElem a] at h4
      rw [h4] at h3
      exact Option.some.inj h3
  subst hv
  rw [hl]; exact h1
theorem spn_of {B : Nat} {w : World} {n : Nd} {kv vv cv : Value} (h : OwnN B w (.agg #[.bool n.leaf, kv, vv, cv]) n) (hs : SepN B w (.agg #[.bool n.leaf, kv, vv, cv]) n) : ∃ us xs, Spn B n kv vv us xs w := by
  obtain ⟨us, xs, h1, h2, h3⟩ := hs.get
  obtain ⟨_, _, _, e, k1, k2, _⟩ := h
  simp only [Value.agg.injEq, Array.mk.injEq, List.cons.injEq, and_true, true_and] at e
  obtain ⟨rfl, rfl, rfl⟩ := e
  exact ⟨us, xs, row_is k1 h1 h3.kc, row_is k2 h2 h3.vc, h1, h2, h3.ke, h3.ve, h3.sp⟩
theorem Spn.wb {B : Nat} {n : Nd} {kv vv : Value} {us xs : List Value} {w w' : World} {X : Nat → Prop} (h : Spn B n kv vv us xs w) (hw : Wb X w w') (h1 : ∀ k, X k → some k ≠ kv.ownBlock) (h2 : ∀ k, X k → some k ≠ vv.ownBlock) (h5 : ∀ k, X k → ∀ cur fr, w.heap[k]? ≠ some (.cells cur 5 fr)) : Spn B n kv vv us xs w' := by
  have ho : ∀ {v : Value} {l : List UInt8}, Ob 5 B w v l → Ob 5 B w' v l := fun ho => own_wb ho hw fun j hj e => by
    obtain ⟨_, _, _, h6⟩ := own_typed ho j e.symm
    exact h5 j hj _ _ h6
  exact ⟨own_wb h.kr hw h1, own_wb h.vr hw h2, h.kl, h.vl, fun t a b => ho (h.ke t a b), fun t a b => ho (h.ve t a b), h.sp⟩
theorem Spn.up {B : Nat} {n : Nd} {kv vv : Value} {us xs : List Value} {w w' : World} (h : Spn B n kv vv us xs w) (hb : Below w.heap.size w w') : Spn B n kv vv us xs w' :=
  h.wb (Wb.of_below (fun _ => False) hb) (fun _ e => e.elim) (fun _ e => e.elim) (fun _ e => e.elim)
/-- a block of four cells is written -/
theorem Spn.q {B q : Nat} {n : Nd} {kv vv : Value} {us xs : List Value} {w w' : World} {x : Array Value} (h : Spn B n kv vv us xs w) (hr : w.heap[q]? = some (.cells x 37 (0, 0))) (hs : Wb (fun k => k = q) w w') : Spn B n kv vv us xs w' :=
  h.wb hs (fun k hk e => by subst hk; obtain ⟨_, _, _, h1⟩ := own_typed h.kr _ e.symm; exact absurd (typed_ne h1 hr) (by decide)) (fun k hk e => by subst hk; obtain ⟨_, _, _, h1⟩ := own_typed h.vr _ e.symm; exact absurd (typed_ne h1 hr) (by decide)) (fun k hk cur fr h1 => by subst hk; exact absurd (typed_ne h1 hr) (by decide))
theorem Spn.mono {B B' : Nat} {n : Nd} {kv vv : Value} {us xs : List Value} {w : World} (h : Spn B n kv vv us xs w) (hB : B' ≤ B) : Spn B' n kv vv us xs w :=
  ⟨own_mono h.kr hB, own_mono h.vr hB, h.kl, h.vl, fun t a b => (h.ke t a b).mono hB, fun t a b => (h.ve t a b).mono hB, h.sp⟩
theorem Spn.lt {B : Nat} {n : Nd} {kv vv : Value} {us xs : List Value} {w : World} (h : Spn B n kv vv us xs w) : ∀ v ∈ us ++ xs, ∀ k, v.ownBlock = some k → B ≤ k ∧ k < w.heap.size := by
  intro v hv k hk
  rcases List.mem_append.1 hv with hv | hv
  · obtain ⟨t, ht, rfl⟩ := List.mem_iff_getElem.1 hv
    exact (h.ke t ht (by have := h.kl; omega)).lt k hk
  · obtain ⟨t, ht, rfl⟩ := List.mem_iff_getElem.1 hv
    exact (h.ve t ht (by have := h.vl; omega)).lt k hk
theorem Spn.one {B : Nat} {n : Nd} {kv vv : Value} {us xs : List Value} {w : World} (h : Spn B n kv vv us xs w) : (∀ x ∈ us, x.oneCell' = true) ∧ ∀ x ∈ xs, x.oneCell' = true := by
  constructor
  · intro v hv
    obtain ⟨t, ht, rfl⟩ := List.mem_iff_getElem.1 hv
    obtain ⟨a, c, e⟩ := own_slice (h.ke t ht (by have := h.kl; omega))
    rw [e]; rfl
  · intro v hv
    obtain ⟨t, ht, rfl⟩ := List.mem_iff_getElem.1 hv
    obtain ⟨a, c, e⟩ := own_slice (h.ve t ht (by have := h.vl; omega))
    rw [e]; rfl
theorem ap_symm {u v : Value} (h : Ap u v) : Ap v u := fun k h1 h2 => h k h2 h1
theorem ap_join {us xs us' xs' : List Value} {S : Nat} (h : (us ++ xs).Pairwise Ap) (h' : (us' ++ xs').Pairwise Ap) (h1 : ∀ v ∈ us ++ xs, ∀ k, v.ownBlock = some k → k < S) (h2 : ∀ v ∈ us' ++ xs', ∀ k, v.ownBlock = some k → S ≤ k) : ((us ++ us') ++ (xs ++ xs')).Pairwise Ap := by
  have hp : ((us ++ xs) ++ (us' ++ xs')).Pairwise Ap := List.pairwise_append.2 ⟨h, h', fun a ha b hb k hk e => by
    have := h1 a ha k hk
    have := h2 b hb k e
    omega⟩
  refine (List.Perm.pairwise_iff ap_symm ?_).1 hp
  rw [List.append_assoc, List.append_assoc]
  refine List.Perm.append_left us ?_
  rw [← List.append_assoc, ← List.append_assoc]
  exact List.Perm.append_right xs' List.perm_append_comm
/-- an append, its row known exactly -/
theorem app_exact {A : Nat → Prop} {B : Nat} {w w1 : World} {v u u1 : Value} {us us' : List Value} (h : w.ownsRow B 32 1 v us.length us) (hr : Row 1 A w u us'.length us') (ho : ∀ x ∈ us', x.oneCell' = true) (hl : us.length + us'.length ≤ 1000000) (hB : B ≤ w.heap.size) (he : (Builtin.append_ #[28, 28] 28 #[v, u]).run Try.prog w = .ok u1 w1) :
    w1.ownsRow B 32 1 u1 (us ++ us').length (us ++ us') ∧ Wb (fun k => some k = v.ownBlock) w w1 ∧ (u1.ownBlock = v.ownBlock ∨ u1.ownBlock = some w.heap.size) := by
  obtain ⟨v', w', r1, r2, r3, _, r5⟩ := run_app (P := Try.prog) 28 28 Try.underlying28 Try.info32 rfl (by decide) h hr ho (by unfold maxLen; omega) (by omega) hB
  rw [he] at r1
  simp only [Result.ok.injEq] at r1
  obtain ⟨rfl, rfl⟩ := r1
  exact ⟨by rw [List.length_append]; exact r2, Wb.of_grown r3, r5⟩
/-- two appends and two stores -/
theorem jn_sep {B S nb : Nat} {w w1 w2 : World} {n m : Nd} {kv vv cv sk sv u1 u2 : Value} {us xs us' xs' : List Value} (h : Nod B nb w n kv vv cv) (hs : Spn B n kv vv us xs w) (hs' : Spn S m sk sv us' xs' w) (hlt : ∀ v ∈ us ++ xs, ∀ k, v.ownBlock = some k → k < S) (hk : ∀ k, kv.ownBlock = some k → k < S) (hv : ∀ k, vv.ownBlock = some k → k < S) (hBS : B ≤ S) (hB : B ≤ w.heap.size) (hSw : S ≤ w.heap.size)
    (l1 : us.length + us'.length ≤ 1000000) (l2 : xs.length + xs'.length ≤ 1000000) (a1 : (Builtin.append_ #[28, 28] 28 #[kv, sk]).run Try.prog w = .ok u1 w1) (b1 : (Builtin.append_ #[28, 28] 28 #[vv, sv]).run Try.prog w1 = .ok u2 w2) (hat : w2.heap[nb]? = some (.cells #[.bool n.leaf, kv, vv, cv] 37 (0, 0))) :
    Spn B ⟨n.leaf, n.keys ++ m.keys, n.vals ++ m.vals, n.kids⟩ u1 u2 (us ++ us') (xs ++ xs') ((w2.setCell ⟨nb, 1, none⟩ u1).setCell ⟨nb, 2, none⟩ u2) := by
  obtain ⟨r1, q1, c1⟩ := app_exact hs.kr (Row.of_own hs'.kr) hs'.one.1 l1 hB a1
  have t1 : ∀ k, some k = kv.ownBlock → ∃ cur fr, w.heap[k]? = some (.cells cur 32 fr) := fun k e => (own_typed hs.kr k e.symm).2
  have hap : ∀ k, some k = kv.ownBlock → some k ≠ vv.ownBlock := fun k e e' => h.apart k e.symm e'.symm
  have vr1 : w1.ownsRow B 32 1 vv xs.length xs := own_wb hs.vr q1 fun k e => hap k e
  have sr1 : w1.ownsRow S 32 1 sv xs'.length xs' := own_wb hs'.vr q1 fun k e e' => by have := (own_typed hs'.vr k e'.symm).1; have := hk k e.symm; omega
  obtain ⟨r2, q2, c2⟩ := app_exact vr1 (Row.of_own sr1) hs'.one.2 l2 (Nat.le_trans hB q1.size) b1
  have t2 : ∀ k, some k = vv.ownBlock → ∃ cur fr, w1.heap[k]? = some (.cells cur 32 fr) := fun k e => (own_typed vr1 k e.symm).2
  have hs3 := (Wb.set (X := fun k => k = nb) w2 nb 1 u1 rfl).trans (Wb.set (X := fun k => k = nb) (w2.setCell ⟨nb, 1, none⟩ u1) nb 2 u2 rfl)
  have r1' : w2.ownsRow B 32 1 u1 (us ++ us').length (us ++ us') := own_wb r1 q2 fun k e e' => by
    rcases c1 with c1 | c1
    · exact hap k (by rw [← c1]; exact e') e
    · rw [c1] at e'
      have e2 : k = w.heap.size := Option.some.inj e'
      have := hv k e.symm
      omega
  have hn : ∀ {e : TypeId} {C : Nat} {v : Value} {a : Nat} {l : List Value}, e ≠ 37 → w2.ownsRow C e 1 v a l → ((w2.setCell ⟨nb, 1, none⟩ u1).setCell ⟨nb, 2, none⟩ u2).ownsRow C e 1 v a l := fun he ho => own_wb ho hs3 fun k hk' e' => by
    subst hk'
    obtain ⟨_, _, _, h1⟩ := own_typed ho _ e'.symm
    exact he (typed_ne h1 hat)
  have hno : ∀ {C : Nat} {v : Value} {l : List UInt8}, Ob 5 C w v l → Ob 5 C ((w2.setCell ⟨nb, 1, none⟩ u1).setCell ⟨nb, 2, none⟩ u2) v l := fun ho => by
    have h1 := own_wb ho q1 fun k e e' => by
      obtain ⟨_, _, h2⟩ := t1 k e
      obtain ⟨_, _, _, h3⟩ := own_typed ho k e'.symm
      exact absurd (typed_ne h2 h3) (by decide)
    have h2 := own_wb h1 q2 fun k e e' => by
      obtain ⟨_, _, h2⟩ := t2 k e
      obtain ⟨_, _, _, h3⟩ := own_typed h1 k e'.symm
      exact absurd (typed_ne h2 h3) (by decide)
    exact hn (by decide) h2
  have hkl := hs.kl
  have hvl := hs.vl
  refine ⟨hn (by decide) r1', hn (by decide) r2, by simp [hs.kl, hs'.kl], by simp [hs.vl, hs'.vl], fun t a b => ?_, fun t a b => ?_, ap_join hs.sp hs'.sp hlt fun v hv k e => (hs'.lt v hv k e).1⟩
  · by_cases ht : t < us.length
    · simp only [List.getElem_append_left ht, List.getElem_append_left (show t < n.keys.length by omega)]
      exact hno (hs.ke t ht (by omega))
    · simp only [List.getElem_append_right (show us.length ≤ t by omega), List.getElem_append_right (show n.keys.length ≤ t by omega), hkl]
      exact (hno (hs'.ke (t - n.keys.length) (by simp at a; omega) (by simp at b; omega))).mono hBS
  · by_cases ht : t < xs.length
    · simp only [List.getElem_append_left ht, List.getElem_append_left (show t < n.vals.length by omega)]
      exact hno (hs.ve t ht (by omega))
    · simp only [List.getElem_append_right (show xs.length ≤ t by omega), List.getElem_append_right (show n.vals.length ≤ t by omega), hvl]
      exact (hno (hs'.ve (t - n.vals.length) (by simp at a; omega) (by simp at b; omega))).mono hBS
set_option maxRecDepth 100000 in
set_option maxHeartbeats 4000000 in
/-- leaf.Join of two leaves -/
theorem join_sep {A1 A2 : Nat → Prop} {w : World} {p : Nat} {n1 n2 : Nd} {x1 x2 x3 y1 y2 y3 : Value} (hp : w.heap[p]? = some (.cells #[.bool true, x1, x2, x3, .bool true, y1, y2, y3] 37 (0, 0))) (h1 : RN A1 w (.agg #[.bool true, x1, x2, x3]) n1) (h2 : RN A2 w (.agg #[.bool true, y1, y2, y3]) n2) (s1 : n1.keys.length ≤ 1000) (s2 : n1.vals.length ≤ 1000) (s3 : n2.keys.length ≤ 1000) (s4 : n2.vals.length ≤ 1000) :
    Calls Try.prog 32 #[.slice (some ⟨p, 0, none⟩) 2 2] w fun e w' => ∃ v', e = .returned v' ∧ OwnN w.heap.size w' v' ⟨true, n1.keys ++ n2.keys, n1.vals ++ n2.vals, []⟩ ∧ Below w.heap.size w w' ∧ ∃ kv vv cv us xs, v' = .agg #[.bool true, kv, vv, cv] ∧ Spn w.heap.size ⟨true, n1.keys ++ n2.keys, n1.vals ++ n2.vals, []⟩ kv vv us xs w' := by
  obtain ⟨g1, j1, g2, j2, g3, j3, e1⟩ := h1.form
  obtain ⟨f1, i1, f2, i2, f3, i3, e2⟩ := h2.form
  simp only [Value.agg.injEq, Array.mk.injEq, List.cons.injEq, and_true] at e1 e2
  obtain ⟨lg1, rfl, rfl, rfl⟩ := e1
  obtain ⟨lg2, rfl, rfl, rfl⟩ := e2
  have lf1 : n1.leaf = true := by simpa using lg1.symm
  have lf2 : n2.leaf = true := by simpa using lg2.symm
  have hcat : ∀ {j : Nat} {u : Value}, w.cell? ⟨p, j, none⟩ = some u → w.cell? ⟨p, j, none⟩ = some u := id
  have c0 : w.cell? ⟨p, 0, none⟩ = some (.bool true) := by simp only [World.cell?, hp]; rfl
  have c1 : w.cell? ⟨p, 1, none⟩ = some (.slice g1 n1.keys.length j1) := by simp only [World.cell?, hp]; rfl
  have c2 : w.cell? ⟨p, 2, none⟩ = some (.slice g2 n1.vals.length j2) := by simp only [World.cell?, hp]; rfl
  have c3 : w.cell? ⟨p, 3, none⟩ = some (.slice g3 n1.kids.length j3) := by simp only [World.cell?, hp]; rfl
  have c4 : w.cell? ⟨p, 4, none⟩ = some (.bool true) := by simp only [World.cell?, hp]; rfl
  have c5 : w.cell? ⟨p, 5, none⟩ = some (.slice f1 n2.keys.length i1) := by simp only [World.cell?, hp]; rfl
  have c6 : w.cell? ⟨p, 6, none⟩ = some (.slice f2 n2.vals.length i2) := by simp only [World.cell?, hp]; rfl
  have c7 : w.cell? ⟨p, 7, none⟩ = some (.slice f3 n2.kids.length i3) := by simp only [World.cell?, hp]; rfl
  have H1 := Hid.mk' h1
  have H2 := Hid.mk' h2
  have hpl : p < w.heap.size := (Array.getElem?_eq_some_iff.1 hp).1
  have L1 := Hid.mk' lf1
  have L2 := Hid.mk' lf2
  clear h1 h2 hp hcat lf1 lf2 lg1 lg2
  go_enter Try.func32, Try.ntmps32
  go_wp2_with fail
  obtain ⟨W, hW⟩ : ∃ W, W = (w.alloc (.cells #[.bool false, .slice none 0 0, .slice none 0 0, .slice none 0 0] 37)).alloc (.cells #[.bool true, .slice none 0 0, .slice none 0 0, .slice none 0 0] 37) := ⟨_, rfl⟩
  rw [← hW]
  obtain ⟨hb0, hx0, hx1, hsz⟩ := two_boxes hW
  have T0 : Hid (Jst w ⟨true, [], [], []⟩ (.slice none 0 0) (.slice none 0 0) (.slice none 0 0) W) := ⟨hb0, hx0, hx1, obb_nil, obb_nil, World.ownsRow_nil _ _ _ _, fun k hk => by cases hk⟩
  clear hW hb0 hx0 hx1 hsz
  go_loopw [9] (fun i wr => ∃ k : Nat, k ≤ 2 ∧ i = .int .i64 k ∧ Hid (∃ kv vv cv, Jst w (cat n1 n2 k) kv vv cv wr ∧ ∃ us xs, Spn w.heap.size (cat n1 n2 k) kv vv us xs wr)) (fun i _ => 2 - (intOf i).toNat)
  case atStart => exact ⟨0, by omega, rfl, _, _, _, T0, [], [], World.ownsRow_nil _ _ _ _, World.ownsRow_nil _ _ _ _, rfl, rfl, fun t h => by simp at h, fun t h => by simp at h, List.Pairwise.nil⟩
  case round =>
    obtain ⟨k, hk, rfl, kv, vv, cv, HJ, us, xs, HG⟩ := hrel
    have HJ := Hid.mk' HJ
    have HG := Hid.mk' HG
    have hk3 : k = 0 ∨ k = 1 ∨ k = 2 := by omega
    clear T0
    rcases hk3 with rfl | rfl | rfl
    · obtain ⟨ka, K, kc, ek⟩ : ∃ a L c, kv = .slice a L c := by obtain ⟨a, c, e⟩ := obb_slice HJ.out.nd.keys; exact ⟨a, _, c, e⟩
      obtain ⟨va, M, vc, evv⟩ : ∃ a L c, vv = .slice a L c := by obtain ⟨a, c, e⟩ := obb_slice HJ.out.nd.vals; exact ⟨a, _, c, e⟩
      obtain ⟨ca, L, cc, ecv⟩ : ∃ a L c, cv = .slice a L c := by obtain ⟨a, c, e⟩ := own_slice HJ.out.nd.kids; exact ⟨a, _, c, e⟩
      subst ek; subst evv; subst ecv
      have r0 := cell_later HJ.out.bl c0
      have r1 := cell_later HJ.out.bl c1
      have r2 := cell_later HJ.out.bl c2
      have r3 := cell_later HJ.out.bl c3
      go_wp2_with fail
      obtain ⟨V0, hV0⟩ : ∃ V, V = wr.alloc (.cells #[.bool true, (.slice g1 n1.keys.length j1), (.slice g2 n1.vals.length j2), (.slice g3 n1.kids.length j3)] 37) := ⟨_, rfl⟩
      have hbV := up_alloc wr (.cells #[.bool true, (.slice g1 n1.keys.length j1), (.slice g2 n1.vals.length j2), (.slice g3 n1.kids.length j3)] 37)
      have hqV := heap_alloc_new wr (.cells #[.bool true, (.slice g1 n1.keys.length j1), (.slice g2 n1.vals.length j2), (.slice g3 n1.kids.length j3)] 37)
      have hszV : V0.heap.size = wr.heap.size + 1 := by rw [hV0]; simp
      rw [← hV0] at hbV hqV ⊢
      clear hV0
      have HR := Hid.mk' (H1.out.up (bt HJ.out.bl hbV))
      refine (twin_sep HR.out).mono ?_
      rintro e w2 ⟨v2, rfl, n2', h2, sp2⟩
      have HG2 := Hid.mk' (HG.out.up (bt hbV h2))
      have HJ2 := Hid.mk' (HJ.out.up (bt hbV h2))
      have hq2 := (h2.block wr.heap.size (by omega)).trans hqV
      obtain ⟨p1, q1, p2, q2, p3, q3, rfl⟩ := n2'.form
      obtain ⟨us', xs', g2⟩ := spn_of n2' sp2
      have G2 := Hid.mk' g2
      clear sp2 g2
      rw [L1.out] at n2' ⊢
      have N2 := Hid.mk' n2'
      have hsV : wr.heap.size < V0.heap.size := by omega
      have hs2 : V0.heap.size ≤ w2.heap.size := h2.size
      have hns : w.heap.size + 1 < wr.heap.size := HJ.out.nd.lt
      clear r0 r1 r2 r3 HR n2' h2 hbV hqV hszV
      obtain ⟨⟨z0, z1, z2, z3⟩, zf⟩ := cells4_get hq2
      go_wp2_with fail
      have hw1 := four_wb w2 wr.heap.size (.bool true) (.slice p1 n1.keys.length q1) (.slice p2 n1.vals.length q2) (.slice p3 n1.kids.length q3)
      obtain ⟨hqb, hqx⟩ := put4 (B := w.heap.size) (.bool true) (.slice p1 n1.keys.length q1) (.slice p2 n1.vals.length q2) (.slice p3 n1.kids.length q3) hq2 (by omega)
      have NX := Hid.mk' (N2.out.wbz hq2 hw1)
      have DX := Hid.mk' (HJ2.out.nd.wbq hq2 hw1 (by omega))
      have GX := Hid.mk' (HG2.out.q hq2 hw1)
      have GY := Hid.mk' (G2.out.q hq2 hw1)
      have ZX := Hid.mk' ((hw1.block w.heap.size (by omega) (by omega)).trans HJ2.out.z)
      have BX := Hid.mk' (HJ2.out.bl.trans hqb)
      have hVX := Nat.le_trans hs2 (hw1.size)
      clear z0 z1 z2 z3 zf hw1 hqb hq2
      generalize ((((w2.setCell ⟨wr.heap.size, 0, none⟩ (.bool true)).setCell ⟨wr.heap.size, 1, none⟩ (.slice p1 n1.keys.length q1)).setCell ⟨wr.heap.size, 2, none⟩ (.slice p2 n1.vals.length q2)).setCell ⟨wr.heap.size, 3, none⟩ (.slice p3 n1.kids.length q3)) = X at *
      have hd := drew_bl X X.heap.size
      obtain ⟨_, _, _, es, sk1, sk2, _, _⟩ := NX.out
      simp only [Value.agg.injEq, Array.mk.injEq, List.cons.injEq, and_true, true_and] at es
      obtain ⟨lq, rfl, rfl, rfl⟩ := es
      clear lq
      have hlk : ∀ j, (Value.slice ka K kc).ownBlock = some j → j < V0.heap.size := fun j hj => by
        obtain ⟨_, _, _, h1⟩ := HJ.out.nd.keys.typed j hj
        have := (Array.getElem?_eq_some_iff.1 h1).1
        omega
      obtain ⟨u1, wA, u2, wB, a1, a2, b1, b2, hat, mid, hN⟩ := jn_step (S := V0.heap.size) (DX.out.up hd) (sk1.up hd) (sk2.up hd) hlk (by simp only [cat, List.length_nil]; unfold lim; omega) (by simp only [cat, List.length_nil]; unfold lim; omega) (by have := BX.out.size; exact this)
      obtain ⟨ua, uL, uc, rfl⟩ : ∃ a L c, u1 = .slice a L c := by obtain ⟨a, c, e⟩ := obb_slice hN.keys; exact ⟨a, _, c, e⟩
      obtain ⟨xa, xL, xc, rfl⟩ : ∃ a L c, u2 = .slice a L c := by obtain ⟨a, c, e⟩ := obb_slice hN.vals; exact ⟨a, _, c, e⟩
      have hnb : ∀ {x : Value} {l : List (List UInt8)} {j : Nat} {c : Array Value}, Obb 0 w.heap.size X x l → X.heap[j]? = some (.cells c 37 (0, 0)) → ¬ some j = x.ownBlock := fun hx h3 e => by obtain ⟨_, _, _, h1⟩ := hx.typed _ e.symm; exact absurd (typed_ne h1 h3) (by decide)
      have hnb2 : ∀ {j : Nat} {c : Array Value}, X.heap[j]? = some (.cells c 37 (0, 0)) → ¬ (some j = (Value.slice ka K kc).ownBlock ∨ some j = (Value.slice va M vc).ownBlock) := fun h3 e => e.elim (hnb DX.out.keys h3) (hnb DX.out.vals h3)
      obtain ⟨⟨z0, z1, z2, z3⟩, zf⟩ := cells4_get hqx
      obtain ⟨⟨b0, b1', b2', b3⟩, bf⟩ := cells4_get DX.out.at_
      have e1 : ∀ q : Kp (fun b => some b = (Value.slice ka K kc).ownBlock ∨ some b = (Value.slice va M vc).ownBlock) X, q.nx.cell? ⟨w.heap.size + 1, 1, none⟩ = some (Value.slice ka K kc) := fun q => q.cell b1' (hnb2 DX.out.at_)
      have e2 : ∀ q : Kp (fun b => some b = (Value.slice ka K kc).ownBlock ∨ some b = (Value.slice va M vc).ownBlock) X, q.nx.cell? ⟨w.heap.size + 1, 2, none⟩ = some (Value.slice va M vc) := fun q => q.cell b2' (hnb2 DX.out.at_)
      have e3 : ∀ q : Kp (fun b => some b = (Value.slice ka K kc).ownBlock ∨ some b = (Value.slice va M vc).ownBlock) X, q.nx.cell? ⟨wr.heap.size, 1, none⟩ = some _ := fun q => q.cell z1 (hnb2 hqx)
      have e4 : ∀ q : Kp (fun b => some b = (Value.slice ka K kc).ownBlock ∨ some b = (Value.slice va M vc).ownBlock) X, q.nx.cell? ⟨wr.heap.size, 2, none⟩ = some _ := fun q => q.cell z2 (hnb2 hqx)
      have w1b : Wb (fun j => some j = (Value.slice ka K kc).ownBlock) X wA := (Wb.of_below _ hd).trans a2
      have w2b : Wb (fun j => some j = (Value.slice ka K kc).ownBlock ∨ some j = (Value.slice va M vc).ownBlock) X wB := (w1b.mono fun j hj => .inl hj).trans (b2.mono fun j hj => .inr hj)
      refine wp_region_mix 11 (fun w' => ∃ q : Kp (fun b => some b = (Value.slice ka K kc).ownBlock ∨ some b = (Value.slice va M vc).ownBlock) X, w' = q.nx) (by kernel_rfl) (by kernel_rfl) (kp_first _ X) ?_
      simp only [List.take_succ_cons, List.take_zero, List.drop_succ_cons, List.drop_zero]
      refine mx_take 4 rfl ?_
      simp only [List.take_succ_cons, List.take_zero, List.drop_succ_cons, List.drop_zero]
      repeat (go_big_quiet_step (fail))
      refine wpQuiet_nil ?_
      refine mx_app rfl rfl rfl (by kernel_rfl) a1 (kp_mk w1b.size fun b hb hx => w1b.block b hb fun e => hx (.inl e)) ?_
      simp only [Act.put, List.setIfInBounds_toArray, List.set_cons_succ, List.set_cons_zero]
      refine mx_take 4 rfl ?_
      simp only [List.take_succ_cons, List.take_zero, List.drop_succ_cons, List.drop_zero]
      repeat (go_big_quiet_step (fail))
      refine wpQuiet_nil ?_
      refine mx_app rfl rfl rfl (by kernel_rfl) b1 (kp_mk w2b.size fun b hb hx => w2b.block b hb hx) ?_
      simp only [Act.put, List.setIfInBounds_toArray, List.set_cons_succ, List.set_cons_zero]
      refine mx_take 1 rfl ?_
      simp only [List.take_succ_cons, List.take_zero, List.drop_succ_cons, List.drop_zero]
      repeat (go_big_quiet_step (fail))
      refine wpQuiet_nil ?_
      simp only [wpMix]
      obtain ⟨⟨_, p1', _, _⟩, pf⟩ := cells4_get hat
      obtain ⟨⟨_, _, p2', _⟩, pf2⟩ := cells4_get mid
      have hsx : w.heap.size + 1 < X.heap.size := DX.out.lt
      have ND := Hid.mk' hN
      have hkl1 := HG.out.kl
      have hvl1 := HG.out.vl
      have hkl2 := G2.out.kl
      have hvl2 := G2.out.vl
      simp only [cat, List.length_nil, List.length_append] at hkl1 hvl1
      have GN := Hid.mk' (jn_sep (DX.out.up hd) (GX.out.up hd) (GY.out.up hd) (fun v hv k e => by have := (HG.out.lt v hv k e).2; omega) hlk (fun j hj => by
        obtain ⟨_, _, _, h1⟩ := HJ.out.nd.vals.typed j hj
        have := (Array.getElem?_eq_some_iff.1 h1).1
        omega) (show w.heap.size ≤ V0.heap.size by omega) (show w.heap.size ≤ X.drew.heap.size from BX.out.size) (show V0.heap.size ≤ X.heap.size from hVX) (by omega) (by omega) a1 b1 hat)
      clear hkl1 hvl1 hkl2 hvl2
      have X5 : Wb (fun j => j = w.heap.size + 1 ∨ (some j = (Value.slice ka K kc).ownBlock ∨ some j = (Value.slice va M vc).ownBlock)) X ((wB.setCell ⟨w.heap.size + 1, 1, none⟩ (.slice ua uL uc)).setCell ⟨w.heap.size + 1, 2, none⟩ (.slice xa xL xc)) := ((w2b.mono fun j hj => .inr hj).trans (Wb.set _ _ _ _ (.inl rfl))).trans (Wb.set _ _ _ _ (.inl rfl))
      have ZN := Hid.mk' ((X5.block w.heap.size (by omega) (by rintro (e | e) <;> first | omega | exact hnb2 ZX.out e)).trans ZX.out)
      have BN := Hid.mk' (BX.out.trans (X5.below (D := w.heap.size) (by omega) fun j hj => by
        rcases hj with hj | hj | hj
        · omega
        · exact (DX.out.keys.typed j hj.symm).1
        · exact (DX.out.vals.typed j hj.symm).1))
      clear e1 e2 e3 e4 w1b w2b a1 a2 b1 b2 hat mid hN hnb hnb2 z0 z1 z2 z3 zf b0 b1' b2' b3 bf hd sk1 sk2 hlk X5
      go_wp2_with fail
      go_roundw
      case rel => exact ⟨1, by omega, by go_num, _, _, _, ⟨BN.out, ZN.out, ND.out⟩, _, _, GN.out⟩
      case measure => simp [intOf]
    · obtain ⟨ka, K, kc, ek⟩ : ∃ a L c, kv = .slice a L c := by obtain ⟨a, c, e⟩ := obb_slice HJ.out.nd.keys; exact ⟨a, _, c, e⟩
      obtain ⟨va, M, vc, evv⟩ : ∃ a L c, vv = .slice a L c := by obtain ⟨a, c, e⟩ := obb_slice HJ.out.nd.vals; exact ⟨a, _, c, e⟩
      obtain ⟨ca, L, cc, ecv⟩ : ∃ a L c, cv = .slice a L c := by obtain ⟨a, c, e⟩ := own_slice HJ.out.nd.kids; exact ⟨a, _, c, e⟩
      subst ek; subst evv; subst ecv
      have r0 := cell_later HJ.out.bl c4
      have r1 := cell_later HJ.out.bl c5
      have r2 := cell_later HJ.out.bl c6
      have r3 := cell_later HJ.out.bl c7
      go_wp2_with fail
      obtain ⟨V0, hV0⟩ : ∃ V, V = wr.alloc (.cells #[.bool true, (.slice f1 n2.keys.length i1), (.slice f2 n2.vals.length i2), (.slice f3 n2.kids.length i3)] 37) := ⟨_, rfl⟩
      have hbV := up_alloc wr (.cells #[.bool true, (.slice f1 n2.keys.length i1), (.slice f2 n2.vals.length i2), (.slice f3 n2.kids.length i3)] 37)
      have hqV := heap_alloc_new wr (.cells #[.bool true, (.slice f1 n2.keys.length i1), (.slice f2 n2.vals.length i2), (.slice f3 n2.kids.length i3)] 37)
      have hszV : V0.heap.size = wr.heap.size + 1 := by rw [hV0]; simp
      rw [← hV0] at hbV hqV ⊢
      clear hV0
      have HR := Hid.mk' (H2.out.up (bt HJ.out.bl hbV))
      refine (twin_sep HR.out).mono ?_
      rintro e w2 ⟨v2, rfl, n2', h2, sp2⟩
      have HG2 := Hid.mk' (HG.out.up (bt hbV h2))
      have HJ2 := Hid.mk' (HJ.out.up (bt hbV h2))
      have hq2 := (h2.block wr.heap.size (by omega)).trans hqV
      obtain ⟨p1, q1, p2, q2, p3, q3, rfl⟩ := n2'.form
      obtain ⟨us', xs', g2⟩ := spn_of n2' sp2
      have G2 := Hid.mk' g2
      clear sp2 g2
      rw [L2.out] at n2' ⊢
      have N2 := Hid.mk' n2'
      have hsV : wr.heap.size < V0.heap.size := by omega
      have hs2 : V0.heap.size ≤ w2.heap.size := h2.size
      have hns : w.heap.size + 1 < wr.heap.size := HJ.out.nd.lt
      clear r0 r1 r2 r3 HR n2' h2 hbV hqV hszV
      obtain ⟨⟨z0, z1, z2, z3⟩, zf⟩ := cells4_get hq2
      go_wp2_with fail
      have hw1 := four_wb w2 wr.heap.size (.bool true) (.slice p1 n2.keys.length q1) (.slice p2 n2.vals.length q2) (.slice p3 n2.kids.length q3)
      obtain ⟨hqb, hqx⟩ := put4 (B := w.heap.size) (.bool true) (.slice p1 n2.keys.length q1) (.slice p2 n2.vals.length q2) (.slice p3 n2.kids.length q3) hq2 (by omega)
      have NX := Hid.mk' (N2.out.wbz hq2 hw1)
      have DX := Hid.mk' (HJ2.out.nd.wbq hq2 hw1 (by omega))
      have GX := Hid.mk' (HG2.out.q hq2 hw1)
      have GY := Hid.mk' (G2.out.q hq2 hw1)
      have ZX := Hid.mk' ((hw1.block w.heap.size (by omega) (by omega)).trans HJ2.out.z)
      have BX := Hid.mk' (HJ2.out.bl.trans hqb)
      have hVX := Nat.le_trans hs2 (hw1.size)
      clear z0 z1 z2 z3 zf hw1 hqb hq2
      generalize ((((w2.setCell ⟨wr.heap.size, 0, none⟩ (.bool true)).setCell ⟨wr.heap.size, 1, none⟩ (.slice p1 n2.keys.length q1)).setCell ⟨wr.heap.size, 2, none⟩ (.slice p2 n2.vals.length q2)).setCell ⟨wr.heap.size, 3, none⟩ (.slice p3 n2.kids.length q3)) = X at *
      have hd := drew_bl X X.heap.size
      obtain ⟨_, _, _, es, sk1, sk2, _, _⟩ := NX.out
      simp only [Value.agg.injEq, Array.mk.injEq, List.cons.injEq, and_true, true_and] at es
      obtain ⟨lq, rfl, rfl, rfl⟩ := es
      clear lq
      have hlk : ∀ j, (Value.slice ka K kc).ownBlock = some j → j < V0.heap.size := fun j hj => by
        obtain ⟨_, _, _, h1⟩ := HJ.out.nd.keys.typed j hj
        have := (Array.getElem?_eq_some_iff.1 h1).1
        omega
      obtain ⟨u1, wA, u2, wB, a1, a2, b1, b2, hat, mid, hN⟩ := jn_step (S := V0.heap.size) (DX.out.up hd) (sk1.up hd) (sk2.up hd) hlk (by simp only [cat, List.length_nil]; unfold lim; omega) (by simp only [cat, List.length_nil]; unfold lim; omega) (by have := BX.out.size; exact this)
      obtain ⟨ua, uL, uc, rfl⟩ : ∃ a L c, u1 = .slice a L c := by obtain ⟨a, c, e⟩ := obb_slice hN.keys; exact ⟨a, _, c, e⟩
      obtain ⟨xa, xL, xc, rfl⟩ : ∃ a L c, u2 = .slice a L c := by obtain ⟨a, c, e⟩ := obb_slice hN.vals; exact ⟨a, _, c, e⟩
      have hnb : ∀ {x : Value} {l : List (List UInt8)} {j : Nat} {c : Array Value}, Obb 0 w.heap.size X x l → X.heap[j]? = some (.cells c 37 (0, 0)) → ¬ some j = x.ownBlock := fun hx h3 e => by obtain ⟨_, _, _, h1⟩ := hx.typed _ e.symm; exact absurd (typed_ne h1 h3) (by decide)
      have hnb2 : ∀ {j : Nat} {c : Array Value}, X.heap[j]? = some (.cells c 37 (0, 0)) → ¬ (some j = (Value.slice ka K kc).ownBlock ∨ some j = (Value.slice va M vc).ownBlock) := fun h3 e => e.elim (hnb DX.out.keys h3) (hnb DX.out.vals h3)
      obtain ⟨⟨z0, z1, z2, z3⟩, zf⟩ := cells4_get hqx
      obtain ⟨⟨b0, b1', b2', b3⟩, bf⟩ := cells4_get DX.out.at_
      have e1 : ∀ q : Kp (fun b => some b = (Value.slice ka K kc).ownBlock ∨ some b = (Value.slice va M vc).ownBlock) X, q.nx.cell? ⟨w.heap.size + 1, 1, none⟩ = some (Value.slice ka K kc) := fun q => q.cell b1' (hnb2 DX.out.at_)
      have e2 : ∀ q : Kp (fun b => some b = (Value.slice ka K kc).ownBlock ∨ some b = (Value.slice va M vc).ownBlock) X, q.nx.cell? ⟨w.heap.size + 1, 2, none⟩ = some (Value.slice va M vc) := fun q => q.cell b2' (hnb2 DX.out.at_)
      have e3 : ∀ q : Kp (fun b => some b = (Value.slice ka K kc).ownBlock ∨ some b = (Value.slice va M vc).ownBlock) X, q.nx.cell? ⟨wr.heap.size, 1, none⟩ = some _ := fun q => q.cell z1 (hnb2 hqx)
      have e4 : ∀ q : Kp (fun b => some b = (Value.slice ka K kc).ownBlock ∨ some b = (Value.slice va M vc).ownBlock) X, q.nx.cell? ⟨wr.heap.size, 2, none⟩ = some _ := fun q => q.cell z2 (hnb2 hqx)
      have w1b : Wb (fun j => some j = (Value.slice ka K kc).ownBlock) X wA := (Wb.of_below _ hd).trans a2
      have w2b : Wb (fun j => some j = (Value.slice ka K kc).ownBlock ∨ some j = (Value.slice va M vc).ownBlock) X wB := (w1b.mono fun j hj => .inl hj).trans (b2.mono fun j hj => .inr hj)
      refine wp_region_mix 11 (fun w' => ∃ q : Kp (fun b => some b = (Value.slice ka K kc).ownBlock ∨ some b = (Value.slice va M vc).ownBlock) X, w' = q.nx) (by kernel_rfl) (by kernel_rfl) (kp_first _ X) ?_
      simp only [List.take_succ_cons, List.take_zero, List.drop_succ_cons, List.drop_zero]
      refine mx_take 4 rfl ?_
      simp only [List.take_succ_cons, List.take_zero, List.drop_succ_cons, List.drop_zero]
      repeat (go_big_quiet_step (fail))
      refine wpQuiet_nil ?_
      refine mx_app rfl rfl rfl (by kernel_rfl) a1 (kp_mk w1b.size fun b hb hx => w1b.block b hb fun e => hx (.inl e)) ?_
      simp only [Act.put, List.setIfInBounds_toArray, List.set_cons_succ, List.set_cons_zero]
      refine mx_take 4 rfl ?_
      simp only [List.take_succ_cons, List.take_zero, List.drop_succ_cons, List.drop_zero]
      repeat (go_big_quiet_step (fail))
      refine wpQuiet_nil ?_
      refine mx_app rfl rfl rfl (by kernel_rfl) b1 (kp_mk w2b.size fun b hb hx => w2b.block b hb hx) ?_
      simp only [Act.put, List.setIfInBounds_toArray, List.set_cons_succ, List.set_cons_zero]
      refine mx_take 1 rfl ?_
      simp only [List.take_succ_cons, List.take_zero, List.drop_succ_cons, List.drop_zero]
      repeat (go_big_quiet_step (fail))
      refine wpQuiet_nil ?_
      simp only [wpMix]
      obtain ⟨⟨_, p1', _, _⟩, pf⟩ := cells4_get hat
      obtain ⟨⟨_, _, p2', _⟩, pf2⟩ := cells4_get mid
      have hsx : w.heap.size + 1 < X.heap.size := DX.out.lt
      have ND := Hid.mk' hN
      have hkl1 := HG.out.kl
      have hvl1 := HG.out.vl
      have hkl2 := G2.out.kl
      have hvl2 := G2.out.vl
      simp only [cat, List.length_nil, List.length_append] at hkl1 hvl1
      have GN := Hid.mk' (jn_sep (DX.out.up hd) (GX.out.up hd) (GY.out.up hd) (fun v hv k e => by have := (HG.out.lt v hv k e).2; omega) hlk (fun j hj => by
        obtain ⟨_, _, _, h1⟩ := HJ.out.nd.vals.typed j hj
        have := (Array.getElem?_eq_some_iff.1 h1).1
        omega) (show w.heap.size ≤ V0.heap.size by omega) (show w.heap.size ≤ X.drew.heap.size from BX.out.size) (show V0.heap.size ≤ X.heap.size from hVX) (by omega) (by omega) a1 b1 hat)
      clear hkl1 hvl1 hkl2 hvl2
      have X5 : Wb (fun j => j = w.heap.size + 1 ∨ (some j = (Value.slice ka K kc).ownBlock ∨ some j = (Value.slice va M vc).ownBlock)) X ((wB.setCell ⟨w.heap.size + 1, 1, none⟩ (.slice ua uL uc)).setCell ⟨w.heap.size + 1, 2, none⟩ (.slice xa xL xc)) := ((w2b.mono fun j hj => .inr hj).trans (Wb.set _ _ _ _ (.inl rfl))).trans (Wb.set _ _ _ _ (.inl rfl))
      have ZN := Hid.mk' ((X5.block w.heap.size (by omega) (by rintro (e | e) <;> first | omega | exact hnb2 ZX.out e)).trans ZX.out)
      have BN := Hid.mk' (BX.out.trans (X5.below (D := w.heap.size) (by omega) fun j hj => by
        rcases hj with hj | hj | hj
        · omega
        · exact (DX.out.keys.typed j hj.symm).1
        · exact (DX.out.vals.typed j hj.symm).1))
      clear e1 e2 e3 e4 w1b w2b a1 a2 b1 b2 hat mid hN hnb hnb2 z0 z1 z2 z3 zf b0 b1' b2' b3 bf hd sk1 sk2 hlk X5
      go_wp2_with fail
      go_roundw
      case rel => exact ⟨2, by omega, by go_num, _, _, _, ⟨BN.out, ZN.out, ND.out⟩, _, _, GN.out⟩
      case measure => simp [intOf]
    · obtain ⟨ka, K, kc, ek⟩ : ∃ a L c, kv = .slice a L c := by obtain ⟨a, c, e⟩ := obb_slice HJ.out.nd.keys; exact ⟨a, _, c, e⟩
      obtain ⟨va, M, vc, evv⟩ : ∃ a L c, vv = .slice a L c := by obtain ⟨a, c, e⟩ := obb_slice HJ.out.nd.vals; exact ⟨a, _, c, e⟩
      obtain ⟨ca, L, cc, ecv⟩ : ∃ a L c, cv = .slice a L c := by obtain ⟨a, c, e⟩ := own_slice HJ.out.nd.kids; exact ⟨a, _, c, e⟩
      subst ek; subst evv; subst ecv
      obtain ⟨⟨b0, b1, b2, b3⟩, bf⟩ := cells4_get (show wr.heap[w.heap.size + 1]? = some (.cells #[.bool true, .slice ka K kc, .slice va M vc, .slice ca L cc] 37 (0, 0)) from HJ.out.nd.at_)
      obtain ⟨⟨z0, z1, z2, z3⟩, zf⟩ := cells4_get HJ.out.z
      go_wp2_with fail
      have ho := four_wb wr w.heap.size (.bool true) (.slice ka K kc) (.slice va M vc) (.slice ca L cc)
      refine bodyPost_ret (v := .agg #[.bool true, .slice ka K kc, .slice va M vc, .slice ca L cc]) (by simp [results, Try.results32, go_sem, z0, z1, z2, z3]) rfl ?_
      exact ⟨_, rfl, HJ.out.nd.out HJ.out.z ho, HJ.out.bl.trans (ho.below HJ.out.bl.size fun j hj => by subst hj; exact Nat.le_refl _), _, _, _, us, xs, rfl, HG.out.q HJ.out.z ho⟩
end Go.Proofs.Ytfmbbpfklhkljaa
set_option linter.unusedVariables false
set_option linter.unusedSimpArgs false
namespace Go.Proofs.Ytfmbbpfklhkljaa
open Go.RowKit
theorem own_uniq {B B' n : Nat} {e : TypeId} {w : World} {v : Value} {vs us : List Value} (h : w.ownsRow B e 1 v n vs) (k : w.ownsRow B' e 1 v n us) : vs = us := by
  obtain ⟨h0, ⟨_, h1⟩ | ⟨g, cap, cur, hv, _, hg, _, _, _, ht⟩⟩ := h
  · obtain ⟨k0, _⟩ := k
    rw [h1] at h0 k0
    have a1 := List.eq_nil_of_length_eq_zero (l := vs) (by simpa using h0)
    have a2 := List.eq_nil_of_length_eq_zero (l := us) (by simpa using k0)
    rw [a1, a2]
  · obtain ⟨k0, ⟨k1, _⟩ | ⟨g', cap', cur', kv, _, kg, _, _, _, kt⟩⟩ := k
    · rw [k1] at hv; cases hv
    · rw [hv] at kv
      cases kv
      rw [hg] at kg
      cases kg
      rw [← ht, ← kt]
/-- slices.Insert of one value, the row known exactly -/
theorem insert_sep {B vb : Nat} {w : World} {v y : Value} {us : List Value} {l : List (List UInt8)} {m : List UInt8} (h : Obb 0 B w v l) (hex : w.ownsRow B 32 1 v us.length us) (hul : us.length = l.length) (i : Nat) (hi : i ≤ l.length) (hv : w.heap[vb]? = some (.cells #[y] 32 (0, 0))) (hy : Bs (Td 0 w) w y m) (hne : v.ownBlock ≠ some vb)
    (hlen : (l.length + 1) * 24 ≤ lim) (hB : B ≤ w.heap.size) : Calls Try.prog 82 #[v, .int .i64 i, .slice (some ⟨vb, 0, none⟩) 1 1] w fun e w' => ∃ v', e = .returned v' ∧ Obb 0 B w' v' (l.take i ++ [m] ++ l.drop i) ∧ Wb (fun k => some k = v.ownBlock) w w' ∧ (v'.ownBlock = v.ownBlock ∨ ∃ k, v'.ownBlock = some k ∧ w.heap.size ≤ k) ∧ w'.ownsRow B 32 1 v' (us.take i ++ [y] ++ us.drop i).length (us.take i ++ [y] ++ us.drop i) := by
  have hty := h.typed
  obtain ⟨vs, h1, h2⟩ := h
  have hvl : vs.length = l.length := h2.1
  rw [hul] at hex
  obtain rfl : vs = us := own_uniq h1 hex
  have hil2 : (vs.take i ++ [y] ++ vs.drop i).length = l.length + 1 := by simp; omega
  rw [hil2]
  obtain ⟨ya, yc, ye, _⟩ := hy.at
  have h1y : y.oneCell' = true := by rw [ye]; rfl
  have fin : ∀ {w' : World} {v' : Value}, w'.ownsRow B 32 1 v' (l.length + 1) (vs.take i ++ [y] ++ vs.drop i) → Wb (fun k => some k = v.ownBlock) w w' → Obb 0 B w' v' (l.take i ++ [m] ++ l.drop i) := by
    intro w' v' ho hb
    have hs : ∀ b, Td 0 w b → w'.heap[b]? = w.heap[b]? := by
      rintro b (hb' | ⟨cur, fr, hb'⟩)
      · exact absurd hb' (Nat.not_lt_zero _)
      · refine hb.block b (Array.getElem?_eq_some_iff.1 hb').1 fun e => ?_
        obtain ⟨_, _, _, h3⟩ := hty b e.symm
        exact absurd (typed_ne h3 hb') (by decide)
    refine ⟨_, ?_, ((each_ins h2 hy i).keepS hs).monoS fun b hb' => ?_⟩
    · have : (l.take i ++ [m] ++ l.drop i).length = l.length + 1 := by simp; omega
      rw [this]; exact ho
    · have := hs b hb'
      rcases hb' with hb' | ⟨cur, fr, hb'⟩
      · exact absurd hb' (Nat.not_lt_zero _)
      · exact .inr ⟨cur, fr, by rw [this]; exact hb'⟩
  by_cases hie : i = l.length
  · subst hie
    refine (insert_end h1 hv h1y hlen hB).mono ?_
    rintro e w' ⟨v', rfl, k1, k2, k3⟩
    refine ⟨v', rfl, fin (by rw [← hvl, take_drop_end, hvl]; exact k1) (Wb.of_grown k2), (Wb.of_grown k2), ?_, by rw [← hvl, take_drop_end, hvl]; exact k1⟩
    rcases k3 with k3 | k3
    · exact .inl k3
    · exact .inr ⟨_, k3, Nat.le_refl _⟩
  · have hil : i < l.length := by omega
    have h1' := h1
    obtain ⟨h0, h | ⟨g, cap, cur, rfl, hbg, hg, hnc, hcm, hcs, htake⟩⟩ := h1
    · have := h.2; omega
    · have hone := h2.one
      by_cases hroom : l.length + 1 ≤ cap
      · refine (insert_shift (B := B) (cs := vs) (n := l.length) hil hroom hcm hvl hbg hg (by omega) (by simpa using htake) hv (fun e => hne (by rw [e]; rfl)) hone h1y).mono ?_
        rintro e w' ⟨rfl, k1, k2⟩
        have k2' : Wb (fun k => some k = (Value.slice (some ⟨g, 0, none⟩) l.length cap).ownBlock) w w' := k2.mono fun k hk => by subst hk; rfl
        exact ⟨_, rfl, fin k1 k2', k2', .inl rfl, k1⟩
      · have hcells : ∀ j u, vs[j]? = some u → w.cell? ⟨g, j, none⟩ = some u := fun j u hj => by
          have hjn : j < l.length := by have := (List.getElem?_eq_some_iff.1 hj).1; omega
          rw [World.ownsRow.cellAt h1' j (by omega)]; exact hj
        refine (insert_grow (cs := vs) (n := l.length) hil hnc (by omega) hlen hvl hcells (by simp [World.cell?, hv]) hone h1y).mono ?_
        rintro e w' ⟨v', rfl, k1, k2⟩
        have k2' := Wb.of_below (fun k => some k = (Value.slice (some ⟨g, 0, none⟩) l.length cap).ownBlock) k2
        refine ⟨v', rfl, fin (own_mono k1 hB) k2', k2', ?_, own_mono k1 hB⟩
        obtain ⟨_, hx | ⟨g', c', cu', hv', hb', _⟩⟩ := k1
        · have := hx.2; omega
        · exact .inr ⟨g', by rw [hv']; rfl, hb'⟩
/-- an element in between -/
theorem ob_ins {B : Nat} {w : World} {us : List Value} {l : List (List UInt8)} {y : Value} {m : List UInt8} (h : ∀ t (a : t < us.length) (b : t < l.length), Ob 5 B w us[t] l[t]) (hl : us.length = l.length) (hy : Ob 5 B w y m) (i : Nat) (hi : i ≤ l.length) : ∀ t (a : t < (us.take i ++ [y] ++ us.drop i).length) (b : t < (l.take i ++ [m] ++ l.drop i).length), Ob 5 B w (us.take i ++ [y] ++ us.drop i)[t] (l.take i ++ [m] ++ l.drop i)[t] := by
  intro t a b
  have e1 : (us.take i).length = i := by simp; omega
  have e2 : (l.take i).length = i := by simp; omega
  by_cases h1 : t < i
  · have ea : (us.take i ++ [y] ++ us.drop i)[t] = us[t]'(by omega) := by
      rw [List.getElem_append_left (by simp; omega), List.getElem_append_left (by omega), List.getElem_take]
    have eb : (l.take i ++ [m] ++ l.drop i)[t] = l[t]'(by omega) := by
      rw [List.getElem_append_left (by simp; omega), List.getElem_append_left (by omega), List.getElem_take]
    rw [ea, eb]; exact h t _ _
  · by_cases h2 : t = i
    · subst h2
      have ea : (us.take t ++ [y] ++ us.drop t)[t] = y := by
        rw [List.getElem_append_left (by simp; omega), List.getElem_append_right (by omega)]
        simp [e1]
      have eb : (l.take t ++ [m] ++ l.drop t)[t] = m := by
        rw [List.getElem_append_left (by simp; omega), List.getElem_append_right (by omega)]
        simp [e2]
      rw [ea, eb]; exact hy
    · have hlen : t < us.length + 1 := by simp at a; omega
      have ea : (us.take i ++ [y] ++ us.drop i)[t] = us[t - 1]'(by omega) := by
        rw [List.getElem_append_right (by simp; omega), List.getElem_drop]
        congr 1
        simp; omega
      have eb : (l.take i ++ [m] ++ l.drop i)[t] = l[t - 1]'(by omega) := by
        rw [List.getElem_append_right (by simp; omega), List.getElem_drop]
        congr 1
        simp; omega
      rw [ea, eb]; exact h (t - 1) _ _
theorem ap_ins {us xs : List Value} {y : Value} {N i : Nat} (h : (us ++ xs).Pairwise Ap) (h1 : ∀ v ∈ us ++ xs, ∀ k, v.ownBlock = some k → k < N) (h2 : ∀ k, y.ownBlock = some k → N ≤ k) : ((us.take i ++ [y] ++ us.drop i) ++ xs).Pairwise Ap ∧ (us ++ xs ++ [y]).Pairwise Ap := by
  have h3 := ap_snoc h h1 h2
  refine ⟨(List.Perm.pairwise_iff ap_symm ?_).1 h3, h3⟩
  have : (us ++ xs ++ [y]).Perm ([y] ++ (us ++ xs)) := List.perm_append_comm
  refine this.trans ?_
  have e : us ++ xs = us.take i ++ (us.drop i ++ xs) := by rw [← List.append_assoc, List.take_append_drop]
  rw [e, ← List.append_assoc]
  have e2 : us.take i ++ [y] ++ us.drop i ++ xs = us.take i ++ [y] ++ (us.drop i ++ xs) := by simp
  rw [e2]
  exact List.Perm.append_right _ List.perm_append_comm
/-- other keys, with one more in between -/
theorem spn_setk {B nb N i : Nat} {w w' : World} {n : Nd} {kv vv cv u y : Value} {m : List UInt8} {us xs : List Value} (h : Nod B nb w n kv vv cv) (hs : Spn B n kv vv us xs w) (k2 : Wb (fun k => some k = kv.ownBlock) w w') (hat : w'.heap[nb]? = some (.cells #[.bool n.leaf, kv, vv, cv] 37 (0, 0))) (hex : w'.ownsRow B 32 1 u (us.take i ++ [y] ++ us.drop i).length (us.take i ++ [y] ++ us.drop i)) (hi : i ≤ n.keys.length) (hy : Ob 5 B w y m) (h1 : ∀ v ∈ us ++ xs, ∀ k, v.ownBlock = some k → k < N) (h2 : ∀ k, y.ownBlock = some k → N ≤ k) :
    Spn B ⟨n.leaf, n.keys.take i ++ [m] ++ n.keys.drop i, n.vals, n.kids⟩ u vv (us.take i ++ [y] ++ us.drop i) xs (w'.setCell ⟨nb, 1, none⟩ u) := by
  have hs3 := Wb.set (X := fun k => k = nb) w' nb 1 u rfl
  have hn : ∀ {e : TypeId} {C : Nat} {v : Value} {a : Nat} {l : List Value}, e ≠ 37 → w'.ownsRow C e 1 v a l → (w'.setCell ⟨nb, 1, none⟩ u).ownsRow C e 1 v a l := fun he ho => own_wb ho hs3 fun k hk' e' => by
    subst hk'
    obtain ⟨_, _, _, h1⟩ := own_typed ho _ e'.symm
    exact he (typed_ne h1 hat)
  have t1 : ∀ k, some k = kv.ownBlock → ∃ cur fr, w.heap[k]? = some (.cells cur 32 fr) := fun k e => (own_typed hs.kr k e.symm).2
  have hno : ∀ {v : Value} {l : List UInt8}, Ob 5 B w v l → Ob 5 B (w'.setCell ⟨nb, 1, none⟩ u) v l := fun ho => hn (by decide) (own_wb ho k2 fun k e e' => by
    obtain ⟨_, _, h2⟩ := t1 k e
    obtain ⟨_, _, _, h3⟩ := own_typed ho k e'.symm
    exact absurd (typed_ne h2 h3) (by decide))
  have hkl := hs.kl
  exact ⟨hn (by decide) hex, hn (by decide) (own_wb hs.vr k2 fun k e e' => h.apart k e.symm e'.symm), by simp; omega, hs.vl, ob_ins (fun t a b => hno (hs.ke t a b)) hs.kl (hno hy) i hi, fun t a b => hno (hs.ve t a b), (ap_ins hs.sp h1 h2).1⟩
/-- other values, with one more in between -/
theorem spn_setv {B nb N i : Nat} {w w' : World} {n : Nd} {kv vv cv u y : Value} {m : List UInt8} {us xs : List Value} (h : Nod B nb w n kv vv cv) (hs : Spn B n kv vv us xs w) (k2 : Wb (fun k => some k = vv.ownBlock) w w') (hat : w'.heap[nb]? = some (.cells #[.bool n.leaf, kv, vv, cv] 37 (0, 0))) (hex : w'.ownsRow B 32 1 u (xs.take i ++ [y] ++ xs.drop i).length (xs.take i ++ [y] ++ xs.drop i)) (hi : i ≤ n.vals.length) (hy : Ob 5 B w y m) (h1 : ∀ v ∈ us ++ xs, ∀ k, v.ownBlock = some k → k < N) (h2 : ∀ k, y.ownBlock = some k → N ≤ k) :
    Spn B ⟨n.leaf, n.keys, n.vals.take i ++ [m] ++ n.vals.drop i, n.kids⟩ kv u us (xs.take i ++ [y] ++ xs.drop i) (w'.setCell ⟨nb, 2, none⟩ u) := by
  have hs3 := Wb.set (X := fun k => k = nb) w' nb 2 u rfl
  have hn : ∀ {e : TypeId} {C : Nat} {v : Value} {a : Nat} {l : List Value}, e ≠ 37 → w'.ownsRow C e 1 v a l → (w'.setCell ⟨nb, 2, none⟩ u).ownsRow C e 1 v a l := fun he ho => own_wb ho hs3 fun k hk' e' => by
    subst hk'
    obtain ⟨_, _, _, h1⟩ := own_typed ho _ e'.symm
    exact he (typed_ne h1 hat)
  have t1 : ∀ k, some k = vv.ownBlock → ∃ cur fr, w.heap[k]? = some (.cells cur 32 fr) := fun k e => (own_typed hs.vr k e.symm).2
  have hno : ∀ {v : Value} {l : List UInt8}, Ob 5 B w v l → Ob 5 B (w'.setCell ⟨nb, 2, none⟩ u) v l := fun ho => hn (by decide) (own_wb ho k2 fun k e e' => by
    obtain ⟨_, _, h2⟩ := t1 k e
    obtain ⟨_, _, _, h3⟩ := own_typed ho k e'.symm
    exact absurd (typed_ne h2 h3) (by decide))
  have hvl := hs.vl
  have hp : (xs ++ us).Pairwise Ap := (List.Perm.pairwise_iff ap_symm List.perm_append_comm).1 hs.sp
  have hq := (ap_ins (i := i) hp (fun v hv => h1 v (by simp at hv ⊢; exact hv.symm)) h2).1
  exact ⟨hn (by decide) (own_wb hs.kr k2 fun k e e' => h.apart k e'.symm e.symm), hn (by decide) hex, hs.kl, by simp; omega, fun t a b => hno (hs.ke t a b), ob_ins (fun t a b => hno (hs.ve t a b)) hs.vl (hno hy) i hi, (List.Perm.pairwise_iff ap_symm List.perm_append_comm).1 hq⟩
set_option maxRecDepth 100000 in
set_option maxHeartbeats 4000000 in
/-- leaf.With -/
theorem with_sep {A A1 A2 : Nat → Prop} {w : World} {v kb xb : Value} {n : Nd} {kl xl : List UInt8} {i : Int} (h : RN A w v n) (hk : Bs A1 w kb kl) (hx : Bs A2 w xb xl) (hb1 : (n.keys.length + 1) * 24 ≤ lim) (hb2 : (n.vals.length + 1) * 24 ≤ lim) (hc : n.leaf = true ∧ 0 ≤ i ∧ i ≤ n.keys.length ∧ i ≤ n.vals.length) :
    Calls Try.prog 36 #[v, .int .i64 i, kb, xb] w fun e w' => ∃ v', e = .returned v' ∧ OwnN w.heap.size w' v' (wth n i kl xl) ∧ Below w.heap.size w w' ∧ ∃ kv vv cv us xs, v' = .agg #[.bool n.leaf, kv, vv, cv] ∧ Spn w.heap.size (wth n i kl xl) kv vv us xs w' := by
  obtain ⟨a1, c1, a2, c2, a3, c3, rfl⟩ := h.form
  have HN := Hid.mk' h
  have HC := Hid.mk' hc
  clear hc
  have HK := Hid.mk' hk
  have HX := Hid.mk' hx
  have HW : Hid (∀ i, wth n i kl xl = if n.leaf = true ∧ 0 ≤ i ∧ i ≤ n.keys.length ∧ i ≤ n.vals.length then ⟨n.leaf, n.keys.take i.toNat ++ [kl] ++ n.keys.drop i.toNat, n.vals.take i.toNat ++ [xl] ++ n.vals.drop i.toNat, n.kids⟩ else n) := fun _ => rfl
  have hl1 : (n.keys.length + 1) * 24 ≤ 140737488351232 := hb1
  have hl2 : (n.vals.length + 1) * 24 ≤ 140737488351232 := hb2
  clear h hk hx
  go_enter Try.func36, Try.ntmps36
  go_wp2_with fail
  obtain ⟨W1, hW1⟩ : ∃ W1, W1 = w.alloc (.cells #[.bool n.leaf, .slice a1 n.keys.length c1, .slice a2 n.vals.length c2, .slice a3 n.kids.length c3] 37) := ⟨_, rfl⟩
  have hb1 : Below w.heap.size w W1 := by rw [hW1]; exact up_alloc _ _
  have hx1 : W1.heap[w.heap.size]? = some (.cells #[.bool n.leaf, .slice a1 n.keys.length c1, .slice a2 n.vals.length c2, .slice a3 n.kids.length c3] 37 (0, 0)) := by rw [hW1]; exact heap_alloc_new w _
  have hsz1 : W1.heap.size = w.heap.size + 1 := by rw [hW1]; simp
  obtain ⟨V, hV⟩ : ∃ V, V = W1.alloc (.cells #[.bool false, .slice none 0 0, .slice none 0 0, .slice none 0 0] 37) := ⟨_, rfl⟩
  have hb2 : Below W1.heap.size W1 V := by rw [hV]; exact up_alloc _ _
  have hx2 : V.heap[w.heap.size]? = some (.cells #[.bool n.leaf, .slice a1 n.keys.length c1, .slice a2 n.vals.length c2, .slice a3 n.kids.length c3] 37 (0, 0)) := by rw [hb2.block _ (by omega)]; exact hx1
  have hz2 : V.heap[w.heap.size + 1]? = some (.cells #[.bool false, .slice none 0 0, .slice none 0 0, .slice none 0 0] 37 (0, 0)) := by rw [hV, ← hsz1]; exact heap_alloc_new W1 _
  have hszV : V.heap.size = w.heap.size + 2 := by rw [hV]; simp; omega
  have HBV := Hid.mk' (bt hb1 hb2)
  have he : ((w.alloc (.cells #[.bool n.leaf, .slice a1 n.keys.length c1, .slice a2 n.vals.length c2, .slice a3 n.kids.length c3] 37)).alloc (.cells #[.bool false, .slice none 0 0, .slice none 0 0, .slice none 0 0] 37)) = V := by rw [hV, hW1]
  rw [he]
  clear he hV hW1 hb1 hb2 hx1 hsz1 W1
  refine (twin_sep (HN.out.up HBV.out)).mono ?_
  rintro e w2 ⟨v2, rfl, n2, h2, sp2⟩
  obtain ⟨e1, d1, e2, d2, e3, d3, rfl⟩ := n2.form
  obtain ⟨us, xs, g0⟩ := spn_of n2 sp2
  clear sp2
  have hN3 := (n2.mono (show w.heap.size ≤ V.heap.size by omega)).nod
  have h3 := up_alloc w2 (.cells #[.bool n.leaf, .slice e1 n.keys.length d1, .slice e2 n.vals.length d2, .slice e3 n.kids.length d3] 37)
  obtain ⟨V3, hV3⟩ : ∃ V3, V3 = w2.alloc (.cells #[.bool n.leaf, .slice e1 n.keys.length d1, .slice e2 n.vals.length d2, .slice e3 n.kids.length d3] 37) := ⟨_, rfl⟩
  rw [← hV3] at hN3 h3
  have G3 := Hid.mk' ((g0.mono (show w.heap.size ≤ V.heap.size by omega)).up h3)
  clear g0
  have hx3 : V3.heap[w.heap.size]? = some (.cells #[.bool n.leaf, .slice a1 n.keys.length c1, .slice a2 n.vals.length c2, .slice a3 n.kids.length c3] 37 (0, 0)) := by rw [(bt h2 h3).block _ (by omega)]; exact hx2
  have hz3 : V3.heap[w.heap.size + 1]? = some (.cells #[.bool false, .slice none 0 0, .slice none 0 0, .slice none 0 0] 37 (0, 0)) := by rw [(bt h2 h3).block _ (by omega)]; exact hz2
  have HB3 := Hid.mk' (bt HBV.out (bt h2 h3))
  have N3 := Hid.mk' hN3
  have hs2 : w.heap.size + 2 ≤ w2.heap.size := by have := h2.size; omega
  have hs3 : w2.heap.size < V3.heap.size := hN3.lt
  have hxw : w2.heap[w.heap.size]? = some (.cells #[.bool n.leaf, .slice a1 n.keys.length c1, .slice a2 n.vals.length c2, .slice a3 n.kids.length c3] 37 (0, 0)) := by rw [h2.block _ (by omega)]; exact hx2
  have hzw : w2.heap[w.heap.size + 1]? = some (.cells #[.bool false, .slice none 0 0, .slice none 0 0, .slice none 0 0] 37 (0, 0)) := by rw [h2.block _ (by omega)]; exact hz2
  have hlt0 : w.heap.size < w2.heap.size := by omega
  have hlt1 : w.heap.size + 1 < w2.heap.size := by omega
  have N2 := Hid.mk' (n2.mono (show w.heap.size ≤ V.heap.size by omega))
  have HB2 := Hid.mk' (bt HBV.out h2)
  have HZW := Hid.mk' hzw
  clear n2 h2 h3 hN3 hx2 hz2 hszV
  obtain ⟨⟨b0, b1, b2, b3⟩, bf⟩ := cells4_get hxw
  obtain ⟨⟨z0, z1, z2, z3⟩, zf⟩ := cells4_get hzw
  subst hV3
  obtain ⟨hc1, hc2, hc3, hc4⟩ := HC.out
  have HWT : Hid (wth n i kl xl = ⟨n.leaf, n.keys.take i.toNat ++ [kl] ++ n.keys.drop i.toNat, n.vals.take i.toNat ++ [xl] ++ n.vals.drop i.toNat, n.kids⟩) := by show _ = _; rw [HW.out, if_pos ⟨hc1, hc2, hc3, hc4⟩]
  obtain ⟨j, rfl⟩ : ∃ j : Nat, i = (j : Int) := ⟨i.toNat, by omega⟩
  rw [Int.toNat_natCast] at HWT
  rw [hc1] at b0
  have k1 : decide ((j : Int) < 0) = false := by simp
  have k2 : decide ((n.keys.length : Int) < (j : Int)) = false := by simp; omega
  have k3 : decide ((n.vals.length : Int) < (j : Int)) = false := by simp; omega
  have hj1 : j ≤ n.keys.length := by omega
  have hj2 : j ≤ n.vals.length := by omega
  have HLF := Hid.mk' hc1
  clear hc1 hc2 hc3 hc4
  go_wp2_with fail
  generalize (w2.alloc (.cells #[.bool n.leaf, .slice e1 n.keys.length d1, .slice e2 n.vals.length d2, .slice e3 n.kids.length d3] 37)) = V3 at *
  have hrr : ∀ q : Kp (fun b => some b = (Value.slice e1 n.keys.length d1).ownBlock) V3, q.nx.cell? ⟨w2.heap.size, 1, none⟩ = some (Value.slice e1 n.keys.length d1) := fun q => q.cell (by have := (cells4_get N3.out.at_).1; exact this.2.1) (fun e => by obtain ⟨_, _, _, h1⟩ := N3.out.keys.typed _ e.symm; exact absurd (typed_ne h1 N3.out.at_) (by decide))
  have hdw : Below V3.heap.size V3 V3.drew := ⟨rfl, rfl, rfl, Nat.le_refl _, fun _ _ => rfl⟩
  refine wp_region_mix 8 (fun w' => ∃ q : Kp (fun b => some b = (Value.slice e1 n.keys.length d1).ownBlock) V3, w' = q.nx) (by kernel_rfl) (by kernel_rfl) (kp_first _ V3) ?_
  simp only [List.take_succ_cons, List.take_zero, List.drop_succ_cons, List.drop_zero]
  refine mx_take 4 rfl ?_
  simp only [List.take_succ_cons, List.take_zero, List.drop_succ_cons, List.drop_zero]
  repeat (go_big_quiet_step (fail))
  refine wpQuiet_nil ?_
  refine mx_call (vals := [kb]) Try.func76 (by kernel_rfl) rfl rfl (by kernel_rfl) (by kernel_rfl) (clone_any _ _ _ (HK.out.up (HB3.out.trans (hdw.mono HB3.out.size)))) (fun e wa ha => ?_)
  obtain ⟨va, rfl, ha, oa⟩ := ha
  have hda := bt hdw ha
  refine ⟨_, rfl, kp_mk hda.size fun b hb _ => hda.block b hb, ?_⟩
  simp only [Act.put, List.setIfInBounds_toArray, List.set_cons_succ, List.set_cons_zero]
  obtain ⟨fa, ga, ea, _⟩ := (oa.bs HK.out.2).at
  have hup := up_alloc wa (.cells #[va] 32)
  have hdb := bt hda hup
  refine mx_make (by rfl) (by kernel_rfl) (by simp only [execOp, List.map_toArray, List.map_cons, List.map_nil, go_sem]; exact run_v (lays28 _ _ _ _ _ ea)) (kp_mk hdb.size fun b hb _ => hdb.block b hb) ?_
  simp only [Act.put, List.setIfInBounds_toArray, List.set_cons_succ, List.set_cons_zero]
  have hNb := N3.out.wb (Wb.of_below (fun _ => False) hdb) (fun k hk => hk.elim)
  have hlitv : (wa.alloc (.cells #[va] 32)).heap[wa.heap.size]? = some (.cells #[va] 32 (0, 0)) := heap_alloc_new wa _
  have hyb : Bs (Td 0 (wa.alloc (.cells #[va] 32))) (wa.alloc (.cells #[va] 32)) va kl := ((Bs.td (B := 0) oa HK.out.2).up hup).monoS fun b hb => hb.up hup
  have hneb : (Value.slice e1 n.keys.length d1).ownBlock ≠ some wa.heap.size := fun e => by
    obtain ⟨_, _, _, h1⟩ := N3.out.keys.typed _ e
    have := (Array.getElem?_eq_some_iff.1 h1).1
    have := hda.size
    omega
  refine mx_call (vals := [Value.slice e1 n.keys.length d1, .int .i64 j, .slice (some ⟨wa.heap.size, 0, none⟩) 1 1]) Try.func82 (by kernel_rfl) rfl rfl (by kernel_rfl) (by kernel_rfl) (insert_sep hNb.keys (G3.out.up hdb).kr (G3.out.up hdb).kl j hj1 hlitv hyb hneb (by unfold lim; omega) (by have := N3.out.lt; have := hdb.size; omega)) (fun e wc hc => ?_)
  obtain ⟨un, rfl, r3, r2, r5, r6⟩ := hc
  have gac : Wb (fun b => some b = (Value.slice e1 n.keys.length d1).ownBlock) V3 wc := (Wb.of_below _ hdb).trans r2
  refine ⟨_, rfl, kp_mk gac.size fun b hb hx => gac.block b hb hx, ?_⟩
  simp only [Act.put, List.setIfInBounds_toArray, List.set_cons_succ, List.set_cons_zero]
  refine mx_take 1 rfl ?_
  simp only [List.take_succ_cons, List.take_zero, List.drop_succ_cons, List.drop_zero]
  repeat (go_big_quiet_step (fail))
  refine wpQuiet_nil ?_
  simp only [wpMix]
  obtain ⟨hat', hN'⟩ := nod_setk hNb r2 r3 r5
  have G4 := Hid.mk' (spn_setk (N := V3.heap.size) hNb (G3.out.up hdb) r2 hat' r6 hj1 ((oa.alloc _).mono (show w.heap.size ≤ V3.drew.heap.size by show _ ≤ V3.heap.size; omega)) (fun v hv k e => (G3.out.lt v hv k e).2) (fun k e => (oa.lt k e).1))
  clear r6
  obtain ⟨L1, f1, g1, ef1⟩ : ∃ L a c, un = .slice a L c := (let ⟨_, h, _⟩ := r3; ⟨_, own_slice h⟩)
  subst ef1
  have N4 := Hid.mk' hN'
  have hcl' := (cells4_get hat').1.2.1
  have hcf' := (cells4_get hat').2 1
  have hkb : ∀ k, some k = (Value.slice e1 n.keys.length d1).ownBlock → w.heap.size ≤ k ∧ k ≠ w.heap.size ∧ k ≠ w.heap.size + 1 := fun k hk => by
    obtain ⟨h1, _, _, h2⟩ := N3.out.keys.typed k hk.symm
    refine ⟨h1, ?_, ?_⟩
    · rintro rfl; exact absurd (typed_ne h2 hx3) (by decide)
    · rintro rfl; exact absurd (typed_ne h2 hz3) (by decide)
  have X4 : Wb (fun b => b = w2.heap.size ∨ some b = (Value.slice e1 n.keys.length d1).ownBlock) V3 (wc.setCell ⟨w2.heap.size, 1, none⟩ (.slice f1 L1 g1)) := (gac.mono fun k hk => .inr hk).trans (Wb.set _ _ _ _ (.inl rfl))
  have HZ4 : Hid ((wc.setCell ⟨w2.heap.size, 1, none⟩ (.slice f1 L1 g1)).heap[w.heap.size + 1]? = some (.cells #[.bool false, .slice none 0 0, .slice none 0 0, .slice none 0 0] 37 (0, 0))) := by
    show _ = _
    rw [X4.block _ (by omega) (by rintro (e | e) <;> first | omega | exact (hkb _ e).2.2 rfl)]; exact hz3
  have HX4 : Hid ((wc.setCell ⟨w2.heap.size, 1, none⟩ (.slice f1 L1 g1)).heap[w.heap.size]? = some (.cells #[.bool n.leaf, .slice a1 n.keys.length c1, .slice a2 n.vals.length c2, .slice a3 n.kids.length c3] 37 (0, 0))) := by
    show _ = _
    rw [X4.block _ (by omega) (by rintro (e | e) <;> first | omega | exact (hkb _ e).2.1 rfl)]; exact hx3
  have HB4 := Hid.mk' (HB3.out.trans (X4.below HB3.out.size (fun k hk => by
    rcases hk with hk | hk
    · omega
    · exact (hkb k hk).1)))
  have hsz4 := X4.size
  clear hrr hdw ha oa hda hup hdb hNb hlitv hyb hneb r2 r3 r5 gac hat' hN' hkb X4
  obtain ⟨⟨m0, m1, m2, m3⟩, mf⟩ := cells4_get N4.out.at_
  obtain ⟨⟨z0, z1, z2, z3⟩, zf⟩ := cells4_get HZ4.out
  dsimp only at m0 m1 m2 m3
  go_wp2_with fail
  clear m0 m1 m2 m3 mf hcl' hcf'
  obtain ⟨V4, hV4⟩ : ∃ V4, V4 = wc.setCell ⟨w2.heap.size, 1, none⟩ (.slice f1 L1 g1) := ⟨_, rfl⟩
  rw [← hV4] at G4 N4 HZ4 HX4 HB4 hsz4 ⊢
  clear hV4 z0 z1 z2 z3 zf
  have hrr : ∀ q : Kp (fun b => some b = (Value.slice e2 n.vals.length d2).ownBlock) V4, q.nx.cell? ⟨w2.heap.size, 2, none⟩ = some (Value.slice e2 n.vals.length d2) := fun q => q.cell (by have := (cells4_get N4.out.at_).1; exact this.2.2.1) (fun e => by obtain ⟨_, _, _, h1⟩ := N4.out.vals.typed _ e.symm; exact absurd (typed_ne h1 N4.out.at_) (by decide))
  have hdw : Below V4.heap.size V4 V4.drew := ⟨rfl, rfl, rfl, Nat.le_refl _, fun _ _ => rfl⟩
  refine wp_region_mix 8 (fun w' => ∃ q : Kp (fun b => some b = (Value.slice e2 n.vals.length d2).ownBlock) V4, w' = q.nx) (by kernel_rfl) (by kernel_rfl) (kp_first _ V4) ?_
  simp only [List.take_succ_cons, List.take_zero, List.drop_succ_cons, List.drop_zero]
  refine mx_take 4 rfl ?_
  simp only [List.take_succ_cons, List.take_zero, List.drop_succ_cons, List.drop_zero]
  repeat (go_big_quiet_step (fail))
  refine wpQuiet_nil ?_
  refine mx_call (vals := [xb]) Try.func76 (by kernel_rfl) rfl rfl (by kernel_rfl) (by kernel_rfl) (clone_any _ _ _ (HX.out.up (HB4.out.trans (hdw.mono HB4.out.size)))) (fun e wa ha => ?_)
  obtain ⟨va, rfl, ha, oa⟩ := ha
  have hda := bt hdw ha
  refine ⟨_, rfl, kp_mk hda.size fun b hb _ => hda.block b hb, ?_⟩
  simp only [Act.put, List.setIfInBounds_toArray, List.set_cons_succ, List.set_cons_zero]
  obtain ⟨fa, ga, ea, _⟩ := (oa.bs HX.out.2).at
  have hup := up_alloc wa (.cells #[va] 32)
  have hdb := bt hda hup
  refine mx_make (by rfl) (by kernel_rfl) (by simp only [execOp, List.map_toArray, List.map_cons, List.map_nil, go_sem]; exact run_v (lays28 _ _ _ _ _ ea)) (kp_mk hdb.size fun b hb _ => hdb.block b hb) ?_
  simp only [Act.put, List.setIfInBounds_toArray, List.set_cons_succ, List.set_cons_zero]
  have hNb := N4.out.wb (Wb.of_below (fun _ => False) hdb) (fun k hk => hk.elim)
  have hlitv : (wa.alloc (.cells #[va] 32)).heap[wa.heap.size]? = some (.cells #[va] 32 (0, 0)) := heap_alloc_new wa _
  have hyb : Bs (Td 0 (wa.alloc (.cells #[va] 32))) (wa.alloc (.cells #[va] 32)) va xl := ((Bs.td (B := 0) oa HX.out.2).up hup).monoS fun b hb => hb.up hup
  have hneb : (Value.slice e2 n.vals.length d2).ownBlock ≠ some wa.heap.size := fun e => by
    obtain ⟨_, _, _, h1⟩ := N4.out.vals.typed _ e
    have := (Array.getElem?_eq_some_iff.1 h1).1
    have := hda.size
    omega
  refine mx_call (vals := [Value.slice e2 n.vals.length d2, .int .i64 j, .slice (some ⟨wa.heap.size, 0, none⟩) 1 1]) Try.func82 (by kernel_rfl) rfl rfl (by kernel_rfl) (by kernel_rfl) (insert_sep hNb.vals (G4.out.up hdb).vr (G4.out.up hdb).vl j hj2 hlitv hyb hneb (by unfold lim; omega) (by have := N4.out.lt; have := hdb.size; omega)) (fun e wc hc => ?_)
  obtain ⟨un, rfl, r3, r2, r5, r6⟩ := hc
  have gac : Wb (fun b => some b = (Value.slice e2 n.vals.length d2).ownBlock) V4 wc := (Wb.of_below _ hdb).trans r2
  refine ⟨_, rfl, kp_mk gac.size fun b hb hx => gac.block b hb hx, ?_⟩
  simp only [Act.put, List.setIfInBounds_toArray, List.set_cons_succ, List.set_cons_zero]
  refine mx_take 1 rfl ?_
  simp only [List.take_succ_cons, List.take_zero, List.drop_succ_cons, List.drop_zero]
  repeat (go_big_quiet_step (fail))
  refine wpQuiet_nil ?_
  simp only [wpMix]
  obtain ⟨hat', hN'⟩ := nod_setv hNb r2 r3 r5
  have G5 := Hid.mk' (spn_setv (N := V4.heap.size) hNb (G4.out.up hdb) r2 hat' r6 hj2 ((oa.alloc _).mono (show w.heap.size ≤ V4.drew.heap.size by show _ ≤ V4.heap.size; omega)) (fun v hv k e => (G4.out.lt v hv k e).2) (fun k e => (oa.lt k e).1))
  clear r6
  obtain ⟨L2, f2, g2, ef2⟩ : ∃ L a c, un = .slice a L c := (let ⟨_, h, _⟩ := r3; ⟨_, own_slice h⟩)
  subst ef2
  have N5 := Hid.mk' hN'
  have hcl' := (cells4_get hat').1.2.2.1
  have hcf' := (cells4_get hat').2 2
  have hkb : ∀ k, some k = (Value.slice e2 n.vals.length d2).ownBlock → w.heap.size ≤ k ∧ k ≠ w.heap.size ∧ k ≠ w.heap.size + 1 := fun k hk => by
    obtain ⟨h1, _, _, h2⟩ := N4.out.vals.typed k hk.symm
    refine ⟨h1, ?_, ?_⟩
    · rintro rfl; exact absurd (typed_ne h2 HX4.out) (by decide)
    · rintro rfl; exact absurd (typed_ne h2 HZ4.out) (by decide)
  have X5 : Wb (fun b => b = w2.heap.size ∨ some b = (Value.slice e2 n.vals.length d2).ownBlock) V4 (wc.setCell ⟨w2.heap.size, 2, none⟩ (.slice f2 L2 g2)) := (gac.mono fun k hk => .inr hk).trans (Wb.set _ _ _ _ (.inl rfl))
  have HZ5 : Hid ((wc.setCell ⟨w2.heap.size, 2, none⟩ (.slice f2 L2 g2)).heap[w.heap.size + 1]? = some (.cells #[.bool false, .slice none 0 0, .slice none 0 0, .slice none 0 0] 37 (0, 0))) := by
    show _ = _
    rw [X5.block _ (by omega) (by rintro (e | e) <;> first | omega | exact (hkb _ e).2.2 rfl)]; exact HZ4.out
  have HX5 : Hid ((wc.setCell ⟨w2.heap.size, 2, none⟩ (.slice f2 L2 g2)).heap[w.heap.size]? = some (.cells #[.bool n.leaf, .slice a1 n.keys.length c1, .slice a2 n.vals.length c2, .slice a3 n.kids.length c3] 37 (0, 0))) := by
    show _ = _
    rw [X5.block _ (by omega) (by rintro (e | e) <;> first | omega | exact (hkb _ e).2.1 rfl)]; exact HX4.out
  have HB5 := Hid.mk' (HB4.out.trans (X5.below HB4.out.size (fun k hk => by
    rcases hk with hk | hk
    · omega
    · exact (hkb k hk).1)))
  have hsz5 := X5.size
  clear hrr hdw ha oa hda hup hdb hNb hlitv hyb hneb r2 r3 r5 gac hat' hN' hkb X5
  obtain ⟨⟨m0, m1, m2, m3⟩, mf⟩ := cells4_get N5.out.at_
  obtain ⟨⟨z0, z1, z2, z3⟩, zf⟩ := cells4_get HZ5.out
  dsimp only at m0 m1 m2 m3
  go_wp2_with fail
  have hzf : w2.heap.size ≠ w.heap.size + 1 := by omega
  go_wp2_with fail
  refine bodyPost_ret (v := .agg #[.bool n.leaf, .slice f1 L1 g1, .slice f2 L2 g2, .slice e3 n.kids.length d3]) (by simp [results, Try.results36, go_sem, z0, z1, z2, z3]) rfl ?_
  refine ⟨_, rfl, by rw [HWT.out]; exact N5.out.out HZ5.out (four_wb _ _ _ _ _ _), HB5.out.trans ((four_wb _ _ _ _ _ _).below HB5.out.size (fun k hk => by subst hk; omega)), ?_⟩
  rw [HWT.out]
  have G6 := G5.out.q HZ5.out (four_wb (wc.setCell ⟨w2.heap.size, 2, none⟩ (.slice f2 L2 g2)) (w.heap.size + 1) (.bool n.leaf) (.slice f1 L1 g1) (.slice f2 L2 g2) (.slice e3 n.kids.length d3))
  exact ⟨_, _, ⟨_, rfl⟩, _, _, G6⟩
end Go.Proofs.Ytfmbbpfklhkljaa
set_option linter.unusedVariables false
set_option linter.unusedSimpArgs false
namespace Go.Proofs.Ytfmbbpfklhkljaa
open Go.RowKit
theorem spn_nil {B : Nat} {w : World} {l : Bool} {ks : List Int} : Spn B ⟨l, [], [], ks⟩ (.slice none 0 0) (.slice none 0 0) [] [] w := ⟨World.ownsRow_nil _ _ _ _, World.ownsRow_nil _ _ _ _, rfl, rfl, fun t h => by simp at h, fun t h => by simp at h, List.Pairwise.nil⟩
/-- a key behind the others -/
theorem spn_appk {B nb N : Nat} {w w' : World} {n : Nd} {kv vv cv u y : Value} {m : List UInt8} {us xs : List Value} (h : Nod B nb w n kv vv cv) (hs : Spn B n kv vv us xs w) (hl : us.length ≤ 100000) (hB : B ≤ w.heap.size) (he : (Builtin.append_ #[28, 28] 28 #[kv, .slice (some ⟨w.heap.size, 0, none⟩) 1 1]).run Try.prog (w.alloc (.cells #[y] 32)) = .ok u w') (hy : Ob 5 B w y m) (h1 : ∀ v ∈ us ++ xs, ∀ k, v.ownBlock = some k → k < N) (h2 : ∀ k, y.ownBlock = some k → N ≤ k) :
    Spn B ⟨n.leaf, n.keys ++ [m], n.vals, n.kids⟩ u vv (us ++ [y]) xs (w'.setCell ⟨nb, 1, none⟩ u) := by
  have hup := up_alloc w (.cells #[y] 32)
  have hN1 := h.up hup
  have hs1 := hs.up hup
  obtain ⟨ya, yc, ey⟩ := own_slice hy
  obtain ⟨r1, q1, _⟩ := app_exact (us' := [y]) hs1.kr (row_one (w := w) (x := y) (e := 32)) (fun x hx => by simp at hx; subst hx; rw [ey]; rfl) (by simp; omega) (by have := hup.size; omega) he
  have hat : w'.heap[nb]? = some (.cells #[.bool n.leaf, kv, vv, cv] 37 (0, 0)) := by
    rw [q1.block nb hN1.lt fun e => by obtain ⟨_, _, _, h3⟩ := own_typed hs1.kr _ e.symm; exact absurd (typed_ne h3 hN1.at_) (by decide)]; exact hN1.at_
  have e1 : us.take n.keys.length ++ [y] ++ us.drop n.keys.length = us ++ [y] := by rw [← hs.kl, take_drop_end]
  have e2 : n.keys.take n.keys.length ++ [m] ++ n.keys.drop n.keys.length = n.keys ++ [m] := take_drop_end _ _
  have := spn_setk (N := N) (i := n.keys.length) (m := m) hN1 hs1 q1 hat (by rw [e1]; exact r1) (Nat.le_refl _) (hy.alloc _) h1 h2
  rw [e1, e2] at this
  exact this
/-- a value behind the others -/
theorem spn_appv {B nb N : Nat} {w w' : World} {n : Nd} {kv vv cv u y : Value} {m : List UInt8} {us xs : List Value} (h : Nod B nb w n kv vv cv) (hs : Spn B n kv vv us xs w) (hl : xs.length ≤ 100000) (hB : B ≤ w.heap.size) (he : (Builtin.append_ #[28, 28] 28 #[vv, .slice (some ⟨w.heap.size, 0, none⟩) 1 1]).run Try.prog (w.alloc (.cells #[y] 32)) = .ok u w') (hy : Ob 5 B w y m) (h1 : ∀ v ∈ us ++ xs, ∀ k, v.ownBlock = some k → k < N) (h2 : ∀ k, y.ownBlock = some k → N ≤ k) :
    Spn B ⟨n.leaf, n.keys, n.vals ++ [m], n.kids⟩ kv u us (xs ++ [y]) (w'.setCell ⟨nb, 2, none⟩ u) := by
  have hup := up_alloc w (.cells #[y] 32)
  have hN1 := h.up hup
  have hs1 := hs.up hup
  obtain ⟨ya, yc, ey⟩ := own_slice hy
  obtain ⟨r1, q1, _⟩ := app_exact (us' := [y]) hs1.vr (row_one (w := w) (x := y) (e := 32)) (fun x hx => by simp at hx; subst hx; rw [ey]; rfl) (by simp; omega) (by have := hup.size; omega) he
  have hat : w'.heap[nb]? = some (.cells #[.bool n.leaf, kv, vv, cv] 37 (0, 0)) := by
    rw [q1.block nb hN1.lt fun e => by obtain ⟨_, _, _, h3⟩ := own_typed hs1.vr _ e.symm; exact absurd (typed_ne h3 hN1.at_) (by decide)]; exact hN1.at_
  have e1 : xs.take n.vals.length ++ [y] ++ xs.drop n.vals.length = xs ++ [y] := by rw [← hs.vl, take_drop_end]
  have e2 : n.vals.take n.vals.length ++ [m] ++ n.vals.drop n.vals.length = n.vals ++ [m] := take_drop_end _ _
  have := spn_setv (N := N) (i := n.vals.length) (m := m) hN1 hs1 q1 hat (by rw [e1]; exact r1) (Nat.le_refl _) (hy.alloc _) h1 h2
  rw [e1, e2] at this
  exact this
/-- the cursor moves -/
theorem spn_cur {B b : Nat} {A : Nat → Prop} {n : Nd} {kv vv : Value} {us xs : List Value} {w w' : World} {c : Cu} (h : Spn B n kv vv us xs w) (hw : Wb (fun k => some k = some b) w w') (hc : CurIs A b w c) : Spn B n kv vv us xs w' := by
  obtain ⟨cur, fr, ht⟩ := hc.typed
  exact h.wb hw (fun k hk e => by obtain rfl : k = b := by simpa using hk
                                  obtain ⟨_, _, _, h1⟩ := own_typed h.kr _ e.symm; exact absurd (typed_ne h1 ht) (by decide)) (fun k hk e => by obtain rfl : k = b := by simpa using hk
                                                                                                                                                obtain ⟨_, _, _, h1⟩ := own_typed h.vr _ e.symm; exact absurd (typed_ne h1 ht) (by decide)) (fun k hk cur' fr' h1 => by
    obtain rfl : k = b := by simpa using hk
    exact absurd (typed_ne h1 ht) (by decide))
def DecSep (w : World) (n : Nd) (e : Ending) (w' : World) : Prop := ∃ kv vv ca cc us xs, e = .returned (.tuple #[.agg #[.bool n.leaf, kv, vv, .slice ca n.kids.length cc], .int .i64 0]) ∧ Spn w.heap.size n kv vv us xs w' ∧ Below w.heap.size w w'
set_option maxRecDepth 100000 in
set_option maxHeartbeats 4000000 in
/-- leaf.Decode of a leaf's page -/
theorem decode_sep {A : Nat → Prop} {w : World} {v : Value} {p : List UInt8} (h : Bs A w v p) (hlen0 : p.length = 512) (hkd0 : kind p = 1) (hok : (dec p).2 = 0) : Calls Try.prog 26 #[v] w (DecSep w (dec p).1) := by
  have HOK := Hid.mk' hok
  have HKD0 := Hid.mk' hkd0
  have HL0 := Hid.mk' hlen0
  clear hok hkd0 hlen0
  obtain ⟨a, cp, rfl, hcp, hnn, _⟩ := h.at
  have HP := Hid.mk' h.toLt
  have hlim : p.length ≤ 140737488351232 := h.2
  clear h
  by_cases hlen : p.length = 512
  · have hl' : ((p.length : Int) != 512) = false := by simp; omega
    have HLEN := Hid.mk' hlen
    clear hlen
    have HA : Hid (∀ i, Lt w.heap.size i → i < w.heap.size + 1) := fun i hi => by have : i < w.heap.size := hi; omega
    have hz0 := zero4 w
    obtain ⟨W1, hW1⟩ : ∃ W1, W1 = w.alloc (.cells #[.bool false, .slice none 0 0, .slice none 0 0, .slice none 0 0] 37) := ⟨_, rfl⟩
    have hW1s : W1.heap.size = w.heap.size + 1 := by rw [hW1]; simp
    have hb1 : Below w.heap.size w W1 := by rw [hW1]; exact up_alloc _ _
    rw [← hW1] at hz0
    obtain ⟨W2, hW2⟩ : ∃ W2, W2 = W1.alloc (.cells #[.slice a p.length cp, .bool false] 111) := ⟨_, rfl⟩
    have hb2 : Below W1.heap.size W1 W2 := by rw [hW2]; exact up_alloc _ _
    have hcur : CurIs (Lt w.heap.size) (w.heap.size + 1) W2 ⟨p, false⟩ := ⟨_, by rw [hW2, ← hW1s]; exact heap_alloc_new W1 _, HP.out.up (bt hb1 hb2)⟩
    have hz2 : W2.heap[w.heap.size]? = some (.cells #[.bool false, .slice none 0 0, .slice none 0 0, .slice none 0 0] 37 (0, 0)) := by rw [hb2.block _ (by omega)]; exact hz0
    have HONE := Hid.mk' (one_any HA.out hcur)
    have HZ2 := Hid.mk' hz2
    have HB2 := Hid.mk' (bt hb1 hb2)
    have HS2 : Hid (W2.heap.size = w.heap.size + 2) := by show _ = _; rw [hW2]; simp; omega
    go_enter Try.func26, Try.ntmps26
    go_wp2_with fail
    have he : ((w.alloc (.cells #[.bool false, .slice none 0 0, .slice none 0 0, .slice none 0 0] 37)).alloc (.cells #[.slice a p.length cp, .bool false] 111)) = W2 := by rw [hW2, hW1]
    rw [he]
    clear he hW1 hW2 hz0 hb1 hb2 hcur hz2 hW1s W1
    refine HONE.out.mono ?_
    rintro e w3 ⟨rfl, h3, cc3⟩
    have W3 := Hid.mk' (Wb.of_grown h3)
    have C3 := Hid.mk' cc3
    clear h3 cc3
    have hk255 := on_le ⟨p, false⟩
    have HKD : Hid (kind p = on ⟨p, false⟩) := rfl
    rw [show tkc 1 ⟨p, false⟩ = c1 p from rfl] at C3
    rw [← HKD.out] at hk255 ⊢
    by_cases hkd : kind p = 1
    · have HKD1 := Hid.mk' hkd
      have hk1 : ((kind p : Int) == 1) = true := by simp; omega
      clear hkd
      have hnb : w.heap.size + 2 ≤ w3.heap.size := by have := W3.out.size; have := HS2.out; omega
      obtain ⟨W4, hW4⟩ : ∃ W4, W4 = w3.alloc (.cells #[.bool true, .slice none 0 0, .slice none 0 0, .slice none 0 0] 37) := ⟨_, rfl⟩
      have hb4 : Below w3.heap.size w3 W4 := by rw [hW4]; exact up_alloc _ _
      have hat4 : W4.heap[w3.heap.size]? = some (.cells #[.bool true, .slice none 0 0, .slice none 0 0, .slice none 0 0] 37 (0, 0)) := by rw [hW4]; exact heap_alloc_new w3 _
      have N4 : Hid (Nod w.heap.size w3.heap.size W4 ⟨true, [], [], []⟩ (.slice none 0 0) (.slice none 0 0) (.slice none 0 0)) := ⟨hat4, obb_nil, obb_nil, World.ownsRow_nil _ _ _ _, fun k hk => by cases hk⟩
      have C4 := C3.out.wb (Wb.of_below (fun k => w3.heap.size ≤ k) hb4) (by omega) (fun k hk => by have : w3.heap.size ≤ k := hk; omega)
      have Z4 : W4.heap[w.heap.size]? = some (.cells #[.bool false, .slice none 0 0, .slice none 0 0, .slice none 0 0] 37 (0, 0)) := by
        rw [hb4.block _ (by omega), W3.out.block _ (by have := HS2.out; omega) (by simp)]; exact HZ2.out
      have B4 : Below w.heap.size w W4 := (HB2.out.trans (W3.out.below (by have := HS2.out; omega) (fun k hk => by simp at hk; omega))).trans (hb4.mono (by omega))
      have HTWO := Hid.mk' (ctwo_any HA.out C4)
      have C4 := Hid.mk' C4
      have Z4 := Hid.mk' Z4
      have B4 := Hid.mk' B4
      have HS4 : Hid (w3.heap.size < W4.heap.size) := Hid.mk' N4.out.lt
      go_wp2_with fail
      rw [← hW4]
      clear hW4 hb4 hat4
      refine HTWO.out.mono ?_
      rintro e w5 ⟨rfl, h5, cc5⟩
      have W5 := Hid.mk' (Wb.of_grown h5)
      have C5 : Hid (CurIs (Lt w.heap.size) (w.heap.size + 1) w5 (c2 p)) := cc5
      have HCN : Hid (cnt p = tw (c1 p)) := rfl
      rw [← HCN.out]
      have hcn : cnt p ≤ 65535 := by rw [HCN.out]; exact tw_le _
      have N5 : Hid (Nod w.heap.size w3.heap.size w5 ⟨true, [], [], []⟩ (.slice none 0 0) (.slice none 0 0) (.slice none 0 0)) := N4.out.wb W5.out fun k hk => by
        obtain rfl : k = w.heap.size + 1 := by simpa using hk
        obtain ⟨cur, fr, ht⟩ := C4.out.typed
        exact ⟨cur, fr, 111, ht, by decide, by decide, by decide, by decide⟩
      have Z5 : Hid (w5.heap[w.heap.size]? = some (.cells #[.bool false, .slice none 0 0, .slice none 0 0, .slice none 0 0] 37 (0, 0))) := by
        show _ = _
        rw [W5.out.block _ (by have := HS4.out; omega) (by simp)]; exact Z4.out
      have B5 := Hid.mk' (B4.out.trans (W5.out.below (by have := HS4.out; omega) (fun k hk => by simp at hk; omega)))
      clear h5 cc5
      obtain ⟨⟨b0, b1, b2, b3⟩, bf⟩ := cells4_get N5.out.at_
      have bf := bf 3
      generalize hNB : w3.heap.size = nb at *
      have hnb2 : w.heap.size + 2 ≤ nb := hnb
      clear hNB
      have HR0 : Hid (ents (cnt p - 0) ⟨true, [], [], []⟩ (c2 p) = rd p) := by
        show _ = _
        rw [rd_eq]; unfold n0 c3; rw [if_pos HKD1.out, if_pos HKD1.out]; rfl
      go_wp2_with fail
      clear b0 b1 b2 b3 bf
      go_loopw [8] (fun i wr => ∃ (k : Nat) (n : Nd) (c : Cu) (kv vv cv : Value), i = .int .i64 k ∧ k ≤ cnt p ∧ n.leaf = true ∧ Hid (Nod w.heap.size nb wr n kv vv cv ∧ ∃ us xs, Spn w.heap.size n kv vv us xs wr) ∧ Hid (CurIs (Lt w.heap.size) (w.heap.size + 1) wr c) ∧ Hid (Below w.heap.size w wr) ∧ Hid (ents (cnt p - k) n c = rd p) ∧ Hid (n.keys.length ≤ k ∧ n.vals.length ≤ k ∧ n.kids.length ≤ k + 1 ∧ ∀ x ∈ n.kids, 0 ≤ x ∧ x ≤ 65535) ∧ Hid (wr.heap[w.heap.size]? = some (.cells #[.bool false, .slice none 0 0, .slice none 0 0, .slice none 0 0] 37 (0, 0)))) (fun i _ => cnt p - (intOf i).toNat)
      case atStart => exact ⟨0, _, _, _, _, _, rfl, by omega, rfl, ⟨N5.out, [], [], spn_nil⟩, C5, B5, HR0, Hid.mk' (by simp), Z5⟩
      case round =>
        obtain ⟨k, n, c, kv, vv, cv, rfl, hk, hlf, HNS, HC, HB, HR, HL, HZ⟩ := hrel
        obtain ⟨HN, us, xs, SP⟩ := HNS.out
        have HN := Hid.mk' HN
        have SP := Hid.mk' SP
        clear HNS
        obtain ⟨vb, hvb, hbs⟩ := HC.out
        obtain ⟨ab, cbp, rfl, _⟩ := hbs.at
        obtain ⟨d0, d1, df⟩ := cells2_get hvb
        obtain ⟨⟨b0, b1, b2, b3⟩, bf⟩ := cells4_get HN.out.at_
        rw [hlf] at b0
        have hlr := HN.out.lt
        have HBS := Hid.mk' hbs
        have HLF := Hid.mk' hlf
        clear hvb hbs
        by_cases hlt : k < cnt p
        · have hlt' : ((k : Int) < (cnt p : Int)) := by omega
          have hdt : decide ((k : Int) < (cnt p : Int)) = true := by simp; omega
          cases hbad : c.bad with
          | true =>
            rw [hbad] at d1
            have HRD : Hid (rd p = (n, c)) := by rw [← HR.out]; exact ents_bad _ _ _ hbad
            have HBAD := Hid.mk' hbad
            clear hbad
            have HDQ : Hid (dec p = (none0, 3)) := by show _ = _; rw [dec_eq HLEN.out HRD.out, HBAD.out]; rfl
            exact absurd HOK.out (by rw [HDQ.out]; decide)
          | false =>
            rw [hbad] at d1
            have HST : Hid (ents (cnt p - (k + 1)) (entN n c) (entC n.leaf c) = rd p) := by rw [← HR.out]; exact (ents_step hlt hbad).symm
            clear hbad
            have HAc : Hid (∀ i, Lt w.heap.size i → i < (w.heap.size + 1)) := fun i hi => by have : i < w.heap.size := hi; omega
            have hng1 : ¬ (nb = (w.heap.size + 1) ∨ some nb = kv.ownBlock) := by
              rintro (e | e)
              · omega
              · obtain ⟨_, _, _, h1⟩ := HN.out.keys.typed _ e.symm; exact absurd (typed_ne h1 HN.out.at_) (by decide)
            have hrr : ∀ q : Kp (fun b => b = (w.heap.size + 1) ∨ some b = kv.ownBlock) wr, q.nx.cell? ⟨nb, 1, none⟩ = some kv := fun q => q.cell (by have := (cells4_get HN.out.at_).1; exact this.2.1) hng1
            go_wp2_with fail
            refine wp_region_mix 9 (fun w' => ∃ q : Kp (fun b => b = (w.heap.size + 1) ∨ some b = kv.ownBlock) wr, w' = q.nx) (by kernel_rfl) (by kernel_rfl) (kp_first _ wr) ?_
            simp only [List.take_succ_cons, List.take_zero, List.drop_succ_cons, List.drop_zero]
            refine mx_take 4 rfl ?_
            simp only [List.take_succ_cons, List.take_zero, List.drop_succ_cons, List.drop_zero]
            repeat (go_big_quiet_step (fail))
            refine wpQuiet_nil ?_
            refine mx_call (vals := [.pointer (some ⟨(w.heap.size + 1), 0, none⟩)]) Try.func68 (by kernel_rfl) rfl rfl (by kernel_rfl) (by kernel_rfl) (one_any HAc.out (cur_drew HC.out)) (fun e wa ha => ?_)
            obtain ⟨rfl, ga, ca⟩ := ha
            refine ⟨_, rfl, kp_mk ga.size fun b hb hx => ga.block b hb (fun e => hx (.inl (by simpa using e))), ?_⟩
            simp only [Act.put, List.setIfInBounds_toArray, List.set_cons_succ, List.set_cons_zero]
            refine mx_call (vals := [.pointer (some ⟨(w.heap.size + 1), 0, none⟩), .int .i64 (on c : Nat)]) Try.func70 (by kernel_rfl) rfl rfl (by kernel_rfl) (by kernel_rfl) (take_any _ (Nat.le_trans (on_le c) (by decide)) HAc.out ca) (fun e wb hb' => ?_)
            obtain ⟨vt, rfl, ot, gb, cb'⟩ := hb'
            have ga0 : wr.grownBy wa (some (w.heap.size + 1)) := ⟨ga.os, ga.tape, ga.output, ga.size, ga.block⟩
            have gab := Wb.of_grown (grown_trans ga0 gb)
            refine ⟨_, rfl, kp_mk gab.size fun b hb hx => gab.block b hb (fun e => hx (.inl (by simpa using e))), ?_⟩
            simp only [Act.put, List.setIfInBounds_toArray, List.set_cons_succ, List.set_cons_zero]
            have hNb := HN.out.wb gab fun k hk => by
              obtain rfl : k = (w.heap.size + 1) := by simpa using hk
              obtain ⟨cur, fr, ht⟩ := HC.out.typed
              exact ⟨cur, fr, 111, ht, by decide, by decide, by decide, by decide⟩
            have htl := tk_length (on c) (tkc 1 c)
            have hmle : (on c : Nat) ≤ 65535 := Nat.le_trans (on_le c) (by decide)
            obtain ⟨at', ct', et, _⟩ := (ot.bs (by rw [htl]; unfold lim; omega)).at
            obtain ⟨un, wc, r1, r2, r3, r4, r5, r6⟩ := nod_key hNb (ot.mono (Nat.zero_le _)) (by rw [htl]; unfold lim; omega) (by have := HL.out.1; have := HL.out.2.1; unfold lim; omega) (by have := hNb.lt; omega)
            have SK := Hid.mk' (spn_appk (N := wr.heap.size) hNb (spn_cur SP.out gab HC.out) (by have := SP.out.kl; have := HL.out.1; omega) (by have := hNb.lt; omega) r1 (ot.mono (by have h9 : wr.drew.heap.size = wr.heap.size := rfl; have := HN.out.lt; have := ga.size; omega)) (fun v hv k e => (SP.out.lt v hv k e).2) (fun k e => by have h9 : wr.drew.heap.size = wr.heap.size := rfl; have := (ot.lt k e).1; have := ga.size; omega))
            refine mx_make (by rfl) (by kernel_rfl) (by simp only [execOp, List.map_toArray, List.map_cons, List.map_nil, go_sem]; exact run_v (lays28 _ _ _ _ _ et)) (kp_mk (Nat.le_trans gab.size (up_alloc _ _).size) fun b hb hx => by rw [(up_alloc _ _).block b (Nat.lt_of_lt_of_le hb gab.size)]; exact gab.block b hb (fun e => hx (.inl (by simpa using e)))) ?_
            simp only [Act.put, List.setIfInBounds_toArray, List.set_cons_succ, List.set_cons_zero]
            have gac : Wb (fun b => b = (w.heap.size + 1) ∨ some b = kv.ownBlock) wr wc := (gab.mono fun k hk => .inl (by simpa using hk)).trans (r2.mono fun k hk => .inr hk)
            refine mx_app rfl rfl rfl (by kernel_rfl) r1 (kp_mk gac.size fun b hb hx => gac.block b hb hx) ?_
            simp only [Act.put, List.setIfInBounds_toArray, List.set_cons_succ, List.set_cons_zero]
            refine mx_take 1 rfl ?_
            simp only [List.take_succ_cons, List.take_zero, List.drop_succ_cons, List.drop_zero]
            repeat (go_big_quiet_step (fail))
            refine wpQuiet_nil ?_
            simp only [wpMix]
            obtain ⟨ua, uc, rfl⟩ := r6
            have X1 : Hid (Wb (fun b => b = nb ∨ b = (w.heap.size + 1) ∨ some b = kv.ownBlock) wr (wc.setCell ⟨nb, 1, none⟩ (.slice ua (n.keys.length + 1) uc))) := Hid.mk' ((gac.mono fun k hk => .inr hk).trans (Wb.set _ _ _ _ (.inl rfl)))
            have N1 := Hid.mk' r3
            have hkb : ∀ k, some k = kv.ownBlock → w.heap.size ≤ k ∧ k ≠ (w.heap.size + 1) ∧ k ≠ w.heap.size ∧ k ≠ nb := fun k hk => by
              obtain ⟨h1, _, _, h2⟩ := HN.out.keys.typed k hk.symm
              refine ⟨h1, ?_, ?_, ?_⟩
              · rintro rfl; obtain ⟨_, _, h3⟩ := HC.out.typed; exact absurd (typed_ne h2 h3) (by decide)
              · rintro rfl; exact absurd (typed_ne h2 HZ.out) (by decide)
              · rintro rfl; exact absurd (typed_ne h2 HN.out.at_) (by decide)
            have C1 : Hid (CurIs (Lt w.heap.size) (w.heap.size + 1) (wc.setCell ⟨nb, 1, none⟩ (.slice ua (n.keys.length + 1) uc)) (tkc (on c) (tkc 1 c))) := by
              have hbb : Wb (fun b => some b = kv.ownBlock ∨ b = nb) wb (wc.setCell ⟨nb, 1, none⟩ (.slice ua (n.keys.length + 1) uc)) := (r2.mono fun k hk => .inl hk).trans (Wb.set _ _ _ _ (.inr rfl))
              exact cb'.wb hbb (by have := gab.size; omega) fun k hk => by
                rcases hk with hk | hk
                · have := hkb k hk; exact ⟨this.2.1, this.1⟩
                · omega
            have Z1 : Hid ((wc.setCell ⟨nb, 1, none⟩ (.slice ua (n.keys.length + 1) uc)).heap[w.heap.size]? = some (.cells #[.bool false, .slice none 0 0, .slice none 0 0, .slice none 0 0] 37 (0, 0))) := by
              show _ = _
              rw [X1.out.block _ (by omega) (by rintro (e | e | e) <;> first | omega | exact (hkb _ e).2.2.1 rfl)]; exact HZ.out
            have B1 : Hid (Below w.heap.size w (wc.setCell ⟨nb, 1, none⟩ (.slice ua (n.keys.length + 1) uc))) := HB.out.trans (X1.out.below (by omega) fun k hk => by
              rcases hk with hk | hk | hk
              · omega
              · omega
              · exact (hkb k hk).1)
            obtain ⟨⟨e0, e1, e2, e3⟩, ef⟩ := cells4_get N1.out.at_
            dsimp only at e0
            rw [hlf] at e0
            go_wp2_with fail
            clear e0 e1 e2 e3 ef b0 b1 b2 b3 bf d0 d1 df hrr hng1 ga ca ot gb cb' ga0 gab hNb htl hmle et r1 r2 r3 r4 r5 gac
            generalize wc.setCell ⟨nb, 1, none⟩ (.slice ua (n.keys.length + 1) uc) = w1 at *
            have HNl := HN.out.lt
            have h1s : wr.heap.size ≤ w1.heap.size := X1.out.size
            have hng1 : ¬ (nb = (w.heap.size + 1) ∨ some nb = vv.ownBlock) := by
              rintro (e | e)
              · omega
              · obtain ⟨_, _, _, h1⟩ := N1.out.vals.typed _ e.symm; exact absurd (typed_ne h1 N1.out.at_) (by decide)
            have hrr : ∀ q : Kp (fun b => b = (w.heap.size + 1) ∨ some b = vv.ownBlock) w1, q.nx.cell? ⟨nb, 2, none⟩ = some vv := fun q => q.cell (by have := (cells4_get N1.out.at_).1; exact this.2.2.1) hng1
            refine wp_region_mix 9 (fun w' => ∃ q : Kp (fun b => b = (w.heap.size + 1) ∨ some b = vv.ownBlock) w1, w' = q.nx) (by kernel_rfl) (by kernel_rfl) (kp_first _ w1) ?_
            simp only [List.take_succ_cons, List.take_zero, List.drop_succ_cons, List.drop_zero]
            refine mx_take 4 rfl ?_
            simp only [List.take_succ_cons, List.take_zero, List.drop_succ_cons, List.drop_zero]
            repeat (go_big_quiet_step (fail))
            refine wpQuiet_nil ?_
            refine mx_call (vals := [.pointer (some ⟨(w.heap.size + 1), 0, none⟩)]) Try.func69 (by kernel_rfl) rfl rfl (by kernel_rfl) (by kernel_rfl) (ctwo_any HAc.out (cur_drew C1.out)) (fun e wa ha => ?_)
            obtain ⟨rfl, ga, ca⟩ := ha
            refine ⟨_, rfl, kp_mk ga.size fun b hb hx => ga.block b hb (fun e => hx (.inl (by simpa using e))), ?_⟩
            simp only [Act.put, List.setIfInBounds_toArray, List.set_cons_succ, List.set_cons_zero]
            refine mx_call (vals := [.pointer (some ⟨(w.heap.size + 1), 0, none⟩), .int .i64 (tw (tkc (on c) (tkc 1 c)) : Nat)]) Try.func70 (by kernel_rfl) rfl rfl (by kernel_rfl) (by kernel_rfl) (take_any _ (tw_le _) HAc.out ca) (fun e wb hb' => ?_)
            obtain ⟨vt, rfl, ot, gb, cb'⟩ := hb'
            have ga0 : w1.grownBy wa (some (w.heap.size + 1)) := ⟨ga.os, ga.tape, ga.output, ga.size, ga.block⟩
            have gab := Wb.of_grown (grown_trans ga0 gb)
            refine ⟨_, rfl, kp_mk gab.size fun b hb hx => gab.block b hb (fun e => hx (.inl (by simpa using e))), ?_⟩
            simp only [Act.put, List.setIfInBounds_toArray, List.set_cons_succ, List.set_cons_zero]
            have hNb := N1.out.wb gab fun k hk => by
              obtain rfl : k = (w.heap.size + 1) := by simpa using hk
              obtain ⟨cur, fr, ht⟩ := C1.out.typed
              exact ⟨cur, fr, 111, ht, by decide, by decide, by decide, by decide⟩
            have htl := tk_length (tw (tkc (on c) (tkc 1 c))) (tkc 2 (tkc (on c) (tkc 1 c)))
            have hmle : (tw (tkc (on c) (tkc 1 c)) : Nat) ≤ 65535 := tw_le _
            obtain ⟨at', ct', et, _⟩ := (ot.bs (by rw [htl]; unfold lim; omega)).at
            obtain ⟨un, wc, r1, r2, r3, r4, r5, r6⟩ := nod_val hNb (ot.mono (Nat.zero_le _)) (by rw [htl]; unfold lim; omega) (by have := HL.out.1; have := HL.out.2.1; dsimp only; unfold lim; omega) (by have := hNb.lt; omega)
            have SV := Hid.mk' (spn_appv (N := w1.heap.size) hNb (spn_cur SK.out gab C1.out) (by have := SP.out.vl; have := HL.out.2.1; omega) (by have := hNb.lt; omega) r1 (ot.mono (by have h9 : w1.drew.heap.size = w1.heap.size := rfl; have := HN.out.lt; have := ga.size; omega)) (fun v hv k e => (SK.out.lt v hv k e).2) (fun k e => by have h9 : w1.drew.heap.size = w1.heap.size := rfl; have := (ot.lt k e).1; have := ga.size; omega))
            refine mx_make (by rfl) (by kernel_rfl) (by simp only [execOp, List.map_toArray, List.map_cons, List.map_nil, go_sem]; exact run_v (lays28 _ _ _ _ _ et)) (kp_mk (Nat.le_trans gab.size (up_alloc _ _).size) fun b hb hx => by rw [(up_alloc _ _).block b (Nat.lt_of_lt_of_le hb gab.size)]; exact gab.block b hb (fun e => hx (.inl (by simpa using e)))) ?_
            simp only [Act.put, List.setIfInBounds_toArray, List.set_cons_succ, List.set_cons_zero]
            have gac : Wb (fun b => b = (w.heap.size + 1) ∨ some b = vv.ownBlock) w1 wc := (gab.mono fun k hk => .inl (by simpa using hk)).trans (r2.mono fun k hk => .inr hk)
            refine mx_app rfl rfl rfl (by kernel_rfl) r1 (kp_mk gac.size fun b hb hx => gac.block b hb hx) ?_
            simp only [Act.put, List.setIfInBounds_toArray, List.set_cons_succ, List.set_cons_zero]
            refine mx_take 1 rfl ?_
            simp only [List.take_succ_cons, List.take_zero, List.drop_succ_cons, List.drop_zero]
            repeat (go_big_quiet_step (fail))
            refine wpQuiet_nil ?_
            simp only [wpMix]
            obtain ⟨ua, uc, rfl⟩ := r6
            have X2 : Hid (Wb (fun b => b = nb ∨ b = (w.heap.size + 1) ∨ some b = vv.ownBlock) w1 (wc.setCell ⟨nb, 2, none⟩ (.slice ua (n.vals.length + 1) uc))) := Hid.mk' ((gac.mono fun k hk => .inr hk).trans (Wb.set _ _ _ _ (.inl rfl)))
            have N2 := Hid.mk' r3
            have hkb2 : ∀ k, some k = vv.ownBlock → w.heap.size ≤ k ∧ k ≠ (w.heap.size + 1) ∧ k ≠ w.heap.size ∧ k ≠ nb := fun k hk => by
              obtain ⟨h1, _, _, h2⟩ := N1.out.vals.typed k hk.symm
              refine ⟨h1, ?_, ?_, ?_⟩
              · rintro rfl; obtain ⟨_, _, h3⟩ := C1.out.typed; exact absurd (typed_ne h2 h3) (by decide)
              · rintro rfl; exact absurd (typed_ne h2 Z1.out) (by decide)
              · rintro rfl; exact absurd (typed_ne h2 N1.out.at_) (by decide)
            have C2 : Hid (CurIs (Lt w.heap.size) (w.heap.size + 1) (wc.setCell ⟨nb, 2, none⟩ (.slice ua (n.vals.length + 1) uc)) (tkc (tw (tkc (on c) (tkc 1 c))) (tkc 2 (tkc (on c) (tkc 1 c))))) := by
              have hbb : Wb (fun b => some b = vv.ownBlock ∨ b = nb) wb (wc.setCell ⟨nb, 2, none⟩ (.slice ua (n.vals.length + 1) uc)) := (r2.mono fun k hk => .inl hk).trans (Wb.set _ _ _ _ (.inr rfl))
              exact cb'.wb hbb (by have := gab.size; omega) fun k hk => by
                rcases hk with hk | hk
                · have := hkb2 k hk; exact ⟨this.2.1, this.1⟩
                · omega
            have Z2 : Hid ((wc.setCell ⟨nb, 2, none⟩ (.slice ua (n.vals.length + 1) uc)).heap[w.heap.size]? = some (.cells #[.bool false, .slice none 0 0, .slice none 0 0, .slice none 0 0] 37 (0, 0))) := by
              show _ = _
              rw [X2.out.block _ (by omega) (by rintro (e | e | e) <;> first | omega | exact (hkb2 _ e).2.2.1 rfl)]; exact Z1.out
            have B2 : Hid (Below w.heap.size w (wc.setCell ⟨nb, 2, none⟩ (.slice ua (n.vals.length + 1) uc))) := B1.out.trans (X2.out.below (by omega) fun k hk => by
              rcases hk with hk | hk | hk
              · omega
              · omega
              · exact (hkb2 k hk).1)
            have HEN : Hid (entN n c = ⟨n.leaf, n.keys ++ [tk (on c) (tkc 1 c)], n.vals ++ [tk (tw (tkc (on c) (tkc 1 c))) (tkc 2 (tkc (on c) (tkc 1 c)))], n.kids⟩ ∧ entC n.leaf c = tkc (tw (tkc (on c) (tkc 1 c))) (tkc 2 (tkc (on c) (tkc 1 c)))) := by unfold entN entC; rw [hlf]; exact ⟨rfl, rfl⟩
            clear hrr hng1 ga ca ot gb cb' ga0 gab hNb htl hmle et r1 r2 r3 gac hkb2 hkb
            go_wp2_with fail
            go_roundw
            case rel => exact ⟨k + 1, entN n c, entC n.leaf c, _, _, _, by go_num, by omega, by rw [entN_leaf]; exact hlf, by rw [HEN.out.1]; exact ⟨N2.out, _, _, SV.out⟩, by rw [HEN.out.2]; exact C2, B2, HST, Hid.mk' (by have := HL.out; rw [HEN.out.1]; refine ⟨by simp; omega, by simp; omega, by simp; omega, this.2.2.2⟩), Z2⟩
            case measure => simp [intOf]; omega
        · have hlt' : ¬ ((k : Int) < (cnt p : Int)) := by omega
          have hdt : decide ((k : Int) < (cnt p : Int)) = false := by simp; omega
          have HRD : Hid (rd p = (n, c)) := by rw [← HR.out]; exact ents_done (by omega)
          cases hbad : c.bad with
          | true =>
            rw [hbad] at d1
            have HBAD := Hid.mk' hbad
            clear hbad
            have HDQ : Hid (dec p = (none0, 3)) := by show _ = _; rw [dec_eq HLEN.out HRD.out, HBAD.out]; rfl
            exact absurd HOK.out (by rw [HDQ.out]; decide)
          | false =>
            rw [hbad] at d1
            have HBAD := Hid.mk' hbad
            clear hbad
            have hk2 : (kind p != 1 && kind p != 2) = false := by rw [HKD1.out]; rfl
            have hk1' : ((kind p : Int) != 1) = false := by simp; have := HKD1.out; omega
            cases hany : c.b.any (· != 0) with
            | true =>
              have HDQ : Hid (dec p = (none0, 3)) := by show _ = _; rw [dec_eq HLEN.out HRD.out, hany, Bool.or_true]; rfl
              exact absurd HOK.out (by rw [HDQ.out]; decide)
            | false =>
              have HCF := Hid.mk' (c71 HBS.out)
              rw [hany] at HCF
              have HQ : Hid (dec p = if check n != 0 then (none0, 3) else (n, 0)) := by show _ = _; rw [dec_eq HLEN.out HRD.out, hany, HBAD.out, hk2]; simp only [Bool.false_or]
              clear hany
              have hk2 := Hid.mk' hk2
              have HCH := Hid.mk' (check_any (HN.out.rn (by have := HL.out.1; unfold lim; omega) (by have := HL.out.2.1; unfold lim; omega) (by have := HL.out.2.2.1; unfold lim; omega) (fun x hx => by have := HL.out.2.2.2 x hx; omega)))
              rw [hlf] at HCH
              go_wp2_with fail
              refine HCF.out.mono ?_
              rintro e w9 ⟨rfl, rfl⟩
              go_wp2_with fail
              refine HCH.out.mono ?_
              rintro e w10 ⟨rfl, h10⟩
              have H10 := Hid.mk' h10
              have HZ10 : Hid (w10.heap[w.heap.size]? = some (.cells #[.bool false, .slice none 0 0, .slice none 0 0, .slice none 0 0] 37 (0, 0))) := by show _ = _; rw [h10.block _ (by omega)]; exact HZ.out
              obtain ⟨⟨z0, z1, z2, z3⟩, zf⟩ := cells4_get HZ10.out
              have b0' := cell_later h10 b0
              have b1' := cell_later h10 b1
              have b2' := cell_later h10 b2
              have b3' := cell_later h10 b3
              have HB10 := Hid.mk' (HB.out.trans (h10.mono (by omega)))
              clear h10
              by_cases hch : check n = 0
              · have hch' : (check n != 0) = false := by simp [hch]
                have HDQ : Hid (dec p = (n, 0)) := by show _ = _; rw [HQ.out, hch']; rfl
                clear hch
                obtain ⟨kva, kvc, ekv⟩ := (let ⟨_, h, _⟩ := HN.out.keys; own_slice h)
                obtain ⟨vva, vvc, evv⟩ := (let ⟨_, h, _⟩ := HN.out.vals; own_slice h)
                obtain ⟨cva, cvc, ecv⟩ := own_slice HN.out.kids
                subst ekv; subst evv; subst ecv
                go_wp2_with fail
                refine bodyPost_ret (v := .tuple #[.agg #[.bool true, .slice kva n.keys.length kvc, .slice vva n.vals.length vvc, .slice cva n.kids.length cvc], .int .i64 0]) (by simp [results, Try.results26, go_sem, z0, z1, z2, z3]) rfl ?_
                have hset : Wb (fun k => k = w.heap.size) w10 ((((w10.setCell ⟨w.heap.size, 0, none⟩ (.bool true)).setCell ⟨w.heap.size, 1, none⟩ (.slice kva n.keys.length kvc)).setCell ⟨w.heap.size, 2, none⟩ (.slice vva n.vals.length vvc)).setCell ⟨w.heap.size, 3, none⟩ (.slice cva n.kids.length cvc)) :=
                  (((Wb.set (X := fun k => k = w.heap.size) _ _ _ _ rfl).trans (Wb.set (X := fun k => k = w.heap.size) _ _ _ _ rfl)).trans (Wb.set (X := fun k => k = w.heap.size) _ _ _ _ rfl)).trans (Wb.set (X := fun k => k = w.heap.size) _ _ _ _ rfl)
                refine ⟨.slice kva n.keys.length kvc, .slice vva n.vals.length vvc, cva, cvc, us, xs, by rw [HDQ.out, HLF.out], ?_, ?_⟩
                · rw [HDQ.out]; exact (SP.out.up H10.out).q HZ10.out hset
                · exact HB10.out.trans (hset.below (Nat.le_trans (Nat.le_of_lt (by omega)) H10.out.size) (fun k hk => by subst hk; exact Nat.le_refl _))
              · have hch' : (check n != 0) = true := by simp [hch]
                have HDQ : Hid (dec p = (none0, 3)) := by show _ = _; rw [HQ.out, hch']; rfl
                exact absurd HOK.out (by rw [HDQ.out]; decide)
    · exact absurd HKD0.out hkd
  · exact absurd HL0.out hlen
end Go.Proofs.Ytfmbbpfklhkljaa
