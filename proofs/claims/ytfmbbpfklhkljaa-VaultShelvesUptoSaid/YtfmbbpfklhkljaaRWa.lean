/- groyneref08.With, Without. -/
import Derived.Test.YtfmbbpfklhkljaaWT
set_option linter.unusedVariables false
set_option linter.unusedSimpArgs false
namespace Go.Proofs.Ytfmbbpfklhkljaa
open Go.RowKit
theorem Obb.wbD {X : Nat → Prop} {D B : Nat} {w w' : World} {v : Value} {l : List (List UInt8)} (h : Obb D B w v l) (hb : Wb X w w') (hD : D ≤ w.heap.size) (hX : ∀ k, X k → some k ≠ v.ownBlock ∧ D ≤ k ∧ ∀ cur fr, w.heap[k]? ≠ some (.cells cur 5 fr)) : Obb D B w' v l := by
  obtain ⟨vs, h1, h2⟩ := h
  have hs : ∀ b, Td D w b → w'.heap[b]? = w.heap[b]? := by
    rintro b (hb' | ⟨cur, fr, hb'⟩)
    · exact hb.block b (by omega) fun e => by have := (hX b e).2.1; omega
    · exact hb.block b (Array.getElem?_eq_some_iff.1 hb').1 fun e => (hX b e).2.2 cur fr hb'
  refine ⟨vs, own_wb h1 hb fun k hk => (hX k hk).1, (h2.keepS hs).monoS fun b hb' => ?_⟩
  have := hs b hb'
  rcases hb' with hb' | ⟨cur, fr, hb'⟩
  · exact .inl hb'
  · exact .inr ⟨cur, fr, by rw [this]; exact hb'⟩
/-- more elements -/
theorem app_row {A : Nat → Prop} {D B : Nat} {w : World} {v u : Value} {l m : List (List UInt8)} {us : List Value} (h : Obb D B w v l) (hrow : Row 1 A w u m.length us) (hsrc : Each (Td D w) w us m) (hlen : (l.length + m.length) * 24 ≤ lim) (hB : B ≤ w.heap.size) (hD : D ≤ B) :
    ∃ v' w', (Builtin.append_ #[28, 28] 28 #[v, u]).run Try.prog w = .ok v' w' ∧ Wb (fun k => some k = v.ownBlock) w w' ∧ Obb D B w' v' (l ++ m) ∧ (v'.ownBlock = v.ownBlock ∨ ∃ k, v'.ownBlock = some k ∧ w.heap.size ≤ k) := by
  obtain ⟨vs, h1, h2⟩ := h
  unfold lim at hlen
  obtain ⟨v', w', k1, k2, k3, k4, k5⟩ := run_app (P := Try.prog) 28 28 Try.underlying28 Try.info32 rfl (by decide) h1 hrow hsrc.one (by unfold maxLen; omega) (by omega) hB
  refine ⟨v', w', k1, Wb.of_grown k3, ⟨vs ++ us, by rw [List.length_append]; exact k2, ?_⟩, ?_⟩
  · exact Each.grown (B0 := 0) (each_append h2 hsrc) (own_mono h1 hD) k3 (fun b hb => by
      rcases hb with hb | ⟨cur, fr, hb⟩
      · omega
      · exact (Array.getElem?_eq_some_iff.1 hb).1)
  · rcases k5 with k5 | k5
    · exact .inl k5
    · exact .inr ⟨_, k5, Nat.le_refl _⟩
theorem obb_empty {D B : Nat} {w : World} (hB : B ≤ w.heap.size) : Obb D B (w.alloc (.cells #[] 32)) (.slice (some ⟨w.heap.size, 0, none⟩) 0 0) [] := ⟨[], own_empty hB, Each.nil _ _⟩
theorem Each.take {A : Nat → Prop} {w : World} {vs : List Value} {l : List (List UInt8)} (h : Each A w vs l) (i : Nat) : Each A w (vs.take i) (l.take i) := ⟨by simp [h.1], fun j a b => by
  rw [List.getElem_take, List.getElem_take]; exact h.2 j (by simp at a; omega) (by simp at b; omega)⟩
theorem Each.drop {A : Nat → Prop} {w : World} {vs : List Value} {l : List (List UInt8)} (h : Each A w vs l) (i : Nat) : Each A w (vs.drop i) (l.drop i) := ⟨by simp [h.1], fun j a b => by
  rw [List.getElem_drop, List.getElem_drop]; exact h.2 (i + j) (by simp at a; omega) (by simp at b; omega)⟩
/-- a beginning and an end of a row -/
theorem bss_cut {A : Nat → Prop} {w : World} {a : Option Addr} {c : Nat} {l : List (List UInt8)} (h : Bss A w (.slice a l.length c) l) (j e : Nat) (hj : j ≤ l.length) (he : e ≤ l.length) :
    ∃ a1 c1 a2 c2 us vs, (∀ w, (Instr.slice 28 (.slice a l.length c) none (some (.int .i64 (j : Int))) none).run Try.prog w = .ok (.slice a1 j c1) w) ∧ (∀ w, (Instr.slice 28 (.slice a l.length c) (some (.int .i64 (e : Int))) none none).run Try.prog w = .ok (.slice a2 (l.length - e) c2) w) ∧
      Row 1 (Lt w.heap.size) w (.slice a1 j c1) (l.take j).length us ∧ Each (Lt w.heap.size) w us (l.take j) ∧ Row 1 (Lt w.heap.size) w (.slice a2 (l.length - e) c2) (l.drop e).length vs ∧ Each (Lt w.heap.size) w vs (l.drop e) := by
  obtain ⟨vs, h1, h2, _⟩ := h
  obtain ⟨a1, c1, S1, R1⟩ := row_hi (P := Try.prog) (t := 28) (by kernel_rfl) Try.size32 h1 j hj
  obtain ⟨a2, c2, S2, R2⟩ := row_lo (P := Try.prog) (t := 28) (by kernel_rfl) Try.size32 h1 e he
  have h3 : Each (Lt w.heap.size) w vs l := ⟨h2.1, fun i a b => (h2.2 i a b).toLt⟩
  exact ⟨a1, c1, a2, c2, _, _, S1, S2, by rw [List.length_take, Nat.min_eq_left hj]; exact R1.toLt, Each.take h3 j, by rw [List.length_drop]; exact R2.toLt, Each.drop h3 e⟩
theorem lt_td {D : Nat} {w w' : World} {vs : List Value} {l : List (List UInt8)} (h : Each (Lt w.heap.size) w vs l) (hb : Below w.heap.size w w') : Each (Td w.heap.size w') w' vs l := (h.up hb).monoS fun b hb => .inl hb
def wout (n : Nd) (i : Int) : Nd :=
  if n.leaf = true ∧ 0 ≤ i ∧ i < n.keys.length ∧ i < n.vals.length then ⟨n.leaf, n.keys.take i.toNat ++ n.keys.drop (i.toNat + 1), n.vals.take i.toNat ++ n.vals.drop (i.toNat + 1), n.kids⟩ else n
/-- leaves are even -/
def Even (n : Nd) : Prop := n.leaf = true → n.vals.length = n.keys.length ∧ n.kids = []
set_option maxRecDepth 100000 in
set_option maxHeartbeats 4000000 in
/-- groyneref08.With -/
theorem rwith_any {A : Nat → Prop} {A1 A2 : Nat → Prop} {kb xb : Value} {kl xl : List UInt8} {w : World} {v : Value} {n : Nd} {i : Int} (h : RN A w v n) (hev : Even n) (hk : Bs A1 w kb kl) (hx : Bs A2 w xb xl) (hb1 : (n.keys.length + 1) * 24 ≤ lim) :
    Calls Try.prog 37 #[v, .int .i64 i, kb, xb] w fun e w' => ∃ v', e = .returned v' ∧ RN (Lt w'.heap.size) w' v' (wth n i kl xl) ∧ Below w.heap.size w w' := by
  obtain ⟨a1, c1, a2, c2, a3, c3, rfl⟩ := h.form
  have HN := Hid.mk' h
  have HEV := Hid.mk' hev
  obtain ⟨ka, kc, rfl, _⟩ := hk.at
  obtain ⟨xa, xc, rfl, _⟩ := hx.at
  have HK := Hid.mk' hk
  have HX := Hid.mk' hx
  have HW : Hid (∀ i, wth n i kl xl = if n.leaf = true ∧ 0 ≤ i ∧ i ≤ n.keys.length ∧ i ≤ n.vals.length then ⟨n.leaf, n.keys.take i.toNat ++ [kl] ++ n.keys.drop i.toNat, n.vals.take i.toNat ++ [xl] ++ n.vals.drop i.toNat, n.kids⟩ else n) := fun _ => rfl
  have hl1 : (n.keys.length + 1) * 24 ≤ 140737488351232 := hb1
  obtain ⟨_, _, _, eq0, g1, g2, g3⟩ := id h
  simp only [Value.agg.injEq, Array.mk.injEq, List.cons.injEq, and_true, true_and] at eq0
  obtain ⟨rfl, rfl, rfl⟩ := eq0
  have G1 := Hid.mk' g1
  have G2 := Hid.mk' g2
  clear h hev g1 g2 g3 hk hx
  obtain ⟨W1, hW1⟩ : ∃ W1, W1 = w.alloc (.cells #[.bool n.leaf, .slice a1 n.keys.length c1, .slice a2 n.vals.length c2, .slice a3 n.kids.length c3] 31) := ⟨_, rfl⟩
  have hb1 : Below w.heap.size w W1 := by rw [hW1]; exact up_alloc _ _
  have hx1 : W1.heap[w.heap.size]? = some (.cells #[.bool n.leaf, .slice a1 n.keys.length c1, .slice a2 n.vals.length c2, .slice a3 n.kids.length c3] 31 (0, 0)) := by rw [hW1]; exact heap_alloc_new w _
  have hsz1 : W1.heap.size = w.heap.size + 1 := by rw [hW1]; simp
  obtain ⟨V, hV⟩ : ∃ V, V = W1.alloc (.cells #[.bool false, .slice none 0 0, .slice none 0 0, .slice none 0 0] 31) := ⟨_, rfl⟩
  have hb2 : Below W1.heap.size W1 V := by rw [hV]; exact up_alloc _ _
  have hx2 : V.heap[w.heap.size]? = some (.cells #[.bool n.leaf, .slice a1 n.keys.length c1, .slice a2 n.vals.length c2, .slice a3 n.kids.length c3] 31 (0, 0)) := by rw [hb2.block _ (by omega)]; exact hx1
  have hz2 : V.heap[w.heap.size + 1]? = some (.cells #[.bool false, .slice none 0 0, .slice none 0 0, .slice none 0 0] 31 (0, 0)) := by rw [hV, ← hsz1]; exact heap_alloc_new W1 _
  have hszV : V.heap.size = w.heap.size + 2 := by rw [hV]; simp; omega
  have HBV := Hid.mk' (bt hb1 hb2)
  have he : ((w.alloc (.cells #[.bool n.leaf, .slice a1 n.keys.length c1, .slice a2 n.vals.length c2, .slice a3 n.kids.length c3] 31)).alloc (.cells #[.bool false, .slice none 0 0, .slice none 0 0, .slice none 0 0] 31)) = V := by rw [hV, hW1]
  have BX : Hid (Bx4 w.heap.size (.bool n.leaf) (.slice a1 n.keys.length c1) (.slice a2 n.vals.length c2) (.slice a3 n.kids.length c3) V) := (cells4_get hx2).1
  have HZ2 := Hid.mk' hz2
  have HZV := Hid.mk' hszV
  obtain ⟨⟨b0, b1, b2, b3⟩, bf⟩ := cells4_get hx2
  obtain ⟨⟨z0, z1, z2, z3⟩, zf⟩ := cells4_get hz2
  clear hV hW1 hb1 hb2 hx1 hsz1 hx2 hz2 hszV
  by_cases hc : n.leaf = true ∧ 0 ≤ i ∧ i ≤ n.keys.length ∧ i ≤ n.vals.length
  · obtain ⟨hc1, hc2, hc3, hc4⟩ := hc
    have HWT : Hid (wth n i kl xl = ⟨n.leaf, n.keys.take i.toNat ++ [kl] ++ n.keys.drop i.toNat, n.vals.take i.toNat ++ [xl] ++ n.vals.drop i.toNat, n.kids⟩) := by show _ = _; rw [HW.out, if_pos ⟨hc1, hc2, hc3, hc4⟩]
    obtain ⟨hev1, hev2⟩ := HEV.out hc1
    obtain ⟨j, rfl⟩ : ∃ j : Nat, i = (j : Int) := ⟨i.toNat, by omega⟩
    rw [Int.toNat_natCast] at HWT
    rw [hc1] at b0
    have k1 : decide ((j : Int) < 0) = false := by simp
    have k2 : decide ((n.keys.length : Int) < (j : Int)) = false := by simp; omega
    obtain ⟨p1, q1, p2, q2, us, vs, S1, S2, R1, E1, R2, E2⟩ := bss_cut G1.out j j (by omega) (by omega)
    obtain ⟨p3, q3, p4, q4, us', vs', S3, S4, R3, E3, R4, E4⟩ := bss_cut G2.out j j (by omega) (by omega)
    have T1 := Hid.mk' (And.intro R1 E1)
    have T2 := Hid.mk' (And.intro R2 E2)
    have T3 := Hid.mk' (And.intro R3 E3)
    have T4 := Hid.mk' (And.intro R4 E4)
    have hj1 : j ≤ n.keys.length := by omega
    have hj2 : j ≤ n.vals.length := by omega
    have hl2 : n.vals.length ≤ n.keys.length := by omega
    have HLF := Hid.mk' hc1
    have HKD := Hid.mk' hev2
    clear hc1 hc2 hc3 hc4 hev1 hev2 R1 E1 R2 E2 R3 E3 R4 E4
    go_enter Try.func37, Try.ntmps37
    have hD : w.heap.size ≤ V.heap.size := HBV.out.size
    have hlt0 : w.heap.size < V.heap.size := by have := HZV.out; omega
    go_wp2_with (first
      | (at_builtin; refine app28 (W := V) (l := []) (m := n.keys.take j) (us := us) (A := Lt w.heap.size) hD rfl (.tmp 26) (.tmp 30) rfl rfl (up_alloc _ _) (obb_empty (Nat.le_refl _)) rfl (T1.out.1.up (bt HBV.out (up_alloc _ _))) (lt_td (D := 0) T1.out.2 (bt HBV.out (up_alloc _ _))) (by simp; unfold lim; omega) ?_; intro v5 w5 ho5 hb5; obtain ⟨b0, b1, b2, b3⟩ := BX.out.up hb5; obtain ⟨L5, f5, g5, ef5⟩ : ∃ L a c, v5 = .slice a L c := (let ⟨_, h, _⟩ := ho5; ⟨_, own_slice h⟩); subst ef5; have hlt5 : w.heap.size < w5.heap.size := Nat.lt_of_lt_of_le hlt0 hb5.size; have HO5 := Hid.mk' ho5; have HB5 := Hid.mk' hb5; clear ho5 hb5)
      | (at_builtin; refine app28 (W := V) (v := .slice f5 L5 g5) (l := [] ++ n.keys.take j) (m := [kl]) (us := [.slice ka kl.length kc]) hD rfl (.tmp 32) (.tmp 34) rfl rfl (HB5.out.alloc HB5.out.size _) (HO5.out.alloc _) rfl row_one ((Each.nil _ _).snoc ((HK.out.toLt.up (bt HBV.out (HB5.out.alloc HB5.out.size _))).monoS fun b hb => .inl hb)) (by simp; unfold lim; omega) ?_; intro v6 w6 ho6 hb6; obtain ⟨b0, b1, b2, b3⟩ := BX.out.up hb6; obtain ⟨L6, f6, g6, ef6⟩ : ∃ L a c, v6 = .slice a L c := (let ⟨_, h, _⟩ := ho6; ⟨_, own_slice h⟩); subst ef6; have hlt6 : w.heap.size < w6.heap.size := Nat.lt_of_lt_of_le hlt0 hb6.size; have HO6 := Hid.mk' ho6; have HB6 := Hid.mk' hb6; clear ho6 hb6)
      | (at_builtin; refine app28 (W := w6) (l := []) (m := n.vals.take j) (us := us') (A := Lt w.heap.size) (D := w.heap.size) (Nat.le_trans hD HB6.out.size) rfl (.tmp 36) (.tmp 40) rfl rfl (up_alloc _ _) (obb_empty (Nat.le_refl _)) rfl (T3.out.1.up (bt HBV.out (bt HB6.out (up_alloc _ _)))) (lt_td (D := 0) T3.out.2 (bt HBV.out (bt HB6.out (up_alloc _ _)))) (by simp; unfold lim; omega) ?_; intro v7 w7 ho7 hb7; obtain ⟨b0, b1, b2, b3⟩ := BX.out.up (bt HB6.out hb7); obtain ⟨L7, f7, g7, ef7⟩ : ∃ L a c, v7 = .slice a L c := (let ⟨_, h, _⟩ := ho7; ⟨_, own_slice h⟩); subst ef7; have hlt7 : w.heap.size < w7.heap.size := Nat.lt_of_lt_of_le hlt6 hb7.size; have HO7 := Hid.mk' ho7; have HB7 := Hid.mk' hb7; clear ho7 hb7)
      | (at_builtin; refine app28 (W := w6) (v := .slice f7 L7 g7) (l := [] ++ n.vals.take j) (m := [xl]) (us := [.slice xa xl.length xc]) (D := w.heap.size) (Nat.le_trans hD HB6.out.size) rfl (.tmp 42) (.tmp 44) rfl rfl (HB7.out.alloc HB7.out.size _) (HO7.out.alloc _) rfl row_one ((Each.nil _ _).snoc ((HX.out.toLt.up (bt HBV.out (bt HB6.out (HB7.out.alloc HB7.out.size _)))).monoS fun b hb => .inl hb)) (by simp; unfold lim; omega) ?_; intro v8 w8 ho8 hb8; obtain ⟨b0, b1, b2, b3⟩ := BX.out.up (bt HB6.out hb8); obtain ⟨L8, f8, g8, ef8⟩ : ∃ L a c, v8 = .slice a L c := (let ⟨_, h, _⟩ := ho8; ⟨_, own_slice h⟩); subst ef8; have hlt8 : w.heap.size < w8.heap.size := Nat.lt_of_lt_of_le hlt6 hb8.size; have HO8 := Hid.mk' ho8; have HB8 := Hid.mk' hb8; clear ho8 hb8))
    have hob6 := HO6.out.up HB8.out
    have hbv := bt HBV.out (bt HB6.out HB8.out)
    have hdw : Below w8.heap.size w8 w8.drew := ⟨rfl, rfl, rfl, Nat.le_refl _, fun _ _ => rfl⟩
    have hsz8 := HB8.out.size
    have hsz6 := HB6.out.size
    have hszv := HZV.out
    have r1 : ∀ q : Kp (fun b => some b = (Value.slice f6 L6 g6).ownBlock) w8, q.nx.cell? ⟨w.heap.size, 1, none⟩ = some _ := fun q => q.cell b1 (fun e => by have := (hob6.typed _ e.symm).1; omega)
    have r2 : ∀ q : Kp (fun b => some b = (Value.slice f6 L6 g6).ownBlock) w8, q.nx.cell? ⟨w.heap.size, 2, none⟩ = some _ := fun q => q.cell b2 (fun e => by have := (hob6.typed _ e.symm).1; omega)
    obtain ⟨vk, wa, ra, xa, oa, ja⟩ := app_row (m := n.keys.drop j) (us := vs) (hob6.up hdw) (T2.out.1.up (bt hbv hdw)) (lt_td (D := 0) T2.out.2 (bt hbv hdw)) (by simp; unfold lim; omega) (by have : w8.drew.heap.size = w8.heap.size := rfl; omega) hD
    have hov : Obb w.heap.size w6.heap.size wa (.slice f8 L8 g8) ([] ++ n.vals.take j ++ [xl]) := (HO8.out.up hdw).wbD xa (by have : w8.drew.heap.size = w8.heap.size := rfl; omega) fun k hk => by
      obtain ⟨h1, cur, fr, h2⟩ := hob6.typed k hk.symm
      have h6 : k < w6.heap.size := by
        obtain ⟨_, _, _, h3⟩ := HO6.out.typed k hk.symm
        exact (Array.getElem?_eq_some_iff.1 h3).1
      refine ⟨fun e => ?_, by omega, fun cu f h3 => absurd (typed_ne h2 h3) (by decide)⟩
      have := (HO8.out.typed k e.symm).1
      omega
    have hba : Below w8.drew.heap.size w8.drew w8.drew := Below.refl _ _
    have hwa : Below w.heap.size w wa := (bt hbv hdw).trans (xa.below (by have : w8.drew.heap.size = w8.heap.size := rfl; omega) fun k hk => by have := (hob6.typed k hk.symm).1; omega)
    obtain ⟨vw, wb, rb, xb', ob, jb⟩ := app_row (m := n.vals.drop j) (us := vs') hov (T4.out.1.up hwa) (lt_td (D := 0) T4.out.2 hwa) (by simp; unfold lim; omega) (by have := xa.size; have : w8.drew.heap.size = w8.heap.size := rfl; omega) (by omega)
    have hok : Obb w.heap.size V.heap.size wb vk ([] ++ n.keys.take j ++ [kl] ++ n.keys.drop j) := oa.wbD xb' (by have := hwa.size; omega) fun k hk => by
      obtain ⟨h1, cur, fr, h2⟩ := hov.typed k hk.symm
      refine ⟨fun e => ?_, by omega, fun cu f h3 => absurd (typed_ne h2 h3) (by decide)⟩
      rcases ja with ja | ⟨k', ja, jb'⟩
      · obtain ⟨_, _, _, h3⟩ := HO6.out.typed k (by rw [← ja]; exact e.symm)
        have := (Array.getElem?_eq_some_iff.1 h3).1
        omega
      · rw [ja] at e; cases e
        obtain ⟨_, _, _, h3⟩ := HO8.out.typed _ hk.symm
        have := (Array.getElem?_eq_some_iff.1 h3).1
        have : w8.drew.heap.size = w8.heap.size := rfl
        omega
    have hwb : Below w.heap.size w wb := hwa.trans (xb'.below (by have := hwa.size; omega) fun k hk => by have := (hov.typed k hk.symm).1; omega)
    have gac : Wb (fun b => some b = (Value.slice f6 L6 g6).ownBlock) w8 wa := (Wb.of_below _ hdw).trans xa
    have hzb : wb.heap[w.heap.size + 1]? = some (.cells #[.bool false, .slice none 0 0, .slice none 0 0, .slice none 0 0] 31 (0, 0)) := by
      rw [xb'.block _ (by have := hwa.size; have := gac.size; omega) (fun e => by have := (hov.typed _ e.symm).1; omega), gac.block _ (by omega) (fun e => by have := (hob6.typed _ e.symm).1; omega), (bt HB6.out HB8.out).block _ (by omega)]
      exact HZ2.out
    have hg1 : ¬ (some w.heap.size = (Value.slice f6 L6 g6).ownBlock ∨ some w.heap.size = (Value.slice f8 L8 g8).ownBlock) := fun e => by
      rcases e with e | e
      · have := (hob6.typed _ e.symm).1; omega
      · have := (hov.typed _ e.symm).1; omega
    have r1 : ∀ q : Kp (fun b => some b = (Value.slice f6 L6 g6).ownBlock ∨ some b = (Value.slice f8 L8 g8).ownBlock) w8, q.nx.cell? ⟨w.heap.size, 1, none⟩ = some _ := fun q => q.cell b1 hg1
    have r2 : ∀ q : Kp (fun b => some b = (Value.slice f6 L6 g6).ownBlock ∨ some b = (Value.slice f8 L8 g8).ownBlock) w8, q.nx.cell? ⟨w.heap.size, 2, none⟩ = some _ := fun q => q.cell b2 hg1
    have gb : Wb (fun b => some b = (Value.slice f6 L6 g6).ownBlock ∨ some b = (Value.slice f8 L8 g8).ownBlock) w8 wb := (gac.mono fun k hk => .inl hk).trans (xb'.mono fun k hk => .inr hk)
    refine wp_region_mix 13 (fun w' => ∃ q : Kp (fun b => some b = (Value.slice f6 L6 g6).ownBlock ∨ some b = (Value.slice f8 L8 g8).ownBlock) w8, w' = q.nx) (by kernel_rfl) (by kernel_rfl) (kp_first _ w8) ?_
    simp only [List.take_succ_cons, List.take_zero, List.drop_succ_cons, List.drop_zero]
    refine mx_take 5 rfl ?_
    simp only [List.take_succ_cons, List.take_zero, List.drop_succ_cons, List.drop_zero]
    repeat (go_big_quiet_step (fail))
    refine wpQuiet_nil ?_
    refine mx_app rfl rfl rfl (by kernel_rfl) ra (kp_mk gac.size fun b hb hx => gac.block b hb (fun e => hx (.inl e))) ?_
    simp only [Act.put, List.setIfInBounds_toArray, List.set_cons_succ, List.set_cons_zero]
    refine mx_take 5 rfl ?_
    simp only [List.take_succ_cons, List.take_zero, List.drop_succ_cons, List.drop_zero]
    repeat (go_big_quiet_step (fail))
    refine wpQuiet_nil ?_
    refine mx_app rfl rfl rfl (by kernel_rfl) rb (kp_mk gb.size fun b hb hx => gb.block b hb hx) ?_
    simp only [Act.put, List.setIfInBounds_toArray, List.set_cons_succ, List.set_cons_zero]
    obtain ⟨M1, m1, n1, em1⟩ : ∃ L a c, vk = .slice a L c := (let ⟨_, h, _⟩ := hok; ⟨_, own_slice h⟩)
    obtain ⟨M2, m2, n2, em2⟩ : ∃ L a c, vw = .slice a L c := (let ⟨_, h, _⟩ := ob; ⟨_, own_slice h⟩)
    subst em1; subst em2
    refine mx_take 1 rfl ?_
    simp only [List.take_succ_cons, List.take_zero, List.drop_succ_cons, List.drop_zero]
    repeat (go_big_quiet_step (fail))
    refine wpQuiet_nil ?_
    simp only [wpMix]
    have HOK := Hid.mk' hok
    have HOV := Hid.mk' ob
    have HZB := Hid.mk' hzb
    have HWB := Hid.mk' hwb
    have hwbs := hwb.size
    obtain ⟨⟨z0', z1', z2', z3'⟩, zf'⟩ := cells4_get hzb
    clear r1 r2 gb gac xa oa ja xb' ob jb hok hov hwb hzb hba hwa ra rb hob6 hbv hdw hg1 b0 b1 b2 b3
    go_wp2_with fail
    refine bodyPost_ret (v := .agg #[.bool true, .slice m1 M1 n1, .slice m2 M2 n2, .slice none 0 0]) (by simp [results, Try.results37, go_sem, z0', z1', z2', z3']) rfl ?_
    have hs4 := four_wb wb (w.heap.size + 1) (.bool true) (.slice m1 M1 n1) (.slice m2 M2 n2) (.slice none 0 0)
    have hfin : ∀ {B : Nat} {v : Value} {l : List (List UInt8)}, Obb w.heap.size B wb v l → l.length * 24 ≤ lim → Bss (Lt ((((wb.setCell ⟨w.heap.size + 1, 0, none⟩ (.bool true)).setCell ⟨w.heap.size + 1, 1, none⟩ (.slice m1 M1 n1)).setCell ⟨w.heap.size + 1, 2, none⟩ (.slice m2 M2 n2)).setCell ⟨w.heap.size + 1, 3, none⟩ (.slice none 0 0)).heap.size) ((((wb.setCell ⟨w.heap.size + 1, 0, none⟩ (.bool true)).setCell ⟨w.heap.size + 1, 1, none⟩ (.slice m1 M1 n1)).setCell ⟨w.heap.size + 1, 2, none⟩ (.slice m2 M2 n2)).setCell ⟨w.heap.size + 1, 3, none⟩ (.slice none 0 0)) v l := fun ho hl =>
      (ho.wbD hs4 hwbs fun k hk => by
        subst hk
        exact ⟨fun e => by obtain ⟨_, _, _, h1⟩ := ho.typed _ e.symm; exact absurd (typed_ne h1 HZB.out) (by decide), by omega, fun cu f h3 => absurd (typed_ne h3 HZB.out) (by decide)⟩).bss (Nat.le_trans hwbs hs4.size) hl
    refine ⟨_, rfl, ?_, HWB.out.trans (hs4.below hwbs (fun k hk => by subst hk; omega))⟩
    rw [HWT.out, HKD.out, HLF.out]
    exact ⟨_, _, _, rfl, by have := hfin HOK.out (by simp; unfold lim; omega); simpa using this, by have := hfin HOV.out (by simp; unfold lim; omega); simpa using this, Row.void (fun _ => rfl), by simp [lim], by simp⟩
  · have HWT : Hid (wth n i kl xl = n) := by show _ = _; rw [HW.out, if_neg hc]
    by_cases dl : n.leaf = true
    · rw [dl] at b0
      have DL := Hid.mk' dl
      by_cases dm : i < 0
      · have k1 : decide (i < 0) = true := by simp [dm]
        clear dl
        clear hc
        go_enter Try.func37, Try.ntmps37
        go_wp2_with fail
        refine bodyPost_ret (v := .agg #[.bool n.leaf, .slice a1 n.keys.length c1, .slice a2 n.vals.length c2, .slice a3 n.kids.length c3]) (by simp [results, Try.results37, go_sem, z0, z1, z2, z3]; exact DL.out) rfl ?_
        have hbw := HBV.out.trans ((four_wb V (w.heap.size + 1) (.bool true) (.slice a1 n.keys.length c1) (.slice a2 n.vals.length c2) (.slice a3 n.kids.length c3)).below HBV.out.size (fun k hk => by subst hk; omega))
        exact ⟨_, rfl, by rw [HWT.out]; exact (HN.out.up hbw).toLt, hbw⟩
      · have k1 : decide (i < 0) = false := by simp; omega
        have k2 : decide ((n.keys.length : Int) < i) = true := by
          simp
          by_cases h : (n.keys.length : Int) < i
          · exact h
          · exact absurd ⟨dl, by omega, by omega, by have := (HEV.out dl).1; omega⟩ hc
        clear dl
        clear hc
        go_enter Try.func37, Try.ntmps37
        go_wp2_with fail
        refine bodyPost_ret (v := .agg #[.bool n.leaf, .slice a1 n.keys.length c1, .slice a2 n.vals.length c2, .slice a3 n.kids.length c3]) (by simp [results, Try.results37, go_sem, z0, z1, z2, z3]; exact DL.out) rfl ?_
        have hbw := HBV.out.trans ((four_wb V (w.heap.size + 1) (.bool true) (.slice a1 n.keys.length c1) (.slice a2 n.vals.length c2) (.slice a3 n.kids.length c3)).below HBV.out.size (fun k hk => by subst hk; omega))
        exact ⟨_, rfl, by rw [HWT.out]; exact (HN.out.up hbw).toLt, hbw⟩
    · have d1' : n.leaf = false := by simpa using dl
      rw [d1'] at b0
      have DF := Hid.mk' d1'
      clear d1'
      clear dl
      clear hc
      go_enter Try.func37, Try.ntmps37
      go_wp2_with fail
      refine bodyPost_ret (v := .agg #[.bool n.leaf, .slice a1 n.keys.length c1, .slice a2 n.vals.length c2, .slice a3 n.kids.length c3]) (by simp [results, Try.results37, go_sem, z0, z1, z2, z3]; exact DF.out) rfl ?_
      have hbw := HBV.out.trans ((four_wb V (w.heap.size + 1) (.bool false) (.slice a1 n.keys.length c1) (.slice a2 n.vals.length c2) (.slice a3 n.kids.length c3)).below HBV.out.size (fun k hk => by subst hk; omega))
      exact ⟨_, rfl, by rw [HWT.out]; exact (HN.out.up hbw).toLt, hbw⟩
end Go.Proofs.Ytfmbbpfklhkljaa
