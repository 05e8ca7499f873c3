/- slices.Insert at [][]byte, in place and at the end; all of it. -/
import Derived.Test.YtfmbbpfklhkljaaIN
set_option linter.unusedVariables false
set_option linter.unusedSimpArgs false
namespace Go.Proofs.Ytfmbbpfklhkljaa
open Go.RowKit
theorem ext101 {w : World} {b o vb lb cb : Nat} {A B : Array Value} (hne : vb ≠ b) (ha : w.heap[vb]? = some (.cells A 32 (0, 0))) (hb : w.heap[b]? = some (.cells B 32 (0, 0))) (hB : B.size ≠ 0) :
    (callFunc 101 #[.slice (some ⟨vb, 0, none⟩) 1 1, .slice (some ⟨b, o, none⟩) lb cb]).run Try.prog w = .ok (.value (.bool false)) w := by
  rw [run_callFunc_extern Try.func101 (by kernel_rfl) (by kernel_rfl) (by kernel_rfl) (e := Extern.SlicesOverlaps.overlaps #[28, 28] #[4]) (by kernel_rfl),
    Lib.run_overlaps_apart w 28 4 32 Try.underlying28 1 Try.sz32 ⟨vb, 0, none⟩ ⟨b, o, none⟩ 1 1 lb cb hne 32 32 A.size B.size (by simp [World.shape?, ha]) (by simp [World.shape?, hb]) hB (by simp [World.frozen?, ha]) (by simp [World.frozen?, ha])]
  rfl
set_option maxHeartbeats 4000000 in
set_option maxRecDepth 100000 in
/-- there is room -/
theorem insert_shift {B b n c i vb : Nat} {cs : List Value} {y : Value} {w : World} {cur : Array Value} (hi : i < n) (hroom : n + 1 ≤ c) (hcm : c ≤ maxLen) (hcl : cs.length = n) (hbb : B ≤ b)
    (hb : w.heap[b]? = some (.cells cur 32 (0, 0))) (hcur : cur.size = c) (htk : cur.toList.take n = cs) (hv : w.heap[vb]? = some (.cells #[y] 32 (0, 0))) (hne : vb ≠ b) (h1c : ∀ v ∈ cs, v.oneCell' = true) (h1y : y.oneCell' = true) :
    Calls Try.prog 82 #[.slice (some ⟨b, 0, none⟩) n c, .int .i64 i, .slice (some ⟨vb, 0, none⟩) 1 1] w fun e w' => e = .returned (.slice (some ⟨b, 0, none⟩) (n + 1) c) ∧ w'.ownsRow B 32 1 (.slice (some ⟨b, 0, none⟩) (n + 1) c) (n + 1) (cs.take i ++ [y] ++ cs.drop i) ∧ Wb (fun k => k = b) w w' := by
  have hcm' : c ≤ 9223372036854775807 := Nat.le_trans hcm (by decide)
  have hz2 : ¬ ((i : Int) = (n : Int)) := by omega
  have hz3 : ¬ (c : Int) < (n : Int) + 1 := by omega
  have hov := fun lb cb => ext101 (w := w) (o := i + 1) (lb := lb) (cb := cb) hne hv hb (by omega)
  have S1 := fun w => sl_lo w b 0 n c i (by omega) (by omega)
  have S2 : ∀ w' : World, (Instr.slice 28 (.slice (some ⟨b, 0, none⟩) n c) none (some (.int .i64 ((n : Int) + 1))) none).run Try.prog w' = .ok (.slice (some ⟨b, 0, none⟩) (n + 1) c) w' := fun w' => sl_hi w' b 0 n c (n + 1) (by omega) (by omega)
  have S3 := fun w => sl_lo w b 0 (n + 1) c i (by omega) (by omega)
  have S4 : (i + 1 < c) → ∀ w' : World, (Instr.slice 28 (.slice (some ⟨b, 0, none⟩) (n + 1) c) (some (.int .i64 ((i : Int) + 1))) none none).run Try.prog w' = .ok (.slice (some ⟨b, 0 + (i + 1), none⟩) (n + 1 - (i + 1)) (c - (i + 1))) w' := fun h w' => sl_lo w' b 0 (n + 1) c (i + 1) (by omega) h
  have S4 := S4 (by omega)
  rw [show n + 1 - (i + 1) = n - i from by omega] at S4
  simp only [Nat.zero_add] at S1 S3 S4
  have hcell : ∀ j, j < c → (w.cell? ⟨b, j, none⟩).isSome = true := fun j hj => by
    simp only [World.cell?, hb]
    rw [if_neg (by simp), Array.getElem?_eq_getElem (by omega)]; rfl
  have hfz : ∀ j, w.frozen? ⟨b, j, none⟩ = false := fun j => by simp only [World.frozen?, hb]; simp
  have hcs : ∀ j v, cs[j]? = some v → w.cell? ⟨b, j, none⟩ = some v := fun j v hj => by
    have hjn : j < n := by have := (List.getElem?_eq_some_iff.1 hj).1; omega
    rw [← htk, List.getElem?_take, if_pos hjn] at hj
    simp only [World.cell?, hb]
    simpa using hj
  have hcpA : ∀ ty dc sc, (Builtin.copy_ #[28, 28] ty #[.slice (some ⟨b, i + 1, none⟩) (n - i) dc, .slice (some ⟨b, i, none⟩) (n + 1 - i) sc]).run Try.prog w.drew = .ok (goInt (cs.drop i).length) (w.drew.setCells b (i + 1) (cs.drop i)) := fun ty dc sc =>
    run_copy_cells w.drew _ _ ty 32 b (i + 1) (n - i) dc ⟨b, i, none⟩ (n + 1 - i) sc (cs.drop i) Try.underlying28 Try.size32' (by rw [List.length_drop, hcl]; simp only [Nat.min_def]; split <;> omega)
      (fun j v hj => by rw [addr_add]; exact hcs (i + j) v (by rwa [List.getElem?_drop] at hj))
      (fun j hj => hcell _ (by simp at hj; omega)) (fun j hj => hfz _) (fun v hv => h1c v (List.mem_of_mem_drop hv))
  obtain ⟨W1, hW1⟩ : ∃ W1, W1 = w.drew.setCells b (i + 1) (cs.drop i) := ⟨_, rfl⟩
  have X1 : Wb (fun k => k = b) w W1 := by rw [hW1]; have := setCells_wb (b := b) (cs.drop i) (i + 1) w.drew; exact ⟨this.os, this.tape, this.output, this.size, this.block⟩
  have hh1 := setCells_heap (w := w.drew) (b := b) (cs.drop i) (i + 1) hb (by simp; omega)
  rw [← hW1] at hh1 hcpA
  have hv1 : W1.heap[vb]? = some (.cells #[y] 32 (0, 0)) := by rw [X1.block vb (Array.getElem?_eq_some_iff.1 hv).1 hne]; exact hv
  have hcpB : ∀ ty dc, (Builtin.copy_ #[28, 28] ty #[.slice (some ⟨b, i, none⟩) (n + 1 - i) dc, .slice (some ⟨vb, 0, none⟩) 1 1]).run Try.prog W1 = .ok (goInt [y].length) (W1.setCells b i [y]) := fun ty dc =>
    run_copy_cells W1 _ _ ty 32 b i (n + 1 - i) dc ⟨vb, 0, none⟩ 1 1 [y] Try.underlying28 Try.size32' (by simp [Nat.min_def]; omega)
      (fun j v hj => by
        match j, hj with
        | 0, hj => simp at hj; subst hj; rw [addr_add]; simp [World.cell?, hv1])
      (fun j hj => by
        simp at hj; subst hj
        simp only [World.cell?, hh1]
        rw [if_neg (by simp), Array.getElem?_eq_getElem (by simp; omega)]; rfl) (fun j hj => by simp only [World.frozen?, hh1]; simp) (by simpa using h1y)
  have X2 := setCells_wb (b := b) [y] i W1
  have hh2 := setCells_heap (b := b) [y] i hh1 (by simp; omega)
  have HFIN : Hid (∀ W', W' = W1.setCells b i [y] → W'.ownsRow B 32 1 (.slice (some ⟨b, 0, none⟩) (n + 1) c) (n + 1) (cs.take i ++ [y] ++ cs.drop i) ∧ Wb (fun k => k = b) w W') := fun W' hW' => by
    subst hW'
    refine ⟨⟨by simp; omega, .inr ⟨b, c, _, rfl, hbb, hh2, hroom, hcm, by simp; omega, ?_⟩⟩, X1.trans X2⟩
    simp only [Nat.mul_one]
    exact ins_list2 cur.toList n i (by omega) (by simp; omega) y cs hcl htk
  have hw1 : IntKind.i64.wrap ((i : Int) + 1) = (i : Int) + 1 := by rw [IntKind.wrap_i64]; omega
  have hw2 : IntKind.i64.wrap ((n : Int) + 1) = (n : Int) + 1 := by rw [IntKind.wrap_i64]; omega
  clear hW1 X1 hh1 hv1 X2 hh2 hcell hfz hcs hb hcur htk hv h1c h1y hcl
  go_enter Try.func82, Try.ntmps82
  go_wp2_with (simp only [hov])
  go_still_tail 8, (by kernel_rfl)
  go_wp2_with (at_builtin; refine wpl_copy rfl (.tmp 73) (.tmp 76) 28 28 rfl rfl rfl (hcpA _ _ _) ?_)
  go_wp2_with (at_builtin; refine wpl_copy rfl (.tmp 80) (.tmp 81) 28 28 rfl rfl rfl (hcpB _ _) ?_)
  go_ret
  exact ⟨rfl, HFIN.out _ rfl⟩
set_option maxHeartbeats 4000000 in
set_option maxRecDepth 100000 in
/-- at the end -/
theorem insert_end {B n vb : Nat} {v : Value} {cs : List Value} {y : Value} {w : World} (ho : w.ownsRow B 32 1 v n cs) (hv : w.heap[vb]? = some (.cells #[y] 32 (0, 0))) (h1y : y.oneCell' = true) (hlen : (n + 1) * 24 ≤ lim) (hB : B ≤ w.heap.size) :
    Calls Try.prog 82 #[v, .int .i64 n, .slice (some ⟨vb, 0, none⟩) 1 1] w fun e w' => ∃ v', e = .returned v' ∧ w'.ownsRow B 32 1 v' (n + 1) (cs ++ [y]) ∧ w.grownBy w' v.ownBlock ∧ (v'.ownBlock = v.ownBlock ∨ v'.ownBlock = some w.heap.size) := by
  have hlen' : (n + 1) * 24 ≤ 140737488351232 := hlen
  have hcs : cs.length = n := by have := ho.1; simpa using this
  have hR : Row 1 (Lt w.heap.size) w v n cs := Row.of_own ho
  obtain ⟨ad, c, rfl⟩ := own_slice ho
  obtain ⟨a', c', S1, _⟩ := row_lo (P := Try.prog) (t := 28) (by kernel_rfl) Try.size32 hR n (Nat.le_refl _)
  have hrow : Row 1 (Lt w.heap.size) w (.slice (some ⟨vb, 0, none⟩) 1 1) 1 [y] := ⟨rfl, _, _, rfl, Nat.le_refl _, by simp, fun j u hj => by
    match j, hj with
    | 0, hj => simp at hj; subst hj; exact ⟨vb, 0, rfl, (Array.getElem?_eq_some_iff.1 hv).1, by simp [World.cell?, hv]⟩⟩
  have HO := Hid.mk' ho
  have HR := Hid.mk' hrow
  have H1 : Hid (∀ u ∈ [y], u.oneCell' = true) := by intro u hu; simp at hu; subst hu; exact h1y
  clear ho hR hrow h1y hcs hv
  go_enter Try.func82, Try.ntmps82
  go_wp2_with (at_builtin; go_must (refine wpl_app rfl (.tmp 23) (.tmp 24) 28 rfl Try.underlying28 Try.info32 rfl (by decide) rfl HO.out rfl HR.out H1.out (by unfold maxLen; omega) (by omega) hB ?_); intro v' w1 ho hg hn hb; have HO1 := Hid.mk' ho; have HG := Hid.mk' hg; have HBK := Hid.mk' hb; clear hn ho hg hb)
  go_ret
  exact ⟨v', rfl, HO1.out, HG.out, HBK.out⟩
theorem each_ins {A : Nat → Prop} {w : World} {vs : List Value} {l : List (List UInt8)} {y : Value} {m : List UInt8} (h : Each A w vs l) (hy : Bs A w y m) (i : Nat) : Each A w (vs.take i ++ [y] ++ vs.drop i) (l.take i ++ [m] ++ l.drop i) := by
  have ht : Each A w (vs.take i) (l.take i) := ⟨by simp [h.1], fun j a b => by
    rw [List.getElem_take, List.getElem_take]; exact h.2 j (by simp at a; omega) (by simp at b; omega)⟩
  have hd : Each A w (vs.drop i) (l.drop i) := ⟨by simp [h.1], fun j a b => by
    rw [List.getElem_drop, List.getElem_drop]; exact h.2 (i + j) (by simp at a; omega) (by simp at b; omega)⟩
  exact each_append (ht.snoc hy) hd
theorem take_drop_end {α : Type} (l : List α) (x : α) : l.take l.length ++ [x] ++ l.drop l.length = l ++ [x] := by simp
/-- slices.Insert of one value -/
theorem insert_any {B vb : Nat} {w : World} {v y : Value} {l : List (List UInt8)} {m : List UInt8} (h : Obb 0 B w v l) (i : Nat) (hi : i ≤ l.length) (hv : w.heap[vb]? = some (.cells #[y] 32 (0, 0))) (hy : Bs (Td 0 w) w y m) (hne : v.ownBlock ≠ some vb)
    (hlen : (l.length + 1) * 24 ≤ lim) (hB : B ≤ w.heap.size) : Calls Try.prog 82 #[v, .int .i64 i, .slice (some ⟨vb, 0, none⟩) 1 1] w fun e w' => ∃ v', e = .returned v' ∧ Obb 0 B w' v' (l.take i ++ [m] ++ l.drop i) ∧ Wb (fun k => some k = v.ownBlock) w w' ∧ (v'.ownBlock = v.ownBlock ∨ ∃ k, v'.ownBlock = some k ∧ w.heap.size ≤ k) := by
  have hty := h.typed
  obtain ⟨vs, h1, h2⟩ := h
  have hvl : vs.length = l.length := h2.1
  obtain ⟨ya, yc, ye, _⟩ := hy.at
  have h1y : y.oneCell' = true := by rw [ye]; rfl
  have fin : ∀ {w' : World} {v' : Value}, w'.ownsRow B 32 1 v' (l.length + 1) (vs.take i ++ [y] ++ vs.drop i) → Wb (fun k => some k = v.ownBlock) w w' → Obb 0 B w' v' (l.take i ++ [m] ++ l.drop i) := by
    intro w' v' ho hb
    have hs : ∀ b, Td 0 w b → w'.heap[b]? = w.heap[b]? := by
      rintro b (hb' | ⟨cur, fr, hb'⟩)
      · exact absurd hb' (Nat.not_lt_zero _)
      · refine hb.block b (Array.getElem?_eq_some_iff.1 hb').1 fun e => ?_
        obtain ⟨_, _, _, h3⟩ := hty b e.symm
        exact absurd (typed_ne h3 hb') (by decide)
    refine ⟨_, ?_, ((each_ins h2 hy i).keepS hs).monoS fun b hb' => ?_⟩
    · have : (l.take i ++ [m] ++ l.drop i).length = l.length + 1 := by simp; omega
      rw [this]; exact ho
    · have := hs b hb'
      rcases hb' with hb' | ⟨cur, fr, hb'⟩
      · exact absurd hb' (Nat.not_lt_zero _)
      · exact .inr ⟨cur, fr, by rw [this]; exact hb'⟩
  by_cases hie : i = l.length
  · subst hie
    refine (insert_end h1 hv h1y hlen hB).mono ?_
    rintro e w' ⟨v', rfl, k1, k2, k3⟩
    refine ⟨v', rfl, fin (by rw [← hvl, take_drop_end, hvl]; exact k1) (Wb.of_grown k2), (Wb.of_grown k2), ?_⟩
    rcases k3 with k3 | k3
    · exact .inl k3
    · exact .inr ⟨_, k3, Nat.le_refl _⟩
  · have hil : i < l.length := by omega
    have h1' := h1
    obtain ⟨h0, h | ⟨g, cap, cur, rfl, hbg, hg, hnc, hcm, hcs, htake⟩⟩ := h1
    · have := h.2; omega
    · have hone := h2.one
      by_cases hroom : l.length + 1 ≤ cap
      · refine (insert_shift (B := B) (cs := vs) (n := l.length) hil hroom hcm hvl hbg hg (by omega) (by simpa using htake) hv (fun e => hne (by rw [e]; rfl)) hone h1y).mono ?_
        rintro e w' ⟨rfl, k1, k2⟩
        have k2' : Wb (fun k => some k = (Value.slice (some ⟨g, 0, none⟩) l.length cap).ownBlock) w w' := k2.mono fun k hk => by subst hk; rfl
        exact ⟨_, rfl, fin k1 k2', k2', .inl rfl⟩
      · have hcells : ∀ j u, vs[j]? = some u → w.cell? ⟨g, j, none⟩ = some u := fun j u hj => by
          have hjn : j < l.length := by have := (List.getElem?_eq_some_iff.1 hj).1; omega
          rw [World.ownsRow.cellAt h1' j (by omega)]; exact hj
        refine (insert_grow (cs := vs) (n := l.length) hil hnc (by omega) hlen hvl hcells (by simp [World.cell?, hv]) hone h1y).mono ?_
        rintro e w' ⟨v', rfl, k1, k2⟩
        have k2' := Wb.of_below (fun k => some k = (Value.slice (some ⟨g, 0, none⟩) l.length cap).ownBlock) k2
        refine ⟨v', rfl, fin (own_mono k1 hB) k2', k2', ?_⟩
        obtain ⟨_, hx | ⟨g', c', cu', hv', hb', _⟩⟩ := k1
        · have := hx.2; omega
        · exact .inr ⟨g', by rw [hv']; rfl, hb'⟩
end Go.Proofs.Ytfmbbpfklhkljaa
