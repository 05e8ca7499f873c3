/- slices.Insert at [][]byte, one value, onto a row of the call's own. -/
import Derived.Test.YtfmbbpfklhkljaaTY
import Derived.StillTailTactics
import Derived.Lib.AppendZerosOnto
import Derived.Lib.Overlaps
import Derived.Laws.IdiomCopy
set_option linter.unusedVariables false
set_option linter.unusedSimpArgs false
namespace Go.Proofs.Ytfmbbpfklhkljaa
open Go.RowKit
theorem setCells_heap {b : Nat} {e : TypeId} {fr : Nat × Nat} : ∀ (vs : List Value) (o : Nat) {w : World} {cur : Array Value}, w.heap[b]? = some (.cells cur e fr) → o + vs.length ≤ cur.size →
    (w.setCells b o vs).heap[b]? = some (.cells (cur.toList.take o ++ vs ++ cur.toList.drop (o + vs.length)).toArray e fr)
  | [], o, w, cur, h, _ => by simpa [World.setCells] using h
  | v :: r, o, w, cur, h, hl => by
    have hl : o + (r.length + 1) ≤ cur.size := hl
    have h1 : (w.setCell ⟨b, o, none⟩ v).heap[b]? = some (.cells (cur.setIfInBounds o v) e fr) := by
      have hlt := (Array.getElem?_eq_some_iff.1 h).1
      have h2 := (Array.getElem?_eq_some_iff.1 h).2
      simp [World.setCell, hlt, Array.getElem_modify, h2]
    have h2 := setCells_heap r (o + 1) h1 (by simp; omega)
    rw [World.setCells, h2]
    congr 2
    rw [Array.toList_setIfInBounds]
    have e1 : (cur.toList.set o v).take (o + 1) = cur.toList.take o ++ [v] := by
      rw [List.take_succ_eq_append_getElem (by simp; omega), List.take_set_of_le (Nat.le_refl _)]; simp
    have e2 : (cur.toList.set o v).drop (o + 1 + r.length) = cur.toList.drop (o + (v :: r).length) := by
      rw [List.drop_set_of_lt (by omega)]; congr 1; simp; omega
    rw [e1, e2]; simp
theorem setCells_wb {b : Nat} : ∀ (vs : List Value) (o : Nat) (w : World), Wb (fun k => k = b) w (w.setCells b o vs)
  | [], _, w => Wb.refl _ w
  | v :: r, o, w => (Wb.set (X := fun k => k = b) w b o v rfl).trans (setCells_wb r (o + 1) _)
theorem ins_list (R : List Value) (n i : Nat) (hi : i ≤ n) (hn : n + 1 ≤ R.length) (y : Value) (cs : List Value) (hc : cs.length = n) (hR : R.take i = cs.take i) :
    ((R.take i ++ [y] ++ R.drop (i + 1)).take (i + 1) ++ cs.drop i ++ (R.take i ++ [y] ++ R.drop (i + 1)).drop (i + 1 + (cs.drop i).length)).take (n + 1) = cs.take i ++ [y] ++ cs.drop i := by
  have l1 : (R.take i).length = i := by simp; omega
  have e1 : (R.take i ++ [y] ++ R.drop (i + 1)).take (i + 1) = R.take i ++ [y] := by
    rw [List.take_append_of_le_length (by simp; omega), List.take_of_length_le (by simp; omega)]
  rw [e1, hR, List.take_append_of_le_length (by simp; omega), List.take_of_length_le (by simp; omega)]
theorem ins_list2 (R : List Value) (n i : Nat) (hi : i ≤ n) (hn : n + 1 ≤ R.length) (y : Value) (cs : List Value) (hc : cs.length = n) (hR : R.take n = cs) :
    ((R.take (i + 1) ++ cs.drop i ++ R.drop (i + 1 + (cs.drop i).length)).take i ++ [y] ++ (R.take (i + 1) ++ cs.drop i ++ R.drop (i + 1 + (cs.drop i).length)).drop (i + [y].length)).take (n + 1) = cs.take i ++ [y] ++ cs.drop i := by
  have hRi : R.take i = cs.take i := by rw [← hR, List.take_take, Nat.min_eq_left hi]
  have e1 : (R.take (i + 1) ++ cs.drop i ++ R.drop (i + 1 + (cs.drop i).length)).take i = cs.take i := by
    rw [List.append_assoc, List.take_append_of_le_length (by simp; omega), List.take_take, Nat.min_eq_left (by omega), hRi]
  have e2 : (R.take (i + 1) ++ cs.drop i ++ R.drop (i + 1 + (cs.drop i).length)).drop (i + [y].length) = cs.drop i ++ R.drop (i + 1 + (cs.drop i).length) := by
    rw [List.append_assoc, List.drop_append_of_le_length (by simp; omega), List.drop_of_length_le (by simp; omega)]; simp
  rw [e1, e2, ← List.append_assoc, List.take_append_of_le_length (by simp; omega), List.take_of_length_le (by simp; omega)]
/-- append whose run is known, at the walk's operation -/
theorem wpl_appr {P : Program} {w : World} {ops : Array Oper} {rest : List Oper} {o : Oper} {a : Act} {Q : Exit → Act → World → Prop} (hgd : o.guard = none) (d s : Operand) (t t' : TypeId)
    (ho : o.op = .call { callee := .builtin .append, args := #[d, s], argTypes := #[t, t'] }) {v u : Value} (hd : a.eval d = v) (hs : a.eval s = u) {v' : Value} {w' : World}
    (hr : (Builtin.append_ #[t, t'] o.type #[v, u]).run P w = .ok v' w') (h : wpList P ops Q rest (a.put o.dst v') w') : wpList P ops Q (o :: rest) a w := by
  refine wpList_plain hgd fun K hK => ?_
  unfold Oper.wp execOp
  simp only [ho, resolve, invoke, builtin, Sem.run_bind, Sem.run_pure, Result.andThen_ok, List.map_toArray, List.map_cons, List.map_nil, hd, hs, hr]
  exact hK _ _ h
theorem Try.size32' : (Try.prog.info? 32).map (·.size) = some 1 := by kernel_rfl
theorem sl_lo (w : World) (b o n c l : Nat) (h1 : l ≤ n) (h2 : l < c) : (Instr.slice 28 (.slice (some ⟨b, o, none⟩) n c) (some (.int .i64 (l : Int))) none none).run Try.prog w = .ok (.slice (some ⟨b, o + l, none⟩) (n - l) (c - l)) w := by
  rw [run_slice_l w 28 _ n c (by kernel_rfl) .i64 (l : Int) (by omega) (by omega), Try.size32]
  simp only [Result.andThen, Int.toNat_natCast, Go.sliced]
  rw [if_neg (by omega), Option.map_some, Nat.mul_one, addr_add]
theorem sl_hi (w : World) (b o n c h : Nat) (h1 : h ≤ c) (h2 : 0 < c) : (Instr.slice 28 (.slice (some ⟨b, o, none⟩) n c) none (some (.int .i64 (h : Int))) none).run Try.prog w = .ok (.slice (some ⟨b, o, none⟩) h c) w := by
  rw [run_slice_h w 28 _ n c (by kernel_rfl) .i64 (h : Int) (by omega) (by omega), Try.size32]
  simp only [Result.andThen, Int.toNat_natCast, Go.sliced]
  rw [if_neg (by omega), Option.map_some, Nat.zero_mul, addr_add]; simp
theorem Try.sz32 (w : World) : (Go.sizeOf 32).run Try.prog w = .ok 1 w := by kernel_rfl
theorem someS {w : World} {b o : Nat} {vs : List Value} {v : Value} (h : w.cell? ⟨b, o, none⟩ = some v) : (w.cell? ⟨b, o, none⟩).isSome = true := by rw [h]; rfl
set_option maxHeartbeats 4000000 in
set_option maxRecDepth 100000 in
/-- no room -/
theorem insert_grow {b n c i vb : Nat} {cs : List Value} {y : Value} {w : World} (hi : i < n) (hnc : n ≤ c) (hroom : c < n + 1) (hbig : (n + 1) * 24 ≤ lim) (hcl : cs.length = n)
    (hcs : ∀ j v, cs[j]? = some v → w.cell? ⟨b, j, none⟩ = some v) (hy : w.cell? ⟨vb, 0, none⟩ = some y) (h1c : ∀ v ∈ cs, v.oneCell' = true) (h1y : y.oneCell' = true) :
    Calls Try.prog 82 #[.slice (some ⟨b, 0, none⟩) n c, .int .i64 i, .slice (some ⟨vb, 0, none⟩) 1 1] w fun e w' => ∃ v', e = .returned v' ∧ w'.ownsRow w.heap.size 32 1 v' (n + 1) (cs.take i ++ [y] ++ cs.drop i) ∧ Below w.heap.size w w' := by
  have hbig' : (n + 1) * 24 ≤ 140737488351232 := hbig
  obtain ⟨i0, hi0, hz0, hzs, hzb⟩ := info_parts Try.info32
  have hz2 : ¬ ((i : Int) = (n : Int)) := by omega
  have hz3 : (c : Int) < (n : Int) + 1 := by omega
  have hbw : b < w.heap.size := World.block_lt_of_cell? w ⟨b, 0, none⟩ (hcs 0 _ (List.getElem?_eq_getElem (by omega)))
  have hvw : vb < w.heap.size := World.block_lt_of_cell? w ⟨vb, 0, none⟩ hy
  have hkk : (n : Int) + 1 - (i : Int) = ((n + 1 - i : Nat) : Int) := by omega
  have hik : i + (n + 1 - i) = n + 1 := by omega
  have hold : (Builtin.firstCells i0.size i (.slice (some ⟨b, 0, none⟩) i c)).run Try.prog w.drew = .ok (cs.take i).toArray w.drew := by
    rw [hzs]
    exact run_firstCells_some w.drew 1 i ⟨b, 0, none⟩ i c (cs.take i) (by rw [List.length_take]; omega) (fun j v hj => by
      rw [addr_add, Nat.zero_add]
      rw [List.getElem?_take] at hj
      split at hj
      · exact hcs j v hj
      · cases hj)
  have hrz : ∀ ty, (Builtin.append_ #[28, 3] ty #[.slice (some ⟨b, 0, none⟩) i c, .int .i64 ((n : Int) + 1 - (i : Int))]).run Try.prog w =
      .ok (.slice (some ⟨w.heap.size, 0, none⟩) (n + 1) (grownCap w (n + 1) c 32)) (w.drew.alloc (.cells ((cs.take i).toArray ++ Builtin.zeroCells (Value.slice none 0 0).cells (n + 1 - i) ++ Builtin.zeroCells (Value.slice none 0 0).cells (grownCap w (n + 1) c 32 - (n + 1))) 32)) := fun ty => by
    have h := Lib.run_append_grow_zeros w 28 3 ty 32 i0 _ .i64 .i64 Try.underlying28 Try.underlying3 hi0 hz0 (some ⟨b, 0, none⟩) i c (cs.take i) hold (n + 1 - i) (by omega) (by omega) (by omega) (by omega) (by rw [hzb]; omega) (by rw [hzb, hik]; exact growslice_fits hroom (by omega))
    rw [hik] at h
    rw [hkk]
    exact h
  have hge := grownCap_ge w (n + 1) c 32
  have hcm := grownCap_le_maxLen w (n + 1) c 32 (by unfold maxLen; omega)
  generalize grownCap w (n + 1) c 32 = G at *
  obtain ⟨ROW, hROW⟩ : ∃ ROW : Array Value, ROW = (cs.take i).toArray ++ Builtin.zeroCells (Value.slice none 0 0).cells (n + 1 - i) ++ Builtin.zeroCells (Value.slice none 0 0).cells (G - (n + 1)) := ⟨_, rfl⟩
  rw [← hROW] at hrz
  have hRs : ROW.size = G := by rw [hROW]; simp [Builtin.zeroCells, Value.cells]; omega
  have hRt : ROW.toList.take i = cs.take i := by
    rw [hROW]
    simp only [Array.toList_append, List.append_assoc]
    rw [List.take_append_of_le_length (by simp; omega), List.take_of_length_le (by simp; omega)]
  obtain ⟨W1, hW1⟩ : ∃ W1, W1 = w.drew.alloc (.cells ROW 32) := ⟨_, rfl⟩
  have hb1 : Below w.heap.size w W1 := by rw [hW1]; exact ⟨rfl, rfl, rfl, by simp, fun k hk => Below.heap_alloc w.drew _ k hk⟩
  have hh1 : W1.heap[w.heap.size]? = some (.cells ROW 32 (0, 0)) := by rw [hW1]; exact heap_alloc_new w.drew _
  rw [← hW1] at hrz
  have hfz : ∀ j, W1.frozen? ⟨w.heap.size, j, none⟩ = false := fun j => by simp only [World.frozen?, hh1]; simp
  have hce : ∀ j, j < G → (W1.cell? ⟨w.heap.size, j, none⟩).isSome = true := fun j hj => by
    simp only [World.cell?, hh1]
    rw [if_neg (by simp), Array.getElem?_eq_getElem (by omega)]; rfl
  have hy1 := cell_later hb1 hy
  have hcpA : ∀ ty dc, (Builtin.copy_ #[28, 28] ty #[.slice (some ⟨w.heap.size, i, none⟩) (n + 1 - i) dc, .slice (some ⟨vb, 0, none⟩) 1 1]).run Try.prog W1 = .ok (goInt [y].length) (W1.setCells w.heap.size i [y]) := fun ty dc =>
    run_copy_cells W1 _ _ ty 32 w.heap.size i (n + 1 - i) dc ⟨vb, 0, none⟩ 1 1 [y] Try.underlying28 Try.size32' (by simp [Nat.min_def]; omega)
      (fun j v hj => by
        match j, hj with
        | 0, hj => simp at hj; subst hj; rw [addr_add]; exact hy1)
      (fun j hj => by simp at hj; subst hj; exact hce _ (by omega)) (fun j hj => hfz _) (by simpa using h1y)
  have X2 := setCells_wb (b := w.heap.size) [y] i W1
  have hh2 := setCells_heap (b := w.heap.size) [y] i hh1 (by simp; omega)
  have X2d : Wb (fun k => k = w.heap.size) W1 (W1.setCells w.heap.size i [y]).drew := ⟨X2.os, X2.tape, X2.output, X2.size, X2.block⟩
  obtain ⟨W2, hW2⟩ : ∃ W2, W2 = (W1.setCells w.heap.size i [y]).drew := ⟨_, rfl⟩
  rw [← hW2] at X2d
  have hh2' : W2.heap[w.heap.size]? = (W1.setCells w.heap.size i [y]).heap[w.heap.size]? := by rw [hW2]; rfl
  rw [hh2] at hh2'
  have hfz2 : ∀ j, W2.frozen? ⟨w.heap.size, j, none⟩ = false := fun j => by simp only [World.frozen?, hh2']; simp
  have hcs2 : ∀ j v, cs[j]? = some v → W2.cell? ⟨b, j, none⟩ = some v := fun j v hj => by
    have h1 := cell_later hb1 (hcs j v hj)
    rw [World.cell?_of_block (w := W1) (a := ⟨b, j, none⟩) (X2d.block b (Nat.lt_of_lt_of_le hbw hb1.size) (by omega))]; exact h1
  have hcpB : ∀ ty dc sc, (Builtin.copy_ #[28, 28] ty #[.slice (some ⟨w.heap.size, i + 1, none⟩) (n + 1 - (i + 1)) dc, .slice (some ⟨b, i, none⟩) (n - i) sc]).run Try.prog W2 = .ok (goInt (cs.drop i).length) (W2.setCells w.heap.size (i + 1) (cs.drop i)) := fun ty dc sc =>
    run_copy_cells W2 _ _ ty 32 w.heap.size (i + 1) (n + 1 - (i + 1)) dc ⟨b, i, none⟩ (n - i) sc (cs.drop i) Try.underlying28 Try.size32' (by rw [List.length_drop, hcl]; simp only [Nat.min_def]; split <;> omega)
      (fun j v hj => by rw [addr_add]; exact hcs2 (i + j) v (by rwa [List.getElem?_drop] at hj))
      (fun j hj => by
        simp only [World.cell?, hh2']
        rw [if_neg (by simp), Array.getElem?_eq_getElem (by simp at hj; simp; omega)]; rfl) (fun j hj => hfz2 _) (fun v hv => h1c v (List.mem_of_mem_drop hv))
  have X3 := setCells_wb (b := w.heap.size) (cs.drop i) (i + 1) W2
  have hh3 := setCells_heap (b := w.heap.size) (cs.drop i) (i + 1) hh2' (by simp; omega)
  have HX := Hid.mk' (X2d.trans X3)
  have HH := Hid.mk' hh3
  have HB1 := Hid.mk' hb1
  have hE : (w.alloc (.cells ROW 32)).drew = W1 := by rw [hW1]; rfl
  have hGi : ¬ (G = i) := by omega
  have hGim : ¬ (G = i + 1) := by omega
  have hci : ¬ (c = i) := by omega
  have hw1 : IntKind.i64.wrap ((i : Int) + 1) = (i : Int) + 1 := by rw [IntKind.wrap_i64]; omega
  have hb11 : (0 : Int) ≤ (i : Int) + 1 := by omega
  have hin : i ≤ n := by omega
  have htn : ((i : Int) + 1).toNat = i + 1 := by omega
  have hb3 : (i : Int) ≤ (n : Int) := by omega
  have hb4 : (i : Int) ≤ (n : Int) + 1 := by omega
  have hb5 : (i : Int) + 1 ≤ (n : Int) + 1 := by omega
  have HFIN : Hid (∀ W', W' = W2.setCells w.heap.size (i + 1) (cs.drop i) → W'.ownsRow w.heap.size 32 1 (.slice (some ⟨w.heap.size, 0, none⟩) (n + 1) G) (n + 1) (cs.take i ++ [y] ++ cs.drop i) ∧ Below w.heap.size w W') := fun W' hW' => by
    subst hW'
    refine ⟨⟨by simp; omega, .inr ⟨w.heap.size, G, _, rfl, Nat.le_refl _, hh3, hge, hcm, by simp; omega, ?_⟩⟩, hb1.trans (HX.out.below hb1.size (fun k hk => by subst hk; exact Nat.le_refl _))⟩
    simp only [Nat.mul_one]
    exact ins_list ROW.toList n i (by omega) (by simp; omega) y cs hcl hRt
  have S1 := fun w => sl_lo w b 0 n c i (by omega) (by omega)
  have S2 := fun w' => sl_lo w' w.heap.size 0 (n + 1) G i (by omega) (by omega)
  have S3 : ∀ w' : World, (Instr.slice 28 (.slice (some ⟨w.heap.size, 0, none⟩) (n + 1) G) (some (.int .i64 ((i : Int) + 1))) none none).run Try.prog w' = .ok (.slice (some ⟨w.heap.size, 0 + (i + 1), none⟩) (n + 1 - (i + 1)) (G - (i + 1))) w' := fun w' => sl_lo w' w.heap.size 0 (n + 1) G (i + 1) (by omega) (by omega)
  have S4 := fun w => sl_hi w b 0 n c i (by omega) (by omega)
  simp only [Nat.zero_add] at S1 S2 S3
  have hcpB' : ∀ ty dc sc, (Builtin.copy_ #[28, 28] ty #[.slice (some ⟨w.heap.size, i + 1, none⟩) (n + 1 - (i + 1)) dc, .slice (some ⟨b, i, none⟩) (n - i) sc]).run Try.prog (W1.setCells w.heap.size i [y]).drew = .ok (goInt (cs.drop i).length) (W2.setCells w.heap.size (i + 1) (cs.drop i)) := by rw [← hW2]; exact hcpB
  rw [show n + 1 - (i + 1) = n - i from by omega] at hcpB'
  clear hcpB hE hRs hW1 hW2 hge hcm hGi hGim hci hi0 hz0 hzs hzb hkk hik hold hROW hRt hh1 hfz hce hy1 X2 hh2 hh2' hfz2 hcs2 X3 hh3 hb1 hcs hy hcl h1c h1y X2d hbw hvw
  go_enter Try.func82, Try.ntmps82
  go_wp2_with (at_builtin; refine wpl_appr rfl (.tmp 34) (.tmp 39) 28 3 rfl rfl rfl (hrz _) ?_; simp only [Act.put, List.setIfInBounds_toArray, List.set_cons_succ, List.set_cons_zero])
  go_wp2_with (at_builtin; refine wpl_copy rfl (.tmp 43) (.tmp 44) 28 28 rfl rfl rfl (hcpA _ _) ?_)
  go_still_tail 8, (by kernel_rfl)
  go_wp2_with (at_builtin; refine wpl_copy rfl (.tmp 50) (.tmp 53) 28 28 rfl rfl rfl (hcpB' _ _ _) ?_)
  go_wp2_with fail
  go_ret
  exact ⟨_, rfl, HFIN.out _ rfl⟩
end Go.Proofs.Ytfmbbpfklhkljaa
