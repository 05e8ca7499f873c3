/- slices.SortFunc and slices.SortedFunc of transactions; All. -/
import Derived.Test.YteejlmeinndlhaaLJ
import Derived.Test.YteejlmeinndlhaaSF
import Derived.Shelf.SlSortCmp.NoneTotal
set_option linter.unusedVariables false
set_option linter.unusedSimpArgs false
namespace Go.Proofs.Yteejlmeinndlhaa
open Go.RowKit Go.Maps Go.Sort Go.Shelf
theorem tx_lt (x y : Tx) : ltOf tcmp x y = decide (tkey x < tkey y) := by
  unfold ltOf
  rw [← tkey_lt, Bool.eq_iff_iff, decide_eq_true_eq, tcmp_lt]
theorem tx_swo : Sort.SWO (ltOf tcmp) := by
  refine ⟨fun x => ?_, fun x y z h1 h2 => ?_, fun x y z h1 h2 => ?_⟩
  · rw [tx_lt]; simp
  · rw [tx_lt, decide_eq_true_eq] at *; omega
  · rw [tx_lt, decide_eq_false_iff_not] at *; omega
theorem tx_lays (blk off size : Nat) (w : World) : CmpLays Try.prog 13 #[] tc 3 tcmp blk off size w := fun m os dk _ x y =>
  (tcompare_gr x y _).mono fun _ _ ⟨he, q, os', hw⟩ => ⟨he, q, os', hw⟩
theorem txs_get (L : List Tx) (i : Nat) (h : i < L.length) (j : Nat) (hj : j < 3) : (txs L)[i * 3 + j]? = (tc L[i])[j]? := by
  induction L generalizing i with
  | nil => cases h
  | cons q L ih =>
    have e : txs (q :: L) = tc q ++ txs L := by simp [txs]
    have hl : (tc q).length = 3 := rfl
    rw [e]
    cases i with
    | zero => rw [List.getElem?_append_left (by omega)]; simp
    | succ i =>
      rw [List.getElem?_append_right (by omega), hl, show (i + 1) * 3 + j - 3 = i * 3 + j by omega]
      exact ih i (by simpa using h)
theorem txs_len (L : List Tx) : (txs L).length = L.length * 3 := by
  induction L with
  | nil => rfl
  | cons q L ih => have e : txs (q :: L) = tc q ++ txs L := by simp [txs]
                   rw [e, List.length_append, ih, List.length_cons]; simp [tc]; omega
theorem flat_txs (d : Array Tx) : (flatK tc 3 d).toList = txs d.toList := by
  apply List.ext_getElem?
  intro t
  by_cases ht : t < d.size * 3
  · have hd : t = t / 3 * 3 + t % 3 := by omega
    have h1 : t / 3 < d.toList.length := by rw [Array.length_toList]; omega
    conv => rhs; rw [hd, txs_get _ _ h1 _ (Nat.mod_lt _ (by decide))]
    rw [Array.getElem?_toList]
    simp only [flatK, Array.getElem?_map]
    rw [Array.getElem?_eq_getElem (by simpa using ht), Array.getElem_range, Option.map_some]
    have h2 : t / 3 < d.size := by simpa using h1
    rw [getElem!_pos d (t / 3) h2, Array.getElem_toList]
    have h3 : t % 3 < (tc d[t / 3]).length := by show _ < 3; omega
    rw [getElem!_pos (tc d[t / 3]) (t % 3) h3, List.getElem?_eq_getElem h3]
  · rw [List.getElem?_eq_none (by simp [flatK]; omega), List.getElem?_eq_none (by rw [txs_len, Array.length_toList]; omega)]
/-- an owned row laid anew -/
theorem own_put3 {B n cap g q : Nat} {e : TypeId} {w : World} {vs : List Value} (h : w.ownsRow B e 3 (.slice (some ⟨g, 0, none⟩) n cap) n vs) (F : Array Value) (hF : F.size = n * 3) :
    (Sort.putRow id (Sort.ahead w q) g 0 F).ownsRow B e 3 (.slice (some ⟨g, 0, none⟩) n cap) n F.toList := by
  obtain ⟨hl, ⟨h1, _⟩ | ⟨g', cap', cur, hv, hb, hg, hn, hm, hs, ht⟩⟩ := h
  · cases h1
  · cases hv
    refine ⟨by simp [hF], .inr ⟨g, cap, Sort.putCells id 0 F cur, rfl, hb, ?_, hn, hm, by simp [Sort.putCells, hs], ?_⟩⟩
    · simp [Sort.putRow, Sort.mapBlock, Sort.ahead, Array.getElem?_modify, hg, Sort.onCells]
    · apply List.ext_getElem?
      intro i
      rw [List.getElem?_take]
      by_cases hi : i < n * 3
      · rw [if_pos hi, Array.getElem?_toList]
        have hc : i < cur.size := by omega
        simp only [Sort.putCells, Array.getElem?_mapIdx, Array.getElem?_eq_getElem hc, Option.map_some]
        rw [if_pos ⟨Nat.zero_le _, by omega⟩]
        rw [Array.getElem?_toList, Array.getElem?_eq_getElem (by omega), Nat.sub_zero, getElem!_pos F i (by omega)]
        rfl
      · rw [if_neg hi, List.getElem?_eq_none (by simp; omega)]
theorem below_put3 {B g q : Nat} {w : World} (hg : B ≤ g) (d : Array Value) : Below B w (Sort.putRow id (Sort.ahead w q) g 0 d) := by
  refine ⟨rfl, rfl, rfl, by simp, fun k hk => ?_⟩
  simp only [Sort.putRow, Sort.mapBlock, Sort.ahead, Array.getElem?_modify]
  rw [if_neg (by omega)]
theorem below_grow (w : World) (os : Array Obj) : Below w.heap.size w (Sort.grow w os) := ⟨rfl, rfl, rfl, by simp, fun k hk => Sort.heap_grow_old w os hk⟩
theorem own_holds3 {B n cap g : Nat} {e : TypeId} {w : World} {F : Array Value} (h : w.ownsRow B e 3 (.slice (some ⟨g, 0, none⟩) n cap) n F.toList) (hF : F.size = n * 3) : Sort.Holds id w g 0 F := by
  intro j hj
  refine ⟨?_, by rw [Nat.zero_add]; exact World.ownsRow.frozenAt h j⟩
  rw [Nat.zero_add, World.ownsRow.cellAt h j (by omega), Array.getElem?_toList, Array.getElem?_eq_getElem hj, getElem!_pos F j hj]
  rfl
set_option maxRecDepth 100000 in
/-- slices.SortFunc(s, Compare) -/
theorem sort63 {B : Nat} {w : World} {v : Value} {l : List Tx} (h : w.ownsRow B 30 3 v l.length (txs l)) (hn : l.length ≤ 1000000) :
    Calls Try.prog 63 #[v, .func (.func 13) #[] #[]] w fun e w' => e = .returned (.tuple #[]) ∧ ∃ zs : List Tx, zs.Perm l ∧ zs.Pairwise (fun a b => tkey a ≤ tkey b) ∧ w'.ownsRow B 30 3 v zs.length (txs zs) ∧ Below B w w' := by
  rcases Nat.eq_zero_or_pos l.length with h0 | h0
  · obtain ⟨ao, c, rfl⟩ := own_sliceN h
    have hl0 : l = [] := List.eq_nil_of_length_eq_zero h0
    rw [h0]
    have hc := AnyF.slices_SortFunc_none (P := Try.prog) (ρ := Try.sortF_ren) { Try.sortF with } ao c (.func (.func 13) #[] #[]) w
    refine hc.mono fun e w' ⟨he, hw⟩ => ⟨he, [], by rw [hl0], List.Pairwise.nil, ?_, ?_⟩
    · subst hw; rw [hl0] at h; exact h
    · subst hw; exact Below.refl _ _
  · obtain ⟨g, cap, rfl, hB, hg⟩ : ∃ g cap, v = .slice (some ⟨g, 0, none⟩) l.length cap ∧ B ≤ g ∧ g < w.heap.size := by
      obtain ⟨_, h1 | ⟨g', cap', cur, hv, hb, hg, hn, _⟩⟩ := h
      · have := h1.2; omega
      · exact ⟨_, _, hv, hb, (Array.getElem?_eq_some_iff.1 hg).1⟩
    have eg : ∀ args w, (callFunc 13 args).run Try.prog w = .ok (.enter 13 args) w := enters_of Try.func13 (by kernel_rfl) rfl
    have hf : (flatK tc 3 l.toArray).toList = txs l := by rw [flat_txs]
    have hfs : (flatK tc 3 l.toArray).size = l.length * 3 := by simp [flatK]
    have hH : HoldsK tc 3 w g 0 l.toArray := own_holds3 (by rw [hf]; exact h) hfs
    have hc := AnyQ.slices_SortFunc Try.sortF 3 Try.isAgg30 Try.sizeOf30 tc (fun _ => rfl) tc_one tcmp tx_swo 13 #[] g 0 cap l.toArray w eg (tx_lays g 0 l.toArray.size w) hH hg (by simp; omega)
    rw [show l.toArray.size = l.length from by simp] at hc
    refine hc.mono fun e w' ⟨he, d', n, os, hp, hs, hw⟩ => ⟨he, d'.toList, ?_, ?_, ?_, ?_⟩
    · obtain ⟨p1, p2, p3⟩ := hp
      have e1 : d'.extract 0 l.length = d' := by
        have : l.length = d'.size := by rw [p1]; simp
        rw [this]; simp
      have e2 : l.toArray.extract 0 l.length = l.toArray := by
        have : l.length = l.toArray.size := by simp
        rw [this]; simp
      rw [e1, e2] at p3
      simpa using p3
    · rw [List.pairwise_iff_getElem]
      intro i j hi hj hij
      have hsz : d'.size = l.length := by rw [hp.1]; simp
      have hi' : i < d'.size := by simpa using hi
      have hj' : j < d'.size := by simpa using hj
      have := hs i j (Nat.zero_le _) hij (by omega)
      rw [getElem!_pos d' i hi', getElem!_pos d' j hj', tx_lt, decide_eq_false_iff_not] at this
      simp only [Array.getElem_toList]
      omega
    · subst hw
      have hsz : d'.size = l.length := by rw [hp.1]; simp
      have h1 := own_put3 (q := n) h (flatK tc 3 d') (by simp [flatK, hsz])
      have h2 := own_keep h1 (below_grow _ os) (Nat.le_refl _)
      rw [flat_txs] at h2
      have e3 : d'.toList.length = l.length := by simp [hsz]
      rw [e3]
      exact h2
    · subst hw
      exact (below_put3 (q := n) hB _).trans ((below_grow _ os).mono (by simp; omega))
end Go.Proofs.Yteejlmeinndlhaa
