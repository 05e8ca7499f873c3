/- label.Pick. -/
import Derived.Test.YtahmihlpnlfefaaDoorGC
import Derived.Test.YtahmihlpnlfefaaDoorM2
import Derived.Test.YtahmihlpnlfefaaDoorSF
import Derived.Test.YtahmihlpnlfefaaDoorSC
import Derived.Lib.RowBridge
set_option linter.unusedVariables false
set_option linter.unusedSimpArgs false
namespace Go.Proofs.YtahmihlpnlfefaaDoor
open Go.RowKit
open PL
/-- texts that a comparison bears -/
abbrev Tx := { l : List UInt8 // l.length ≤ 100000 }
instance : Inhabited Tx := ⟨⟨[], by simp⟩⟩
def txV (x : Tx) : Value := .string ⟨x.1.toArray⟩
def txC (x y : Tx) : Int := comp x.1 y.1
theorem tx_lt (x y : Tx) : ltOf txC x y = decide (comp x.1 y.1 < 0) := rfl
theorem tx_swo : Sort.SWO (ltOf txC) := by
  refine ⟨fun x => ?_, fun x y z h1 h2 => ?_, fun x y z h1 h2 => ?_⟩
  · rw [tx_lt, comp_self]; rfl
  · rw [tx_lt] at *
    have h1 : comp x.1 y.1 < 0 := of_decide_eq_true h1
    have h2 : comp y.1 z.1 < 0 := of_decide_eq_true h2
    exact decide_eq_true (comp_ord.lt_left h1 (by omega))
  · rw [tx_lt] at *
    have h1 : ¬ comp x.1 y.1 < 0 := of_decide_eq_false h1
    have h2 : ¬ comp y.1 z.1 < 0 := of_decide_eq_false h2
    refine decide_eq_false fun h => ?_
    have a1 := comp_ord.anti x.1 y.1
    have a2 := comp_ord.anti y.1 z.1
    have a3 := comp_ord.anti x.1 z.1
    have := comp_ord.trans z.1 y.1 x.1 (by omega) (by omega)
    omega
theorem tx_tot (x y : Tx) (h1 : ltOf txC x y = false) (h2 : ltOf txC y x = false) : x = y := by
  rw [tx_lt] at *
  have h1 : ¬ comp x.1 y.1 < 0 := of_decide_eq_false h1
  have h2 : ¬ comp y.1 x.1 < 0 := of_decide_eq_false h2
  have a1 := comp_ord.anti x.1 y.1
  exact Subtype.ext ((comp_zero _ _).1 (by omega))
theorem tx_lays (blk off size : Nat) (w : World) : CmpLays1 Tryd.prog 15 #[] txV txC blk off size w := fun m os dk _ x y =>
  (comp_gr x.1 y.1 (by have := x.2; unfold maxLen; omega) (by have := y.2; unfold maxLen; omega) _).mono fun _ _ ⟨he, q, os', hw⟩ => ⟨he, q, os', hw⟩
/-- an owned row laid anew -/
theorem own_put {α : Type} [Inhabited α] (enc : α → Value) {B n cap g q : Nat} {e : TypeId} {w : World} {vs : List Value} (h : w.ownsRow B e 1 (.slice (some ⟨g, 0, none⟩) n cap) n vs) (d : Array α) (hd : d.size = n) :
    (Sort.putRow enc (Sort.ahead w q) g 0 d).ownsRow B e 1 (.slice (some ⟨g, 0, none⟩) n cap) n (d.toList.map enc) := by
  obtain ⟨hl, ⟨h1, _⟩ | ⟨g', cap', cur, hv, hb, hg, hn, hm, hs, ht⟩⟩ := h
  · cases h1
  · cases hv
    refine ⟨by simp [hd], .inr ⟨g, cap, Sort.putCells enc 0 d cur, rfl, hb, ?_, hn, hm, by simp [Sort.putCells, hs], ?_⟩⟩
    · simp [Sort.putRow, Sort.mapBlock, Sort.ahead, Array.getElem?_modify, hg, Sort.onCells]
    · apply List.ext_getElem? 
      intro i
      rw [Nat.mul_one, List.getElem?_take]
      by_cases hi : i < n
      · rw [if_pos hi, Array.getElem?_toList]
        have hc : i < cur.size := by omega
        simp only [Sort.putCells, Array.getElem?_mapIdx, Array.getElem?_eq_getElem hc, Option.map_some]
        rw [if_pos ⟨Nat.zero_le _, by omega⟩]
        rw [List.getElem?_map, Array.getElem?_toList, Array.getElem?_eq_getElem (by omega), Option.map_some, Nat.sub_zero, getElem!_pos d i (by omega)]
      · rw [if_neg hi, List.getElem?_eq_none (by simp; omega)]
theorem below_put {α : Type} [Inhabited α] (enc : α → Value) {B g q : Nat} {w : World} (hg : B ≤ g) (d : Array α) : Below B w (Sort.putRow enc (Sort.ahead w q) g 0 d) := by
  refine ⟨rfl, rfl, rfl, by simp, fun k hk => ?_⟩
  simp only [Sort.putRow, Sort.mapBlock, Sort.ahead, Array.getElem?_modify]
  rw [if_neg (by omega)]
theorem below_grow (w : World) (os : Array Obj) : Below w.heap.size w (Sort.grow w os) := ⟨rfl, rfl, rfl, by simp, fun k hk => Sort.heap_grow_old w os hk⟩
theorem own_holds {α : Type} [Inhabited α] (enc : α → Value) {B n cap g : Nat} {e : TypeId} {w : World} {d : Array α} (h : w.ownsRow B e 1 (.slice (some ⟨g, 0, none⟩) n cap) n (d.toList.map enc)) (hd : d.size = n) : Sort.Holds enc w g 0 d := by
  intro j hj
  refine ⟨?_, by rw [Nat.zero_add]; exact World.ownsRow.frozenAt h j⟩
  rw [Nat.zero_add, World.ownsRow.cellAt h j (by omega), List.getElem?_map, Array.getElem?_toList, Array.getElem?_eq_getElem hj, Option.map_some, getElem!_pos d j hj]
theorem own_cut {B n m cap g : Nat} {e : TypeId} {w : World} {vs : List Value} (h : w.ownsRow B e 1 (.slice (some ⟨g, 0, none⟩) n cap) n vs) (hm : m ≤ n) : w.ownsRow B e 1 (.slice (some ⟨g, 0, none⟩) m cap) m (vs.take m) := by
  obtain ⟨hl, ⟨h1, _⟩ | ⟨g', cap', cur, hv, hb, hg, hn, hmm, hs, ht⟩⟩ := h
  · cases h1
  · cases hv
    refine ⟨by simp; omega, .inr ⟨g, cap, cur, rfl, hb, hg, by omega, hmm, hs, ?_⟩⟩
    rw [← ht, Nat.mul_one, Nat.mul_one, List.take_take, Nat.min_eq_left hm]
theorem So.form {e : TypeId} {B : Nat} {w : World} {v : Value} {l : List (List UInt8)} (h : So e B w v l) (hl : 0 < l.length) : ∃ g cap, v = .slice (some ⟨g, 0, none⟩) l.length cap ∧ B ≤ g ∧ l.length ≤ cap := by
  obtain ⟨_, h | ⟨g', cap', cur, hv, hb, hg, hn, _⟩⟩ := h
  · have := h.2; omega
  · exact ⟨_, _, hv, hb, hn⟩
def toTx (l : List (List UInt8)) (h : ∀ x ∈ l, x.length ≤ 100000) : List Tx := l.pmap Subtype.mk h
theorem toTx_val (l : List (List UInt8)) (h : ∀ x ∈ l, x.length ≤ 100000) : (toTx l h).map (·.1) = l := by
  unfold toTx; rw [List.map_pmap]; simp
theorem toTx_len (l : List (List UInt8)) (h : ∀ x ∈ l, x.length ≤ 100000) : (toTx l h).length = l.length := by simp [toTx]
theorem toTx_sv (l : List Tx) : l.map txV = sv (l.map (·.1)) := by simp [sv, txV]
set_option maxRecDepth 100000 in
/-- slices.SortFunc(x, Compare) -/
theorem sort_any {B : Nat} {w : World} {v : Value} {l : List (List UInt8)} (h : So 9 B w v l) (hl : ∀ x ∈ l, x.length ≤ 100000) (hn : l.length ≤ 100000) :
    Calls Tryd.prog 49 #[v, .func (.func 15) #[] #[]] w fun e w' => e = .returned (.tuple #[]) ∧ ∃ zs : List (List UInt8), zs.Perm l ∧ zs.Pairwise (fun a b => comp a b ≤ 0) ∧ So 9 B w' v zs ∧ Below B w w' := by
  rcases Nat.eq_zero_or_pos l.length with h0 | h0
  · obtain ⟨ao, n, c, rfl⟩ := h.slice
    have hn0 : n = 0 := by
      have hh := h
      obtain ⟨_, h1 | ⟨g', cap', cur, hv, _⟩⟩ := hh
      · have := h1.1; cases this; rfl
      · cases hv; exact h0
    subst hn0
    have hl0 : l = [] := List.eq_nil_of_length_eq_zero h0
    have hc := AnyF.slices_SortFunc_none (P := Tryd.prog) (ρ := Tryd.sortF_ren) { Tryd.sortF with } ao c (.func (.func 15) #[] #[]) w
    refine hc.mono fun e w' ⟨he, hw⟩ => ⟨he, [], by rw [hl0], List.Pairwise.nil, ?_, ?_⟩
    · subst hw; rw [hl0] at h; exact h
    · subst hw; exact Below.refl _ _
  · obtain ⟨g, cap, rfl, hB, hcap⟩ := h.form h0
    have eg : ∀ args w, (callFunc 15 args).run Tryd.prog w = .ok (.enter 15 args) w := enters_of Tryd.func15 (by kernel_rfl) rfl
    have hd := toTx_len l hl
    have hv := toTx_val l hl
    generalize toTx l hl = d at hd hv
    have hown : w.ownsRow B 9 1 (.slice (some ⟨g, 0, none⟩) l.length cap) l.length (d.toArray.toList.map txV) := by
      have : d.toArray.toList.map txV = sv l := by rw [List.toList_toArray, toTx_sv, hv]
      rw [this]; exact h
    have hH := own_holds txV hown (by simpa using hd)
    have hlt : g < w.heap.size := by
      obtain ⟨_, h1 | ⟨g', cap', cur, hv', _, hg, _⟩⟩ := hown
      · cases h1.1
      · cases hv'; exact (Array.getElem?_eq_some_iff.1 hg).1
    have hc := Any.slices_SortFunc_total Tryd.sortF txV (fun _ => rfl) txC tx_swo 15 #[] g 0 cap d.toArray w eg (tx_lays g 0 d.toArray.size w) hH hlt (by simp; omega) tx_tot
    rw [show d.toArray.size = l.length from by simpa using hd] at hc
    refine hc.mono fun e w' ⟨he, n, os, hw⟩ => ⟨he, (d.mergeSort fun x y => !(ltOf txC) y x).map (·.1), ?_, ?_, ?_, ?_⟩
    · conv => rhs; rw [← hv]
      exact (List.mergeSort_perm d _).map _
    · rw [List.pairwise_map]
      refine (List.pairwise_mergeSort (le := fun x y => !(ltOf txC) y x) ?_ ?_ d).imp ?_
      · intro a b c h1 h2
        simp only [Bool.not_eq_true'] at *
        exact tx_swo.ntrans _ _ _ h2 h1
      · intro a b
        simp only [Bool.or_eq_true, Bool.not_eq_true', tx_lt, decide_eq_false_iff_not]
        have := comp_ord.anti a.1 b.1; omega
      · intro a b h1
        simp only [Bool.not_eq_true', tx_lt, decide_eq_false_iff_not] at h1
        have := comp_ord.anti a.1 b.1; omega
    · subst hw
      have h1 := own_put (q := n) txV hown (d.mergeSort fun x y => !(ltOf txC) y x).toArray (by simpa using hd)
      have h2 := own_keep h1 (below_grow _ os) (Nat.le_refl _)
      unfold So
      rw [List.toList_toArray, toTx_sv] at h2
      rw [List.length_map, List.length_mergeSort, hd]
      exact h2
    · subst hw
      exact (below_put (q := n) txV hB _).trans ((below_grow _ os).mono (by simp; omega))
set_option maxRecDepth 100000 in
/-- slices.Compact -/
theorem compact_any {B : Nat} {w : World} {v : Value} {l : List (List UInt8)} (h : So 9 B w v l) (hn : l.length ≤ 100000) :
    Calls Tryd.prog 50 #[v] w fun e w' => ∃ v', e = .returned v' ∧ So 9 B w' v' (Lib.compact l) ∧ Below B w w' := by
  rcases Nat.eq_zero_or_pos l.length with h0 | h0
  · obtain ⟨ao, n, c, rfl⟩ := h.slice
    have hn0 : n = 0 := by
      have hh := h
      obtain ⟨_, h1 | ⟨g', cap', cur, hv, _⟩⟩ := hh
      · have := h1.1; cases this; rfl
      · cases hv; exact h0
    subst hn0
    have hl0 : l = [] := List.eq_nil_of_length_eq_zero h0
    have hc := Tryd.slices_Compact_string_empty ao c w
    refine hc.mono fun e w' ⟨he, hw⟩ => ⟨_, he, ?_, ?_⟩
    · subst hw; rw [hl0] at h ⊢; exact h
    · subst hw; exact Below.refl _ _
  · obtain ⟨g, cap, rfl, hB, hcap⟩ := h.form h0
    have he : ∀ m : List (List UInt8), m.toArray.toList.map encStr = sv m := fun m => by simp [sv, encStr]
    have hown : w.ownsRow B 9 1 (.slice (some ⟨g, 0, none⟩) l.length cap) l.length (l.toArray.toList.map encStr) := by rw [he]; exact h
    have hH := own_holds encStr hown (by simp)
    have hc := Tryd.slices_Compact_string g 0 cap l w hH (by omega) hcap
    have hle := Lib.compact_length_le l
    refine hc.mono fun e w' ⟨he', q, hw⟩ => ⟨_, he', ?_, ?_⟩
    · subst hw
      have h1 := own_put (q := q) encStr hown (Lib.compact l ++ List.replicate (l.length - (Lib.compact l).length) []).toArray (by simp; omega)
      have h2 := own_cut h1 hle
      rw [he] at h2
      unfold So
      rw [sv_append, List.take_append_of_le_length (by simp), List.take_of_length_le (by simp)] at h2
      exact h2
    · subst hw
      exact below_put (q := q) encStr hB _
end Go.Proofs.YtahmihlpnlfefaaDoor
