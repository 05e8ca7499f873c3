/- Rows of transactions of the call's own: set, clear, cut. slices.DeleteFunc with the closure of Rivals; Rivals. -/
import Derived.Test.YteejlmeinndlhaaLZ
set_option linter.unusedVariables false
set_option linter.unusedSimpArgs false
namespace Go.Proofs.Yteejlmeinndlhaa
open Go.RowKit Go.Maps
attribute [local go_sem ↓] Go.wp_at_zero Go.wp_at_succ
theorem txs_cons (q : Tx) (L : List Tx) : txs (q :: L) = tc q ++ txs L := by simp [txs]
theorem txs_set (L : List Tx) (i : Nat) (h : i < L.length) (y : Tx) : txs (L.set i y) = (((txs L).set (i * 3) (.int .u64 (y.1.toNat : Int))).set (i * 3 + 1) (.int .u64 (y.2.1.toNat : Int))).set (i * 3 + 2) (.int .u64 (y.2.2.toNat : Int)) := by
  induction L generalizing i with
  | nil => cases h
  | cons q L ih =>
    cases i with
    | zero => simp [txs_cons, tc]
    | succ i =>
      rw [List.set_cons_succ, txs_cons, txs_cons, ih i (by simpa using h), show (i + 1) * 3 = i * 3 + 1 + 1 + 1 by omega]
      simp [tc]
theorem txs_take (L : List Tx) (m : Nat) : (txs L).take (m * 3) = txs (L.take m) := by
  induction L generalizing m with
  | nil => simp [txs]
  | cons q L ih =>
    cases m with
    | zero => simp [txs]
    | succ m =>
      rw [txs_cons, List.take_succ_cons, txs_cons, ← ih m, show (m + 1) * 3 = m * 3 + 1 + 1 + 1 by omega]
      simp [tc]
theorem Ot.at {B : Nat} {w : World} {v : Value} {l : List Tx} (h : Ot B w v l) : ∃ (a : Option Addr) (c : Nat), v = .slice a l.length c ∧ l.length ≤ c ∧ ∀ j (hj : j < l.length), ∃ g, a = some ⟨g, 0, none⟩ ∧ (B ≤ g ∧ g < w.heap.size) ∧
    (w.cell? ⟨g, j * 3, none⟩ = some (.int .u64 (l[j].1.toNat : Int)) ∧ w.cell? ⟨g, j * 3 + 1, none⟩ = some (.int .u64 (l[j].2.1.toNat : Int)) ∧ w.cell? ⟨g, j * 3 + 2, none⟩ = some (.int .u64 (l[j].2.2.toNat : Int))) := by
  have h0 := id h
  obtain ⟨hl, ⟨rfl, hn⟩ | ⟨g, cap, cur, rfl, hb, hg, hn, _⟩⟩ := h
  · exact ⟨none, 0, by rw [hn], by omega, fun j hj => by omega⟩
  · refine ⟨some ⟨g, 0, none⟩, cap, rfl, hn, fun j hj => ⟨g, rfl, ⟨hb, (Array.getElem?_eq_some_iff.1 hg).1⟩, ?_⟩⟩
    have e := txs_get l j hj
    refine ⟨?_, ?_, ?_⟩
    · rw [World.ownsRow.cellAt h0 (j * 3) (by omega)]; exact e 0 (by decide)
    · rw [World.ownsRow.cellAt h0 (j * 3 + 1) (by omega)]; exact e 1 (by decide)
    · rw [World.ownsRow.cellAt h0 (j * 3 + 2) (by omega)]; exact e 2 (by decide)
theorem Ot.len {B g n cap : Nat} {w : World} {l : List Tx} (h : Ot B w (.slice (some ⟨g, 0, none⟩) n cap) l) : n = l.length := by
  obtain ⟨a, c, e, _⟩ := h.at
  simp at e; exact e.2.1
theorem Ot.frozen {B g n cap : Nat} {w : World} {l : List Tx} (h : Ot B w (.slice (some ⟨g, 0, none⟩) n cap) l) (j : Nat) : w.frozen? ⟨g, j, none⟩ = false := by
  have hn := h.len
  subst hn
  exact World.ownsRow.frozenAt h j
theorem Ot.set {B g n cap : Nat} {w : World} {l : List Tx} (h : Ot B w (.slice (some ⟨g, 0, none⟩) n cap) l) (j : Nat) (hj : j < l.length) (y : Tx) :
    Ot B (((w.setCell ⟨g, j * 3, none⟩ (.int .u64 (y.1.toNat : Int))).setCell ⟨g, j * 3 + 1, none⟩ (.int .u64 (y.2.1.toNat : Int))).setCell ⟨g, j * 3 + 2, none⟩ (.int .u64 (y.2.2.toNat : Int))) (.slice (some ⟨g, 0, none⟩) n cap) (l.set j y) := by
  have hn := h.len
  subst hn
  have h1 := (World.ownsRow.stored h (j * 3) (.int .u64 (y.1.toNat : Int))).1
  have h2 := (World.ownsRow.stored h1 (j * 3 + 1) (.int .u64 (y.2.1.toNat : Int))).1
  have h3 := (World.ownsRow.stored h2 (j * 3 + 2) (.int .u64 (y.2.2.toNat : Int))).1
  unfold Ot
  rw [List.length_set, txs_set l j hj]
  exact h3
theorem own_cleared {B g n cap sz : Nat} {e : TypeId} : ∀ (vs : List Value) (w : World) (xs : List Value) (o : Nat), w.ownsRow B e sz (.slice (some ⟨g, 0, none⟩) n cap) n xs →
    ∃ xs', (w.setCells g o vs).ownsRow B e sz (.slice (some ⟨g, 0, none⟩) n cap) n xs' ∧ xs'.take o = xs.take o
  | [], w, xs, o, h => ⟨xs, h, rfl⟩
  | v :: vs, w, xs, o, h => by
    obtain ⟨xs', h1, h2⟩ := own_cleared vs _ _ (o + 1) (World.ownsRow.stored h o v).1
    refine ⟨xs', h1, ?_⟩
    have := congrArg (List.take o) h2
    rw [List.take_take, List.take_take, Nat.min_eq_left (by omega), List.take_set_of_le (Nat.le_refl _)] at this
    exact this
theorem own_pre3 {B g n cap m sz : Nat} {e : TypeId} {w : World} {xs : List Value} (h : w.ownsRow B e sz (.slice (some ⟨g, 0, none⟩) n cap) n xs) (hm : m ≤ n) : w.ownsRow B e sz (.slice (some ⟨g, 0, none⟩) m cap) m (xs.take (m * sz)) := by
  have hms : m * sz ≤ n * sz := Nat.mul_le_mul_right _ hm
  obtain ⟨hl, h | ⟨g', cap', cur, hv, hb, hg, h1, h2, h3, h4⟩⟩ := h
  · cases h.1
  · cases hv
    refine ⟨by rw [List.length_take]; omega, .inr ⟨g, cap, cur, rfl, hb, hg, by omega, h2, h3, ?_⟩⟩
    rw [← h4, List.take_take]
    congr 1; omega
theorem Try.size25 (w : World) : (sizeOf (Try.prog.elem 25)).run Try.prog w = .ok 3 w := by kernel_rfl
theorem zero30 (w : World) : (zeroValue 30).run Try.prog w = .ok (.agg #[.int .u64 0, .int .u64 0, .int .u64 0]) w := by kernel_rfl
theorem run_clear3 (w : World) (t e ty : TypeId) (c0 : Value) (ht : Try.prog.underlying t = some (.slice e)) (hv : ∀ w, (zeroValue e).run Try.prog w = .ok (.agg #[c0, c0, c0]) w) (h1 : c0.oneCell' = true) (b o n c : Nat) (hn : 0 < n)
    (hc : ∀ j, j < n * 3 → (w.cell? ⟨b, o + j, none⟩).isSome = true) (hf : ∀ j, j < n * 3 → w.frozen? ⟨b, o + j, none⟩ = false) :
    (Builtin.clear_ #[t] ty #[.slice (some ⟨b, o, none⟩) n c]).run Try.prog w = .ok (.tuple #[]) (w.setCells b o (List.replicate (n * 3) c0)) := by
  have hzc : (Builtin.zeroCells (Value.agg #[c0, c0, c0]).cells n).toList = List.replicate (n * 3) c0 := by
    simp only [Value.cells, Builtin.zeroCells]
    apply List.ext_getElem
    · simp
    · intro i h1 h2
      have h3 : i % 3 < 3 := Nat.mod_lt _ (by decide)
      simp only [Array.toList_map, List.getElem_map, Array.toList_range, List.getElem_range, List.getElem_replicate, List.size_toArray, List.length_cons, List.length_nil]
      match hi : i % 3, h3 with
      | 0, _ => simp [hi]
      | 1, _ => simp [hi]
      | 2, _ => simp [hi]
  have hst := run_storeCells_cells (P := Try.prog) b o (List.replicate (n * 3) c0) 0 w (by simpa using hc) (by simpa using hf) (by intro v hv'; rw [List.eq_of_mem_replicate hv']; exact h1)
  simp only [Nat.add_zero] at hst
  obtain ⟨m, rfl⟩ : ∃ m, n = m + 1 := ⟨n - 1, by omega⟩
  simp only [Value.cells] at hzc
  simp [Builtin.clear_, run_underlying ht, hv, hzc, hst, Value.cells]
theorem s25_lo (w : World) (b n c l : Nat) (h1 : l < n) (h2 : n ≤ c) : (Instr.slice 25 (.slice (some ⟨b, 0, none⟩) n c) (some (.int .i64 (l : Int))) none none).run Try.prog w = .ok (.slice (some ⟨b, l * 3, none⟩) (n - l) (c - l)) w := by
  rw [run_slice_l w 25 _ n c (by kernel_rfl) .i64 (l : Int) (by omega) (by omega), Try.size25]
  simp only [Result.andThen, Int.toNat_natCast, Go.sliced]
  rw [if_neg (by omega), Option.map_some, addr_add, Nat.zero_add]
theorem s25_hi (w : World) (b n c h : Nat) (h1 : h ≤ n) (h2 : n ≤ c) (h3 : 0 < c) : (Instr.slice 25 (.slice (some ⟨b, 0, none⟩) n c) none (some (.int .i64 (h : Int))) none).run Try.prog w = .ok (.slice (some ⟨b, 0, none⟩) h c) w := by
  rw [run_slice_h w 25 _ n c (by kernel_rfl) .i64 (h : Int) (by omega) (by omega), Try.size25]
  simp only [Result.andThen, Int.toNat_natCast, Go.sliced, Nat.sub_zero]
  rw [if_neg (by omega), Option.map_some, Nat.zero_mul, addr_add]
/-- what of l stays: those that p does not name -/
def Stay (p : Tx → Bool) (l : List Tx) : List Tx := l.filter fun y => !p y
def DelT (p : Tx → Bool) (l l' : List Tx) (i j : Nat) : Prop := l'.length = l.length ∧ i < j ∧ j ≤ l.length ∧ l'.take i = Stay p (l.take j) ∧ l'.drop j = l.drop j
theorem DelT.skip {p : Tx → Bool} {l l' : List Tx} {i j : Nat} (h : DelT p l l' i j) (hj : j < l.length) (hp : p l[j] = true) : DelT p l l' i (j + 1) := by
  obtain ⟨h1, h2, h3, h4, h5⟩ := h
  refine ⟨h1, by omega, by omega, ?_, ?_⟩
  · rw [h4, List.take_succ_eq_append_getElem hj, Stay, Stay, List.filter_append]; simp [hp]
  · rw [← List.drop_drop, h5, List.drop_drop]
theorem DelT.put {p : Tx → Bool} {l l' : List Tx} {i j : Nat} (h : DelT p l l' i j) (hj : j < l.length) (hp : p l[j] = false) : DelT p l (l'.set i l[j]) (i + 1) (j + 1) := by
  obtain ⟨h1, h2, h3, h4, h5⟩ := h
  refine ⟨by rw [List.length_set]; exact h1, by omega, by omega, ?_, ?_⟩
  · rw [List.take_succ_eq_append_getElem (by rw [List.length_set]; omega), List.take_set_of_le (Nat.le_refl _), h4, List.getElem_set_self, List.take_succ_eq_append_getElem hj, Stay, Stay, List.filter_append]; simp [hp]
  · rw [List.drop_set_of_lt (by omega), ← List.drop_drop, h5, List.drop_drop]
theorem DelT.get {p : Tx → Bool} {l l' : List Tx} {i j : Nat} (h : DelT p l l' i j) (hj : j < l.length) : ∃ h' : j < l'.length, l'[j] = l[j] := by
  obtain ⟨h1, h2, h3, h4, h5⟩ := h
  have h' : j < l'.length := by omega
  refine ⟨h', ?_⟩
  have := congrArg (fun x => x[0]?) h5
  simp only [List.getElem?_drop, Nat.add_zero] at this
  rw [List.getElem?_eq_getElem h', List.getElem?_eq_getElem hj] at this
  exact Option.some.inj this
end Go.Proofs.Yteejlmeinndlhaa
