/- How a node is split, in plain lists; parts of rows. -/
import Derived.Test.YtfmbbpfklhkljaaFL
set_option linter.unusedVariables false
namespace Go.Proofs.Ytfmbbpfklhkljaa
open Go.RowKit
/-- a part of a node -/
def prt (n : Nd) (i j : Nat) : Nd := if n.leaf then ⟨true, (n.keys.take j).drop i, (n.vals.take j).drop i, []⟩ else ⟨false, (n.keys.take j).drop i, [], (n.kids.take (j + 1)).drop i⟩
def bh (n : Nd) : Nat := if n.leaf then 0 else 1
/-- the greater one of the two sizes -/
def gr (n : Nd) (i : Nat) : Nat := max (size (prt n 0 i)) (size (prt n (i + bh n) n.keys.length))
/-- the best one of 1 .. i + 1 -/
def bst (n : Nd) : Nat → Nat
  | 0 => 1
  | i + 1 => if gr n (i + 2) < gr n (bst n i) then i + 2 else bst n i
theorem bst_rng (n : Nd) : ∀ i, 1 ≤ bst n i ∧ bst n i ≤ i + 1
  | 0 => ⟨Nat.le_refl _, Nat.le_refl _⟩
  | i + 1 => by
    have := bst_rng n i
    unfold bst
    split <;> omega
theorem bst_min (n : Nd) : ∀ i j, 1 ≤ j → j ≤ i + 1 → gr n (bst n i) ≤ gr n j
  | 0, j, h1, h2 => by
    have : j = 1 := by omega
    subst this; exact Nat.le_refl _
  | i + 1, j, h1, h2 => by
    unfold bst
    by_cases hj : j = i + 2
    · subst hj
      split
      · exact Nat.le_refl _
      · omega
    · have := bst_min n i j h1 (by omega)
      split
      · omega
      · exact this
theorem pick_one {P R : Nat → Prop} (h1 : R 1) (hs : ∀ m, 1 ≤ m → ¬ P m → R (m + 1)) : ∀ m, 1 ≤ m → P m → ∃ i, 1 ≤ i ∧ i ≤ m ∧ P i ∧ R i
  | 0, h, _ => absurd h (by decide)
  | 1, _, h => ⟨1, Nat.le_refl _, Nat.le_refl _, h, h1⟩
  | m + 2, _, h => by
    by_cases hp : P (m + 1)
    · obtain ⟨i, a, b, c⟩ := pick_one h1 hs (m + 1) (by omega) hp
      exact ⟨i, a, by omega, c⟩
    · exact ⟨m + 2, by omega, Nat.le_refl _, h, hs _ (by omega) hp⟩
theorem tot_split (a : Nat) (l : List (List UInt8)) (i : Nat) : tot a (l.take i) + tot a (l.drop i) = tot a l := by
  unfold tot
  rw [← List.sum_append, ← List.map_append, List.take_append_drop]
theorem tot_step {a b : Nat} {l : List (List UInt8)} (h : ∀ x ∈ l, x.length ≤ b) (i : Nat) (hi : i < l.length) : tot a (l.take (i + 1)) ≤ tot a (l.take i) + (a + b) ∧ tot a (l.take i) + a ≤ tot a (l.take (i + 1)) := by
  rw [tot_take a l i hi]
  have := h _ (List.getElem_mem hi)
  omega
theorem tot_all (a : Nat) (l : List (List UInt8)) : tot a (l.take l.length) = tot a l := by rw [List.take_length]
theorem tot_nil (a : Nat) : tot a [] = 0 := rfl
theorem prt_leaf {n : Nd} (hl : n.leaf = true) (i j : Nat) : prt n i j = ⟨true, (n.keys.take j).drop i, (n.vals.take j).drop i, []⟩ := by unfold prt; rw [hl]; rfl
theorem prt_inner {n : Nd} (hl : n.leaf = false) (i j : Nat) : prt n i j = ⟨false, (n.keys.take j).drop i, [], (n.kids.take (j + 1)).drop i⟩ := by unfold prt; rw [hl]; rfl
/-- of a leaf that is not too great a place is found at which both halves fit -/
theorem fit_leaf {n : Nd} (hc : check n = 0) (hl : n.leaf = true) (h2 : 2 ≤ n.keys.length) (hs : size n ≤ 707) : ∃ i, 1 ≤ i ∧ i ≤ n.keys.length - 1 ∧ gr n i ≤ 512 := by
  obtain ⟨hf, hk, hv⟩ := check_zero hc
  obtain ⟨hvl, _⟩ := formed_leaf hf hl
  have hsz : size n = 3 + tot 1 n.keys + tot 2 n.vals := by unfold size; rw [hl]; rfl
  have s0 := tot_step (a := 1) hk 0 (by omega)
  have t0 := tot_step (a := 2) hv 0 (by omega)
  simp only [List.take_zero, tot_nil, Nat.zero_add] at s0 t0
  obtain ⟨i, h3, h4, h5, h6⟩ := pick_one (P := fun i => i ≤ n.keys.length - 1 → tot 1 n.keys + tot 2 n.vals ≤ tot 1 (n.keys.take i) + tot 2 (n.vals.take i) + 509) (R := fun i => i ≤ n.keys.length - 1 → tot 1 (n.keys.take i) + tot 2 (n.vals.take i) ≤ 509) (fun _ => by omega)
    (fun m hm hn hm2 => by
      have hn' : ¬ (tot 1 n.keys + tot 2 n.vals ≤ tot 1 (n.keys.take m) + tot 2 (n.vals.take m) + 509) := fun h => hn fun _ => h
      have s := tot_step (a := 1) hk m (by omega)
      have t := tot_step (a := 2) hv m (by omega)
      omega) (n.keys.length - 1) (by omega) (fun _ => by
      have s := tot_step (a := 1) hk (n.keys.length - 1) (by omega)
      have t := tot_step (a := 2) hv (n.keys.length - 1) (by omega)
      rw [show n.keys.length - 1 + 1 = n.keys.length by omega] at s t
      rw [tot_all] at s
      have := tot_all 2 n.vals
      rw [hvl] at this
      rw [this] at t
      omega)
  have h5 := h5 h4
  have h6 := h6 h4
  refine ⟨i, h3, h4, ?_⟩
  have e1 := tot_split 1 n.keys i
  have e2 := tot_split 2 n.vals i
  have g1 : size (prt n 0 i) = 3 + tot 1 (n.keys.take i) + tot 2 (n.vals.take i) := by rw [prt_leaf hl]; rfl
  have g2 : size (prt n (i + bh n) n.keys.length) = 3 + tot 1 (n.keys.drop i) + tot 2 (n.vals.drop i) := by
    rw [prt_leaf hl]
    unfold size bh
    rw [hl, List.take_length, ← hvl, List.take_length]; rfl
  unfold gr
  rw [g1, g2]
  omega
theorem fit_inner {n : Nd} (hc : check n = 0) (hl : n.leaf = false) (h2 : 3 ≤ n.keys.length) (hs : size n ≤ 579) : ∃ i, 1 ≤ i ∧ i ≤ n.keys.length - 2 ∧ gr n i ≤ 512 := by
  obtain ⟨hf, hk, hv⟩ := check_zero hc
  obtain ⟨_, hkl, _⟩ := formed_inner hf hl
  have hsz : size n = 3 + tot 1 n.keys + 2 * n.kids.length := by unfold size; rw [hl]; rfl
  have s0 := tot_step (a := 1) hk 0 (by omega)
  simp only [List.take_zero, tot_nil, Nat.zero_add] at s0
  obtain ⟨i, h3, h4, h5, h6⟩ := pick_one (P := fun i => i ≤ n.keys.length - 2 → tot 1 n.keys + 2 * n.keys.length ≤ tot 1 (n.keys.take (i + 1)) + 2 * (i + 1) + 507) (R := fun i => i ≤ n.keys.length - 2 → tot 1 (n.keys.take i) + 2 * i ≤ 507) (fun _ => by omega)
    (fun m hm hn hm2 => by
      have hn' : ¬ (tot 1 n.keys + 2 * n.keys.length ≤ tot 1 (n.keys.take (m + 1)) + 2 * (m + 1) + 507) := fun h => hn fun _ => h
      omega) (n.keys.length - 2) (by omega) (fun _ => by
      have s := tot_step (a := 1) hk (n.keys.length - 1) (by omega)
      rw [show n.keys.length - 1 + 1 = n.keys.length by omega] at s
      rw [tot_all] at s
      rw [show n.keys.length - 2 + 1 = n.keys.length - 1 by omega]
      omega)
  have h5 := h5 h4
  have h6 := h6 h4
  refine ⟨i, h3, h4, ?_⟩
  have e1 := tot_split 1 n.keys (i + 1)
  have g1 : size (prt n 0 i) = 3 + tot 1 (n.keys.take i) + 2 * (i + 1) := by
    rw [prt_inner hl]
    show 3 + tot 1 (n.keys.take i) + 2 * ((n.kids.take (i + 1)).drop 0).length = _
    rw [List.length_drop, List.length_take]; omega
  have g2 : size (prt n (i + bh n) n.keys.length) = 3 + tot 1 (n.keys.drop (i + 1)) + 2 * (n.keys.length - i) := by
    rw [prt_inner hl]
    have hb : bh n = 1 := by unfold bh; rw [hl]; rfl
    rw [hb]
    show 3 + tot 1 ((n.keys.take n.keys.length).drop (i + 1)) + 2 * ((n.kids.take (n.keys.length + 1)).drop (i + 1)).length = _
    rw [List.take_length, List.length_drop, List.length_take]; omega
  unfold gr
  rw [g1, g2]
  omega
theorem gr_fit {n : Nd} {k : Nat} (h : gr n k ≤ 512) : size (prt n 0 k) ≤ 512 ∧ size (prt n (k + bh n) n.keys.length) ≤ 512 := by
  unfold gr at h; omega
/-- parts of rows -/
theorem bss_lh {A : Nat → Prop} {w : World} {a : Option Addr} {c : Nat} {l : List (List UInt8)} (h : Bss A w (.slice a l.length c) l) (i j : Nat) (hij : i ≤ j) (hj : j ≤ l.length) :
    ∃ a' c', (∀ w, (Instr.slice 28 (.slice a l.length c) (some (.int .i64 (i : Int))) (some (.int .i64 (j : Int))) none).run Try.prog w = .ok (.slice a' (j - i) c') w) ∧ Bss A w (.slice a' (j - i) c') ((l.take j).drop i) := by
  obtain ⟨vs, h1, h2, h3⟩ := h
  obtain ⟨a', c', k1, k2⟩ := row_lh (P := Try.prog) (t := 28) (by kernel_rfl) Try.size32 h1 i j hij hj
  have e : ((l.take j).drop i).length = j - i := by rw [List.length_drop, List.length_take]; omega
  exact ⟨a', c', k1, (vs.take j).drop i, by rw [e]; exact k2, Each.drop (Each.take h2 j) i, by rw [e]; omega⟩
theorem bss_to {A : Nat → Prop} {w : World} {a : Option Addr} {c : Nat} {l : List (List UInt8)} (h : Bss A w (.slice a l.length c) l) (j : Nat) (hj : j ≤ l.length) :
    ∃ a' c', (∀ w, (Instr.slice 28 (.slice a l.length c) none (some (.int .i64 (j : Int))) none).run Try.prog w = .ok (.slice a' j c') w) ∧ Bss A w (.slice a' j c') (l.take j) := by
  obtain ⟨vs, h1, h2, h3⟩ := h
  obtain ⟨a', c', k1, k2⟩ := row_hi (P := Try.prog) (t := 28) (by kernel_rfl) Try.size32 h1 j hj
  have e : (l.take j).length = j := by rw [List.length_take]; omega
  exact ⟨a', c', k1, vs.take j, by rw [e]; exact k2, Each.take h2 j, by rw [e]; omega⟩
theorem bss_from {A : Nat → Prop} {w : World} {a : Option Addr} {c : Nat} {l : List (List UInt8)} (h : Bss A w (.slice a l.length c) l) (i : Nat) (hi : i ≤ l.length) :
    ∃ a' c', (∀ w, (Instr.slice 28 (.slice a l.length c) (some (.int .i64 (i : Int))) none none).run Try.prog w = .ok (.slice a' (l.length - i) c') w) ∧ Bss A w (.slice a' (l.length - i) c') (l.drop i) := by
  obtain ⟨vs, h1, h2, h3⟩ := h
  obtain ⟨a', c', k1, k2⟩ := row_lo (P := Try.prog) (t := 28) (by kernel_rfl) Try.size32 h1 i hi
  have e : (l.drop i).length = l.length - i := List.length_drop
  exact ⟨a', c', k1, vs.drop i, by rw [e]; exact k2, Each.drop h2 i, by rw [e]; omega⟩
theorem is_lh {A : Nat → Prop} {w : World} {a : Option Addr} {c : Nat} {l : List Int} (h : Is A w (.slice a l.length c) l) (i j : Nat) (hij : i ≤ j) (hj : j ≤ l.length) :
    ∃ a' c', (∀ w, (Instr.slice 29 (.slice a l.length c) (some (.int .i64 (i : Int))) (some (.int .i64 (j : Int))) none).run Try.prog w = .ok (.slice a' (j - i) c') w) ∧ Is A w (.slice a' (j - i) c') ((l.take j).drop i) := by
  obtain ⟨h1, h2, h3⟩ := h
  obtain ⟨a', c', k1, k2⟩ := row_lh (P := Try.prog) (t := 29) (by kernel_rfl) Try.size3' h1 i j hij hj
  have e : ((l.take j).drop i).length = j - i := by rw [List.length_drop, List.length_take]; omega
  refine ⟨a', c', k1, ?_, by rw [e]; omega, fun x hx => h3 x (List.mem_of_mem_take (List.mem_of_mem_drop hx))⟩
  rw [e, show iv ((l.take j).drop i) = ((iv l).take j).drop i by simp [iv, List.map_take, List.map_drop]]; exact k2
theorem is_to {A : Nat → Prop} {w : World} {a : Option Addr} {c : Nat} {l : List Int} (h : Is A w (.slice a l.length c) l) (j : Nat) (hj : j ≤ l.length) :
    ∃ a' c', (∀ w, (Instr.slice 29 (.slice a l.length c) none (some (.int .i64 (j : Int))) none).run Try.prog w = .ok (.slice a' j c') w) ∧ Is A w (.slice a' j c') (l.take j) := by
  obtain ⟨h1, h2, h3⟩ := h
  obtain ⟨a', c', k1, k2⟩ := row_hi (P := Try.prog) (t := 29) (by kernel_rfl) Try.size3' h1 j hj
  have e : (l.take j).length = j := by rw [List.length_take]; omega
  refine ⟨a', c', k1, ?_, by rw [e]; omega, fun x hx => h3 x (List.mem_of_mem_take hx)⟩
  rw [e, show iv (l.take j) = (iv l).take j by simp [iv, List.map_take]]; exact k2
theorem is_from {A : Nat → Prop} {w : World} {a : Option Addr} {c : Nat} {l : List Int} (h : Is A w (.slice a l.length c) l) (i : Nat) (hi : i ≤ l.length) :
    ∃ a' c', (∀ w, (Instr.slice 29 (.slice a l.length c) (some (.int .i64 (i : Int))) none none).run Try.prog w = .ok (.slice a' (l.length - i) c') w) ∧ Is A w (.slice a' (l.length - i) c') (l.drop i) := by
  obtain ⟨h1, h2, h3⟩ := h
  obtain ⟨a', c', k1, k2⟩ := row_lo (P := Try.prog) (t := 29) (by kernel_rfl) Try.size3' h1 i hi
  have e : (l.drop i).length = l.length - i := List.length_drop
  refine ⟨a', c', k1, ?_, by rw [e]; omega, fun x hx => h3 x (List.mem_of_mem_drop hx)⟩
  rw [e, show iv (l.drop i) = (iv l).drop i by simp [iv, List.map_drop]]; exact k2
theorem row_nil {A : Nat → Prop} {w : World} : Row 1 A w (.slice none 0 0) 0 [] := ⟨rfl, none, 0, rfl, Nat.le_refl _, fun _ => rfl, fun j u h => by simp at h⟩
theorem bss_nil {A : Nat → Prop} {w : World} : Bss A w (.slice none 0 0) [] := ⟨[], row_nil, Each.nil _ _, by decide⟩
theorem is_nil {A : Nat → Prop} {w : World} : Is A w (.slice none 0 0) [] := ⟨row_nil, by decide, fun x hx => by cases hx⟩
/-- two blocks of four cells, laid one behind the other -/
theorem two_boxes {w W : World} {x y : Array Value} {e : TypeId} (hW : W = (w.alloc (.cells x e)).alloc (.cells y e)) : Below w.heap.size w W ∧ W.heap[w.heap.size]? = some (.cells x e (0, 0)) ∧ W.heap[w.heap.size + 1]? = some (.cells y e (0, 0)) ∧ W.heap.size = w.heap.size + 2 := by
  subst hW
  refine ⟨bt (up_alloc _ _) (up_alloc _ _), ?_, ?_, by simp⟩
  · rw [(up_alloc (w.alloc _) _).block _ (by simp)]; exact heap_alloc_new w _
  · have := heap_alloc_new (w.alloc (.cells x e)) (.cells y e)
    simpa using this
/-- all four cells are put -/
theorem put4 {w : World} {b B : Nat} {e : TypeId} {x0 x1 x2 x3 : Value} (y0 y1 y2 y3 : Value) (h : w.heap[b]? = some (.cells #[x0, x1, x2, x3] e (0, 0))) (hB : B ≤ b) :
    Below B w ((((w.setCell ⟨b, 0, none⟩ y0).setCell ⟨b, 1, none⟩ y1).setCell ⟨b, 2, none⟩ y2).setCell ⟨b, 3, none⟩ y3) ∧ ((((w.setCell ⟨b, 0, none⟩ y0).setCell ⟨b, 1, none⟩ y1).setCell ⟨b, 2, none⟩ y2).setCell ⟨b, 3, none⟩ y3).heap[b]? = some (.cells #[y0, y1, y2, y3] e (0, 0)) := by
  have q1 := cells4_set (o := 0) (u := y0) h
  have q2 := cells4_set (o := 1) (u := y1) q1
  have q3 := cells4_set (o := 2) (u := y2) q2
  have q4 := cells4_set (o := 3) (u := y3) q3
  have hlt := (Array.getElem?_eq_some_iff.1 h).1
  exact ⟨(four_wb w b y0 y1 y2 y3).below (by omega) fun k hk => by subst hk; exact hB, q4⟩
theorem drew_bl (w : World) (B : Nat) : Below B w w.drew := ⟨rfl, rfl, rfl, Nat.le_refl _, fun _ _ => rfl⟩
end Go.Proofs.Ytfmbbpfklhkljaa
