/- leaf.twin: a node of its own. -/
import Derived.Test.YtfmbbpfklhkljaaTW
import Derived.Test.YtfmbbpfklhkljaaNX
set_option linter.unusedVariables false
set_option linter.unusedSimpArgs false
namespace Go.Proofs.Ytfmbbpfklhkljaa
open Go.RowKit
/-- a row of the call's own whose first k elements are the call's own too; the others lie below D -/
def Rw (D B k : Nat) (w : World) (v : Value) (l : List (List UInt8)) : Prop :=
  ∃ vs, w.ownsRow B 32 1 v l.length vs ∧ (∀ i (h : i < vs.length) (h' : i < l.length), i < k → Bs (Td 0 w) w vs[i] l[i]) ∧ (∀ i (h : i < vs.length) (h' : i < l.length), k ≤ i → Bs (Lt D) w vs[i] l[i])
theorem Rw.zero {D B : Nat} {w : World} {v : Value} {l : List (List UInt8)} {vs : List Value} (h : w.ownsRow B 32 1 v l.length vs) (he : Each (Lt D) w vs l) : Rw D B 0 w v l :=
  ⟨vs, h, fun _ _ _ h => absurd h (Nat.not_lt_zero _), fun i h h' _ => he.2 i h' h⟩
theorem Rw.full {D B k : Nat} {w : World} {v : Value} {l : List (List UInt8)} (h : Rw D B k w v l) (hk : l.length ≤ k) : Obb 0 B w v l := by
  obtain ⟨vs, h1, h2, _⟩ := h
  exact ⟨vs, h1, by have := h1.1; simpa using this, fun i a b => h2 i b a (by omega)⟩
theorem Rw.up {D B k : Nat} {w w' : World} {v : Value} {l : List (List UInt8)} (h : Rw D B k w v l) (hb : Below w.heap.size w w') : Rw D B k w' v l := by
  obtain ⟨vs, h1, h2, h3⟩ := h
  exact ⟨vs, own_keep h1 hb (Nat.le_refl _), fun i a b c => ((h2 i a b c).up hb).monoS fun x hx => hx.up hb, fun i a b c => (h3 i a b c).up hb⟩
theorem Rw.wb {X : Nat → Prop} {D B k : Nat} {w w' : World} {v : Value} {l : List (List UInt8)} (h : Rw D B k w v l) (hb : Wb X w w') (hD : D ≤ w.heap.size) (hX : ∀ k, X k → some k ≠ v.ownBlock ∧ (∀ cur fr, w.heap[k]? ≠ some (.cells cur 5 fr)) ∧ D ≤ k) : Rw D B k w' v l := by
  obtain ⟨vs, h1, h2, h3⟩ := h
  have hs : ∀ b, Td 0 w b → w'.heap[b]? = w.heap[b]? := by
    rintro b (hb' | ⟨cur, fr, hb'⟩)
    · exact absurd hb' (Nat.not_lt_zero _)
    · exact hb.block b (Array.getElem?_eq_some_iff.1 hb').1 fun e => (hX b e).2.1 cur fr hb'
  have hd : ∀ b, Lt D b → w'.heap[b]? = w.heap[b]? := fun b hb' => hb.block b (Nat.lt_of_lt_of_le hb' hD) fun e => by have := (hX b e).2.2; have : b < D := hb'; omega
  refine ⟨vs, own_wb h1 hb fun k hk => (hX k hk).1, fun i a b c => ((h2 i a b c).keepS hs).monoS fun x hx => ?_, fun i a b c => (h3 i a b c).keepS hd⟩
  have := hs x hx
  rcases hx with hx | ⟨cur, fr, hx⟩
  · exact absurd hx (Nat.not_lt_zero _)
  · exact .inr ⟨cur, fr, by rw [this]; exact hx⟩
theorem Rw.typed {D B k : Nat} {w : World} {v : Value} {l : List (List UInt8)} (h : Rw D B k w v l) : ∀ b, v.ownBlock = some b → B ≤ b ∧ ∃ cur fr, w.heap[b]? = some (.cells cur 32 fr) := by
  obtain ⟨vs, h1, _⟩ := h; exact own_typed h1
/-- its k-th element is copied -/
theorem Rw.set {D B k g c : Nat} {w : World} {n : Nat} {u : Value} {l : List (List UInt8)} (h : Rw D B k w (.slice (some ⟨g, 0, none⟩) n c) l) (hk : k < l.length) (hD : D ≤ g) (hu : Bs (Td 0 w) w u (l[k])) : Rw D B (k + 1) (w.setCell ⟨g, k, none⟩ u) (.slice (some ⟨g, 0, none⟩) n c) l := by
  have ht := h.typed g rfl
  obtain ⟨vs, h1, h2, h3⟩ := h
  obtain ⟨_, cur, fr, hg⟩ := ht
  have hlen : vs.length = l.length := by have := h1.1; simpa using this
  have hn : n = l.length := by
    obtain ⟨_, h | ⟨g', cap', cur, hv, _⟩⟩ := h1
    · cases h.1
    · simp only [Value.slice.injEq] at hv; exact hv.2.1
  subst hn
  have hs : ∀ b, Td 0 w b → (w.setCell ⟨g, k, none⟩ u).heap[b]? = w.heap[b]? := by
    rintro b (hb' | ⟨cur', fr', hb'⟩)
    · exact absurd hb' (Nat.not_lt_zero _)
    · refine Below.heap_setCell _ _ _ _ ?_
      rintro rfl
      exact absurd (typed_ne hg hb') (by decide)
  have hT : ∀ b, Td 0 w b → Td 0 (w.setCell ⟨g, k, none⟩ u) b := by
    intro b hb
    have := hs b hb
    rcases hb with hb | ⟨cur', fr', hb⟩
    · exact absurd hb (Nat.not_lt_zero _)
    · exact .inr ⟨cur', fr', by rw [this]; exact hb⟩
  have hd : ∀ b, Lt D b → (w.setCell ⟨g, k, none⟩ u).heap[b]? = w.heap[b]? := fun b hb' => Below.heap_setCell _ _ _ _ (by have : b < D := hb'; dsimp only; omega)
  have h4 := (World.ownsRow.stored h1 k u).1
  refine ⟨vs.set k u, h4, fun i a b hi => ?_, fun i a b hi => ?_⟩
  · by_cases hik : i = k
    · subst hik
      rw [List.getElem_set_self]
      exact (hu.keepS hs).monoS hT
    · rw [List.getElem_set_ne (Ne.symm hik)]
      exact ((h2 i (by simpa using a) b (by omega)).keepS hs).monoS hT
  · rw [List.getElem_set_ne (by omega)]
    exact (h3 i (by simpa using a) b (by omega)).keepS hd
/-- a node of the call's own -/
def OwnN (B : Nat) (w : World) (v : Value) (n : Nd) : Prop :=
  ∃ kv vv cv, v = .agg #[.bool n.leaf, kv, vv, cv] ∧ Obb 0 B w kv n.keys ∧ Obb 0 B w vv n.vals ∧ w.ownsRow B 3 1 cv n.kids.length (iv n.kids) ∧ ∀ k, kv.ownBlock = some k → vv.ownBlock ≠ some k
theorem OwnN.up {B : Nat} {w w' : World} {v : Value} {n : Nd} (h : OwnN B w v n) (hb : Below w.heap.size w w') : OwnN B w' v n := by
  obtain ⟨kv, vv, cv, e, h1, h2, h3, h4⟩ := h
  exact ⟨kv, vv, cv, e, h1.up hb, h2.up hb, own_keep h3 hb (Nat.le_refl _), h4⟩
theorem OwnN.mono {B B' : Nat} {w : World} {v : Value} {n : Nd} (h : OwnN B w v n) (hB : B' ≤ B) : OwnN B' w v n := by
  obtain ⟨kv, vv, cv, e, h1, h2, h3, h4⟩ := h
  exact ⟨kv, vv, cv, e, h1.mono0' hB, h2.mono0' hB, own_mono h3 hB, h4⟩
/-- small enough -/
def Sm (n : Nd) : Prop := n.keys.length * 24 ≤ lim ∧ n.vals.length * 24 ≤ lim ∧ n.kids.length * 8 ≤ lim ∧ ∀ x ∈ n.kids, -9223372036854775808 ≤ x ∧ x ≤ 9223372036854775807
theorem RN.sm {A : Nat → Prop} {w : World} {v : Value} {n : Nd} (h : RN A w v n) : Sm n := by
  obtain ⟨k, u, c, rfl, ⟨_, _, _, h1⟩, ⟨_, _, _, h2⟩, h3⟩ := h
  exact ⟨h1, h2, h3.2.1, h3.2.2⟩
theorem OwnN.rn {B : Nat} {w : World} {v : Value} {n : Nd} (h : OwnN B w v n) (hs : Sm n) : RN (Ty w) w v n := by
  obtain ⟨kv, vv, cv, e, h1, h2, h3, _⟩ := h
  exact ⟨kv, vv, cv, e, (h1.mono0' (Nat.zero_le _)).ty hs.1, (h2.mono0' (Nat.zero_le _)).ty hs.2.1, row_ty h3 (.inl rfl), hs.2.2.1, hs.2.2.2⟩
end Go.Proofs.Ytfmbbpfklhkljaa
