/- Worlds that differ in some blocks alone; a node that is being built; groyneleaf.Decode's search for rest. -/
import Derived.Test.YtfmbbpfklhkljaaA13
set_option linter.unusedVariables false
set_option linter.unusedSimpArgs false
namespace Go.Proofs.Ytfmbbpfklhkljaa
open Go.RowKit
structure Wb (X : Nat → Prop) (w w' : World) : Prop where
  os : w'.os = w.os
  tape : w'.tape = w.tape
  output : w'.output = w.output
  size : w.heap.size ≤ w'.heap.size
  block : ∀ k, k < w.heap.size → ¬ X k → w'.heap[k]? = w.heap[k]?
theorem Wb.refl (X : Nat → Prop) (w : World) : Wb X w w := ⟨rfl, rfl, rfl, Nat.le_refl _, fun _ _ _ => rfl⟩
theorem Wb.trans {X : Nat → Prop} {a b c : World} (h : Wb X a b) (k : Wb X b c) : Wb X a c :=
  ⟨k.os.trans h.os, k.tape.trans h.tape, k.output.trans h.output, Nat.le_trans h.size k.size, fun i hi hx => (k.block i (Nat.lt_of_lt_of_le hi h.size) hx).trans (h.block i hi hx)⟩
theorem Wb.mono {X Y : Nat → Prop} {a b : World} (h : Wb X a b) (hXY : ∀ k, X k → Y k) : Wb Y a b := ⟨h.os, h.tape, h.output, h.size, fun i hi hx => h.block i hi fun e => hx (hXY i e)⟩
theorem Wb.of_grown {w w' : World} {g : Option Nat} (h : w.grownBy w' g) : Wb (fun k => some k = g) w w' := ⟨h.os, h.tape, h.output, h.size, fun i hi hx => h.block i hi hx⟩
theorem Wb.of_below {w w' : World} (X : Nat → Prop) (h : Below w.heap.size w w') : Wb X w w' := ⟨h.os, h.tape, h.output, h.size, fun i hi _ => h.block i hi⟩
theorem Wb.below {X : Nat → Prop} {w w' : World} {D : Nat} (h : Wb X w w') (hD : D ≤ w.heap.size) (hX : ∀ k, X k → D ≤ k) : Below D w w' :=
  ⟨h.os, h.tape, h.output, h.size, fun i hi => h.block i (by omega) fun e => by have := hX i e; omega⟩
theorem Wb.set {X : Nat → Prop} (w : World) (b o : Nat) (u : Value) (hb : X b) : Wb X w (w.setCell ⟨b, o, none⟩ u) :=
  ⟨rfl, rfl, rfl, by rw [size_setCell]; exact Nat.le_refl _, fun i hi hx => Below.heap_setCell _ _ _ _ (fun e => hx (by rw [e]; exact hb))⟩
theorem own_wb {X : Nat → Prop} {B size n : Nat} {e : TypeId} {w w' : World} {v : Value} {vs : List Value} (h : w.ownsRow B e size v n vs) (hb : Wb X w w') (hX : ∀ k, X k → some k ≠ v.ownBlock) : w'.ownsRow B e size v n vs := by
  obtain ⟨h0, h | ⟨g, cap, cur, hv, hbg, hg, r⟩⟩ := h
  · exact ⟨h0, .inl h⟩
  · refine ⟨h0, .inr ⟨g, cap, cur, hv, hbg, ?_, r⟩⟩
    rw [hb.block g (Array.getElem?_eq_some_iff.1 hg).1 (fun e => hX g e (by rw [hv]; rfl))]; exact hg
theorem Obb.wb {X : Nat → Prop} {B : Nat} {w w' : World} {v : Value} {l : List (List UInt8)} (h : Obb 0 B w v l) (hb : Wb X w w') (hX : ∀ k, X k → some k ≠ v.ownBlock ∧ ∀ cur fr, w.heap[k]? ≠ some (.cells cur 5 fr)) : Obb 0 B w' v l := by
  obtain ⟨vs, h1, h2⟩ := h
  have hs : ∀ b, Td 0 w b → w'.heap[b]? = w.heap[b]? := by
    rintro b (hb' | ⟨cur, fr, hb'⟩)
    · exact absurd hb' (Nat.not_lt_zero _)
    · exact hb.block b (Array.getElem?_eq_some_iff.1 hb').1 fun e => (hX b e).2 cur fr hb'
  refine ⟨vs, own_wb h1 hb fun k hk => (hX k hk).1, (h2.keepS hs).monoS fun b hb' => ?_⟩
  have := hs b hb'
  rcases hb' with hb' | ⟨cur, fr, hb'⟩
  · exact absurd hb' (Nat.not_lt_zero _)
  · exact .inr ⟨cur, fr, by rw [this]; exact hb'⟩
theorem Obb.mono0 {D B : Nat} {w : World} {v : Value} {l : List (List UInt8)} (h : Obb D B w v l) : Obb D B w v l := h
theorem Obb.typed {D B : Nat} {w : World} {v : Value} {l : List (List UInt8)} (h : Obb D B w v l) : ∀ k, v.ownBlock = some k → B ≤ k ∧ ∃ cur fr, w.heap[k]? = some (.cells cur 32 fr) := by
  obtain ⟨vs, ⟨_, h | ⟨g, cap, cur, hv, hb, hg, _⟩⟩, _⟩ := h
  · intro k hk; rw [h.1] at hk; cases hk
  · intro k hk; rw [hv] at hk; cases hk; exact ⟨hb, cur, _, hg⟩
theorem own_typed {B size n : Nat} {e : TypeId} {w : World} {v : Value} {vs : List Value} (h : w.ownsRow B e size v n vs) : ∀ k, v.ownBlock = some k → B ≤ k ∧ ∃ cur fr, w.heap[k]? = some (.cells cur e fr) := by
  obtain ⟨_, h | ⟨g, cap, cur, hv, hb, hg, _⟩⟩ := h
  · intro k hk; rw [h.1] at hk; cases hk
  · intro k hk; rw [hv] at hk; cases hk; exact ⟨hb, cur, _, hg⟩
/-- block nb holds the node n, all of the call's own -/
structure Nod (B nb : Nat) (w : World) (n : Nd) (kv vv cv : Value) : Prop where
  at_ : w.heap[nb]? = some (.cells #[.bool n.leaf, kv, vv, cv] 37 (0, 0))
  keys : Obb 0 B w kv n.keys
  vals : Obb 0 B w vv n.vals
  kids : w.ownsRow B 3 1 cv n.kids.length (iv n.kids)
  apart : ∀ k, kv.ownBlock = some k → vv.ownBlock ≠ some k
theorem Nod.lt {B nb : Nat} {w : World} {n : Nd} {kv vv cv : Value} (h : Nod B nb w n kv vv cv) : nb < w.heap.size := (Array.getElem?_eq_some_iff.1 h.at_).1
theorem Nod.wb {X : Nat → Prop} {B nb : Nat} {w w' : World} {n : Nd} {kv vv cv : Value} (h : Nod B nb w n kv vv cv) (hb : Wb X w w') (hX : ∀ k, X k → ∃ cur fr e, w.heap[k]? = some (.cells cur e fr) ∧ e ≠ 37 ∧ e ≠ 32 ∧ e ≠ 5 ∧ e ≠ 3) : Nod B nb w' n kv vv cv := by
  have hne : ∀ k, X k → ∀ e' cur fr, e' = 37 ∨ e' = 32 ∨ e' = 5 ∨ e' = 3 → w.heap[k]? ≠ some (.cells cur e' fr) := by
    intro k hk e' cur fr he h'
    obtain ⟨cur', fr', e, h1, h2, h3, h4, h5⟩ := hX k hk
    rw [h1] at h'
    cases h'
    rcases he with rfl | rfl | rfl | rfl <;> contradiction
  refine ⟨?_, h.keys.wb hb fun k hk => ⟨fun e => ?_, fun cur fr => hne k hk 5 cur fr (by simp)⟩, h.vals.wb hb fun k hk => ⟨fun e => ?_, fun cur fr => hne k hk 5 cur fr (by simp)⟩, own_wb h.kids hb fun k hk e => ?_, h.apart⟩
  · rw [hb.block nb h.lt fun e => hne nb e 37 _ _ (by simp) h.at_]; exact h.at_
  · obtain ⟨_, cur, fr, h1⟩ := h.keys.typed k e.symm; exact hne k hk 32 cur fr (by simp) h1
  · obtain ⟨_, cur, fr, h1⟩ := h.vals.typed k e.symm; exact hne k hk 32 cur fr (by simp) h1
  · obtain ⟨_, cur, fr, h1⟩ := own_typed h.kids k e.symm; exact hne k hk 3 cur fr (by simp) h1
theorem cells4_set {w : World} {b o : Nat} {x0 x1 x2 x3 u : Value} {e : TypeId} (h : w.heap[b]? = some (.cells #[x0, x1, x2, x3] e (0, 0))) : (w.setCell ⟨b, o, none⟩ u).heap[b]? = some (.cells (#[x0, x1, x2, x3].setIfInBounds o u) e (0, 0)) := by
  rw [heap_setCell_same w b o _ e u h]
theorem cells4_get {w : World} {b : Nat} {x0 x1 x2 x3 : Value} {e : TypeId} (h : w.heap[b]? = some (.cells #[x0, x1, x2, x3] e (0, 0))) : Bx4 b x0 x1 x2 x3 w ∧ ∀ i, w.frozen? ⟨b, i, none⟩ = false :=
  ⟨⟨by simp only [World.cell?, h]; rfl, by simp only [World.cell?, h]; rfl, by simp only [World.cell?, h]; rfl, by simp only [World.cell?, h]; rfl⟩, fun i => by simp only [World.frozen?, h]; simp⟩
/-- one more of a row of slices, the row's slice stored into the node -/
theorem grow_row {B : Nat} {w : World} {v v' : Value} {ls : List (List UInt8)} {l : List UInt8} (h : Obb 0 B w v ls) (ho : Ob 5 0 w v' l) (hl : l.length ≤ lim) (hlen : (ls.length + 1) * 24 ≤ lim) (hB : B ≤ w.heap.size) :
    ∃ u w', (Builtin.append_ #[28, 28] 28 #[v, .slice (some ⟨w.heap.size, 0, none⟩) 1 1]).run Try.prog (w.alloc (.cells #[v'] 32)) = .ok u w' ∧ Wb (fun k => some k = v.ownBlock) w w' ∧ Obb 0 B w' u (ls ++ [l]) ∧ (u.ownBlock = v.ownBlock ∨ ∃ k, u.ownBlock = some k ∧ w.heap.size ≤ k) := by
  obtain ⟨vs, h1, h2⟩ := h
  have hup := up_alloc w (.cells #[v'] 32)
  obtain ⟨ad, cp, e', _⟩ := (ho.bs hl).at
  have hone : v'.oneCell' = true := by rw [e']; rfl
  obtain ⟨u, w', k1, k2, k3, k4, k5⟩ := run_app (P := Try.prog) 28 28 Try.underlying28 Try.info32 rfl (by decide) (own_keep h1 hup (Nat.le_refl _)) (row_one (w := w) (x := v') (e := 32)) (by simpa using hone) (by unfold lim at hlen; unfold maxLen; omega) (by unfold lim at hlen; omega) (Nat.le_trans hB hup.size)
  refine ⟨u, w', k1, (Wb.of_below _ hup).trans (Wb.of_grown k3), ⟨vs ++ [v'], by simpa using k2, ?_⟩, ?_⟩
  · exact Each.grown (B0 := 0) ((h2.upT hup).snoc ((Bs.td (B := 0) ho hl |>.up hup).monoS fun b hb => hb.up hup)) (own_mono (own_keep h1 hup (Nat.le_refl _)) (Nat.zero_le _)) k3 (fun b hb => by
      rcases hb with hb | ⟨cur, fr, hb⟩
      · exact absurd hb (Nat.not_lt_zero _)
      · exact (Array.getElem?_eq_some_iff.1 hb).1)
  · rcases k5 with k5 | k5
    · exact .inl k5
    · exact .inr ⟨_, k5, by simp⟩
theorem typed_ne {w : World} {k : Nat} {c c' : Array Value} {e e' : TypeId} {f f' : Nat × Nat} (h : w.heap[k]? = some (.cells c e f)) (h' : w.heap[k]? = some (.cells c' e' f')) : e = e' := by
  rw [h] at h'; cases h'; rfl
/-- another entry's key -/
theorem nod_key {B nb : Nat} {w : World} {n : Nd} {kv vv cv v' : Value} {l : List UInt8} (h : Nod B nb w n kv vv cv) (ho : Ob 5 0 w v' l) (hl : l.length ≤ lim) (hlen : (n.keys.length + 1) * 24 ≤ lim) (hB : B ≤ w.heap.size) :
    ∃ u w', (Builtin.append_ #[28, 28] 28 #[kv, .slice (some ⟨w.heap.size, 0, none⟩) 1 1]).run Try.prog (w.alloc (.cells #[v'] 32)) = .ok u w' ∧ Wb (fun k => some k = kv.ownBlock) w w' ∧
      Nod B nb (w'.setCell ⟨nb, 1, none⟩ u) ⟨n.leaf, n.keys ++ [l], n.vals, n.kids⟩ u vv cv ∧ w'.cell? ⟨nb, 1, none⟩ = some kv ∧ w'.frozen? ⟨nb, 1, none⟩ = false ∧ ∃ a c, u = .slice a (n.keys.length + 1) c := by
  obtain ⟨u, w', k1, k2, k3, k4⟩ := grow_row h.keys ho hl hlen hB
  have hnk : ∀ k, some k = kv.ownBlock → ∃ cur fr, w.heap[k]? = some (.cells cur 32 fr) := fun k hk => (h.keys.typed k hk.symm).2
  have hat : w'.heap[nb]? = some (.cells #[.bool n.leaf, kv, vv, cv] 37 (0, 0)) := by
    rw [k2.block nb h.lt fun e => by obtain ⟨_, _, h1⟩ := hnk nb e; exact absurd (typed_ne h1 h.at_) (by decide)]; exact h.at_
  have hs := Wb.set (X := fun k => k = nb) w' nb 1 u rfl
  have hvv : Obb 0 B w' vv n.vals := h.vals.wb k2 fun k hk => ⟨fun e => h.apart k hk.symm e.symm, fun cur fr h1 => by obtain ⟨_, _, h2⟩ := hnk k hk; exact absurd (typed_ne h1 h2) (by decide)⟩
  have hcv : w'.ownsRow B 3 1 cv n.kids.length (iv n.kids) := own_wb h.kids k2 fun k hk e => by
    obtain ⟨_, _, h2⟩ := hnk k hk
    obtain ⟨_, _, _, h1⟩ := own_typed h.kids k e.symm
    exact absurd (typed_ne h1 h2) (by decide)
  have hnb : ∀ {e : TypeId} {k : Nat} {cur fr}, e ≠ 37 → w'.heap[k]? = some (.cells cur e fr) → k ≠ nb := by
    rintro e k cur fr he h1 rfl
    exact he (typed_ne h1 hat)
  have hu := k3
  refine ⟨u, w', k1, k2, ⟨by rw [cells4_set hat]; rfl, ?_, ?_, ?_, fun k hk => ?_⟩, (cells4_get hat).1.2.1, (cells4_get hat).2 1, ?_⟩
  · exact k3.wb hs fun k hk => ⟨fun e => by obtain ⟨_, _, _, h1⟩ := k3.typed k e.symm; exact hnb (by decide) h1 hk, fun cur fr h1 => hnb (by decide) h1 hk⟩
  · exact hvv.wb hs fun k hk => ⟨fun e => by obtain ⟨_, _, _, h1⟩ := hvv.typed k e.symm; exact hnb (by decide) h1 hk, fun cur fr h1 => hnb (by decide) h1 hk⟩
  · exact own_wb hcv hs fun k hk e => by obtain ⟨_, _, _, h1⟩ := own_typed hcv k e.symm; exact hnb (by decide) h1 hk
  · intro e
    rcases k4 with k4 | ⟨k', k4, k5⟩
    · exact h.apart k (by rw [← k4]; exact hk) e
    · rw [k4] at hk; cases hk
      obtain ⟨_, _, _, h1⟩ := h.vals.typed _ e
      have := (Array.getElem?_eq_some_iff.1 h1).1
      omega
  · obtain ⟨vs, h1, _⟩ := k3
    obtain ⟨a, c, e⟩ := own_slice h1
    exact ⟨a, c, by rw [e]; simp⟩
/-- .. and its value -/
theorem nod_val {B nb : Nat} {w : World} {n : Nd} {kv vv cv v' : Value} {l : List UInt8} (h : Nod B nb w n kv vv cv) (ho : Ob 5 0 w v' l) (hl : l.length ≤ lim) (hlen : (n.vals.length + 1) * 24 ≤ lim) (hB : B ≤ w.heap.size) :
    ∃ u w', (Builtin.append_ #[28, 28] 28 #[vv, .slice (some ⟨w.heap.size, 0, none⟩) 1 1]).run Try.prog (w.alloc (.cells #[v'] 32)) = .ok u w' ∧ Wb (fun k => some k = vv.ownBlock) w w' ∧
      Nod B nb (w'.setCell ⟨nb, 2, none⟩ u) ⟨n.leaf, n.keys, n.vals ++ [l], n.kids⟩ kv u cv ∧ w'.cell? ⟨nb, 2, none⟩ = some vv ∧ w'.frozen? ⟨nb, 2, none⟩ = false ∧ ∃ a c, u = .slice a (n.vals.length + 1) c := by
  obtain ⟨u, w', k1, k2, k3, k4⟩ := grow_row h.vals ho hl hlen hB
  have hnk : ∀ k, some k = vv.ownBlock → ∃ cur fr, w.heap[k]? = some (.cells cur 32 fr) := fun k hk => (h.vals.typed k hk.symm).2
  have hat : w'.heap[nb]? = some (.cells #[.bool n.leaf, kv, vv, cv] 37 (0, 0)) := by
    rw [k2.block nb h.lt fun e => by obtain ⟨_, _, h1⟩ := hnk nb e; exact absurd (typed_ne h1 h.at_) (by decide)]; exact h.at_
  have hs := Wb.set (X := fun k => k = nb) w' nb 2 u rfl
  have hvv : Obb 0 B w' kv n.keys := h.keys.wb k2 fun k hk => ⟨fun e => h.apart k e.symm hk.symm, fun cur fr h1 => by obtain ⟨_, _, h2⟩ := hnk k hk; exact absurd (typed_ne h1 h2) (by decide)⟩
  have hcv : w'.ownsRow B 3 1 cv n.kids.length (iv n.kids) := own_wb h.kids k2 fun k hk e => by
    obtain ⟨_, _, h2⟩ := hnk k hk
    obtain ⟨_, _, _, h1⟩ := own_typed h.kids k e.symm
    exact absurd (typed_ne h1 h2) (by decide)
  have hnb : ∀ {e : TypeId} {k : Nat} {cur fr}, e ≠ 37 → w'.heap[k]? = some (.cells cur e fr) → k ≠ nb := by
    rintro e k cur fr he h1 rfl
    exact he (typed_ne h1 hat)
  refine ⟨u, w', k1, k2, ⟨by rw [cells4_set hat]; rfl, ?_, ?_, ?_, fun k hk => ?_⟩, (cells4_get hat).1.2.2.1, (cells4_get hat).2 2, ?_⟩
  · exact hvv.wb hs fun k hk => ⟨fun e => by obtain ⟨_, _, _, h1⟩ := hvv.typed k e.symm; exact hnb (by decide) h1 hk, fun cur fr h1 => hnb (by decide) h1 hk⟩
  · exact k3.wb hs fun k hk => ⟨fun e => by obtain ⟨_, _, _, h1⟩ := k3.typed k e.symm; exact hnb (by decide) h1 hk, fun cur fr h1 => hnb (by decide) h1 hk⟩
  · exact own_wb hcv hs fun k hk e => by obtain ⟨_, _, _, h1⟩ := own_typed hcv k e.symm; exact hnb (by decide) h1 hk
  · intro e
    rcases k4 with k4 | ⟨k', k4, k5⟩
    · exact h.apart k hk (by rw [← k4]; exact e)
    · rw [k4] at e; cases e
      obtain ⟨_, _, _, h1⟩ := h.keys.typed _ hk
      have := (Array.getElem?_eq_some_iff.1 h1).1
      omega
  · obtain ⟨vs, h1, _⟩ := k3
    obtain ⟨a, c, e⟩ := own_slice h1
    exact ⟨a, c, by rw [e]; simp⟩
/-- .. or its kid -/
theorem nod_kid {B nb : Nat} {w : World} {n : Nd} {kv vv cv : Value} (m : Nat) (h : Nod B nb w n kv vv cv) (hlen : (n.kids.length + 1) * 8 ≤ lim) (hB : B ≤ w.heap.size) :
    ∃ u w', (Builtin.append_ #[29, 29] 29 #[cv, .slice (some ⟨w.heap.size, 0, none⟩) 1 1]).run Try.prog (w.alloc (.cells #[.int .i64 m] 3)) = .ok u w' ∧ Wb (fun k => some k = cv.ownBlock) w w' ∧
      Nod B nb (w'.setCell ⟨nb, 3, none⟩ u) ⟨n.leaf, n.keys, n.vals, n.kids ++ [(m : Int)]⟩ kv vv u ∧ w'.cell? ⟨nb, 3, none⟩ = some cv ∧ w'.frozen? ⟨nb, 3, none⟩ = false ∧ ∃ a c, u = .slice a (n.kids.length + 1) c := by
  have hup := up_alloc w (.cells #[.int .i64 (m : Int)] 3)
  obtain ⟨u, w', k1, k2', k3, _, k4⟩ := run_app (P := Try.prog) 29 29 Try.underlying29 Try.info3 rfl (by decide) (own_keep h.kids hup (Nat.le_refl _)) (row_one (w := w) (x := .int .i64 (m : Int)) (e := 3)) (by simp [Value.oneCell']) (by unfold lim at hlen; unfold maxLen; omega) (by unfold lim at hlen; omega) (Nat.le_trans hB hup.size)
  have k2 := (Wb.of_below (fun k => some k = cv.ownBlock) hup).trans (Wb.of_grown k3)
  have hnk : ∀ k, some k = cv.ownBlock → ∃ cur fr, w.heap[k]? = some (.cells cur 3 fr) := fun k hk => (own_typed h.kids k hk.symm).2
  have hat : w'.heap[nb]? = some (.cells #[.bool n.leaf, kv, vv, cv] 37 (0, 0)) := by
    rw [k2.block nb h.lt fun e => by obtain ⟨_, _, h1⟩ := hnk nb e; exact absurd (typed_ne h1 h.at_) (by decide)]; exact h.at_
  have hs := Wb.set (X := fun k => k = nb) w' nb 3 u rfl
  have hob : ∀ {v : Value} {ls : List (List UInt8)}, Obb 0 B w v ls → Obb 0 B w' v ls := fun ho => ho.wb k2 fun k hk => ⟨fun e => by
    obtain ⟨_, _, h2⟩ := hnk k hk
    obtain ⟨_, _, _, h1⟩ := ho.typed k e.symm
    exact absurd (typed_ne h1 h2) (by decide), fun cur fr h1 => by obtain ⟨_, _, h2⟩ := hnk k hk; exact absurd (typed_ne h1 h2) (by decide)⟩
  have hnb : ∀ {e : TypeId} {k : Nat} {cur fr}, e ≠ 37 → w'.heap[k]? = some (.cells cur e fr) → k ≠ nb := by
    rintro e k cur fr he h1 rfl
    exact he (typed_ne h1 hat)
  have hob2 : ∀ {v : Value} {ls : List (List UInt8)}, Obb 0 B w' v ls → Obb 0 B (w'.setCell ⟨nb, 3, none⟩ u) v ls := fun ho => ho.wb hs fun k hk => ⟨fun e => by obtain ⟨_, _, _, h1⟩ := ho.typed k e.symm; exact hnb (by decide) h1 hk, fun cur fr h1 => hnb (by decide) h1 hk⟩
  refine ⟨u, w', k1, k2, ⟨by rw [cells4_set hat]; rfl, hob2 (hob h.keys), hob2 (hob h.vals), ?_, h.apart⟩, (cells4_get hat).1.2.2.2, (cells4_get hat).2 3, ?_⟩
  · have := own_wb k2' hs fun k hk e => by obtain ⟨_, _, _, h1⟩ := own_typed k2' k e.symm; exact hnb (by decide) h1 hk
    rw [iv_append, List.length_append]; exact this
  · exact own_slice k2'
/-- a node as it is read -/
theorem Nod.rn {B nb : Nat} {w : World} {n : Nd} {kv vv cv : Value} (h : Nod B nb w n kv vv cv) (h1 : n.keys.length * 24 ≤ lim) (h2 : n.vals.length * 24 ≤ lim) (h3 : n.kids.length * 8 ≤ lim) (h4 : ∀ x ∈ n.kids, -9223372036854775808 ≤ x ∧ x ≤ 9223372036854775807) : RN (Ty w) w (.agg #[.bool n.leaf, kv, vv, cv]) n :=
  ⟨kv, vv, cv, rfl, h.keys.mono0.ty h1, h.vals.mono0.ty h2, row_ty h.kids (.inl rfl), h3, h4⟩
end Go.Proofs.Ytfmbbpfklhkljaa
