/- Frames of worlds. No program is named here. -/
import Derived.Test.YtojgkjpmphfakaaGreatDoorGR
import Derived.Test.YtojgkjpmphfakaaGreatDoorGL
import Derived.Lib.SliceRun
import Derived.Laws.IdiomCopy
set_option linter.unusedVariables false
set_option linter.unusedSimpArgs false
namespace Go.Proofs.YtojgkjpmphfakaaGreatDoor
open Go.RowKit
theorem size_setCell (w : World) (a : Addr) (u : Value) : (w.setCell a u).heap.size = w.heap.size := by simp [World.setCell]
structure Wb (X : Nat → Prop) (w w' : World) : Prop where
  os : w'.os = w.os
  tape : w'.tape = w.tape
  output : w'.output = w.output
  size : w.heap.size ≤ w'.heap.size
  block : ∀ k, k < w.heap.size → ¬ X k → w'.heap[k]? = w.heap[k]?
theorem Wb.refl (X : Nat → Prop) (w : World) : Wb X w w := ⟨rfl, rfl, rfl, Nat.le_refl _, fun _ _ _ => rfl⟩
theorem Wb.trans {X : Nat → Prop} {a b c : World} (h : Wb X a b) (k : Wb X b c) : Wb X a c :=
  ⟨k.os.trans h.os, k.tape.trans h.tape, k.output.trans h.output, Nat.le_trans h.size k.size, fun i hi hx => (k.block i (Nat.lt_of_lt_of_le hi h.size) hx).trans (h.block i hi hx)⟩
theorem Wb.mono {X Y : Nat → Prop} {a b : World} (h : Wb X a b) (hXY : ∀ k, X k → Y k) : Wb Y a b := ⟨h.os, h.tape, h.output, h.size, fun i hi hx => h.block i hi fun e => hx (hXY i e)⟩
theorem Wb.of_grown {w w' : World} {g : Option Nat} (h : w.grownBy w' g) : Wb (fun k => some k = g) w w' := ⟨h.os, h.tape, h.output, h.size, fun i hi hx => h.block i hi hx⟩
theorem Wb.of_below {w w' : World} (X : Nat → Prop) (h : Below w.heap.size w w') : Wb X w w' := ⟨h.os, h.tape, h.output, h.size, fun i hi _ => h.block i hi⟩
theorem Wb.below {X : Nat → Prop} {w w' : World} {D : Nat} (h : Wb X w w') (hD : D ≤ w.heap.size) (hX : ∀ k, X k → D ≤ k) : Below D w w' :=
  ⟨h.os, h.tape, h.output, h.size, fun i hi => h.block i (by omega) fun e => by have := hX i e; omega⟩
theorem Wb.set {X : Nat → Prop} (w : World) (b o : Nat) (u : Value) (hb : X b) : Wb X w (w.setCell ⟨b, o, none⟩ u) :=
  ⟨rfl, rfl, rfl, by rw [size_setCell]; exact Nat.le_refl _, fun i hi hx => Below.heap_setCell _ _ _ _ (fun e => hx (by rw [e]; exact hb))⟩
theorem own_wb {X : Nat → Prop} {B size n : Nat} {e : TypeId} {w w' : World} {v : Value} {vs : List Value} (h : w.ownsRow B e size v n vs) (hb : Wb X w w') (hX : ∀ k, X k → some k ≠ v.ownBlock) : w'.ownsRow B e size v n vs := by
  obtain ⟨h0, h | ⟨g, cap, cur, hv, hbg, hg, r⟩⟩ := h
  · exact ⟨h0, .inl h⟩
  · refine ⟨h0, .inr ⟨g, cap, cur, hv, hbg, ?_, r⟩⟩
    rw [hb.block g (Array.getElem?_eq_some_iff.1 hg).1 (fun e => hX g e (by rw [hv]; rfl))]; exact hg
theorem own_typed {B size n : Nat} {e : TypeId} {w : World} {v : Value} {vs : List Value} (h : w.ownsRow B e size v n vs) : ∀ k, v.ownBlock = some k → B ≤ k ∧ ∃ cur fr, w.heap[k]? = some (.cells cur e fr) := by
  obtain ⟨_, h | ⟨g, cap, cur, hv, hb, hg, _⟩⟩ := h
  · intro k hk; rw [h.1] at hk; cases hk
  · intro k hk; rw [hv] at hk; cases hk; exact ⟨hb, cur, _, hg⟩
theorem setCells_heap {b : Nat} {e : TypeId} {fr : Nat × Nat} : ∀ (vs : List Value) (o : Nat) {w : World} {cur : Array Value}, w.heap[b]? = some (.cells cur e fr) → o + vs.length ≤ cur.size →
    (w.setCells b o vs).heap[b]? = some (.cells (cur.toList.take o ++ vs ++ cur.toList.drop (o + vs.length)).toArray e fr)
  | [], o, w, cur, h, _ => by simpa [World.setCells] using h
  | v :: r, o, w, cur, h, hl => by
    have hl : o + (r.length + 1) ≤ cur.size := hl
    have h1 : (w.setCell ⟨b, o, none⟩ v).heap[b]? = some (.cells (cur.setIfInBounds o v) e fr) := by
      have hlt := (Array.getElem?_eq_some_iff.1 h).1
      have h2 := (Array.getElem?_eq_some_iff.1 h).2
      simp [World.setCell, hlt, Array.getElem_modify, h2]
    have h2 := setCells_heap r (o + 1) h1 (by simp; omega)
    rw [World.setCells, h2]
    congr 2
    rw [Array.toList_setIfInBounds]
    have e1 : (cur.toList.set o v).take (o + 1) = cur.toList.take o ++ [v] := by
      rw [List.take_succ_eq_append_getElem (by simp; omega), List.take_set_of_le (Nat.le_refl _)]; simp
    have e2 : (cur.toList.set o v).drop (o + 1 + r.length) = cur.toList.drop (o + (v :: r).length) := by
      rw [List.drop_set_of_lt (by omega)]; congr 1; simp; omega
    rw [e1, e2]; simp
theorem setCells_wb {b : Nat} : ∀ (vs : List Value) (o : Nat) (w : World), Wb (fun k => k = b) w (w.setCells b o vs)
  | [], _, w => Wb.refl _ w
  | v :: r, o, w => (Wb.set (X := fun k => k = b) w b o v rfl).trans (setCells_wb r (o + 1) _)
theorem own_fr {B size n : Nat} {e : TypeId} {w w' : World} {v : Value} {vs : List Value} (h : w.ownsRow B e size v n vs) (hw : ∀ k, v.ownBlock = some k → w'.heap[k]? = w.heap[k]?) : w'.ownsRow B e size v n vs := by
  obtain ⟨h0, h | ⟨g', cap', cur, hv, hb, hg, r⟩⟩ := h
  · exact ⟨h0, .inl h⟩
  · exact ⟨h0, .inr ⟨g', cap', cur, hv, hb, by rw [hw g' (by rw [hv]; rfl)]; exact hg, r⟩⟩
theorem Row.cutToN {sz : Nat} {A : Nat → Prop} {w : World} {a : Option Addr} {n m c : Nat} {vs : List Value} (h : Row sz A w (.slice a n c) n vs) (hm : m ≤ n) : Row sz A w (.slice a m c) m (vs.take (m * sz)) := by
  obtain ⟨hl, a', c', hv, hc, ha, H⟩ := h
  cases hv
  refine ⟨by rw [List.length_take, hl]; exact Nat.min_eq_left (Nat.mul_le_mul_right _ hm), a, c, rfl, by omega, ha, fun j u hj => H j u ?_⟩
  rw [List.getElem?_take] at hj
  split at hj
  · exact hj
  · cases hj
theorem Row.cutOffN {sz : Nat} {A : Nat → Prop} {w : World} {b o n m c : Nat} {vs : List Value} (h : Row sz A w (.slice (some ⟨b, o, none⟩) n c) n vs) (hm : m ≤ n) : Row sz A w (.slice (some ⟨b, o + m * sz, none⟩) (n - m) (c - m)) (n - m) (vs.drop (m * sz)) := by
  obtain ⟨hl, a', c', hv, hc, ha, H⟩ := h
  cases hv
  refine ⟨by rw [List.length_drop, hl, Nat.sub_mul], _, _, rfl, by omega, by simp, fun j u hj => ?_⟩
  rw [List.getElem?_drop] at hj
  obtain ⟨b', o', he, hA, hu⟩ := H _ _ hj
  cases he
  exact ⟨b, o + m * sz, rfl, hA, by rw [← hu, Nat.add_assoc]⟩
theorem Row.voidN {sz : Nat} {A : Nat → Prop} {w : World} {a : Option Addr} {c : Nat} (h : a = none → c = 0) : Row sz A w (.slice a 0 c) 0 [] := ⟨by simp, a, c, rfl, by omega, h, fun j u hj => by simp at hj⟩
theorem Row.slicedN {sz : Nat} (hsz : 0 < sz) {A : Nat → Prop} {w : World} {a : Option Addr} {n c l h : Nat} {vs : List Value} (hr : Row sz A w (.slice a n c) n vs) (hl : l ≤ h) (hh : h ≤ n) :
    ∃ a' c', Go.sliced a l h c sz = .slice a' (h - l) c' ∧ Row sz A w (.slice a' (h - l) c') (h - l) ((vs.take (h * sz)).drop (l * sz)) := by
  have hvl : vs.length = n * sz := hr.1
  have hv : ∀ h' : h - l = 0, ∀ a' c', (a' = none → c' = 0) → Row sz A w (.slice a' (h - l) c') (h - l) ((vs.take (h * sz)).drop (l * sz)) := by
    intro h' a' c' hn
    have e : h = l := by omega
    subst e
    rw [h', List.drop_of_length_le (by rw [List.length_take]; omega)]
    exact Row.voidN hn
  have hc : n ≤ c := by obtain ⟨_, _, _, hv, hc, _⟩ := hr; cases hv; exact hc
  have ha : a = none → c = 0 := by obtain ⟨_, _, _, hv, _, ha, _⟩ := hr; cases hv; exact ha
  unfold Go.sliced
  by_cases h1 : c = l
  · rw [if_pos h1]
    exact ⟨a, c - l, rfl, hv (by omega) _ _ (fun _ => by omega)⟩
  · rw [if_neg h1]
    cases a with
    | none => have := ha rfl; omega
    | some p =>
      refine ⟨_, _, rfl, ?_⟩
      by_cases h2 : h - l = 0
      · exact hv h2 _ _ (fun h => by cases h)
      · have h3 := hr.cutToN hh
        have hp : ∃ b o, p = ⟨b, o, none⟩ := by
          obtain ⟨_, _, _, hv', _, _, H⟩ := hr
          cases hv'
          have hn : 0 < n := by omega
          have : 0 < vs.length := by rw [hvl]; exact Nat.mul_pos hn hsz
          obtain ⟨b, o, he, _⟩ := H 0 (vs[0]'this) (by simp)
          exact ⟨b, o, Option.some.inj he⟩
        obtain ⟨b, o, rfl⟩ := hp
        have h4 := h3.cutOffN hl
        have e : (⟨b, o, none⟩ : Addr).add (l * sz) = ⟨b, o + l * sz, none⟩ := addr_add b o _
        rw [Option.map_some, e]
        exact h4
section
variable {P : Program} {t : TypeId} {A : Nat → Prop} {w : World} {a : Option Addr} {n c sz : Nat} {vs : List Value}
theorem row_loN (ht : P.underlying t = some (.slice (P.elem t))) (hz : ∀ w, (sizeOf (P.elem t)).run P w = .ok sz w) (hsz : 0 < sz) (hr : Row sz A w (.slice a n c) n vs) (l : Nat) (hl : l ≤ n) :
    ∃ a' c', (∀ w, (Instr.slice t (.slice a n c) (some (.int .i64 (l : Int))) none none).run P w = .ok (.slice a' (n - l) c') w) ∧ Row sz A w (.slice a' (n - l) c') (n - l) (vs.drop (l * sz)) := by
  obtain ⟨a', c', h1, h2⟩ := hr.slicedN hsz (l := l) (h := n) hl (Nat.le_refl _)
  refine ⟨a', c', fun w => ?_, by rwa [List.take_of_length_le (Nat.le_of_eq hr.1)] at h2⟩
  rw [run_slice_l w t a n c ht .i64 (l : Int) (by omega) (by omega), hz]
  simp only [Result.andThen, Int.toNat_natCast, h1]
theorem row_hiN (ht : P.underlying t = some (.slice (P.elem t))) (hz : ∀ w, (sizeOf (P.elem t)).run P w = .ok sz w) (hsz : 0 < sz) (hr : Row sz A w (.slice a n c) n vs) (h : Nat) (hh : h ≤ n) :
    ∃ a' c', (∀ w, (Instr.slice t (.slice a n c) none (some (.int .i64 (h : Int))) none).run P w = .ok (.slice a' h c') w) ∧ Row sz A w (.slice a' h c') h (vs.take (h * sz)) := by
  obtain ⟨a', c', h1, h2⟩ := hr.slicedN hsz (l := 0) (h := h) (Nat.zero_le _) hh
  have hc : n ≤ c := by obtain ⟨_, _, _, hv, hc, _⟩ := hr; cases hv; exact hc
  refine ⟨a', c', fun w => ?_, by simpa using h2⟩
  rw [run_slice_h w t a n c ht .i64 (h : Int) (by omega) (by omega), hz]
  simp only [Result.andThen, Int.toNat_natCast, h1, Nat.sub_zero]
end
/-- an own row, read: its block is the call's own -/
theorem Row.of_ownB {B size n : Nat} {e : TypeId} {w : World} {v : Value} {vs : List Value} (h : w.ownsRow B e size v n vs) : Row size (fun k => B ≤ k) w v n vs := by
  obtain ⟨hl, h | ⟨g, cap, cur, hv, hb, hg, hn, hm, hs, ht⟩⟩ := h
  · obtain ⟨rfl, rfl⟩ := h
    have : vs = [] := List.eq_nil_of_length_eq_zero (by simpa using hl)
    subst this
    exact ⟨hl, none, 0, rfl, Nat.le_refl _, fun _ => rfl, fun j u hj => by simp at hj⟩
  · refine ⟨hl, _, _, hv, hn, by simp, fun j u hj => ⟨g, 0, rfl, hb, ?_⟩⟩
    rw [← ht, List.getElem?_take] at hj
    split at hj
    · simp only [World.cell?, hg, Nat.zero_add]; simpa using hj
    · cases hj
theorem own_sliceN {B n sz : Nat} {e : TypeId} {w : World} {v : Value} {xs : List Value} (h : w.ownsRow B e sz v n xs) : ∃ a c, v = .slice a n c := by
  rcases h.2 with ⟨rfl, rfl⟩ | ⟨g, cap, cur, rfl, _⟩
  · exact ⟨_, _, rfl⟩
  · exact ⟨_, _, rfl⟩
theorem own_grown_ne {B B' n m sz : Nat} {e e' : TypeId} {w w' : World} {v u : Value} {xs ys : List Value} (h : w.ownsRow B e sz v n xs) {sz' : Nat} (h' : w.ownsRow B' e' sz' u m ys) (hg : w.grownBy w' u.ownBlock) (hne : e ≠ e') : w'.ownsRow B e sz v n xs :=
  own_wb h (Wb.of_grown hg) fun k hk e1 => by
    obtain ⟨_, _, _, h1⟩ := own_typed h k e1.symm
    obtain ⟨_, _, _, h2⟩ := own_typed h' k hk.symm
    rw [h1] at h2
    simp only [Option.some.injEq, Obj.cells.injEq] at h2
    exact hne h2.2.1
theorem drew_blx (w : World) (B : Nat) : Below B w w.drew := ⟨rfl, rfl, rfl, Nat.le_refl _, fun _ _ => rfl⟩
theorem mx_storex {P : Program} {ops : Array Oper} {C : World → Prop} {Q : Act → World → Prop} {o : Oper} {rest : List Oper} {a : Act} {w w' : World} (hp : plainB o = false) (hw : Region.wanted o (yielded ops a.tmps) = true) (h : (execOp a.eval o).run P w = .ok .skip w') (hC : C w')
    (hn : wpMix P ops C Q rest (a.put o.dst undef) w') : wpMix P ops C Q (o :: rest) a w := by
  show pmix P ops C o a w _
  unfold pmix
  rw [if_pos hw, if_neg (by rw [hp]; decide), h]
  exact ⟨hC, hn⟩
theorem cl2_get {w : World} {b : Nat} {x0 x1 : Value} {e : TypeId} (h : w.heap[b]? = some (.cells #[x0, x1] e (0, 0))) : (w.cell? ⟨b, 0, none⟩ = some x0 ∧ w.cell? ⟨b, 1, none⟩ = some x1) ∧ ∀ i, w.frozen? ⟨b, i, none⟩ = false :=
  ⟨⟨by simp only [World.cell?, h]; rfl, by simp only [World.cell?, h]; rfl⟩, fun i => by simp only [World.frozen?, h]; simp⟩
theorem cl2_set {w : World} {b o : Nat} {x0 x1 u : Value} {e : TypeId} (h : w.heap[b]? = some (.cells #[x0, x1] e (0, 0))) : (w.setCell ⟨b, o, none⟩ u).heap[b]? = some (.cells (#[x0, x1].setIfInBounds o u) e (0, 0)) := by
  rw [heap_setCell_same w b o _ e u h]
theorem Row.toLtN {sz : Nat} {n : Nat} {A : Nat → Prop} {w : World} {v : Value} {vs : List Value} (h : Row sz A w v n vs) : Row sz (Lt w.heap.size) w v n vs := by
  obtain ⟨hl, a, c, rfl, hc, ha, H⟩ := h
  refine ⟨hl, a, c, rfl, hc, ha, fun j u hj => ?_⟩
  obtain ⟨b, o, h1, h2, h3⟩ := H j u hj
  exact ⟨b, o, h1, World.block_lt_of_cell? w ⟨b, o + j, none⟩ h3, h3⟩
/-- walks in any order whose deeds keep a relation T0 -/
structure Wy (T0 : World → World → Prop) (V : World) where
  nx : World
  ok : T0 V nx
def GY (T0 : World → World → Prop) := {V : Lw // ∀ v w w', V.led v w → T0 w w' → V.led v w'}
def yul (T0 : World → World → Prop) : List (Nat × GY T0) → Nat → Option Lw
  | [], _ => none
  | (k, V) :: l, s => if s = k then some V.1 else yul T0 l s
theorem yul_up (T0 : World → World → Prop) : ∀ (l : List (Nat × GY T0)) {s : Nat} {V : Lw}, yul T0 l s = some V → ∀ v w w', V.led v w → T0 w w' → V.led v w'
  | [], s, V, h => by cases h
  | (k, U) :: l, s, V, h => by
    unfold yul at h
    split at h
    · cases h; exact U.2
    · exact yul_up T0 l h
theorem yul_ck {T0 : World → World → Prop} (ht : ∀ a b c, T0 a b → T0 b c → T0 a c) {V : World} (l : List (Nat × GY T0)) : Ck T0 (fun w' => ∃ p : Wy T0 V, w' = p.nx) (yul T0 l) :=
  ⟨fun h k => ht _ _ _ h k, fun ⟨p, hp⟩ h => ⟨⟨_, ht _ _ _ p.ok (by subst hp; exact h)⟩, rfl⟩, fun {s V v w w'} h1 h2 h3 => yul_up T0 l h1 v w w' h2 h3⟩
def GY.is (T0 : World → World → Prop) (v : Value) : GY T0 := ⟨⟨(· = v), fun _ _ => True⟩, fun _ _ _ _ _ => trivial⟩
theorem Row.butNe {sz n b : Nat} {w w' : World} {v : Value} {vs : List Value} (h : Row sz (fun k => k ≠ b) w v n vs) (hk : CellsBut b w w') : Row sz (fun k => k ≠ b) w' v n vs := by
  obtain ⟨hl, a, c, rfl, hc, ha, H⟩ := h
  refine ⟨hl, a, c, rfl, hc, ha, fun j x hj => ?_⟩
  obtain ⟨b', o, ha, hB, hx⟩ := H j x hj
  refine ⟨b', o, ha, hB, ?_⟩
  simp only [World.cell?] at hx ⊢
  cases hh : w.heap[b']? with
  | none => rw [hh] at hx; cases hx
  | some ob =>
    rw [hh] at hx
    cases ob with
    | cells c e' fr' => rw [hk b' c e' fr' hB hh]; exact hx
    | _ => cases hx
theorem own_pre {e : TypeId} {B : Nat} {w : World} {g n m cap : Nat} {l : List UInt8} (h : Ob e B w (.slice (some ⟨g, 0, none⟩) n cap) l) (hm : m ≤ n) : Ob e B w (.slice (some ⟨g, 0, none⟩) m cap) (l.take m) := by
  have hn := h.len.1
  obtain ⟨h0, h | ⟨g', cap', cur, hv, hb, hg, h1, h2, h3, h4⟩⟩ := h
  · cases h.1
  · cases hv
    have hl : (l.take m).length = m := by rw [List.length_take]; omega
    refine ⟨by rw [bv_length, Nat.mul_one], .inr ⟨g, cap, cur, by rw [hl], hb, hg, by omega, h2, h3, ?_⟩⟩
    rw [Nat.mul_one] at h4 ⊢
    rw [hl]
    have : bv (l.take m) = (bv l).take m := by simp [bv, List.map_take]
    rw [this, ← h4, List.take_take]
    congr 1; omega
end Go.Proofs.YtojgkjpmphfakaaGreatDoor
