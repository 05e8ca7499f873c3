/- The twin's box lies apart from the twin. -/
import Derived.Test.YtpgpncngamagdaaTP
set_option linter.unusedVariables false
set_option linter.unusedSimpArgs false
namespace Go.Proofs.Ytpgpncngamagdaa
open Go.RowKit
/-- the empty box of a reference's drive -/
def zb : Array Value := #[.slice none 0 0, .slice none 0 0, .int .i64 0, .int .i64 0, .bool false]
theorem zb_cell {w : World} {x o : Nat} {u : Value} (hx : w.heap[x]? = some (.cells zb 51 (0, 0))) (h : w.cell? ⟨x, o, none⟩ = some u) : u ∈ zb.toList := by
  simp only [World.cell?, hx] at h
  rw [Option.isSome_none, if_neg (by decide)] at h
  exact Array.mem_toList_iff.2 (Array.mem_of_getElem? h)
theorem Row.less {sz n x : Nat} {D : Nat → Prop} {w : World} {v : Value} {vs : List Value} (h : Row sz D w v n vs) (hx : w.heap[x]? = some (.cells zb 51 (0, 0))) (hv : ∀ u ∈ vs, u ∉ zb.toList) : Row sz (fun k => D k ∧ k ≠ x) w v n vs := by
  obtain ⟨hl, a, c, rfl, hc, ha, H⟩ := h
  refine ⟨hl, a, c, rfl, hc, ha, fun j u hj => ?_⟩
  obtain ⟨b', o, ha, hB, hu⟩ := H j u hj
  refine ⟨b', o, ha, ⟨hB, fun e => ?_⟩, hu⟩
  subst e
  exact hv u (List.mem_iff_getElem?.2 ⟨j, hj⟩) (zb_cell hx hu)
theorem Bs.less {x : Nat} {D : Nat → Prop} {w : World} {v : Value} {l : List UInt8} (h : Bs D w v l) (hx : w.heap[x]? = some (.cells zb 51 (0, 0))) : Bs (fun k => D k ∧ k ≠ x) w v l :=
  ⟨h.1.less hx fun u hu => by
    unfold bv at hu
    obtain ⟨y, _, rfl⟩ := List.mem_map.1 hu
    simp [zb], h.2⟩
theorem FI.less {x k : Nat} {D : Nat → Prop} {w : World} {F : Fl} (h : FI D w k F) (hx : w.heap[x]? = some (.cells zb 51 (0, 0))) : FI (fun k => D k ∧ k ≠ x) w k F ∧ k ≠ x := by
  obtain ⟨es, c, he⟩ := h.ismap
  obtain ⟨hs, g, hm, hf⟩ := h
  refine ⟨⟨hs, g, hm, fun s => ?_⟩, fun e => ?_⟩
  · rcases hf s with h1 | ⟨v, l, h1, h2, h3⟩
    · exact .inl h1
    · exact .inr ⟨v, l, h1, h2, h3.less hx⟩
  · subst e; rw [hx] at he; cases he
theorem FilesIs.less {x : Nat} {M D : Nat → Prop} {w : World} {m : Option Nat} {F : Fl} (h : FilesIs M D w m F) (hx : w.heap[x]? = some (.cells zb 51 (0, 0))) : FilesIs (fun k => M k ∧ k ≠ x) (fun k => D k ∧ k ≠ x) w m F := by
  rcases h with h | ⟨k, e, hm, hF⟩
  · exact .inl h
  · exact .inr ⟨k, e, ⟨hm, (hF.less hx).2⟩, (hF.less hx).1⟩
theorem DrIs.less {x b : Nat} {M D : Nat → Prop} {w : World} {d : Dm} (h : DrIs M D w b d) (hx : w.heap[x]? = some (.cells zb 51 (0, 0))) : DrIs (fun k => M k ∧ k ≠ x) (fun k => D k ∧ k ≠ x) w b d ∧ b ≠ x := by
  obtain ⟨⟨ms, mv, q, hb, h1, h2, ⟨vs, h3, h3'⟩, h4⟩, hD, hM, hl⟩ := h
  refine ⟨⟨⟨ms, mv, q, hb, h1.less hx, h2.less hx, ⟨vs, h3.less hx fun u hu => ?_, fun i a c => ?_⟩, h4⟩, fun k hk => ⟨(hD k hk.1).1, fun hm => (hD k hk.1).2.1 hm.1, (hD k hk.1).2.2⟩, fun k hk => hM k hk.1, hl⟩, fun e => ?_⟩
  · obtain ⟨i, hi, rfl⟩ := List.mem_iff_getElem.1 hu
    have hlen := h3.1
    obtain ⟨t, p, e⟩ := (h3' i (by omega) hi).ifc
    rw [e]; simp [zb]
  · have hd := h3' i a c
    generalize d.queue[i] = y at hd ⊢
    cases y with
    | write n j l => obtain ⟨u, e1, e2, e3⟩ := hd; exact ⟨u, e1, e2.less hx, e3⟩
    | trim => exact hd
    | ren => exact hd
    | rem => exact hd
  · subst e; rw [hx] at hb; simp [zb] at hb
theorem Pr.made2 {w0 wr we W9 : World} {b1 x1 b2 x2 : Nat} {d : Dm} {r : Rd} {M1 D1 A1 M2 D2 : Nat → Prop} {vb : Array Value} (h : Sl w0 b1 x1 d r M1 D1 A1 vb wr) (ha : ∀ k, A1 k → k < wr.heap.size) (hb : Below wr.heap.size wr we) (hM : ∀ k, M2 k → wr.heap.size ≤ k) (hD : ∀ k, D2 k → D1 k ∨ wr.heap.size ≤ k) (hd : DrIs M2 D2 we b2 d) (hb2 : wr.heap.size ≤ b2)
    (hx2 : wr.heap.size ≤ x2) (hx : we.heap[x2]? = some (.cells zb 51 (0, 0))) (h9 : Wb (fun k => k = x2) we W9) (hxW : W9.heap[x2]? = some (.cells vb 51 (0, 0))) : Pr w0 b1 x1 d r M1 D1 A1 vb b2 x2 d r (fun k => M2 k ∧ k ≠ x2) (fun k => D2 k ∧ k ≠ x2) A1 vb W9 := by
  have l1 := h.blt
  have z1 := hb.size
  have z0 := h.bl.size
  obtain ⟨hd', hbx⟩ := hd.less hx
  have h9b : Below wr.heap.size we W9 := h9.below z1 fun k hk => by omega
  have hbW : Below wr.heap.size wr W9 := hb.trans h9b
  have s1 : Sl w0 b1 x1 d r M1 D1 A1 vb W9 := h.up hbW
  refine ⟨s1, ⟨s1.bl, hd'.keep h9 fun k hk => ⟨fun hm => hm.2 hk, fun hm => hm.2 hk, fun e => hbx (e.symm.trans hk)⟩, s1.rf, hxW, fun k hk => ⟨by have := hM k hk.1; omega, hk.2⟩, fun k hk => hk.2, fun k hk => ⟨fun hm => by have := ha k hk; have := hM k hm.1; omega, by have := ha k hk; omega, by have := ha k hk; omega⟩, ⟨by omega, hbx⟩, by omega⟩, fun k hk => Nat.lt_of_lt_of_le (ha k hk) hbW.size, fun k hk => Nat.lt_of_lt_of_le (ha k hk) hbW.size, fun k hk => ?_, fun k hk => ?_⟩
  · have hk1 : k < wr.heap.size := by
      rcases hk with hk | hk | hk
      · omega
      · omega
      · exact (h.dr.hM k hk).1
    refine ⟨by omega, by omega, fun hm => by have := hM k hm.1; omega, fun hm => ?_, fun hm => ?_⟩
    · rcases hD k hm.1 with h2 | h2
      · rcases hk with hk | hk | hk
        · exact (h.dr.hD k h2).2.2 hk
        · exact h.hD k h2 hk
        · exact (h.dr.hD k h2).2.1 hk
      · omega
    · have := h.hA k hm
      rcases hk with hk | hk | hk
      · exact this.2.1 hk
      · exact this.2.2 hk
      · exact this.1 hk
  · have hk1 : wr.heap.size ≤ k := by
      rcases hk with hk | hk | hk
      · omega
      · omega
      · exact hM k hk.1
    exact ⟨by omega, by omega, fun hm => by have := (h.dr.hM k hm).1; omega, fun hm => by have := (h.dr.hD k hm).1; omega, fun hm => by have := ha k hm; omega⟩
/-- a box just laid -/
def UL.zbox (B : Nat) : UL := ⟨⟨fun v => ∃ g : Nat, v = .pointer (some ⟨g, 0, none⟩), fun v w => ∃ g : Nat, v = .pointer (some ⟨g, 0, none⟩) ∧ B ≤ g ∧ w.heap[g]? = some (.cells zb 51 (0, 0))⟩,
  fun _ w w' ⟨g, h1, h3, h2⟩ hb => ⟨g, h1, h3, by rw [hb.block g (Array.getElem?_eq_some_iff.1 h2).1]; exact h2⟩⟩
/-- a twin just made -/
def UL.twin (B : Nat) (D : Nat → Prop) (d : Dm) : UL := ⟨⟨fun v => ∃ g : Nat, v = .pointer (some ⟨g, 0, none⟩), fun v w => ∃ g : Nat, v = .pointer (some ⟨g, 0, none⟩) ∧ B ≤ g ∧ ∃ M2 D2 : Nat → Prop, (∀ k, M2 k → B ≤ k) ∧ (∀ k, D2 k → D k ∨ B ≤ k) ∧ DrIs M2 D2 w g d⟩,
  fun _ w w' ⟨g, h1, h3, M2, D2, h4, h5, h6⟩ hb => ⟨g, h1, h3, M2, D2, h4, h5, h6.below hb⟩⟩
theorem exec_alloc51 {w : World} {o : Oper} {a : Act} (ho : o.op = .alloc 51) : (execOp a.eval o).run Try.prog w = .ok (.value (.pointer (some ⟨w.heap.size, 0, none⟩))) (w.alloc (.cells zb 51)) := by
  unfold execOp
  simp only [ho]
  simp [go_sem, zb]
end Go.Proofs.Ytpgpncngamagdaa
