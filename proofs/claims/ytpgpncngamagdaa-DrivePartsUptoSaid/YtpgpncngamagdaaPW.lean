/- groynelaw04.play: how things stand amid an act. -/
import Derived.Test.YtpgpncngamagdaaPV
import Derived.Test.YtpgpncngamagdaaDD
import Derived.Test.YtpgpncngamagdaaRO
set_option linter.unusedVariables false
set_option linter.unusedSimpArgs false
namespace Go.Proofs.Ytpgpncngamagdaa
open Go.RowKit
theorem Wb.trans' {X Y : Nat → Prop} {a b c : World} (h : Wb X a b) (k : Wb Y b c) (hY : ∀ i, Y i → X i ∨ a.heap.size ≤ i) : Wb X a c :=
  ⟨k.os.trans h.os, k.tape.trans h.tape, k.output.trans h.output, Nat.le_trans h.size k.size, fun i hi hx => (k.block i (Nat.lt_of_lt_of_le hi h.size) fun hy => (hY i hy).elim hx fun h2 => by omega).trans (h.block i hi hx)⟩
/-- amid an act: the drive, the reference's drive in its box, the act's box, the box of the answer, the bytes that were handed in -/
structure Pm (M D A Aa : Nat → Prop) (w : World) (b : Nat) (g : Value) (l : By) (M1 D1 A1 : Nat → Prop) (d : Dm) (r : Rd) (vb va : Array Value) (wx : World) : Prop where
  wb : Wb (fun k => k = b ∨ M k) w wx
  dr : DrIs M1 D1 wx b d
  rf : Rf A1 wx (.agg vb) r
  bx : wx.heap[w.heap.size]? = some (.cells vb 51 (0, 0))
  ax : wx.heap[w.heap.size + 1]? = some (.cells va 55 (0, 0))
  zx : wx.heap[w.heap.size + 2]? = some (.cells #[.slice none 0 0, .slice none 0 0, .int .i64 0, .int .i64 0, .bool false] 51 (0, 0))
  gv : Ob 5 (w.heap.size + 3) wx g l
  iM : ∀ k, M1 k → M k ∨ w.heap.size + 3 ≤ k
  iD : ∀ k, D1 k → D k ∨ w.heap.size + 3 ≤ k
  iA : ∀ k, A1 k → A k ∨ Aa k ∨ w.heap.size + 3 ≤ k
  nM : ∀ k, M1 k → g.ownBlock ≠ some k
  nD : ∀ k, D1 k → g.ownBlock ≠ some k
  nA : ∀ k, A1 k → g.ownBlock ≠ some k
  hA : ∀ k, A1 k → ¬ M1 k ∧ k ≠ b ∧ k < wx.heap.size
  aw : ∀ k, A1 k → k < w.heap.size ∨ w.heap.size + 3 ≤ k
  m0 : ∀ k, M k → k < w.heap.size
  d0 : ∀ k, D k → k < w.heap.size
  b0 : b < w.heap.size
theorem Pm.sz {M D A Aa : Nat → Prop} {w : World} {b : Nat} {g : Value} {l : By} {M1 D1 A1 : Nat → Prop} {d : Dm} {r : Rd} {vb va : Array Value} {wx : World} (p : Pm M D A Aa w b g l M1 D1 A1 d r vb va wx) : w.heap.size + 2 < wx.heap.size := (Array.getElem?_eq_some_iff.1 p.zx).1
/-- a deed of the drive -/
theorem Pm.drive {M D A Aa : Nat → Prop} {w : World} {b : Nat} {g : Value} {l : By} {M1 D1 A1 : Nat → Prop} {d d' : Dm} {r : Rd} {vb va : Array Value} {wx w2 : World} (p : Pm M D A Aa w b g l M1 D1 A1 d r vb va wx) (hT : Turned M1 D1 wx b d' w2) : ∃ M2 D2, Pm M D A Aa w b g l M2 D2 A1 d' r vb va w2 := by
  obtain ⟨hw, M2, D2, k1, k2, k3⟩ := hT
  have hz := p.sz
  have hwz := hw.size
  have nb : ∀ i, i < 3 → ¬ (w.heap.size + i = b ∨ M1 (w.heap.size + i)) := fun i hi h => by
    rcases h with h | h
    · have := p.b0; omega
    · rcases p.iM _ h with h | h
      · have := p.m0 _ h; omega
      · omega
  have gl := p.gv.lt
  refine ⟨M2, D2, p.wb.trans' hw (fun k hk => ?_), k3, p.rf.wb hw (fun k hk hk2 => ?_), ?_, ?_, ?_, own_wb p.gv hw (fun k hk e => ?_), fun k hk => ?_, fun k hk => ?_, p.iA, fun k hk e => ?_, fun k hk e => ?_, p.nA, fun k hk => ⟨fun hm => ?_, (p.hA k hk).2.1, Nat.lt_of_lt_of_le (p.hA k hk).2.2 hwz⟩, p.aw, p.m0, p.d0, p.b0⟩
  · rcases hk with hk | hk
    · exact .inl (.inl hk)
    · rcases p.iM k hk with h | h
      · exact .inl (.inr h)
      · exact .inr (by omega)
  · have := p.hA k hk2
    rcases hk with hk | hk
    · exact this.2.1 hk
    · exact this.1 hk
  · have nb0 := nb 0 (by omega)
    rw [Nat.add_zero] at nb0
    rw [hw.block _ (by omega) nb0]; exact p.bx
  · rw [hw.block _ (by omega) (nb 1 (by omega))]; exact p.ax
  · rw [hw.block _ (by omega) (nb 2 (by omega))]; exact p.zx
  · have h1 := (gl k e.symm).1
    rcases hk with hk | hk
    · have := p.b0; omega
    · exact p.nM k hk e.symm
  · rcases k1 k hk with h | h
    · exact p.iM k h
    · exact .inr (by omega)
  · rcases k2 k hk with h | h
    · exact p.iD k h
    · exact .inr (by omega)
  · rcases k1 k hk with h | h
    · exact p.nM k h e
    · have := (gl k e).2; omega
  · rcases k2 k hk with h | h
    · exact p.nD k h e
    · have := (gl k e).2; omega
  · rcases k1 k hm with h | h
    · exact (p.hA k hk).1 h
    · have := (p.hA k hk).2.2; omega
/-- an answer of the reference, stored -/
theorem Pm.ref {M D A Aa : Nat → Prop} {w : World} {b : Nat} {g : Value} {l : By} {M1 D1 A1 : Nat → Prop} {d : Dm} {r r' : Rd} {vb vb' va : Array Value} {wx w2 W9 : World} (p : Pm M D A Aa w b g l M1 D1 A1 d r vb va wx) (hb : Below wx.heap.size wx w2) (hv : Rf (fun k => A1 k ∨ wx.heap.size ≤ k) w2 (.agg vb') r') (h9 : Wb (fun k => k = w.heap.size) w2 W9) (hx : W9.heap[w.heap.size]? = some (.cells vb' 51 (0, 0))) : ∃ A2, Pm M D A Aa w b g l M1 D1 A2 d r' vb' va W9 := by
  have hz := p.sz
  have hbz := hb.size
  have h9z := h9.size
  have gl := p.gv.lt
  have hwx : Wb (fun k => k = w.heap.size) wx W9 := (Wb.of_below _ hb).trans h9
  refine ⟨fun k => A1 k ∨ (wx.heap.size ≤ k ∧ k < w2.heap.size), p.wb.trans' hwx (fun k hk => .inr (by omega)), p.dr.keep hwx (fun k hk => ?_), ?_, hx, ?_, ?_, own_wb p.gv hwx (fun k hk e => ?_), p.iM, p.iD, fun k hk => ?_, p.nM, p.nD, fun k hk e => ?_, fun k hk => ?_, fun k hk => ?_, p.m0, p.d0, p.b0⟩
  · subst hk
    refine ⟨fun h => ?_, fun h => ?_, ?_⟩
    · rcases p.iM _ h with h | h
      · have := p.m0 _ h; omega
      · omega
    · rcases p.iD _ h with h | h
      · have := p.d0 _ h; omega
      · omega
    · have := p.b0; omega
  · have h2 := hv.andLt.wb h9 (fun k hk hk2 => by
      subst hk
      rcases hk2.1 with h | h
      · have := p.aw _ h; omega
      · omega)
    exact h2.monoS fun k hk => hk.1.imp id fun h => ⟨h, hk.2⟩
  · rw [hwx.block _ (by omega) (by omega)]; exact p.ax
  · rw [hwx.block _ (by omega) (by omega)]; exact p.zx
  · have h1 := (gl k e.symm).1; omega
  · rcases hk with h | h
    · exact p.iA k h
    · exact .inr (.inr (by omega))
  · rcases hk with h | h
    · exact p.nA k h e
    · have := (gl k e).2; omega
  · rcases hk with h | h
    · have := p.hA k h; exact ⟨this.1, this.2.1, by omega⟩
    · refine ⟨fun hm => ?_, ?_, by omega⟩
      · have := (p.dr.hM k hm).1; omega
      · have := p.b0; omega
  · rcases hk with h | h
    · exact p.aw k h
    · right; omega
/-- behind an act -/
def PyPost (M D A Aa : Nat → Prop) (w : World) (b : Nat) (d' : Dm) (r' : Rd) (ok : Bool) (E : Ending) (w' : World) : Prop :=
  ∃ v', E = .returned (.tuple #[v', .bool ok]) ∧ Wb (fun k => k = b ∨ M k) w w' ∧ ∃ M' D' A' : Nat → Prop, DrIs M' D' w' b d' ∧ Rf A' w' v' r' ∧ (∀ k, M' k → M k ∨ w.heap.size ≤ k) ∧ (∀ k, D' k → D k ∨ w.heap.size ≤ k) ∧ (∀ k, A' k → A k ∨ Aa k ∨ w.heap.size ≤ k) ∧ ∀ k, A' k → ¬ M' k ∧ k ≠ b ∧ k < w'.heap.size
theorem Pm.done {M D A Aa : Nat → Prop} {w : World} {b : Nat} {g : Value} {l : By} {M1 D1 A1 : Nat → Prop} {d : Dm} {r : Rd} {vb va : Array Value} {wx w2 : World} (p : Pm M D A Aa w b g l M1 D1 A1 d r vb va wx) (hw : Wb (fun k => g.ownBlock = some k ∨ k = w.heap.size + 2) wx w2) (ok : Bool) : PyPost M D A Aa w b d r ok (.returned (.tuple #[.agg vb, .bool ok])) w2 := by
  have hz := p.sz
  have hwz := hw.size
  have gl := p.gv.lt
  refine ⟨_, rfl, p.wb.trans' hw (fun k hk => .inr ?_), M1, D1, A1, p.dr.keep hw (fun k hk => ?_), p.rf.wb hw (fun k hk hk2 => ?_), fun k hk => (p.iM k hk).imp id fun h => by omega, fun k hk => (p.iD k hk).imp id fun h => by omega, fun k hk => (p.iA k hk).imp id fun h => h.imp id fun h => by omega, fun k hk => ⟨(p.hA k hk).1, (p.hA k hk).2.1, Nat.lt_of_lt_of_le (p.hA k hk).2.2 hwz⟩⟩
  · rcases hk with hk | hk
    · have := (gl k hk).1; omega
    · omega
  · rcases hk with hk | hk
    · exact ⟨fun h => p.nM k h hk, fun h => p.nD k h hk, by have := (gl k hk).1; have := p.b0; omega⟩
    · subst hk
      refine ⟨fun h => ?_, fun h => ?_, ?_⟩
      · rcases p.iM _ h with h | h
        · have := p.m0 _ h; omega
        · omega
      · rcases p.iD _ h with h | h
        · have := p.d0 _ h; omega
        · omega
      · have := p.b0; omega
  · rcases hk with hk | hk
    · exact p.nA k hk2 hk
    · have := p.aw k hk2; omega
end Go.Proofs.Ytpgpncngamagdaa
