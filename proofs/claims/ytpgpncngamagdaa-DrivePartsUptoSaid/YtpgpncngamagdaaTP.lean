/- Two drives that go their own ways, each beside its reference. -/
import Derived.Test.YtpgpncngamagdaaPZ
import Derived.Test.YtpgpncngamagdaaPY
import Derived.Test.YtpgpncngamagdaaNE
import Derived.Test.YtpgpncngamagdaaDT
set_option linter.unusedVariables false
set_option linter.unusedSimpArgs false
namespace Go.Proofs.Ytpgpncngamagdaa
open Go.RowKit
theorem Sl.other {w0 wr w' : World} {b x : Nat} {d : Dm} {r : Rd} {M D A X : Nat → Prop} {vb : Array Value} (h : Sl w0 b x d r M D A vb wr) (hw : Wb X wr w') (hX : ∀ k, X k → k ≠ b ∧ k ≠ x ∧ ¬ M k ∧ ¬ D k ∧ ¬ A k) (hb : Below w0.heap.size w0 w') : Sl w0 b x d r M D A vb w' :=
  ⟨hb, h.dr.keep hw fun k hk => ⟨(hX k hk).2.2.1, (hX k hk).2.2.2.1, (hX k hk).1⟩, h.rf.wb hw fun k hk => (hX k hk).2.2.2.2,
    by rw [hw.block x (Array.getElem?_eq_some_iff.1 h.bx).1 (fun hk => (hX x hk).2.1 rfl)]; exact h.bx, h.hM, h.hD, h.hA, h.hb, h.hx⟩
structure Pr (w0 : World) (b1 x1 : Nat) (d1 : Dm) (r1 : Rd) (M1 D1 A1 : Nat → Prop) (vb1 : Array Value) (b2 x2 : Nat) (d2 : Dm) (r2 : Rd) (M2 D2 A2 : Nat → Prop) (vb2 : Array Value) (wr : World) : Prop where
  s1 : Sl w0 b1 x1 d1 r1 M1 D1 A1 vb1 wr
  s2 : Sl w0 b2 x2 d2 r2 M2 D2 A2 vb2 wr
  a1 : ∀ k, A1 k → k < wr.heap.size
  a2 : ∀ k, A2 k → k < wr.heap.size
  c1 : ∀ k, (k = b1 ∨ k = x1 ∨ M1 k) → k ≠ b2 ∧ k ≠ x2 ∧ ¬ M2 k ∧ ¬ D2 k ∧ ¬ A2 k
  c2 : ∀ k, (k = b2 ∨ k = x2 ∨ M2 k) → k ≠ b1 ∧ k ≠ x1 ∧ ¬ M1 k ∧ ¬ D1 k ∧ ¬ A1 k
section
variable {w0 wr : World} {b1 x1 b2 x2 : Nat} {d1 d2 : Dm} {r1 r2 : Rd} {M1 D1 A1 M2 D2 A2 : Nat → Prop} {vb1 vb2 : Array Value}
theorem Pr.symm (h : Pr w0 b1 x1 d1 r1 M1 D1 A1 vb1 b2 x2 d2 r2 M2 D2 A2 vb2 wr) : Pr w0 b2 x2 d2 r2 M2 D2 A2 vb2 b1 x1 d1 r1 M1 D1 A1 vb1 wr := ⟨h.s2, h.s1, h.a2, h.a1, h.c2, h.c1⟩
theorem Pr.up {w2 : World} (h : Pr w0 b1 x1 d1 r1 M1 D1 A1 vb1 b2 x2 d2 r2 M2 D2 A2 vb2 wr) (hb : Below wr.heap.size wr w2) : Pr w0 b1 x1 d1 r1 M1 D1 A1 vb1 b2 x2 d2 r2 M2 D2 A2 vb2 w2 :=
  ⟨h.s1.up hb, h.s2.up hb, fun k hk => Nat.lt_of_lt_of_le (h.a1 k hk) hb.size, fun k hk => Nat.lt_of_lt_of_le (h.a2 k hk) hb.size, h.c1, h.c2⟩
theorem Sl.blt {w0 wr : World} {b x : Nat} {d : Dm} {r : Rd} {M D A : Nat → Prop} {vb : Array Value} (h : Sl w0 b x d r M D A vb wr) : b < wr.heap.size ∧ x < wr.heap.size :=
  ⟨(Array.getElem?_eq_some_iff.1 h.dr.ex.choose_spec.choose_spec.choose_spec.1).1, (Array.getElem?_eq_some_iff.1 h.bx).1⟩
/-- an act of the first -/
theorem Pr.play {w2 W9 : World} {d' : Dm} {r' : Rd} {M' D' A' Aa : Nat → Prop} {vb' : Array Value} (h : Pr w0 b1 x1 d1 r1 M1 D1 A1 vb1 b2 x2 d2 r2 M2 D2 A2 vb2 wr) (hAa : ∀ k, Aa k → k < w0.heap.size)
    (hw : Wb (fun k => k = b1 ∨ M1 k) wr w2) (hd : DrIs M' D' w2 b1 d') (hr : Rf A' w2 (.agg vb') r') (iM : ∀ k, M' k → M1 k ∨ wr.heap.size ≤ k) (iD : ∀ k, D' k → D1 k ∨ wr.heap.size ≤ k) (iA : ∀ k, A' k → A1 k ∨ Aa k ∨ wr.heap.size ≤ k) (hA' : ∀ k, A' k → ¬ M' k ∧ k ≠ b1 ∧ k < w2.heap.size)
    (h9 : Wb (fun k => k = x1) w2 W9) (hx9 : W9.heap[x1]? = some (.cells vb' 51 (0, 0))) : Pr w0 b1 x1 d' r' M' D' A' vb' b2 x2 d2 r2 M2 D2 A2 vb2 W9 := by
  have s1 := h.s1.play hAa hw hd hr iM iD iA hA' h9 hx9 (ok := true) (E := .returned (.bool true))
  have hw9 : Wb (fun k => k = b1 ∨ k = x1 ∨ M1 k) wr W9 := (hw.mono fun k hk => hk.imp id .inr).trans (h9.mono fun k hk => .inr (.inl hk))
  have l1 := h.s1.blt
  have l2 := h.s2.blt
  have hz := hw9.size
  have n2 : ∀ k, k = b2 ∨ k = x2 ∨ M2 k ∨ D2 k ∨ A2 k → k < wr.heap.size := fun k hk => by
    rcases hk with hk | hk | hk | hk | hk
    · have := l2.1; omega
    · have := l2.2; omega
    · exact (h.s2.dr.hM k hk).1
    · exact (h.s2.dr.hD k hk).1
    · exact h.a2 k hk
  have o2 : ∀ k, k = b2 ∨ k = x2 ∨ M2 k → w0.heap.size ≤ k := fun k hk => by
    rcases hk with hk | hk | hk
    · have := h.s2.hb.1; omega
    · have := h.s2.hx; omega
    · exact (h.s2.hM k hk).1
  refine ⟨s1, h.s2.other hw9 h.c1 s1.bl, fun k hk => Nat.lt_of_lt_of_le (hA' k hk).2.2 h9.size, fun k hk => Nat.lt_of_lt_of_le (h.a2 k hk) hz, fun k hk => ?_, fun k hk => ?_⟩
  · rcases hk with hk | hk | hk
    · exact h.c1 k (.inl hk)
    · exact h.c1 k (.inr (.inl hk))
    · rcases iM k hk with h1 | h1
      · exact h.c1 k (.inr (.inr h1))
      · refine ⟨fun e => ?_, fun e => ?_, fun e => ?_, fun e => ?_, fun e => ?_⟩
        · have := n2 k (.inl e); omega
        · have := n2 k (.inr (.inl e)); omega
        · have := n2 k (.inr (.inr (.inl e))); omega
        · have := n2 k (.inr (.inr (.inr (.inl e)))); omega
        · have := n2 k (.inr (.inr (.inr (.inr e)))); omega
  · have h1 := h.c2 k hk
    have h2 := o2 k hk
    have h3 : k < wr.heap.size := n2 k (by rcases hk with hk | hk | hk; exact .inl hk; exact .inr (.inl hk); exact .inr (.inr (.inl hk)))
    refine ⟨h1.1, h1.2.1, fun e => ?_, fun e => ?_, fun e => ?_⟩
    · rcases iM k e with h4 | h4
      · exact h1.2.2.1 h4
      · omega
    · rcases iD k e with h4 | h4
      · exact h1.2.2.2.1 h4
      · omega
    · rcases iA k e with h4 | h4 | h4
      · exact h1.2.2.2.2 h4
      · have := hAa k h4; omega
      · omega
end
/-- a drive beside its reference, of bounded size -/
def Sd (T N : Nat) (d : Dm) (r : Rd) : Prop := Eqv d r ∧ ∃ T', T' ≤ T ∧ Gd T' N r
theorem Sd.mono {T N T2 N2 : Nat} {d : Dm} {r : Rd} (h : Sd T N d r) (hT : T ≤ T2) (hN : N ≤ N2) : Sd T2 N2 d r := by
  obtain ⟨h1, T', h2, h3⟩ := h
  exact ⟨h1, T', by omega, h3.mono hN⟩
theorem Sd.play {T N : Nat} {d : Dm} {r : Rd} (h : Sd T N d r) (a : Ac) (hn : a.nm.length ≤ maxLen) (hm : a.tn.length ≤ maxLen) (hl : a.da.length ≤ lim) (hi : a.n ≤ 9223372036854775807) (hfit : T + a.da.length ≤ lim) : Sd (T + a.da.length) (N + 1) (plD d a) (plR r a) := by
  obtain ⟨h1, T', h2, h3⟩ := h
  obtain ⟨T9, t1, t2, h9⟩ := h3.play a hn hm hl hi (.inr (by omega))
  exact ⟨(h1.play h3.tle a).2, T9, by omega, h9⟩
/-- how things stand: the two drives, each with its bounds -/
def Pq (w0 : World) (b1 x1 b2 x2 T1 N1 T2 N2 : Nat) (wr : World) : Prop := ∃ (d1 d2 : Dm) (r1 r2 : Rd) (M1 D1 A1 M2 D2 A2 : Nat → Prop) (vb1 vb2 : Array Value),
  Pr w0 b1 x1 d1 r1 M1 D1 A1 vb1 b2 x2 d2 r2 M2 D2 A2 vb2 wr ∧ Sd T1 N1 d1 r1 ∧ Sd T2 N2 d2 r2
theorem Pq.up {w0 wr w2 : World} {b1 x1 b2 x2 T1 N1 T2 N2 : Nat} (h : Pq w0 b1 x1 b2 x2 T1 N1 T2 N2 wr) (hb : Below wr.heap.size wr w2) : Pq w0 b1 x1 b2 x2 T1 N1 T2 N2 w2 := by
  obtain ⟨d1, d2, r1, r2, M1, D1, A1, M2, D2, A2, vb1, vb2, h1, h2, h3⟩ := h
  exact ⟨d1, d2, r1, r2, M1, D1, A1, M2, D2, A2, vb1, vb2, h1.up hb, h2, h3⟩
theorem Pq.mono {w0 wr : World} {b1 x1 b2 x2 T1 N1 T2 N2 T1' N1' T2' N2' : Nat} (h : Pq w0 b1 x1 b2 x2 T1 N1 T2 N2 wr) (h1 : T1 ≤ T1') (h2 : N1 ≤ N1') (h3 : T2 ≤ T2') (h4 : N2 ≤ N2') : Pq w0 b1 x1 b2 x2 T1' N1' T2' N2' wr := by
  obtain ⟨d1, d2, r1, r2, M1, D1, A1, M2, D2, A2, vb1, vb2, k1, k2, k3⟩ := h
  exact ⟨d1, d2, r1, r2, M1, D1, A1, M2, D2, A2, vb1, vb2, k1, k2.mono h1 h2, k3.mono h3 h4⟩
theorem Pq.symm {w0 wr : World} {b1 x1 b2 x2 T1 N1 T2 N2 : Nat} (h : Pq w0 b1 x1 b2 x2 T1 N1 T2 N2 wr) : Pq w0 b2 x2 b1 x1 T2 N2 T1 N1 wr := by
  obtain ⟨d1, d2, r1, r2, M1, D1, A1, M2, D2, A2, vb1, vb2, k1, k2, k3⟩ := h
  exact ⟨d2, d1, r2, r1, M2, D2, A2, M1, D1, A1, vb2, vb1, k1.symm, k3, k2⟩
/-- the twin is made, and its reference is a copy of the other's -/
theorem Pr.made {w0 wr w1 W : World} {b1 x1 b2 x2 : Nat} {d : Dm} {r : Rd} {M1 D1 A1 M2 D2 : Nat → Prop} {vb : Array Value} (h : Sl w0 b1 x1 d r M1 D1 A1 vb wr) (ha : ∀ k, A1 k → k < wr.heap.size) (hb : Below wr.heap.size wr w1) (hM : ∀ k, M2 k → wr.heap.size ≤ k) (hD : ∀ k, D2 k → D1 k ∨ wr.heap.size ≤ k) (hd : DrIs M2 D2 w1 b2 d) (hb2 : wr.heap.size ≤ b2)
    (hbw : Below w1.heap.size w1 W) (hx : x2 = w1.heap.size) (hxW : W.heap[x2]? = some (.cells vb 51 (0, 0))) : Pr w0 b1 x1 d r M1 D1 A1 vb b2 x2 d r M2 D2 A1 vb W := by
  have l1 := h.blt
  have z1 := hb.size
  have z0 := h.bl.size
  have lb2 : b2 < w1.heap.size := (Array.getElem?_eq_some_iff.1 hd.ex.choose_spec.choose_spec.choose_spec.1).1
  have s1 : Sl w0 b1 x1 d r M1 D1 A1 vb W := (h.up hb).up hbw
  have hDD : ∀ k, D2 k → k < w1.heap.size := fun k hk => (hd.hD k hk).1
  have hMM : ∀ k, M2 k → k < w1.heap.size := fun k hk => (hd.hM k hk).1
  refine ⟨s1, ⟨s1.bl, hd.below hbw, s1.rf, hxW, fun k hk => ⟨by have := hM k hk; omega, by have := hMM k hk; omega⟩, fun k hk => by have := hDD k hk; omega, fun k hk => ⟨fun hm => by have := ha k hk; have := hM k hm; omega, by have := ha k hk; omega, by have := ha k hk; omega⟩, ⟨by omega, by omega⟩, by omega⟩, fun k hk => Nat.lt_of_lt_of_le (ha k hk) (Nat.le_trans z1 hbw.size), fun k hk => Nat.lt_of_lt_of_le (ha k hk) (Nat.le_trans z1 hbw.size), fun k hk => ?_, fun k hk => ?_⟩
  · have hk1 : k < wr.heap.size := by
      rcases hk with hk | hk | hk
      · omega
      · omega
      · exact (h.dr.hM k hk).1
    refine ⟨by omega, by omega, fun hm => by have := hM k hm; omega, fun hm => ?_, fun hm => ?_⟩
    · rcases hD k hm with h2 | h2
      · rcases hk with hk | hk | hk
        · exact (h.dr.hD k h2).2.2 hk
        · exact h.hD k h2 hk
        · exact (h.dr.hD k h2).2.1 hk
      · omega
    · have := h.hA k hm
      rcases hk with hk | hk | hk
      · exact this.2.1 hk
      · exact this.2.2 hk
      · exact this.1 hk
  · have hk1 : wr.heap.size ≤ k := by
      rcases hk with hk | hk | hk
      · omega
      · omega
      · exact hM k hk
    exact ⟨by omega, by omega, fun hm => by have := (h.dr.hM k hm).1; omega, fun hm => by have := (h.dr.hD k hm).1; omega, fun hm => by have := ha k hm; omega⟩
end Go.Proofs.Ytpgpncngamagdaa
