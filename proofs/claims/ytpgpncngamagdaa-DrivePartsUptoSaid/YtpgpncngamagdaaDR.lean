/- drive.raw: a deed is done, and stands in the queue. -/
import Derived.Test.YtpgpncngamagdaaDQ
import Derived.Deep.CutBlock
set_option linter.unusedVariables false
set_option linter.unusedSimpArgs false
namespace Go.Proofs.Ytpgpncngamagdaa
open Go.RowKit
attribute [local go_sem ↓] Go.wp_at_zero Go.wp_at_succ
theorem Try.info87 : (Try.prog.info? 87).map (fun i => (i.zero, i.size, i.bytes)) = some (some .nilIface, 1, 16) := by kernel_rfl
theorem un44 : Try.prog.underlying 44 = some (.slice (Try.prog.elem 44)) := by kernel_rfl
theorem sz44 (w : World) : (sizeOf (Try.prog.elem 44)).run Try.prog w = .ok 1 w := by kernel_rfl
/-- append to a queue that is full -/
theorem app_full {A : Nat → Prop} {w : World} {ao : Option Addr} {n c : Nat} {vs : List Value} {g : Nat} {x : Value} (ty : TypeId) (hr : Row 1 A w (.slice ao n n) n vs) (hx : w.cell? ⟨g, 0, none⟩ = some x) (h1 : x.oneCell' = true) (hn : (n + 1) * 16 ≤ 140737488355328) :
    ∃ v' w', (Builtin.append_ #[44, 44] ty #[.slice ao n n, .slice (some ⟨g, 0, none⟩) 1 c]).run Try.prog w = .ok v' w' ∧ w'.ownsRow w.heap.size 87 1 v' (n + 1) (vs ++ [x]) ∧ Below w.heap.size w w' := by
  obtain ⟨i0, hi, hz0, hz1, hz2⟩ := info_parts Try.info87
  obtain ⟨hl, a', c', hv, hc, ha, H⟩ := hr
  cases hv
  have hnx : ∀ j u, [x][j]? = some u → w.cell? ((⟨g, 0, none⟩ : Addr).add j) = some u := by
    intro j u hj
    match j, hj with
    | 0, hj => simp at hj; subst hj; rw [addr_add]; exact hx
  have hbl : ∀ {w' : World}, w.grownBy w' none → Below w.heap.size w w' := fun hg => ⟨hg.os, hg.tape, hg.output, hg.size, fun i hi => hg.block i hi (by simp)⟩
  cases ao with
  | some b =>
    have h0 : ∀ j u, vs[j]? = some u → w.cell? (b.add j) = some u := by
      intro j u hj
      obtain ⟨b', o', hb, _, hu⟩ := H j u hj
      cases hb
      rw [addr_add]; exact hu
    obtain ⟨v', w', e1, e2, e3⟩ := run_append_arg_grows (P := Try.prog) w 44 ty 87 i0 .nilIface 1 16 Try.underlying44 hi hz0 hz1 hz2 rfl (by decide) b n n vs hl h0 ⟨g, 0, none⟩ 1 c [x] rfl hnx (by omega) (by unfold maxLen; omega) hn
    exact ⟨v', w', e1, e2, hbl e3⟩
  | none =>
    have hn0 := ha rfl
    subst hn0
    have hvs : vs = [] := List.eq_nil_of_length_eq_zero (by simpa using hl)
    subst hvs
    obtain ⟨v', w', e1, e2, e3, _⟩ := run_append_own (P := Try.prog) w w.heap.size 44 ty 87 i0 .nilIface 1 16 Try.underlying44 hi hz0 hz1 hz2 rfl (by decide) (.slice none 0 0) 0 [] (World.ownsRow_nil w _ 87 1) ⟨g, 0, none⟩ 1 c [x] rfl hnx (by intro u hu; simp at hu; subst hu; exact h1) (by unfold maxLen; omega) hn (Nat.le_refl _)
    exact ⟨v', w', e1, by simpa using e2, hbl e3⟩
section
variable {P : Program} {ops : Array Oper} {T : World → World → Prop} {C : World → Prop} {S : Nat → Option Lw} {Q : Act → Gh → Prop} {o : Oper} {rest : List Oper} {a : Act} {G : Gh}
/-- a call whose entry is known -/
theorem wf_enter {V : Lw} {f : FuncId} {vals : Array Value} (hw : Region.wanted o (yielded ops a.tmps) = true) (hS : o.dst.bind S = some V) (hr : ∀ w, (execOp a.eval o).run P w = .ok (.enter f vals) w)
    (h : ∀ w, C w → Kn S G (looks ops o) w → Calls P f vals w fun e w'' => ∃ u, e = .returned u ∧ T w w'' ∧ V.one u ∧ V.led u w'')
    (hn : ∀ u, V.one u → wpFree P ops T C S Q rest (a.put o.dst u) (Gh.put G o.dst u)) : wpFree P ops T C S Q (o :: rest) a G := by
  refine wf_law hw hS (fun w hC hK => ?_) hn
  rw [hr]
  exact ⟨rfl, h w hC hK⟩
/-- a test for nil -/
theorem wf_nil {x : Operand} {b : Addr} (ho : o.op = .nilCheck x) (hx : a.eval x = .pointer (some b)) (hw : Region.wanted o (yielded ops a.tmps) = true) (hS : o.dst.bind S = some (UL.is (.pointer (some b))).1) (hT : ∀ w, T w w)
    (hn : wpFree P ops T C S Q rest (a.put o.dst (.pointer (some b))) (Gh.put G o.dst (.pointer (some b)))) : wpFree P ops T C S Q (o :: rest) a G := by
  refine wf_make hw hS (fun w hC hK => ⟨.pointer (some b), w, ?_, hT w, rfl, trivial⟩) (fun u hu => by cases hu; exact hn)
  unfold execOp
  simp only [ho, hx]
  rfl
end
/-- the drive within raw -/
structure Rs (M D0 : Nat → Prop) (w : World) (b : Nat) (d : Dm) (x : Dd) (v : Value) (D : Nat → Prop) (ms : Option Nat) (mb : Nat) (q : Value) (wx : World) : Prop where
  wb : Wb (fun k => k = b ∨ M k) w wx
  bx : wx.heap[b]? = some (.cells #[.map ms, .map (some mb), q, .int .i64 d.room, .bool d.armed, .int .i64 d.left, .bool d.dead] 46 (0, 0))
  fi : FI D wx mb d.seen
  sf : FilesIs M D wx ms d.safe
  qu : QueueIs D wx q d.queue
  dd : DdIs D wx v x
  mM : M mb ∨ w.heap.size ≤ mb
  mbn : mb ≠ b ∧ ms ≠ some mb ∧ ¬ D mb
  dK : ∀ k, D k → k < wx.heap.size ∧ k ≠ b ∧ (D0 k ∨ w.heap.size ≤ k)
  hD0 : ∀ k, D0 k → ¬ M k
  hM : ∀ k, M k → k < w.heap.size ∧ k ≠ b
  hb : b < w.heap.size
/-- what a call makes of a drive -/
def Turned (M D : Nat → Prop) (w : World) (b : Nat) (d' : Dm) (w' : World) : Prop :=
  Wb (fun k => k = b ∨ M k) w w' ∧ ∃ M' D' : Nat → Prop, (∀ k, M' k → M k ∨ w.heap.size ≤ k) ∧ (∀ k, D' k → D k ∨ w.heap.size ≤ k) ∧ DrIs M' D' w' b d'
theorem Rs.up {M D0 D : Nat → Prop} {w wx w2 : World} {b mb : Nat} {d : Dm} {x : Dd} {v q : Value} {ms : Option Nat} (h : Rs M D0 w b d x v D ms mb q wx) (hb : Below wx.heap.size wx w2) : Rs M D0 w b d x v D ms mb q w2 := by
  have hw := Wb.of_below (fun _ => False) hb
  have hX : ∀ i, (fun _ : Nat => False) i → ¬ D i := fun i hi => hi.elim
  exact ⟨h.wb.trans (Wb.of_below _ hb), by rw [hb.block b (Array.getElem?_eq_some_iff.1 h.bx).1]; exact h.bx, h.fi.wb hw hX id, h.sf.wb hw hX (fun _ _ e => e), h.qu.wb hw hX, h.dd.wb hw hX, h.mM, h.mbn, fun k hk => ⟨Nat.lt_of_lt_of_le (h.dK k hk).1 hb.size, (h.dK k hk).2⟩, h.hD0, h.hM, h.hb⟩
/-- behind the deed -/
theorem Rs.did {M D0 D : Nat → Prop} {w wx w2 : World} {b mb : Nat} {d : Dm} {x : Dd} {v q : Value} {ms : Option Nat} {F' : Fl} {e : Ending} (h : Rs M D0 w b d x v D ms mb q wx) (hp : DoPost D wx mb F' e w2) : ∃ D', Rs M D0 w b { d with seen := F' } x v D' ms mb q w2 := by
  obtain ⟨_, hw, D', h1, h2, h3⟩ := hp
  have hX : ∀ i, i = mb → ¬ D i := fun i hi => by subst hi; exact h.mbn.2.2
  have hsz : w.heap.size ≤ wx.heap.size := h.wb.size
  refine ⟨D', ?_, ?_, h3, (h.sf.wb hw hX fun k hk e => h.mbn.2.1 (by rw [hk, e])).mono (fun _ h => h) h1, (h.qu.wb hw hX).mono h1, (h.dd.wb hw hX).mono h1, h.mM, ⟨h.mbn.1, h.mbn.2.1, fun hd => ?_⟩, fun k hk => ?_, h.hD0, h.hM, h.hb⟩
  · exact ⟨hw.os.trans h.wb.os, hw.tape.trans h.wb.tape, hw.output.trans h.wb.output, Nat.le_trans h.wb.size hw.size, fun i hi hx => (hw.block i (Nat.lt_of_lt_of_le hi hsz) (by rintro rfl; rcases h.mM with hm | hm; exact hx (.inr hm); omega)).trans (h.wb.block i hi hx)⟩
  · rw [hw.block b (Array.getElem?_eq_some_iff.1 h.bx).1 (fun e => h.mbn.1 e.symm)]; exact h.bx
  · rcases h2 _ hd with hd | ⟨hd, _⟩
    · exact h.mbn.2.2 hd
    · have := h.fi.lt; omega
  · rcases h2 k hk with hd | ⟨hd1, hd2⟩
    · exact ⟨Nat.lt_of_lt_of_le (h.dK k hd).1 hw.size, (h.dK k hd).2⟩
    · exact ⟨hd2, by have := h.hb; omega, .inr (by omega)⟩
/-- behind the store of the queue -/
theorem Rs.done {M D0 D : Nat → Prop} {w wx w2 : World} {b mb : Nat} {d : Dm} {x : Dd} {v q v' : Value} {ms : Option Nat} {vs : List Value} (h : Rs M D0 w b d x v D ms mb q wx) (hl : d.armed = true → 0 ≤ d.left ∧ d.left ≤ 9223372036854775807)
    (hvs : ∀ i (h : i < d.queue.length) (h' : i < vs.length), DdIs D wx vs[i] d.queue[i]) (hvl : vs.length = d.queue.length) (hr : Row 1 (fun k => wx.heap.size ≤ k) w2 v' (d.queue.length + 1) (vs ++ [v])) (hb : Below wx.heap.size wx w2) :
    Turned M D0 w b { d with queue := d.queue ++ [x] } (w2.setCell ⟨b, 2, none⟩ v') := by
  have h2 := h.up hb
  have hw : Wb (fun k => k = b) w2 (w2.setCell ⟨b, 2, none⟩ v') := Wb.set _ _ _ _ rfl
  have hX : ∀ i, i = b → ¬ D i := fun i hi hd => (h.dK i hd).2.1 hi
  have hbx : b < wx.heap.size := (Array.getElem?_eq_some_iff.1 h.bx).1
  have hsz : w.heap.size ≤ wx.heap.size := h.wb.size
  have hr2 := hr.toLtN
  have hrow : Row 1 (fun k => D k ∨ wx.heap.size ≤ k ∧ k < w2.heap.size) w2 v' (d.queue.length + 1) (vs ++ [v]) := by
    obtain ⟨hl, a, c, e, hc, ha, H⟩ := hr
    obtain ⟨_, a', c', e', _, _, H'⟩ := hr2
    rw [e] at e'; cases e'
    refine ⟨hl, a, c, e, hc, ha, fun j u hj => ?_⟩
    obtain ⟨b1, o1, h1, h2, h3⟩ := H j u hj
    obtain ⟨b2, o2, h4, h5, _⟩ := H' j u hj
    rw [h1] at h4; cases h4
    exact ⟨b1, o1, h1, .inr ⟨h2, h5⟩, h3⟩
  have hDD : ∀ i, D i → D i ∨ wx.heap.size ≤ i ∧ i < w2.heap.size := fun i h => .inl h
  have hXX : ∀ i, i = b → ¬ (D i ∨ wx.heap.size ≤ i ∧ i < w2.heap.size) := fun i hi hd => hd.elim (hX i hi) (by omega)
  have hmn : ∀ k, M k → k ≠ b := fun k hk => (h.hM k hk).2
  refine ⟨h2.wb.trans (hw.mono fun k hk => .inl hk), fun k => M k ∨ k = mb, fun k => D k ∨ wx.heap.size ≤ k ∧ k < w2.heap.size, fun k hk => hk.elim .inl (fun e => by rw [e]; exact h.mM), fun k hk => hk.elim (fun hd => (h.dK k hd).2.2) (fun hd => .inr (by omega)), ⟨⟨ms, some mb, v', ?_, ?_, ?_, ?_, fun k hk e => h.mbn.2.1 (by rw [hk, e])⟩, fun k hk => ?_, fun k hk => ?_, hl⟩⟩
  · rw [box7_set h2.bx]; rfl
  · exact (h2.sf.wb hw hX fun k hk e => by
      rcases h.sf with ⟨e1, _⟩ | ⟨k', e1, e2, _⟩
      · rw [e1] at hk; cases hk
      · rw [e1] at hk; cases hk; exact hmn _ e2 e).mono (fun _ h => .inl h) hDD
  · exact .inr ⟨mb, rfl, .inr rfl, (h2.fi.wb hw hX h.mbn.1).mono hDD⟩
  · refine ⟨vs ++ [v], ?_, fun i hi hi' => ?_⟩
    · rw [List.length_append]; exact hrow.wb hw hXX
    · have hq := ((Wb.of_below (fun _ => False) hb))
      by_cases hlt : i < d.queue.length
      · rw [List.getElem_append_left (by omega), List.getElem_append_left hlt]
        exact ((((hvs i hlt (by omega)).wb hq fun _ h => h.elim).wb hw hX).mono hDD)
      · have e : i = d.queue.length := by simp at hi; omega
        subst e
        rw [List.getElem_append_right (by omega), List.getElem_append_right (Nat.le_refl _)]
        simpa using (h2.dd.wb hw hX).mono hDD
  · rw [size_setCell]
    rcases hk with hk | ⟨hk1, hk2⟩
    · refine ⟨(h2.dK k hk).1, fun hm => ?_, (h.dK k hk).2.1⟩
      rcases hm with hm | hm
      · rcases (h.dK k hk).2.2 with h0 | h0
        · exact h.hD0 k h0 hm
        · have := (h.hM k hm).1; omega
      · subst hm; exact h.mbn.2.2 hk
    · refine ⟨hk2, fun hm => ?_, by omega⟩
      rcases hm with hm | hm
      · have := (h.hM k hm).1; omega
      · have := h.fi.lt; omega
  · rw [size_setCell]
    rcases hk with hk | hk
    · have := (h.hM k hk).1; exact ⟨by have := h2.wb.size; omega, (h.hM k hk).2⟩
    · subst hk; exact ⟨h2.fi.lt, h.mbn.1⟩
end Go.Proofs.Ytpgpncngamagdaa
