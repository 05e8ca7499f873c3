/- drive.raw: a deed is done, and stands in the queue. drive.raw, walked. -/
import Derived.Test.YtbmhkdcmepfmbaaGreatB08
import Derived.Deep.CutBlock
set_option linter.unusedVariables false
set_option linter.unusedSimpArgs false
namespace Go.Proofs.YtbmhkdcmepfmbaaGreat
open Go.RowKit
attribute [local go_sem ↓] Go.wp_at_zero Go.wp_at_succ
theorem Tryz.info108 : (Tryz.prog.info? 108).map (fun i => (i.zero, i.size, i.bytes)) = some (some .nilIface, 1, 16) := by kernel_rfl
theorem un44 : Tryz.prog.underlying 72 = some (.slice (Tryz.prog.elem 72)) := by kernel_rfl
theorem sz72 (w : World) : (sizeOf (Tryz.prog.elem 72)).run Tryz.prog w = .ok 1 w := by kernel_rfl
/-- append to a queue that is full -/
theorem app_full {A : Nat → Prop} {w : World} {ao : Option Addr} {n c : Nat} {vs : List Value} {g : Nat} {x : Value} (ty : TypeId) (hr : Row 1 A w (.slice ao n n) n vs) (hx : w.cell? ⟨g, 0, none⟩ = some x) (h1 : x.oneCell' = true) (hn : (n + 1) * 16 ≤ 140737488355328) :
    ∃ v' w', (Builtin.append_ #[72, 72] ty #[.slice ao n n, .slice (some ⟨g, 0, none⟩) 1 c]).run Tryz.prog w = .ok v' w' ∧ w'.ownsRow w.heap.size 108 1 v' (n + 1) (vs ++ [x]) ∧ Below w.heap.size w w' := by
  obtain ⟨i0, hi, hz0, hz1, hz2⟩ := info_parts Tryz.info108
  obtain ⟨hl, a', c', hv, hc, ha, H⟩ := hr
  cases hv
  have hnx : ∀ j u, [x][j]? = some u → w.cell? ((⟨g, 0, none⟩ : Addr).add j) = some u := by
    intro j u hj
    match j, hj with
    | 0, hj => simp at hj; subst hj; rw [addr_add]; exact hx
  have hbl : ∀ {w' : World}, w.grownBy w' none → Below w.heap.size w w' := fun hg => ⟨hg.os, hg.tape, hg.output, hg.size, fun i hi => hg.block i hi (by simp)⟩
  cases ao with
  | some b =>
    have h0 : ∀ j u, vs[j]? = some u → w.cell? (b.add j) = some u := by
      intro j u hj
      obtain ⟨b', o', hb, _, hu⟩ := H j u hj
      cases hb
      rw [addr_add]; exact hu
    obtain ⟨v', w', e1, e2, e3⟩ := run_append_arg_grows (P := Tryz.prog) w 72 ty 108 i0 .nilIface 1 16 Tryz.underlying72 hi hz0 hz1 hz2 rfl (by decide) b n n vs hl h0 ⟨g, 0, none⟩ 1 c [x] rfl hnx (by omega) (by unfold maxLen; omega) hn
    exact ⟨v', w', e1, e2, hbl e3⟩
  | none =>
    have hn0 := ha rfl
    subst hn0
    have hvs : vs = [] := List.eq_nil_of_length_eq_zero (by simpa using hl)
    subst hvs
    obtain ⟨v', w', e1, e2, e3, _⟩ := run_append_own (P := Tryz.prog) w w.heap.size 72 ty 108 i0 .nilIface 1 16 Tryz.underlying72 hi hz0 hz1 hz2 rfl (by decide) (.slice none 0 0) 0 [] (World.ownsRow_nil w _ 108 1) ⟨g, 0, none⟩ 1 c [x] rfl hnx (by intro u hu; simp at hu; subst hu; exact h1) (by unfold maxLen; omega) hn (Nat.le_refl _)
    exact ⟨v', w', e1, by simpa using e2, hbl e3⟩
section
variable {P : Program} {ops : Array Oper} {T : World → World → Prop} {C : World → Prop} {S : Nat → Option Lw} {Q : Act → Gh → Prop} {o : Oper} {rest : List Oper} {a : Act} {G : Gh}
/-- a call whose entry is known -/
theorem wf_enter {V : Lw} {f : FuncId} {vals : Array Value} (hw : Region.wanted o (yielded ops a.tmps) = true) (hS : o.dst.bind S = some V) (hr : ∀ w, (execOp a.eval o).run P w = .ok (.enter f vals) w)
    (h : ∀ w, C w → Kn S G (looks ops o) w → Calls P f vals w fun e w'' => ∃ u, e = .returned u ∧ T w w'' ∧ V.one u ∧ V.led u w'')
    (hn : ∀ u, V.one u → wpFree P ops T C S Q rest (a.put o.dst u) (Gh.put G o.dst u)) : wpFree P ops T C S Q (o :: rest) a G := by
  refine wf_law hw hS (fun w hC hK => ?_) hn
  rw [hr]
  exact ⟨rfl, h w hC hK⟩
/-- a test for nil -/
theorem wf_nil {x : Operand} {b : Addr} (ho : o.op = .nilCheck x) (hx : a.eval x = .pointer (some b)) (hw : Region.wanted o (yielded ops a.tmps) = true) (hS : o.dst.bind S = some (UL.is (.pointer (some b))).1) (hT : ∀ w, T w w)
    (hn : wpFree P ops T C S Q rest (a.put o.dst (.pointer (some b))) (Gh.put G o.dst (.pointer (some b)))) : wpFree P ops T C S Q (o :: rest) a G := by
  refine wf_make hw hS (fun w hC hK => ⟨.pointer (some b), w, ?_, hT w, rfl, trivial⟩) (fun u hu => by cases hu; exact hn)
  unfold execOp
  simp only [ho, hx]
  rfl
end
/-- the drive within raw -/
structure Rs (M D0 : Nat → Prop) (w : World) (b : Nat) (d : Dm) (x : Dd) (v : Value) (D : Nat → Prop) (ms : Option Nat) (mb : Nat) (q : Value) (wx : World) : Prop where
  wb : Wb (fun k => k = b ∨ M k) w wx
  bx : wx.heap[b]? = some (.cells #[.map ms, .map (some mb), q, .int .i64 d.room, .bool d.armed, .int .i64 d.left, .bool d.dead] 74 (0, 0))
  fi : FI D wx mb d.seen
  sf : FilesIs M D wx ms d.safe
  qu : QueueIs D wx q d.queue
  dd : DdIs D wx v x
  mM : M mb ∨ w.heap.size ≤ mb
  mbn : mb ≠ b ∧ ms ≠ some mb ∧ ¬ D mb
  dK : ∀ k, D k → k < wx.heap.size ∧ k ≠ b ∧ (D0 k ∨ w.heap.size ≤ k)
  hD0 : ∀ k, D0 k → ¬ M k
  hM : ∀ k, M k → k < w.heap.size ∧ k ≠ b
  hb : b < w.heap.size
/-- what a call makes of a drive -/
def Turned (M D : Nat → Prop) (w : World) (b : Nat) (d' : Dm) (w' : World) : Prop :=
  Wb (fun k => k = b ∨ M k) w w' ∧ ∃ M' D' : Nat → Prop, (∀ k, M' k → M k ∨ w.heap.size ≤ k) ∧ (∀ k, D' k → D k ∨ w.heap.size ≤ k) ∧ DrIs M' D' w' b d'
theorem Rs.up {M D0 D : Nat → Prop} {w wx w2 : World} {b mb : Nat} {d : Dm} {x : Dd} {v q : Value} {ms : Option Nat} (h : Rs M D0 w b d x v D ms mb q wx) (hb : Below wx.heap.size wx w2) : Rs M D0 w b d x v D ms mb q w2 := by
  have hw := Wb.of_below (fun _ => False) hb
  have hX : ∀ i, (fun _ : Nat => False) i → ¬ D i := fun i hi => hi.elim
  exact ⟨h.wb.trans (Wb.of_below _ hb), by rw [hb.block b (Array.getElem?_eq_some_iff.1 h.bx).1]; exact h.bx, h.fi.wb hw hX id, h.sf.wb hw hX (fun _ _ e => e), h.qu.wb hw hX, h.dd.wb hw hX, h.mM, h.mbn, fun k hk => ⟨Nat.lt_of_lt_of_le (h.dK k hk).1 hb.size, (h.dK k hk).2⟩, h.hD0, h.hM, h.hb⟩
/-- behind the deed -/
theorem Rs.did {M D0 D : Nat → Prop} {w wx w2 : World} {b mb : Nat} {d : Dm} {x : Dd} {v q : Value} {ms : Option Nat} {F' : Fl} {e : Ending} (h : Rs M D0 w b d x v D ms mb q wx) (hp : DoPost D wx mb F' e w2) : ∃ D', Rs M D0 w b { d with seen := F' } x v D' ms mb q w2 := by
  obtain ⟨_, hw, D', h1, h2, h3⟩ := hp
  have hX : ∀ i, i = mb → ¬ D i := fun i hi => by subst hi; exact h.mbn.2.2
  have hsz : w.heap.size ≤ wx.heap.size := h.wb.size
  refine ⟨D', ?_, ?_, h3, (h.sf.wb hw hX fun k hk e => h.mbn.2.1 (by rw [hk, e])).mono (fun _ h => h) h1, (h.qu.wb hw hX).mono h1, (h.dd.wb hw hX).mono h1, h.mM, ⟨h.mbn.1, h.mbn.2.1, fun hd => ?_⟩, fun k hk => ?_, h.hD0, h.hM, h.hb⟩
  · exact ⟨hw.os.trans h.wb.os, hw.tape.trans h.wb.tape, hw.output.trans h.wb.output, Nat.le_trans h.wb.size hw.size, fun i hi hx => (hw.block i (Nat.lt_of_lt_of_le hi hsz) (by rintro rfl; rcases h.mM with hm | hm; exact hx (.inr hm); omega)).trans (h.wb.block i hi hx)⟩
  · rw [hw.block b (Array.getElem?_eq_some_iff.1 h.bx).1 (fun e => h.mbn.1 e.symm)]; exact h.bx
  · rcases h2 _ hd with hd | ⟨hd, _⟩
    · exact h.mbn.2.2 hd
    · have := h.fi.lt; omega
  · rcases h2 k hk with hd | ⟨hd1, hd2⟩
    · exact ⟨Nat.lt_of_lt_of_le (h.dK k hd).1 hw.size, (h.dK k hd).2⟩
    · exact ⟨hd2, by have := h.hb; omega, .inr (by omega)⟩
/-- behind the store of the queue -/
theorem Rs.done {M D0 D : Nat → Prop} {w wx w2 : World} {b mb : Nat} {d : Dm} {x : Dd} {v q v' : Value} {ms : Option Nat} {vs : List Value} (h : Rs M D0 w b d x v D ms mb q wx) (hl : d.armed = true → 0 ≤ d.left ∧ d.left ≤ 9223372036854775807)
    (hvs : ∀ i (h : i < d.queue.length) (h' : i < vs.length), DdIs D wx vs[i] d.queue[i]) (hvl : vs.length = d.queue.length) (hr : Row 1 (fun k => wx.heap.size ≤ k) w2 v' (d.queue.length + 1) (vs ++ [v])) (hb : Below wx.heap.size wx w2) :
    Turned M D0 w b { d with queue := d.queue ++ [x] } (w2.setCell ⟨b, 2, none⟩ v') := by
  have h2 := h.up hb
  have hw : Wb (fun k => k = b) w2 (w2.setCell ⟨b, 2, none⟩ v') := Wb.set _ _ _ _ rfl
  have hX : ∀ i, i = b → ¬ D i := fun i hi hd => (h.dK i hd).2.1 hi
  have hbx : b < wx.heap.size := (Array.getElem?_eq_some_iff.1 h.bx).1
  have hsz : w.heap.size ≤ wx.heap.size := h.wb.size
  have hr2 := hr.toLtN
  have hrow : Row 1 (fun k => D k ∨ wx.heap.size ≤ k ∧ k < w2.heap.size) w2 v' (d.queue.length + 1) (vs ++ [v]) := by
    obtain ⟨hl, a, c, e, hc, ha, H⟩ := hr
    obtain ⟨_, a', c', e', _, _, H'⟩ := hr2
    rw [e] at e'; cases e'
    refine ⟨hl, a, c, e, hc, ha, fun j u hj => ?_⟩
    obtain ⟨b1, o1, h1, h2, h3⟩ := H j u hj
    obtain ⟨b2, o2, h4, h5, _⟩ := H' j u hj
    rw [h1] at h4; cases h4
    exact ⟨b1, o1, h1, .inr ⟨h2, h5⟩, h3⟩
  have hDD : ∀ i, D i → D i ∨ wx.heap.size ≤ i ∧ i < w2.heap.size := fun i h => .inl h
  have hXX : ∀ i, i = b → ¬ (D i ∨ wx.heap.size ≤ i ∧ i < w2.heap.size) := fun i hi hd => hd.elim (hX i hi) (by omega)
  have hmn : ∀ k, M k → k ≠ b := fun k hk => (h.hM k hk).2
  refine ⟨h2.wb.trans (hw.mono fun k hk => .inl hk), fun k => M k ∨ k = mb, fun k => D k ∨ wx.heap.size ≤ k ∧ k < w2.heap.size, fun k hk => hk.elim .inl (fun e => by rw [e]; exact h.mM), fun k hk => hk.elim (fun hd => (h.dK k hd).2.2) (fun hd => .inr (by omega)), ⟨⟨ms, some mb, v', ?_, ?_, ?_, ?_, fun k hk e => h.mbn.2.1 (by rw [hk, e])⟩, fun k hk => ?_, fun k hk => ?_, hl⟩⟩
  · rw [box7_set h2.bx]; rfl
  · exact (h2.sf.wb hw hX fun k hk e => by
      rcases h.sf with ⟨e1, _⟩ | ⟨k', e1, e2, _⟩
      · rw [e1] at hk; cases hk
      · rw [e1] at hk; cases hk; exact hmn _ e2 e).mono (fun _ h => .inl h) hDD
  · exact .inr ⟨mb, rfl, .inr rfl, (h2.fi.wb hw hX h.mbn.1).mono hDD⟩
  · refine ⟨vs ++ [v], ?_, fun i hi hi' => ?_⟩
    · rw [List.length_append]; exact hrow.wb hw hXX
    · have hq := ((Wb.of_below (fun _ => False) hb))
      by_cases hlt : i < d.queue.length
      · rw [List.getElem_append_left (by omega), List.getElem_append_left hlt]
        exact ((((hvs i hlt (by omega)).wb hq fun _ h => h.elim).wb hw hX).mono hDD)
      · have e : i = d.queue.length := by simp at hi; omega
        subst e
        rw [List.getElem_append_right (by omega), List.getElem_append_right (Nat.le_refl _)]
        simpa using (h2.dd.wb hw hX).mono hDD
  · rw [size_setCell]
    rcases hk with hk | ⟨hk1, hk2⟩
    · refine ⟨(h2.dK k hk).1, fun hm => ?_, (h.dK k hk).2.1⟩
      rcases hm with hm | hm
      · rcases (h.dK k hk).2.2 with h0 | h0
        · exact h.hD0 k h0 hm
        · have := (h.hM k hm).1; omega
      · subst hm; exact h.mbn.2.2 hk
    · refine ⟨hk2, fun hm => ?_, by omega⟩
      rcases hm with hm | hm
      · have := (h.hM k hm).1; omega
      · have := h.fi.lt; omega
  · rw [size_setCell]
    rcases hk with hk | hk
    · have := (h.hM k hk).1; exact ⟨by have := h2.wb.size; omega, (h.hM k hk).2⟩
    · subst hk; exact ⟨h2.fi.lt, h.mbn.1⟩
end Go.Proofs.YtbmhkdcmepfmbaaGreat
set_option linter.unusedVariables false
set_option linter.unusedSimpArgs false
namespace Go.Proofs.YtbmhkdcmepfmbaaGreat
open Go.RowKit
attribute [local go_sem ↓] Go.wp_at_zero Go.wp_at_succ
theorem DdIs.ifc {D : Nat → Prop} {w : World} {v : Value} {x : Dd} (h : DdIs D w v x) : ∃ t p, v = .iface t p := by
  cases x with
  | write n i l => obtain ⟨u, rfl, b, c⟩ := h; exact ⟨_, _, rfl⟩
  | trim => exact h.elim
  | ren => obtain ⟨rfl, _⟩ := h; exact ⟨_, _, rfl⟩
  | rem => obtain ⟨rfl, _⟩ := h; exact ⟨_, _, rfl⟩
theorem exec_iface {w : World} {o : Oper} {a : Act} {x : Operand} {t : TypeId} {p : Value} (ho : o.op = .buildSlice 72 1 #[(0, x)]) (hx : a.eval x = .iface t p) :
    (execOp a.eval o).run Tryz.prog w = .ok (.value (.slice (some ⟨w.heap.size, 0, none⟩) 1 1)) (w.alloc (.cells #[.iface t p] 108)) := by
  unfold execOp
  simp only [ho, List.map_toArray, List.map_cons, List.map_nil, hx]
  simp [go_sem]
/-- a row of one thing, new -/
def UL.new1 (B : Nat) (v : Value) : UL := ⟨⟨fun u => ∃ g : Nat, u = .slice (some ⟨g, 0, none⟩) 1 1, fun u w => ∃ g : Nat, u = .slice (some ⟨g, 0, none⟩) 1 1 ∧ B ≤ g ∧ w.cell? ⟨g, 0, none⟩ = some v⟩,
  fun _ w w' ⟨g, h1, h2, h3⟩ hb => ⟨g, h1, h2, (hb.cell (p := ⟨g, 0, none⟩) (World.block_lt_of_cell? w ⟨g, 0, none⟩ h3)).trans h3⟩⟩
/-- a row, new -/
def UL.rowF (B n : Nat) (vs : List Value) : UL := ⟨⟨fun u => ∃ a c, u = .slice a n c, fun u w => Row 1 (fun k => B ≤ k) w u n vs⟩, fun _ w w' h hb => h.up hb⟩
def RawPost (M D : Nat → Prop) (w : World) (b : Nat) (d : Dm) (x : Dd) (e : Int) (E : Ending) (w' : World) : Prop := E = .returned (.int .i64 (rawE d e)) ∧ Turned M D w b (rawD d x e) w'
theorem DrIs.turned {M D : Nat → Prop} {w w' : World} {b : Nat} {d' : Dm} (h : DrIs M D w' b d') (hw : Wb (fun k => k = b) w w') : Turned M D w b d' w' := ⟨hw.mono fun k hk => .inl hk, M, D, fun _ h => .inl h, fun _ h => .inl h, h⟩
/-- behind may -/
theorem DrIs.may {M D : Nat → Prop} {w w1 : World} {b : Nat} {d d1 : Dm} {ms mv : Option Nat} {q : Value} (h : DrIs M D w b d) (h1 : FilesIs M D w ms d.safe) (h2 : FilesIs M D w mv d.seen) (h3 : QueueIs D w q d.queue) (h4 : ∀ k, ms = some k → mv ≠ some k) (hw : Wb (fun k => k = b) w w1)
    (hb : w1.heap[b]? = some (.cells #[.map ms, .map mv, q, .int .i64 d1.room, .bool d1.armed, .int .i64 d1.left, .bool d1.dead] 74 (0, 0))) (e1 : d1.safe = d.safe) (e2 : d1.seen = d.seen) (e3 : d1.queue = d.queue) (hl : d1.armed = true → 0 ≤ d1.left ∧ d1.left ≤ 9223372036854775807) : DrIs M D w1 b d1 := by
  have hX : ∀ k, k = b → ¬ D k := fun k hk hd => (h.hD k hd).2.2 hk
  have hm : ∀ {m : Option Nat} {F : Fl}, FilesIs M D w m F → ∀ k, m = some k → ¬ k = b := by
    intro m F hf k hk hx
    rcases hf with ⟨rfl, _⟩ | ⟨k', rfl, hk', _⟩
    · cases hk
    · cases hk; exact (h.hM _ hk').2 hx
  exact ⟨⟨ms, mv, q, hb, by rw [e1]; exact h1.wb hw hX (hm h1), by rw [e2]; exact h2.wb hw hX (hm h2), by rw [e3]; exact h3.wb hw hX, h4⟩, fun k hk => ⟨Nat.lt_of_lt_of_le (h.hD k hk).1 hw.size, (h.hD k hk).2⟩, fun k hk => ⟨Nat.lt_of_lt_of_le (h.hM k hk).1 hw.size, (h.hM k hk).2⟩, hl⟩
theorem mayD_safe (d : Dm) (e : Int) : (mayD d e).safe = d.safe ∧ (mayD d e).seen = d.seen ∧ (mayD d e).queue = d.queue := by
  unfold mayD; repeat' split
  all_goals exact ⟨rfl, rfl, rfl⟩
theorem mayD_left (d : Dm) (e : Int) (hl : d.armed = true → 0 ≤ d.left ∧ d.left ≤ 9223372036854775807) : (mayD d e).armed = true → 0 ≤ (mayD d e).left ∧ (mayD d e).left ≤ 9223372036854775807 := by
  unfold mayD; repeat' split
  all_goals first | exact hl | (intro h; have := hl h; simp only; omega)
theorem dm_eta (d1 : Dm) {d : Dm} (h : d1.safe = d.safe ∧ d1.seen = d.seen ∧ d1.queue = d.queue) : d1 = { d1 with safe := d.safe, seen := d.seen, queue := d.queue } := by
  obtain ⟨_, _, _, _, _, _, _⟩ := d1
  obtain ⟨rfl, rfl, rfl⟩ := h; rfl
set_option maxRecDepth 100000 in
set_option maxHeartbeats 4000000 in
/-- not done -/
theorem raw_not {M D : Nat → Prop} {w : World} {b : Nat} {d : Dm} (x : Dd) (v : Value) (e : Int) (h : DrIs M D w b d) (hn : ¬ (d.dead = false ∧ e = 0)) : Calls Tryz.prog 91 #[.pointer (some ⟨b, 0, none⟩), v, .int .i64 e] w (RawPost M D w b d x e) := by
  obtain ⟨ms, mv, q, hb, h1, h2, h3, h4⟩ := h.ex
  have hm := may_any e h.left hb
  have hR : mayR d e = (false, false, rawE d e) ∧ mayD d e = d := by
    unfold rawE mayR mayD
    cases hd : d.dead
    · have he : e ≠ 0 := fun he => hn ⟨hd, he⟩
      simp [he]
    · simp
  have hD : rawD d x e = d := by unfold rawD; rw [if_neg hn]
  rw [hR.1, hR.2] at hm
  simp only at hm
  have HD := Hid.mk' hD
  have HH := Hid.mk' h
  have HP := Hid.mk' (⟨h1, h2, h3, h4⟩ : FilesIs M D w ms d.safe ∧ FilesIs M D w mv d.seen ∧ QueueIs D w q d.queue ∧ ∀ k, ms = some k → mv ≠ some k)
  have HM := Hid.mk' hm
  clear hm hR hD hn h h1 h2 h3 h4 hb
  go_enter Tryz.func91, Tryz.ntmps91
  go_wp2_with (go_at_call 100; go_must (refine HM.out.mono ?_; rintro E w1 ⟨rfl, hW, hsz, hbx⟩))
  go_ret
  refine ⟨rfl, ?_⟩
  rw [HD.out]
  obtain ⟨h1, h2, h3, h4⟩ := HP.out
  exact (HH.out.may h1 h2 h3 h4 hW hbx rfl rfl rfl HH.out.left).turned hW
/-- the fresh map or the old -/
theorem rs_old {M D : Nat → Prop} {w w1 : World} {b mb : Nat} {d1 : Dm} {x : Dd} {v q : Value} {ms : Option Nat} (h : DrIs M D w1 b d1) (hb : w1.heap[b]? = some (.cells #[.map ms, .map (some mb), q, .int .i64 d1.room, .bool d1.armed, .int .i64 d1.left, .bool d1.dead] 74 (0, 0)))
    (hw : Wb (fun k => k = b) w w1) (hsz : w1.heap.size = w.heap.size) (h1 : FilesIs M D w1 ms d1.safe) (h2 : FilesIs M D w1 (some mb) d1.seen) (h3 : QueueIs D w1 q d1.queue) (h4 : ∀ k, ms = some k → some mb ≠ some k) (hv : DdIs D w1 v x) : Rs M D w b d1 x v D ms mb q w1 := by
  obtain ⟨k', e1, e2, e3⟩ : ∃ k, some mb = some k ∧ M k ∧ FI D w1 k d1.seen := by
    rcases h2 with ⟨e, _⟩ | h
    · cases e
    · exact h
  cases e1
  refine ⟨hw.mono fun k hk => .inl hk, hb, e3, h1, h3, hv, .inl e2, ⟨(h.hM _ e2).2, fun e => h4 _ e rfl, fun hd => (h.hD _ hd).2.1 e2⟩, fun k hk => ⟨(h.hD k hk).1, (h.hD k hk).2.2, .inl hk⟩, fun k hk => (h.hD k hk).2.1, fun k hk => ⟨by rw [← hsz]; exact (h.hM k hk).1, (h.hM k hk).2⟩, by rw [← hsz]; exact (Array.getElem?_eq_some_iff.1 hb).1⟩
theorem rs_new {M D : Nat → Prop} {w w1 : World} {b : Nat} {d1 : Dm} {x : Dd} {v q : Value} {ms : Option Nat} (h : DrIs M D w1 b d1) (hb : w1.heap[b]? = some (.cells #[.map ms, .map none, q, .int .i64 d1.room, .bool d1.armed, .int .i64 d1.left, .bool d1.dead] 74 (0, 0)))
    (hw : Wb (fun k => k = b) w w1) (hsz : w1.heap.size = w.heap.size) (h1 : FilesIs M D w1 ms d1.safe) (h2 : FilesIs M D w1 none d1.seen) (h3 : QueueIs D w1 q d1.queue) (hv : DdIs D w1 v x) : Rs M D w b d1 x v D ms w1.heap.size q ((w1.setCell ⟨b, 1, none⟩ (.map (some w1.heap.size))).alloc (.map #[] 0)) := by
  have hF : d1.seen = [] := by
    rcases h2 with ⟨_, e⟩ | ⟨k, e, _⟩
    · exact e
    · cases e
  have hbl : b < w1.heap.size := (Array.getElem?_eq_some_iff.1 hb).1
  have hw2 : Wb (fun k => k = b) w1 ((w1.setCell ⟨b, 1, none⟩ (.map (some w1.heap.size))).alloc (.map #[] 0)) := (Wb.set (X := fun k => k = b) w1 b 1 _ rfl).trans (Wb.of_below _ (up_alloc _ _))
  have hs2 : ((w1.setCell ⟨b, 1, none⟩ (.map (some w1.heap.size))).alloc (.map #[] 0)).heap.size = w1.heap.size + 1 := by simp [World.setCell]
  have hX : ∀ k, k = b → ¬ D k := fun k hk hd => (h.hD k hd).2.2 hk
  have hmS : ∀ k, ms = some k → M k := by
    intro k hk
    rcases h1 with ⟨e, _⟩ | ⟨k', e, hm, _⟩
    · rw [e] at hk; cases hk
    · rw [e] at hk; cases hk; exact hm
  refine ⟨(hw.trans hw2).mono fun k hk => .inl hk, ?_, ⟨by rw [hF]; exact Srt.nil, (fun _ => none), ?_, fun s => .inl ⟨rfl, by rw [hF]; rfl⟩⟩, h1.wb hw2 hX fun k hk => (h.hM k (hmS k hk)).2, h3.wb hw2 hX, hv.wb hw2 hX, .inr (by omega), ⟨by omega, fun e => by have := (h.hM _ (hmS _ e)).1; omega, fun hd => by have := (h.hD _ hd).1; omega⟩, fun k hk => ⟨by rw [hs2]; have := (h.hD k hk).1; omega, (h.hD k hk).2.2, .inl hk⟩, fun k hk => (h.hD k hk).2.1, fun k hk => ⟨by rw [← hsz]; exact (h.hM k hk).1, (h.hM k hk).2⟩, by rw [← hsz]; exact hbl⟩
  · rw [Below.heap_alloc _ _ _ (by rw [size_setCell]; exact hbl), box7_set hb]; rfl
  · rw [hF]
    have := MapF.made Tryz.prog 9 (w1.setCell ⟨b, 1, none⟩ (.map (some w1.heap.size)))
    rw [size_setCell] at this; exact this
set_option maxRecDepth 100000 in
set_option maxHeartbeats 4000000 in
/-- done -/
theorem raw_do {M D : Nat → Prop} {w : World} {b : Nat} {d : Dm} (x : Dd) (v : Value) (h : DrIs M D w b d) (hv : DdIs D w v x) (hd : d.dead = false) (hok : Dok d.seen x) (hl : d.seen.length + 1 < maxLen) (hq : (d.queue.length + 1) * 16 ≤ 140737488355328) :
    Calls Tryz.prog 91 #[.pointer (some ⟨b, 0, none⟩), v, .int .i64 0] w (RawPost M D w b d x 0) := by
  obtain ⟨ms, mv, q, hb, h1, h2, h3, h4⟩ := h.ex
  have hm := may_any 0 h.left hb
  obtain ⟨kd, hR⟩ : ∃ kd : Bool, mayR d 0 = (kd, !kd, rawE d 0) := by
    unfold rawE mayR
    rw [hd]
    by_cases hk : d.armed ∧ d.left = 0
    · exact ⟨false, by simp [hk]⟩
    · exact ⟨true, by simp [hk]⟩
  obtain ⟨e1, e2, e3⟩ := mayD_safe d 0
  have hD : rawD d x 0 = { mayD d 0 with seen := ddo (mayD d 0).seen x x.units, queue := (mayD d 0).queue ++ [x] } := by unfold rawD; rw [if_pos ⟨hd, rfl⟩, e2, e3]
  have hml := mayD_left d 0 h.left
  obtain ⟨d1, hd1⟩ : ∃ d1, d1 = mayD d 0 := ⟨_, rfl⟩
  rw [hR] at hm
  simp only [← hd1] at hm hD e1 e2 e3 hml
  rw [← e2] at hok hl
  rw [← e3] at hq
  have HH := Hid.mk' (fun w1 hW hbx => h.may (w1 := w1) (d1 := d1) h1 h2 h3 h4 hW hbx e1 e2 e3 hml)
  have HP := Hid.mk' (⟨h1, h2, h3, h4, hv⟩ : FilesIs M D w ms d.safe ∧ FilesIs M D w mv d.seen ∧ QueueIs D w q d.queue ∧ (∀ k, ms = some k → mv ≠ some k) ∧ DdIs D w v x)
  have HE := Hid.mk' (⟨e1, e2, e3⟩ : d1.safe = d.safe ∧ d1.seen = d.seen ∧ d1.queue = d.queue)
  have HX := Hid.mk' (⟨fun k hk hd => (h.hD k hd).2.2 hk, fun k hk => (h.hM k hk).2⟩ : (∀ k, k = b → ¬ D k) ∧ ∀ k, M k → k ≠ b)
  have HM := Hid.mk' hm
  have HD := Hid.mk' hD
  have HO := Hid.mk' hok
  have HL := Hid.mk' hl
  have HQ := Hid.mk' hq
  have HML := Hid.mk' hml
  unfold RawPost
  generalize rawE d 0 = re at *
  clear hm hR hD h h1 h2 h3 h4 hb hd hok hl hq e1 e2 e3 hml hv hd1
  have hmm := @run_makeMap Tryz.prog
  have hmn := fun w r => run_eql_map_nil (P := Tryz.prog) w 71 9 22 r Tryz.underlying71
  go_enter Tryz.func91, Tryz.ntmps91
  go_wp2_with fail
  refine HM.out.mono ?_
  rintro E w1 ⟨rfl, hW, hsz, hbx⟩
  have HDr := Hid.mk' (HH.out w1 hW hbx)
  have HW := Hid.mk' hW
  have HS := Hid.mk' hsz
  have HB := Hid.mk' hbx
  have HPP : Hid (FilesIs M D w1 ms d1.safe ∧ FilesIs M D w1 mv d1.seen ∧ QueueIs D w1 q d1.queue ∧ (∀ k, ms = some k → mv ≠ some k) ∧ DdIs D w1 v x) := by
    obtain ⟨h1, h2, h3, h4, h5⟩ := HP.out
    obtain ⟨x1, x2⟩ := HX.out
    obtain ⟨e1, e2, e3⟩ := HE.out
    have hm : ∀ {m : Option Nat} {F : Fl}, FilesIs M D w m F → ∀ k, m = some k → ¬ k = b := by
      intro m F hf k hk hx
      rcases hf with ⟨rfl, _⟩ | ⟨k', rfl, hk', _⟩
      · cases hk
      · cases hk; exact x2 _ hk' hx
    rw [← e1] at h1; rw [← e2] at h2; rw [← e3] at h3
    exact ⟨h1.wb hW x1 (hm h1), h2.wb hW x1 (hm h2), h3.wb hW x1, h4, h5.wb hW x1⟩
  clear hW hsz hbx HM HH HP
  obtain ⟨⟨c0, c1, c2, c3, c4, c5, c6⟩, c7⟩ := box7 HB.out
  clear c0 c2 c3 c4 c5 c6
  cases kd
  all_goals
    go_upto_if 24 with fail
    go_cut [3] (fun _ wx => ∃ mb, Hid (Rs M D w b d1 x v D ms mb q wx))
    case first =>
      cases mv with
      | none =>
        have hR := rs_new HDr.out HB.out HW.out HS.out HPP.out.1 HPP.out.2.1 HPP.out.2.2.1 HPP.out.2.2.2.2
        have HR := Hid.mk' hR
        have hbl : b < w1.heap.size := (Array.getElem?_eq_some_iff.1 HB.out).1
        have hbx2 : (w1.alloc (.map #[] 0)).heap[b]? = w1.heap[b]? := Below.heap_alloc _ _ _ hbl
        rw [HB.out] at hbx2
        obtain ⟨⟨k0, k1, k2, k3, k4, k5, k6⟩, k7⟩ := box7 hbx2
        clear k0 k2 k3 k4 k5 k6 hbx2
        clear hR
        go_wp2_with fail
        go_meet
        exact ⟨_, HR⟩
      | some mb =>
        have hR := rs_old HDr.out HB.out HW.out HS.out HPP.out.1 HPP.out.2.1 HPP.out.2.2.1 HPP.out.2.2.2.1 HPP.out.2.2.2.2
        have HR := Hid.mk' hR
        clear hR
        go_wp2_with fail
        go_meet
        exact ⟨_, HR⟩
    case rest =>
      obtain ⟨mb, HR⟩ := hcut
      clear c1 c7 HB HDr HPP HW HS HE
      go_upto_region 5 with fail
      go_cut [3] (fun _ wx => ∃ D', Hid (Rs M D w b { d1 with seen := ddo d1.seen x x.units } x v D' ms mb q wx))
      case first =>
        obtain ⟨⟨c0, c1, c2, c3, c4, c5, c6⟩, c7⟩ := box7 HR.out.bx
        clear c0 c2 c3 c4 c5 c6 c7
        have r0 : ∀ q : Ups wc, q.nx.cell? ⟨b, 1, none⟩ = some (.map (some mb)) := fun p => (box7 (by rw [p.ok.block b (Array.getElem?_eq_some_iff.1 HR.out.bx).1]; exact HR.out.bx)).1.2.1
        clear c1
        cases x with
        | write n i l =>
          obtain ⟨u, rfl, hu, hnl⟩ := HR.out.dd
          have HUU := Hid.mk' hu
          clear hu
          refine wp_region_free 10 Up (fun w' => ∃ p : Ups wc, w' = p.nx) (ul [(31, UL.is (.pointer (some ⟨b, 0, none⟩))), (35, UL.is (.int .i64 ((l.length : Int) + 1))), (37, UL.is (.func (.method "groyne/drive.do") #[.iface 152 (.agg #[.string ⟨n.toArray⟩, .int .i64 (i : Int), u])] #[]))]) (by kernel_rfl) (by kernel_rfl) (ul_ck _) (up_first wc) ?_
          simp only [List.take_succ_cons, List.take_zero, List.drop_succ_cons, List.drop_zero]
          refine wf_take 2 rfl ?_
          simp only [List.take_succ_cons, List.take_zero, List.drop_succ_cons, List.drop_zero]
          repeat (go_big_quiet_step (fail))
          refine wpQuiet_nil ?_
          refine wf_nil rfl rfl (by kernel_rfl) rfl (fun w => Below.refl _ _) ?_
          simp only [Act.put, List.setIfInBounds_toArray, List.set_cons_succ, List.set_cons_zero]
          refine wf_take 3 rfl ?_
          simp only [List.take_succ_cons, List.take_zero, List.drop_succ_cons, List.drop_zero]
          repeat (go_big_quiet_step (fail))
          refine wpQuiet_nil ?_
          refine wf_enter (f := 172) (vals := #[.agg #[.string ⟨n.toArray⟩, .int .i64 (i : Int), u]]) (by kernel_rfl) rfl (fun w => by kernel_rfl) (fun wq hC hK => (un_write n i u l wq (by obtain ⟨p, rfl⟩ := hC; exact HUU.out.up p.ok)).mono fun e w' ⟨h1, h2⟩ => ⟨_, h1, h2, rfl, trivial⟩) (fun u1 hu1 => ?_)
          cases hu1
          simp only [Act.put, List.setIfInBounds_toArray, List.set_cons_succ, List.set_cons_zero]
          refine wf_take 1 rfl ?_
          simp only [List.take_succ_cons, List.take_zero, List.drop_succ_cons, List.drop_zero]
          repeat (go_big_quiet_step (fail))
          refine wpQuiet_nil ?_
          refine wf_make (V := (UL.is (.func (.method "groyne/drive.do") #[.iface 152 (.agg #[.string ⟨n.toArray⟩, .int .i64 (i : Int), u])] #[])).1) (by kernel_rfl) rfl (fun wq hC hK => ⟨_, wq, rfl, Below.refl _ _, rfl, trivial⟩) (fun u1 hu1 => ?_)
          cases hu1
          simp only [Act.put, List.setIfInBounds_toArray, List.set_cons_succ, List.set_cons_zero]
          refine wf_take 1 rfl ?_
          simp only [List.take_succ_cons, List.take_zero, List.drop_succ_cons, List.drop_zero]
          repeat (go_big_quiet_step (fail))
          refine wpQuiet_nil ?_
          intro wd hC hK
          obtain ⟨p, hp⟩ := hC
          have HU := Hid.mk' (HR.out.up p.ok)
          rw [← hp] at HU
          clear hp hK r0
          clear p
          go_wp2_with fail
          refine (do_write n l i l.length u _ HU.out.fi hnl HU.out.mbn.2.2 (by obtain ⟨u2, e, h, _⟩ := HU.out.dd; cases e; exact h) (Nat.le_refl _) rfl HO.out.1 HO.out.2.2 (by have := HL.out; show d1.seen.length < maxLen; omega)).mono ?_
          rintro E w2 hp
          obtain ⟨D', hR⟩ := HU.out.did hp
          cases hp.1
          have HR2 := Hid.mk' hR
          clear hp hR
          go_wp2_with fail
          go_meet
          exact ⟨D', HR2⟩
        | trim n k => exact (show False from HR.out.dd).elim
        | ren n m =>
          obtain ⟨rfl, hnl, hml⟩ := HR.out.dd
          refine wp_region_free 10 Up (fun w' => ∃ p : Ups wc, w' = p.nx) (ul [(31, UL.is (.pointer (some ⟨b, 0, none⟩))), (35, UL.is (.int .i64 1)), (37, UL.is (.func (.method "groyne/drive.do") #[.iface 169 (.agg #[.string ⟨n.toArray⟩, .string ⟨m.toArray⟩])] #[]))]) (by kernel_rfl) (by kernel_rfl) (ul_ck _) (up_first wc) ?_
          simp only [List.take_succ_cons, List.take_zero, List.drop_succ_cons, List.drop_zero]
          refine wf_take 2 rfl ?_
          simp only [List.take_succ_cons, List.take_zero, List.drop_succ_cons, List.drop_zero]
          repeat (go_big_quiet_step (fail))
          refine wpQuiet_nil ?_
          refine wf_nil rfl rfl (by kernel_rfl) rfl (fun w => Below.refl _ _) ?_
          simp only [Act.put, List.setIfInBounds_toArray, List.set_cons_succ, List.set_cons_zero]
          refine wf_take 3 rfl ?_
          simp only [List.take_succ_cons, List.take_zero, List.drop_succ_cons, List.drop_zero]
          repeat (go_big_quiet_step (fail))
          refine wpQuiet_nil ?_
          refine wf_enter (f := 177) (vals := #[.agg #[.string ⟨n.toArray⟩, .string ⟨m.toArray⟩]]) (by kernel_rfl) rfl (fun w => by kernel_rfl) (fun wq hC hK => (un_ren n m wq).mono fun e w' ⟨h1, h2⟩ => ⟨_, h1, h2, rfl, trivial⟩) (fun u1 hu1 => ?_)
          cases hu1
          simp only [Act.put, List.setIfInBounds_toArray, List.set_cons_succ, List.set_cons_zero]
          refine wf_take 1 rfl ?_
          simp only [List.take_succ_cons, List.take_zero, List.drop_succ_cons, List.drop_zero]
          repeat (go_big_quiet_step (fail))
          refine wpQuiet_nil ?_
          refine wf_make (V := (UL.is (.func (.method "groyne/drive.do") #[.iface 169 (.agg #[.string ⟨n.toArray⟩, .string ⟨m.toArray⟩])] #[])).1) (by kernel_rfl) rfl (fun wq hC hK => ⟨_, wq, rfl, Below.refl _ _, rfl, trivial⟩) (fun u1 hu1 => ?_)
          cases hu1
          simp only [Act.put, List.setIfInBounds_toArray, List.set_cons_succ, List.set_cons_zero]
          refine wf_take 1 rfl ?_
          simp only [List.take_succ_cons, List.take_zero, List.drop_succ_cons, List.drop_zero]
          repeat (go_big_quiet_step (fail))
          refine wpQuiet_nil ?_
          intro wd hC hK
          obtain ⟨p, hp⟩ := hC
          have HU := Hid.mk' (HR.out.up p.ok)
          rw [← hp] at HU
          clear hp hK r0
          clear p
          go_wp2_with fail
          refine (do_ren n m _ HU.out.fi hnl hml HU.out.mbn.2.2 (by have := HL.out; show d1.seen.length < maxLen; omega)).mono ?_
          rintro E w2 hp
          obtain ⟨D', hR⟩ := HU.out.did hp
          cases hp.1
          have HR2 := Hid.mk' hR
          clear hp hR
          go_wp2_with fail
          go_meet
          exact ⟨D', HR2⟩
        | rem n =>
          obtain ⟨rfl, hnl⟩ := HR.out.dd
          refine wp_region_free 10 Up (fun w' => ∃ p : Ups wc, w' = p.nx) (ul [(31, UL.is (.pointer (some ⟨b, 0, none⟩))), (35, UL.is (.int .i64 1)), (37, UL.is (.func (.method "groyne/drive.do") #[.iface 167 (.agg #[.string ⟨n.toArray⟩])] #[]))]) (by kernel_rfl) (by kernel_rfl) (ul_ck _) (up_first wc) ?_
          simp only [List.take_succ_cons, List.take_zero, List.drop_succ_cons, List.drop_zero]
          refine wf_take 2 rfl ?_
          simp only [List.take_succ_cons, List.take_zero, List.drop_succ_cons, List.drop_zero]
          repeat (go_big_quiet_step (fail))
          refine wpQuiet_nil ?_
          refine wf_nil rfl rfl (by kernel_rfl) rfl (fun w => Below.refl _ _) ?_
          simp only [Act.put, List.setIfInBounds_toArray, List.set_cons_succ, List.set_cons_zero]
          refine wf_take 3 rfl ?_
          simp only [List.take_succ_cons, List.take_zero, List.drop_succ_cons, List.drop_zero]
          repeat (go_big_quiet_step (fail))
          refine wpQuiet_nil ?_
          refine wf_enter (f := 175) (vals := #[.agg #[.string ⟨n.toArray⟩]]) (by kernel_rfl) rfl (fun w => by kernel_rfl) (fun wq hC hK => (un_rem n wq).mono fun e w' ⟨h1, h2⟩ => ⟨_, h1, h2, rfl, trivial⟩) (fun u1 hu1 => ?_)
          cases hu1
          simp only [Act.put, List.setIfInBounds_toArray, List.set_cons_succ, List.set_cons_zero]
          refine wf_take 1 rfl ?_
          simp only [List.take_succ_cons, List.take_zero, List.drop_succ_cons, List.drop_zero]
          repeat (go_big_quiet_step (fail))
          refine wpQuiet_nil ?_
          refine wf_make (V := (UL.is (.func (.method "groyne/drive.do") #[.iface 167 (.agg #[.string ⟨n.toArray⟩])] #[])).1) (by kernel_rfl) rfl (fun wq hC hK => ⟨_, wq, rfl, Below.refl _ _, rfl, trivial⟩) (fun u1 hu1 => ?_)
          cases hu1
          simp only [Act.put, List.setIfInBounds_toArray, List.set_cons_succ, List.set_cons_zero]
          refine wf_take 1 rfl ?_
          simp only [List.take_succ_cons, List.take_zero, List.drop_succ_cons, List.drop_zero]
          repeat (go_big_quiet_step (fail))
          refine wpQuiet_nil ?_
          intro wd hC hK
          obtain ⟨p, hp⟩ := hC
          have HU := Hid.mk' (HR.out.up p.ok)
          rw [← hp] at HU
          clear hp hK r0
          clear p
          go_wp2_with fail
          refine (do_rem n _ HU.out.fi hnl HU.out.mbn.2.2).mono ?_
          rintro E w2 hp
          obtain ⟨D', hR⟩ := HU.out.did hp
          cases hp.1
          have HR2 := Hid.mk' hR
          clear hp hR
          go_wp2_with fail
          go_meet
          exact ⟨D', HR2⟩
      case rest =>
        obtain ⟨D', HR⟩ := hcut
        obtain ⟨vs, hrow, hel⟩ := HR.out.qu
        obtain ⟨tv, pv, rfl⟩ := HR.out.dd.ifc
        have hvl : vs.length = d1.queue.length := by have := hrow.1; simp at this; omega
        obtain ⟨_, qa, qc, rfl, hqc, _⟩ := id hrow
        obtain ⟨a', hsl, hrow'⟩ := row_hm un44 sz72 hrow _ (Nat.le_refl _)
        rw [List.take_of_length_le (by simp; omega)] at hrow'
        have r2 : ∀ q : Ups wc, q.nx.cell? ⟨b, 2, none⟩ = some (.slice qa d1.queue.length qc) := fun p => (box7 (by rw [p.ok.block b (Array.getElem?_eq_some_iff.1 HR.out.bx).1]; exact HR.out.bx)).1.2.2.1
        have HEL := Hid.mk' hel
        have HVL := Hid.mk' hvl
        have HRW : Hid (Row 1 D' wc (.slice a' d1.queue.length d1.queue.length) d1.queue.length vs) := hrow'
        have hsl : ∀ w, (Instr.slice 72 (.slice qa d1.queue.length qc) none (some (.int .i64 (d1.queue.length : Int))) (some (.int .i64 (d1.queue.length : Int)))).run Tryz.prog w = .ok (.slice a' d1.queue.length d1.queue.length) w := hsl
        clear hel hvl hrow hrow'
        have hql : (d1.queue.length : Int) ≤ 140737488355328 := by have := HQ.out; omega
        go_upto_region 6 with fail
        refine wp_region_free 19 Up (fun w' => ∃ p : Ups wc, w' = p.nx) (ul [(42, UL.is (.pointer (some ⟨b, 0, none⟩))), (46, UL.is (.pointer (some ⟨b, 0, none⟩))), (51, UL.is (.pointer (some ⟨b, 0, none⟩))), (57, UL.new1 wc.heap.size (.iface tv pv)), (58, UL.rowF wc.heap.size (d1.queue.length + 1) (vs ++ [.iface tv pv]))]) (by kernel_rfl) (by kernel_rfl) (ul_ck _) (up_first wc) ?_
        simp only [List.take_succ_cons, List.take_zero, List.drop_succ_cons, List.drop_zero]
        refine wf_take 2 rfl ?_
        simp only [List.take_succ_cons, List.take_zero, List.drop_succ_cons, List.drop_zero]
        repeat (go_big_quiet_step (fail))
        refine wpQuiet_nil ?_
        refine wf_nil rfl rfl (by kernel_rfl) rfl (fun w => Below.refl _ _) ?_
        simp only [Act.put, List.setIfInBounds_toArray, List.set_cons_succ, List.set_cons_zero]
        refine wf_take 3 rfl ?_
        simp only [List.take_succ_cons, List.take_zero, List.drop_succ_cons, List.drop_zero]
        repeat (go_big_quiet_step (fail))
        refine wpQuiet_nil ?_
        refine wf_nil rfl rfl (by kernel_rfl) rfl (fun w => Below.refl _ _) ?_
        simp only [Act.put, List.setIfInBounds_toArray, List.set_cons_succ, List.set_cons_zero]
        refine wf_take 4 rfl ?_
        simp only [List.take_succ_cons, List.take_zero, List.drop_succ_cons, List.drop_zero]
        repeat (go_big_quiet_step (fail))
        refine wpQuiet_nil ?_
        refine wf_nil rfl rfl (by kernel_rfl) rfl (fun w => Below.refl _ _) ?_
        simp only [Act.put, List.setIfInBounds_toArray, List.set_cons_succ, List.set_cons_zero]
        refine wf_take 5 rfl ?_
        simp only [List.take_succ_cons, List.take_zero, List.drop_succ_cons, List.drop_zero]
        repeat (go_big_quiet_step (fail))
        refine wpQuiet_nil ?_
        refine wf_make (V := (UL.new1 wc.heap.size (.iface tv pv)).1) (by kernel_rfl) rfl (fun wq hC hK => ?_) (fun u1 hu1 => ?_)
        · obtain ⟨p, rfl⟩ := hC
          exact ⟨_, _, exec_iface rfl rfl, up_alloc _ _, ⟨_, rfl⟩, _, rfl, p.ok.size, by simp⟩
        obtain ⟨g1, rfl⟩ := hu1
        simp only [Act.put, List.setIfInBounds_toArray, List.set_cons_succ, List.set_cons_zero]
        refine wf_app (V := (UL.rowF wc.heap.size (d1.queue.length + 1) (vs ++ [.iface tv pv])).1) (v := .slice a' d1.queue.length d1.queue.length) (u := .slice (some ⟨g1, 0, none⟩) 1 1) rfl rfl rfl (by kernel_rfl) rfl (fun wq hC hK => ?_) (fun u2 hu2 => ?_)
        · obtain ⟨g2, e2, hg2, hcg⟩ := hK 57 _ _ (looks_of (by kernel_rfl)) (.inr ⟨rfl, rfl⟩) rfl
          cases e2
          obtain ⟨p, rfl⟩ := hC
          obtain ⟨v', w', e1, ho, hbl⟩ := app_full 72 (HRW.out.up p.ok) hcg rfl HQ.out
          refine ⟨v', w', e1, hbl, own_sliceN ho, ?_⟩
          exact (Row.of_ownB ho).monoS fun k hk => Nat.le_trans p.ok.size hk
        obtain ⟨a8, c8, rfl⟩ := hu2
        simp only [Act.put, List.setIfInBounds_toArray, List.set_cons_succ, List.set_cons_zero]
        intro wd hC hK
        have HK8 := Hid.mk' (hK 58 _ _ trivial (.inr ⟨rfl, rfl⟩) rfl)
        obtain ⟨p, hp⟩ := hC
        have HBL := Hid.mk' p.ok
        rw [← hp] at HBL
        clear hK hp r2
        clear p
        obtain ⟨⟨c0, c1, c2, c3, c4, c5, c6⟩, c7⟩ := box7 (by rw [HBL.out.block b (Array.getElem?_eq_some_iff.1 HR.out.bx).1]; exact HR.out.bx)
        clear c0 c1 c3 c4 c5 c6
        have HT : Hid (Turned M D w b (rawD d x 0) (wd.setCell ⟨b, 2, none⟩ (.slice a8 (d1.queue.length + 1) c8))) := by
          show Turned _ _ _ _ _ _
          rw [HD.out]
          exact HR.out.done HML.out HEL.out HVL.out HK8.out HBL.out
        clear HR HK8 HBL HEL HVL HRW
        go_wp2_with fail
        go_ret
        exact ⟨rfl, HT.out⟩
/-- drive.raw -/
theorem raw_any {M D : Nat → Prop} {w : World} {b : Nat} {d : Dm} (x : Dd) (v : Value) (e : Int) (h : DrIs M D w b d) (hv : DdIs D w v x) (hok : d.dead = false → e = 0 → Dok d.seen x) (hl : d.seen.length + 1 < maxLen) (hq : (d.queue.length + 1) * 16 ≤ 140737488355328) :
    Calls Tryz.prog 91 #[.pointer (some ⟨b, 0, none⟩), v, .int .i64 e] w (RawPost M D w b d x e) := by
  by_cases hn : d.dead = false ∧ e = 0
  · obtain ⟨h1, rfl⟩ := hn
    exact raw_do x v h hv h1 (hok h1 rfl) hl hq
  · exact raw_not x v e h hn
end Go.Proofs.YtbmhkdcmepfmbaaGreat
