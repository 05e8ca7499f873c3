/- drive.Twin. -/
import Derived.Test.YtpgpncngamagdaaDY
set_option linter.unusedVariables false
set_option linter.unusedSimpArgs false
namespace Go.Proofs.Ytpgpncngamagdaa
open Go.RowKit
attribute [local go_sem ↓] Go.wp_at_zero Go.wp_at_succ
theorem eqn44 (w : World) (a : Option Addr) (n c : Nat) : Sem.run Try.prog (binOp BinOp.eql 44 (Value.slice a n c) (Value.slice none 0 0)) w = Result.ok (Value.bool a.isNone) w := Lib.run_eql_slice_nil (P := Try.prog) w 44 87 a n c 0 0 Try.underlying44
def QcPost (D : Nat → Prop) (w : World) (Q : List Dd) (e : Ending) (w' : World) : Prop := ∃ q', e = .returned q' ∧ Below w.heap.size w w' ∧ QueueIs (fun k => D k ∨ w.heap.size ≤ k ∧ k < w'.heap.size) w' q' Q
set_option maxHeartbeats 1000000 in
/-- slices.Clone of a queue -/
theorem cloneq_any {D : Nat → Prop} {w : World} {q : Value} {Q : List Dd} (h : QueueIs D w q Q) (hq : Q.length * 16 ≤ 140737488355328) : Calls Try.prog 46 #[q] w (QcPost D w Q) := by
  have h0 := eqn44
  obtain ⟨vs, hr, hel⟩ := h
  obtain ⟨hl, a, c, rfl, hc, ha, H⟩ := id hr
  have hvl : vs.length = Q.length := by omega
  cases a with
  | none =>
    have hc0 := ha rfl
    have hQ : Q = [] := List.eq_nil_of_length_eq_zero (by omega)
    subst hQ
    clear hr hel hl ha H hvl hq
    go_enter Try.func46, Try.ntmps46
    go_wp2
    go_ret
    exact ⟨_, rfl, Below.refl _ _, QueueIs.nil _ _⟩
  | some p =>
    have HR := Hid.mk' hr
    have HEL := Hid.mk' hel
    have HVL := Hid.mk' hvl
    have HQ := Hid.mk' hq
    have h1 : ∀ u ∈ vs, u.oneCell' = true := by
      intro u hu
      obtain ⟨i, hi, rfl⟩ := List.mem_iff_getElem.1 hu
      exact (hel i (by omega) hi).one
    have H1 := Hid.mk' h1
    clear hr hel hvl hq h1 hl H ha
    go_enter Try.func46, Try.ntmps46
    go_wp2_with (at_builtin; go_must (refine wpl_app rfl (.tmp 5) (.tmp 6) 44 rfl Try.underlying44 Try.info87 rfl (by decide) rfl (own_empty (Nat.le_refl _)) rfl (HR.out.up (up_alloc _ _)) H1.out (by have := HQ.out; unfold maxLen; omega) (by have := HQ.out; omega) (by simp) ?_); intro v' w1 ho hg hn hb; clear hn hb)
    go_ret
    have hbl : Below w.heap.size w w1 := below_app ((Below.refl _ _).alloc (Nat.le_refl _) _) (own_empty (Nat.le_refl _)) hg (Nat.le_refl _) (by simp)
    rw [Nat.zero_add, List.nil_append] at ho
    refine ⟨v', rfl, hbl, vs, ?_, fun i a b => ((HEL.out i a b).wb (Wb.of_below (fun _ => False) hbl) (fun _ h => h.elim)).mono fun _ h => .inl h⟩
    have k1 := Row.of_ownB ho
    have k2 := k1.toLtN
    obtain ⟨e0, a, c, e, hc, ha, H⟩ := k1
    obtain ⟨_, a', c', e', _, _, H'⟩ := k2
    rw [e] at e'; cases e'
    refine ⟨e0, a, c, e, hc, ha, fun j u hj => ?_⟩
    obtain ⟨b1, o1, k1, k2, k3⟩ := H j u hj
    obtain ⟨b2, o2, k4, k5, _⟩ := H' j u hj
    rw [k1] at k4; cases k4
    exact ⟨b1, o1, k1, .inr ⟨k2, k5⟩, k3⟩
def TwinPost (M D : Nat → Prop) (w : World) (d : Dm) (e : Ending) (w' : World) : Prop :=
  e = .returned (.pointer (some ⟨w.heap.size, 0, none⟩)) ∧ Below w.heap.size w w' ∧ ∃ M2 D2 : Nat → Prop, (∀ k, M2 k → w.heap.size ≤ k) ∧ (∀ k, D2 k → D k ∨ w.heap.size ≤ k) ∧ DrIs M2 D2 w' w.heap.size d
set_option maxRecDepth 100000 in
set_option maxHeartbeats 4000000 in
/-- drive.Twin -/
theorem twin_any {M D : Nat → Prop} {w : World} {b : Nat} {d : Dm} (h : DrIs M D w b d) (hq : d.queue.length * 16 ≤ 140737488355328) : Calls Try.prog 16 #[.pointer (some ⟨b, 0, none⟩)] w (TwinPost M D w d) := by
  obtain ⟨ms, mv, q, hb, h1, h2, h3, h4⟩ := h.ex
  obtain ⟨⟨c0, c1, c2, c3, c4, c5, c6⟩, c7⟩ := box7 hb
  have hbl : b < w.heap.size := (Array.getElem?_eq_some_iff.1 hb).1
  obtain ⟨qa, qc, rfl⟩ : ∃ qa qc, q = .slice qa d.queue.length qc := by obtain ⟨vs, hr, _⟩ := h3; obtain ⟨_, a, c, e, _⟩ := hr; exact ⟨a, c, e⟩
  have H1 := Hid.mk' h1
  have H2 := Hid.mk' h2
  have H3 := Hid.mk' h3
  have HB := Hid.mk' hb
  have HH := Hid.mk' h
  have HQ := Hid.mk' hq
  clear h h1 h2 h3 h4 hb hq
  go_enter Try.func16, Try.ntmps16
  go_upto_region 2 with fail
  obtain ⟨W, hW⟩ : ∃ W, W = w.alloc (.cells #[.map ms, .map mv, .slice qa d.queue.length qc, .int .i64 d.room, .bool d.armed, .int .i64 d.left, .bool d.dead] 46) := ⟨_, rfl⟩
  rw [← hW]
  have hb0 : Below w.heap.size w W := by rw [hW]; exact up_alloc _ _
  have hs0 : W.heap.size = w.heap.size + 1 := by rw [hW]; simp
  have hbt : W.heap[w.heap.size]? = some (.cells #[.map ms, .map mv, .slice qa d.queue.length qc, .int .i64 d.room, .bool d.armed, .int .i64 d.left, .bool d.dead] 46 (0, 0)) := by rw [hW, heap_alloc_new]
  clear hW
  have hbW : W.heap[b]? = some (.cells #[.map ms, .map mv, .slice qa d.queue.length qc, .int .i64 d.room, .bool d.armed, .int .i64 d.left, .bool d.dead] 46 (0, 0)) := by rw [hb0.block b hbl]; exact HB.out
  obtain ⟨⟨z0, z1, z2, z3, z4, z5, z6⟩, z7⟩ := box7 hbW
  have r0 : ∀ q : Kp (fun _ => False) W, q.nx.cell? ⟨b, 0, none⟩ = some (.map ms) := fun q => q.cell z0 id
  have r1 : ∀ q : Kp (fun _ => False) W, q.nx.cell? ⟨b, 1, none⟩ = some (.map mv) := fun q => q.cell z1 id
  have r2 : ∀ q : Kp (fun _ => False) W, q.nx.cell? ⟨b, 2, none⟩ = some (.slice qa d.queue.length qc) := fun q => q.cell z2 id
  have HBT := Hid.mk' hbt
  have HB0 := Hid.mk' hb0
  clear c0 c1 c2 c3 c4 c5 c6 c7 z0 z1 z2 z3 z4 z5 z6 z7 hbW hbt hb0
  refine wp_region_mix 15 (fun w' => ∃ q : Kp (fun _ => False) W, w' = q.nx) (by kernel_rfl) (by kernel_rfl) (kp_first _ W) ?_
  simp only [List.take_succ_cons, List.take_zero, List.drop_succ_cons, List.drop_zero]
  refine mx_take 4 rfl ?_
  simp only [List.take_succ_cons, List.take_zero, List.drop_succ_cons, List.drop_zero]
  repeat (go_big_quiet_step (fail))
  refine wpQuiet_nil ?_
  refine mx_call (vals := [.map ms]) Try.func45 (by kernel_rfl) rfl rfl (by kernel_rfl) (by kernel_rfl) (FilesIs.cloned (H1.out.wb (Wb.of_below (fun _ => False) (HB0.out.trans (drew_blx W _))) (fun _ h => h.elim) (fun _ _ h => h))) (fun e wa ha => ?_)
  obtain ⟨m1, rfl, hba, hf1, hk1⟩ := ha
  have hWa : Below W.heap.size W wa := (drew_blx W _).trans hba
  refine ⟨_, rfl, kp_mk hWa.size fun b hb hx => hWa.block b hb, ?_⟩
  simp only [Act.put, List.setIfInBounds_toArray, List.set_cons_succ, List.set_cons_zero]
  refine mx_take 4 rfl ?_
  simp only [List.take_succ_cons, List.take_zero, List.drop_succ_cons, List.drop_zero]
  repeat (go_big_quiet_step (fail))
  refine wpQuiet_nil ?_
  refine mx_call (vals := [.map mv]) Try.func45 (by kernel_rfl) rfl rfl (by kernel_rfl) (by kernel_rfl) (FilesIs.cloned (H2.out.wb (Wb.of_below (fun _ => False) (HB0.out.trans (hWa.mono (by omega)))) (fun _ h => h.elim) (fun _ _ h => h))) (fun e wb hb => ?_)
  obtain ⟨m2, rfl, hbb, hf2, hk2⟩ := hb
  have hWb := bt hWa hbb
  refine ⟨_, rfl, kp_mk hWb.size fun b hb hx => hWb.block b hb, ?_⟩
  simp only [Act.put, List.setIfInBounds_toArray, List.set_cons_succ, List.set_cons_zero]
  refine mx_take 4 rfl ?_
  simp only [List.take_succ_cons, List.take_zero, List.drop_succ_cons, List.drop_zero]
  repeat (go_big_quiet_step (fail))
  refine wpQuiet_nil ?_
  refine mx_call (vals := [.slice qa d.queue.length qc]) Try.func46 (by kernel_rfl) rfl rfl (by kernel_rfl) (by kernel_rfl) (cloneq_any (H3.out.wb (Wb.of_below (fun _ => False) (HB0.out.trans (hWb.mono (by omega)))) (fun _ h => h.elim)) HQ.out) (fun e wc hc => ?_)
  obtain ⟨q2, rfl, hbc, hq2⟩ := hc
  obtain ⟨qa2, qc2, rfl⟩ : ∃ qa2 qc2, q2 = .slice qa2 d.queue.length qc2 := by obtain ⟨vs, hr, _⟩ := hq2; obtain ⟨_, a, c, e, _⟩ := hr; exact ⟨a, c, e⟩
  have hWc := bt hWb hbc
  refine ⟨_, rfl, kp_mk hWc.size fun b hb hx => hWc.block b hb, ?_⟩
  simp only [Act.put, List.setIfInBounds_toArray, List.set_cons_succ, List.set_cons_zero]
  simp only [wpMix]
  clear r0 r1 r2
  have hbx : wc.heap[w.heap.size]? = W.heap[w.heap.size]? := hWc.block _ (by omega)
  rw [HBT.out] at hbx
  have HT : Hid (TwinPost M D w d (.returned (.pointer (some ⟨w.heap.size, 0, none⟩))) (((wc.setCell ⟨w.heap.size, 0, none⟩ (.map m1)).setCell ⟨w.heap.size, 1, none⟩ (.map m2)).setCell ⟨w.heap.size, 2, none⟩ (.slice qa2 d.queue.length qc2))) := by
    have hw3 : Wb (fun k => k = w.heap.size) wc (((wc.setCell ⟨w.heap.size, 0, none⟩ (.map m1)).setCell ⟨w.heap.size, 1, none⟩ (.map m2)).setCell ⟨w.heap.size, 2, none⟩ (.slice qa2 d.queue.length qc2)) := ((Wb.set (X := fun k => k = w.heap.size) _ _ _ _ rfl).trans (Wb.set _ _ _ _ rfl)).trans (Wb.set _ _ _ _ rfl)
    have hwc : Below w.heap.size w wc := HB0.out.trans (hWc.mono (by omega))
    have hbcs := hbc.size
    have hbbs := hbb.size
    have hbas := hba.size
    have hdr : W.drew.heap.size = W.heap.size := rfl
    have hbc' : Below wb.heap.size wb wc := hbc
    refine ⟨rfl, hwc.trans (hw3.below hwc.size fun k hk => by subst hk; exact Nat.le_refl _), fun k => m1 = some k ∨ m2 = some k, fun k => D k ∨ wb.heap.size ≤ k ∧ k < wc.heap.size, fun k hk => ?_, fun k hk => hk.imp id fun h => by omega, ?_⟩
    · rcases hk with hk | hk
      · have := hk1 k hk; omega
      · have := hk2 k hk; omega
    refine DrIs.boxed (ms := m1) (mv := m2) (q := .slice qa2 d.queue.length qc2) hw3 (by rw [box7_set (box7_set (box7_set hbx _) _)]; rfl) ?_ ?_ hq2 (fun k hk e => ?_) (fun k hk => ?_) (fun k hk => ?_) HH.out.left
    · exact (((hf1.wb (Wb.of_below (fun _ => False) hbb) (fun _ h => h.elim) (fun _ _ h => h)).wb (Wb.of_below (fun _ => False) hbc') (fun _ h => h.elim) (fun _ _ h => h)).self.mono (fun k h => .inl h) fun _ h => .inl h)
    · exact ((hf2.wb (Wb.of_below (fun _ => False) hbc') (fun _ h => h.elim) (fun _ _ h => h)).self.mono (fun k h => .inr h) fun _ h => .inl h)
    · have a1 := hk1 k hk
      have a2 := hk2 k e
      have a3 := (hf1.lt k hk).2
      omega
    · rcases hk with hk | ⟨hk, hk'⟩
      · have a0 := (HH.out.hD k hk).1
        have a4 := hwc.size
        refine ⟨by omega, fun hm => ?_, by omega⟩
        rcases hm with hm | hm
        · have := hk1 k hm; omega
        · have := hk2 k hm; omega
      · refine ⟨hk', fun hm => ?_, by omega⟩
        rcases hm with hm | hm
        · have a1 := hk1 k hm
          have a3 := (hf1.lt k hm).2
          omega
        · have a3 := (hf2.lt k hm).2
          omega
    · rcases hk with hk | hk
      · have a1 := hk1 k hk
        have a3 := (hf1.lt k hk).2
        exact ⟨by omega, by omega⟩
      · have a1 := hk2 k hk
        have a3 := (hf2.lt k hk).2
        exact ⟨by omega, by omega⟩
  obtain ⟨⟨z0, z1, z2, z3, z4, z5, z6⟩, z7⟩ := box7 hbx
  clear hf1 hf2 hk1 hk2 hba hbb hbc hq2 hWa hWb hWc hbx z3 z4 z5 z6
  go_wp2_with fail
  go_ret
  exact HT.out
end Go.Proofs.Ytpgpncngamagdaa
