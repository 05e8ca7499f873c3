/- groynelaw11.own. -/
import Derived.Test.YteejlmeinndlhaaST
set_option linter.unusedVariables false
set_option linter.unusedSimpArgs false
namespace Go.Proofs.Yteejlmeinndlhaa
open Go.RowKit Go.Maps
attribute [local go_sem ↓] Go.wp_at_zero Go.wp_at_succ
def Ulb (c : Nat) (l : By) : UL := ⟨⟨fun u => ∃ a k, u = .slice a l.length k, fun u w => Bs (fun k => c ≤ k ∧ k < w.heap.size) w u l⟩, fun _ w w' h hb => (h.up hb).monoS fun k hk => ⟨hk.1, Nat.lt_of_lt_of_le hk.2 hb.size⟩⟩
def Ula (c : Nat) (r : Rg) : UL := ⟨⟨fun u => ∃ a k a' k', u = .agg #[.slice a r.lo.length k, .slice a' r.hi.length k', .bool r.xc], fun u w => RgIs (fun k => c ≤ k ∧ k < w.heap.size) w u r⟩, fun _ w w' h hb => (h.up hb).monoS fun k hk => ⟨hk.1, Nat.lt_of_lt_of_le hk.2 hb.size⟩⟩
def Ulr (c : Nat) (r : Rg) : UL := ⟨⟨fun u => ∃ g : Nat, u = .slice (some ⟨g, 0, none⟩) 1 1, fun u w => ∃ g f t, u = .slice (some ⟨g, 0, none⟩) 1 1 ∧ w.heap[g]? = some (.cells #[f, t, .bool r.xc] 24 (0, 0)) ∧ Bs (fun k => c ≤ k ∧ k < w.heap.size) w f r.lo ∧ Bs (fun k => c ≤ k ∧ k < w.heap.size) w t r.hi⟩, fun _ w w' ⟨g, f, t, h1, h2, h3, h4⟩ hb =>
  ⟨g, f, t, h1, (hb.block g (Array.getElem?_eq_some_iff.1 h2).1).trans h2, (h3.up hb).monoS fun k hk => ⟨hk.1, Nat.lt_of_lt_of_le hk.2 hb.size⟩, (h4.up hb).monoS fun k hk => ⟨hk.1, Nat.lt_of_lt_of_le hk.2 hb.size⟩⟩⟩
theorem copy_free {c : Nat} {A : Nat → Prop} {w : World} {v : Value} {l : By} (h : Bs A w v l) (hc : c ≤ w.heap.size) : Calls Try.prog 44 #[v] w fun e w'' => ∃ u, e = .returned u ∧ Up w w'' ∧ (Ulb c l).1.one u ∧ (Ulb c l).1.led u w'' :=
  (copy_any v l w h).mono fun e w' ⟨u, he, hb, ho⟩ => ⟨u, he, hb, own_slice ho, ⟨(Row.of_ownB ho).andLtR.monoS fun k hk => ⟨Nat.le_trans hc hk.1, hk.2⟩, h.2⟩⟩
theorem exec_bs {w : World} {o : Oper} {a : Act} {x : Operand} {b : Bool} {f t : Option Addr} {n m k k' : Nat} (ho : o.op = .buildSlice 40 1 #[(0, x)]) (hx : a.eval x = .agg #[.slice f n k, .slice t m k', .bool b]) :
    (execOp a.eval o).run Try.prog w = .ok (.value (.slice (some ⟨w.heap.size, 0, none⟩) 1 1)) (w.alloc (.cells #[.slice f n k, .slice t m k', .bool b] 24)) := by
  unfold execOp
  simp only [ho, List.map_toArray, List.map_cons, List.map_nil, hx]
  simp [go_sem]
theorem exec_b {w : World} {o : Oper} {a : Act} {x y z : Operand} {b : Bool} {f t : Option Addr} {n m k k' : Nat} (ho : o.op = .build 24 #[(0, x), (1, y), (2, z)]) (hx : a.eval x = .slice f n k) (hy : a.eval y = .slice t m k') (hz : a.eval z = .bool b) :
    (execOp a.eval o).run Try.prog w = .ok (.value (.agg #[.slice f n k, .slice t m k', .bool b])) w := by
  unfold execOp
  simp only [ho, List.map_toArray, List.map_cons, List.map_nil, hx, hy, hz]
  simp [go_sem]
theorem row_heap3 {w : World} {g : Nat} {x y z : Value} {e : TypeId} (h : w.heap[g]? = some (.cells #[x, y, z] e (0, 0))) : Row 3 (fun k => k = g) w (.slice (some ⟨g, 0, none⟩) 1 1) 1 [x, y, z] := by
  obtain ⟨h0, h1, h2⟩ := box3 h
  refine ⟨rfl, _, _, rfl, Nat.le_refl _, by simp, fun j u hj => ⟨_, _, rfl, rfl, ?_⟩⟩
  match j, hj with
  | 0, hj => simp at hj; subst hj; exact h0
  | 1, hj => simp at hj; subst hj; exact h1
  | 2, hj => simp at hj; subst hj; exact h2
def OwP (w : World) (l : List Rg) (e : Ending) (w' : World) : Prop := ∃ v, e = .returned v ∧ Oh w.heap.size (fun _ => False) w' v l ∧ Below w.heap.size w w'
set_option maxRecDepth 100000 in
set_option maxHeartbeats 4000000 in
/-- own -/
theorem own_any {A : Nat → Prop} {w : World} {v : Value} {l : List Rg} (h : Rgs A w v l) (hm : l.length ≤ 1000000) : Calls Try.prog 19 #[v] w (OwP w l) := by
  obtain ⟨va, vc, rfl, hvc, _, _, hat⟩ := h.at
  have HAT := Hid.mk' hat
  have hl' : (l.length : Int) ≤ 1000000 := by omega
  have HZ : Hid (Below w.heap.size w w) := Below.refl _ _
  have HO0 : Hid (Oh w.heap.size (fun _ => False) w (.slice none 0 0) (l.take 0)) := og_nil
  clear h hat
  go_enter Try.func19, Try.ntmps19
  go_wp2_with fail
  go_loopw [3, 8] (fun y i wr => ∃ (k : Nat) (oa : Option Addr) (oc : Nat), k ≤ l.length ∧ i = .int .i64 k ∧ y = .slice oa k oc ∧ Hid (Oh w.heap.size (fun _ => False) wr (.slice oa k oc) (l.take k)) ∧ Hid (Below w.heap.size w wr)) (fun _ i _ => l.length - (intOf i).toNat)
  case atStart => exact ⟨0, none, 0, by omega, rfl, rfl, HO0, HZ⟩
  case round =>
    clear HO0 HZ
    obtain ⟨k, oa, oc, hk, rfl, rfl, HO, HB3⟩ := hrel
    by_cases hlt : k < l.length
    · have hlt' : (k : Int) < (l.length : Int) := by omega
      obtain ⟨bb, of, fa, fc, ta, tc, rfl, _, ⟨c0, c1, c2⟩, h3, h4⟩ := HAT.out k hlt
      have c0 := cell_up c0 HB3.out
      have c1 := cell_up c1 HB3.out
      have c2 := cell_up c2 HB3.out
      obtain ⟨W3, hW3, hbW3, hcW3⟩ := one_box wr (.slice fa l[k].lo.length fc) (.slice ta l[k].hi.length tc) (.bool l[k].xc) 24
      have H3 := Hid.mk' ((h3.up HB3.out).up hbW3)
      have H4 := Hid.mk' ((h4.up HB3.out).up hbW3)
      have HTK : Hid (l.take k ++ [l[k]] = l.take (k + 1)) := by show _ = _; rw [List.take_succ_eq_append_getElem hlt]
      have HBW3 := Hid.mk' hbW3
      obtain ⟨b0, b1, b2⟩ := hcW3 W3 (Below.refl _ _)
      clear h3 h4 hbW3 hcW3
      generalize l[k] = r at *
      go_upto_region 5 with fail
      rw [← hW3]
      clear hW3 c0 c1 c2
      have r0 : ∀ q : Ups W3, q.nx.cell? ⟨wr.heap.size, 0, none⟩ = some _ := fun q => cell_later q.ok b0
      have r1 : ∀ q : Ups W3, q.nx.cell? ⟨wr.heap.size, 1, none⟩ = some _ := fun q => cell_later q.ok b1
      have r2 : ∀ q : Ups W3, q.nx.cell? ⟨wr.heap.size, 2, none⟩ = some _ := fun q => cell_later q.ok b2
      clear b0 b1 b2
      refine wp_region_free 11 Up (fun w' => ∃ q : Ups W3, w' = q.nx) (ul [(15, Ulb W3.heap.size r.lo), (18, Ulb W3.heap.size r.hi), (21, Ula W3.heap.size r), (22, Ulr W3.heap.size r)]) (by kernel_rfl) (by kernel_rfl) (ul_ck _) (up_first W3) ?_
      simp only [List.take_succ_cons, List.take_zero, List.drop_succ_cons, List.drop_zero]
      refine wf_take 3 rfl ?_
      simp only [List.take_succ_cons, List.take_zero, List.drop_succ_cons, List.drop_zero]
      repeat (go_big_quiet_step (fail))
      refine wpQuiet_nil ?_
      refine wf_call (V := (Ulb W3.heap.size r.lo).1) (vals := [.slice fa r.lo.length fc]) Try.func44 (by kernel_rfl) rfl rfl (by kernel_rfl) (by kernel_rfl) (by kernel_rfl) (fun wq hC _ => ?_) (fun u1 ho1 => ?_)
      · obtain ⟨q, rfl⟩ := hC
        exact copy_free (H3.out.up q.ok) q.ok.size
      obtain ⟨a1, k1, rfl⟩ := ho1
      simp only [Act.put, List.setIfInBounds_toArray, List.set_cons_succ, List.set_cons_zero]
      refine wf_take 2 rfl ?_
      simp only [List.take_succ_cons, List.take_zero, List.drop_succ_cons, List.drop_zero]
      repeat (go_big_quiet_step (fail))
      refine wpQuiet_nil ?_
      refine wf_call (V := (Ulb W3.heap.size r.hi).1) (vals := [.slice ta r.hi.length tc]) Try.func44 (by kernel_rfl) rfl rfl (by kernel_rfl) (by kernel_rfl) (by kernel_rfl) (fun wq hC _ => ?_) (fun u1 ho1 => ?_)
      · obtain ⟨q, rfl⟩ := hC
        exact copy_free (H4.out.up q.ok) q.ok.size
      obtain ⟨a2, k2, rfl⟩ := ho1
      simp only [Act.put, List.setIfInBounds_toArray, List.set_cons_succ, List.set_cons_zero]
      refine wf_take 2 rfl ?_
      simp only [List.take_succ_cons, List.take_zero, List.drop_succ_cons, List.drop_zero]
      repeat (go_big_quiet_step (fail))
      refine wpQuiet_nil ?_
      refine wf_make (V := (Ula W3.heap.size r).1) (by kernel_rfl) (by kernel_rfl) (fun w1 hC hK => ?_) (fun u5 ho5 => ?_)
      · obtain ⟨q, rfl⟩ := hC
        have q1 := hK 15 _ _ (looks_of (by kernel_rfl)) (.inl (.inr ⟨rfl, rfl⟩)) rfl
        have q2 := hK 18 _ _ (looks_of (by kernel_rfl)) (.inr ⟨rfl, rfl⟩) rfl
        exact ⟨_, _, exec_b rfl rfl rfl rfl, Below.refl _ _, ⟨_, _, _, _, rfl⟩, ⟨_, _, rfl, q1, q2⟩⟩
      obtain ⟨a3, k3, a4, k4, rfl⟩ := ho5
      simp only [Act.put, List.setIfInBounds_toArray, List.set_cons_succ, List.set_cons_zero]
      refine wf_make (V := (Ulr W3.heap.size r).1) (by kernel_rfl) (by kernel_rfl) (fun w1 hC hK => ?_) (fun u6 ho6 => ?_)
      · obtain ⟨q, rfl⟩ := hC
        obtain ⟨f, t, e, q1, q2⟩ := hK 21 _ _ (looks_of (by kernel_rfl)) (.inr ⟨rfl, rfl⟩) rfl
        cases e
        have up := up_alloc q.nx (.cells #[.slice a3 r.lo.length k3, .slice a4 r.hi.length k4, .bool r.xc] 24)
        exact ⟨_, _, exec_bs rfl rfl, up, ⟨_, rfl⟩, ⟨_, _, _, rfl, heap_alloc_new _ _, (q1.up up).monoS fun k hk => ⟨hk.1, Nat.lt_of_lt_of_le hk.2 up.size⟩, (q2.up up).monoS fun k hk => ⟨hk.1, Nat.lt_of_lt_of_le hk.2 up.size⟩⟩⟩
      obtain ⟨g6, rfl⟩ := ho6
      simp only [Act.put, List.setIfInBounds_toArray, List.set_cons_succ, List.set_cons_zero]
      intro we hC hK
      obtain ⟨g7, f, t, e7, hg7, hf7, ht7⟩ := hK 22 _ _ trivial (.inr ⟨rfl, rfl⟩) rfl
      cases e7
      obtain ⟨q, hq⟩ := hC
      have HPW : Hid (Below W3.heap.size W3 we) := by rw [hq]; exact q.ok
      clear hK r0 r1 r2 hq
      clear q
      obtain ⟨f1, fk1, rfl, _⟩ := hf7.at
      obtain ⟨f2, fk2, rfl, _⟩ := ht7.at
      obtain ⟨L, hL1, hL2, hL3, hL4⟩ := HO.out
      have hLk : L.length = k := by have := congrArg List.length hL1; rw [List.length_map, List.length_take] at this; omega
      have HF := Hid.mk' hf7
      have HT := Hid.mk' ht7
      have HLk := Hid.mk' hLk
      have HL1 := Hid.mk' hL1
      have hbe := bt HBW3.out HPW.out
      have HBE := Hid.mk' hbe
      have HOW : Hid (we.ownsRow w.heap.size 24 3 (.slice oa k oc) L.length (rcs L)) := own_keep hL2 hbe (Nat.le_refl _)
      have HIN : Hid (∀ q ∈ L, Rqi (fun k => ((fun _ => False) k ∨ w.heap.size ≤ k ∧ k < we.heap.size) ∧ some k ≠ (Value.slice oa L.length oc).ownBlock) we q) := fun q hq => by
        have h5 := hL3 q hq
        rw [hLk]
        exact ⟨(h5.1.up hbe).monoS fun i hi => ⟨hi.1.imp id fun h => ⟨h.1, by have := hbe.size; omega⟩, hi.2⟩, (h5.2.up hbe).monoS fun i hi => ⟨hi.1.imp id fun h => ⟨h.1, by have := hbe.size; omega⟩, hi.2⟩⟩
      have HOL : Hid (∀ i, (Value.slice oa k oc).ownBlock = some i → i < W3.heap.size) := fun i hi => Nat.lt_of_lt_of_le (World.ownsRow.lt hL2 i hi).2 HBW3.out.size
      have HROW := Hid.mk' (row_heap3 hg7)
      clear hf7 ht7 hg7 hL1 hL2 hL3 hL4 hLk hbe
      go_wp2_with (at_builtin; go_must (refine wpl_app rfl (.tmp 12) (.tmp 22) 40 rfl Try.underlying40 Try.info24 rfl (by decide) rfl HOW.out rfl HROW.out (by intro u hu; simp only [List.mem_cons, List.not_mem_nil, or_false] at hu; rcases hu with rfl | rfl | rfl <;> rfl) (by have := HLk.out; unfold maxLen; omega) (by have := HLk.out; omega) (by have := HB3.out.size; have := HBE.out.size; omega) ?_); intro v6 w6 ho hg hn hbb)
      have e0 := HB3.out.size
      have e1 := HBW3.out.size
      have e2 := HBE.out.size
      have e3 := HPW.out.size
      have HO6 : Hid (Oh w.heap.size (fun _ => False) w6 v6 (l.take k ++ [r])) := Oh.app (v := .slice oa k oc) (c := W3.heap.size) HL1.out (by have := HIN.out; rw [HLk.out] at this; exact this) (fun _ h => h.elim) (by omega) HF.out HT.out HOL.out (by omega) ho hg hbb (by have := HLk.out; unfold lim; omega)
      have HB6 : Hid (Below w.heap.size w w6) := below_app (HB3.out.trans (HBE.out.mono e0)) HOW.out hg (Nat.le_refl _) (by omega)
      obtain ⟨a6, c6, e6⟩ := own_sliceN ho
      have E6 : Hid (v6 = .slice a6 (k + 1) c6) := by show _ = _; rw [e6, HLk.out]
      rw [E6.out, HTK.out] at HO6
      clear ho hg hn hbb e0 e1 e2 e3 e6 HTK
      go_wp2_with fail
      go_roundw
      case rel => exact ⟨k + 1, a6, c6, by omega, by go_num, E6.out, HO6, HB6⟩
      case measure => simp [intOf]; omega
    · obtain rfl : k = l.length := by omega
      go_wp2_with fail
      go_ret
      exact ⟨_, rfl, by have := HO.out; rwa [List.take_length] at this, HB3.out⟩
end Go.Proofs.Yteejlmeinndlhaa
