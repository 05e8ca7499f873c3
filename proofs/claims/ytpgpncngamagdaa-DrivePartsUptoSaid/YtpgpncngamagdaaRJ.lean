/- groyneref04.do: trimmed, renamed, removed; all. -/
import Derived.Test.YtpgpncngamagdaaRI
set_option linter.unusedVariables false
set_option linter.unusedSimpArgs false
namespace Go.Proofs.Ytpgpncngamagdaa
open Go.RowKit
attribute [local go_sem ↓] Go.wp_at_zero Go.wp_at_succ
theorem bv_take (l : By) (k : Nat) : (bv l).take k = bv (l.take k) := by simp [bv, List.map_take]
set_option maxRecDepth 100000 in
set_option maxHeartbeats 4000000 in
/-- groyneref04.do, trimmed -/
theorem rdo_trim {A : Nat → Prop} {w : World} {v u : Value} {F : Fl} {n : By} {i : Nat} (k : Int) (h : Ts A w v F) (hS : Srt F) (hl : F.length ≤ 900000) (hi : i ≤ (foz F n).length) :
    Calls Try.prog 70 #[v, .agg #[.int .i64 2, .string ⟨n.toArray⟩, .string ⟨#[]⟩, .int .i64 (i : Int), u], .int .i64 k] w fun e w' => ∃ x, e = .returned x ∧ Ts (fun k => A k ∨ w.heap.size ≤ k) w' x (fput F n ((foz F n).take i)) ∧ Below w.heap.size w w' := by
  obtain ⟨a, c, rfl, hc, _, _, _⟩ := h.at
  have HT := Hid.mk' h
  have HS := Hid.mk' hS
  have HL := Hid.mk' hl
  have HI := Hid.mk' hi
  clear h hS hl hi hc
  go_enter Try.func70, Try.ntmps70
  go_wp2_with fail
  have hup := up_alloc w (.cells #[.int .i64 2, .string ⟨n.toArray⟩, .string ⟨#[]⟩, .int .i64 (i : Int), u] 68)
  have hbx : (w.alloc (.cells #[.int .i64 2, .string ⟨n.toArray⟩, .string ⟨#[]⟩, .int .i64 (i : Int), u] 68)).heap[w.heap.size]? = some (.cells #[.int .i64 2, .string ⟨n.toArray⟩, .string ⟨#[]⟩, .int .i64 (i : Int), u] 68 (0, 0)) := heap_alloc_new w _
  have HB0 := Hid.mk' hup
  have HBX := Hid.mk' hbx
  clear hup hbx
  go_wp2_with fail
  refine (get_any n (HT.out.up HB0.out)).mono ?_
  rintro e w1 ⟨⟨u1, rfl, hu1⟩, rfl⟩
  obtain ⟨a1, c1, rfl, _⟩ := hu1.at
  have HU1 := Hid.mk' hu1
  obtain ⟨W, hW⟩ : ∃ W, W = w.alloc (.cells #[.int .i64 2, .string ⟨n.toArray⟩, .string ⟨#[]⟩, .int .i64 (i : Int), u] 68) := ⟨_, rfl⟩
  rw [← hW] at HU1 HB0 HBX ⊢
  clear hW hu1
  have q1 : W.cell? ⟨w.heap.size, 0, none⟩ = some (.int .i64 2) := by simp only [World.cell?, HBX.out]; rfl
  generalize (fget F n).isSome = bb at *
  go_wp2_with fail
  obtain ⟨a2, c2, S2, R2⟩ := row_hiN (P := Try.prog) (t := 22) (by kernel_rfl) sz22 (by decide) HU1.out.1 i HI.out
  rw [Nat.mul_one, bv_take] at R2
  have hli : ((foz F n).take i).length = i := by rw [List.length_take]; have := HI.out; omega
  have HU2 : Hid (Bs A W (.slice a2 i c2) ((foz F n).take i)) := ⟨by rw [hli]; exact R2, by rw [hli]; exact Nat.le_trans HI.out HU1.out.2⟩
  have r1 : ∀ q : Kp (fun _ => False) W, q.nx.cell? ⟨w.heap.size, 1, none⟩ = some (.string ⟨n.toArray⟩) := fun q => q.cell (by simp only [World.cell?, HBX.out]; rfl) id
  have r3 : ∀ q : Kp (fun _ => False) W, q.nx.cell? ⟨w.heap.size, 3, none⟩ = some (.int .i64 (i : Int)) := fun q => q.cell (by simp only [World.cell?, HBX.out]; rfl) id
  have HL2 := Hid.mk' hli
  have HS2 := Hid.mk' S2
  clear R2 q1 hli S2
  have S3 := HS2.out
  refine wp_region_mix 9 (fun w' => ∃ q : Kp (fun _ => False) W, w' = q.nx) (by kernel_rfl) (by kernel_rfl) (kp_first _ W) ?_
  simp only [List.take_succ_cons, List.take_zero, List.drop_succ_cons, List.drop_zero]
  refine mx_take 7 rfl ?_
  simp only [List.take_succ_cons, List.take_zero, List.drop_succ_cons, List.drop_zero]
  repeat (go_big_quiet_step (fail))
  refine wpQuiet_nil ?_
  refine mx_call (vals := [.slice a2 i c2]) Try.func18 (by kernel_rfl) rfl rfl (by kernel_rfl) (by kernel_rfl) (copy_any _ ((foz F n).take i) _ (HU2.out.up (drew_blx W _))) (fun e wa ha => ?_)
  obtain ⟨v9, rfl, hba, oa⟩ := ha
  have hWa : Below W.heap.size W wa := (drew_blx W _).trans hba
  refine ⟨_, rfl, kp_mk hWa.size fun b hb hx => hWa.block b hb, ?_⟩
  simp only [Act.put, List.setIfInBounds_toArray, List.set_cons_succ, List.set_cons_zero]
  obtain ⟨a9, c9, rfl⟩ := own_slice oa
  have hBa : Bs (fun j => W.heap.size ≤ j) wa (.slice a9 ((foz F n).take i).length c9) ((foz F n).take i) := ⟨Row.of_ownB oa, HU2.out.2⟩
  refine mx_call (vals := [.slice a (List.length F) c, .string ⟨n.toArray⟩, .slice a9 ((foz F n).take i).length c9]) Try.func79 (by kernel_rfl) rfl rfl (by kernel_rfl) (by kernel_rfl) (rput_any n (HT.out.up (bt HB0.out hWa)) HS.out hBa HL.out) (fun e wb hb => ?_)
  obtain ⟨x9, rfl, t9, b9⟩ := hb
  have hWb := bt hWa b9
  refine ⟨_, rfl, kp_mk hWb.size fun b hb hx => hWb.block b hb, ?_⟩
  simp only [Act.put, List.setIfInBounds_toArray, List.set_cons_succ, List.set_cons_zero]
  simp only [wpMix]
  have T9 := Hid.mk' t9
  have BB := Hid.mk' (bt HB0.out hWb)
  have Z9 : Hid (w.heap.size ≤ wa.heap.size) := Nat.le_trans HB0.out.size hWa.size
  clear r1 r3 S3 hBa hWa hWb t9 b9 oa hba
  go_wp2_with fail
  go_ret
  refine ⟨x9, rfl, T9.out.monoS fun k hk => ?_, BB.out⟩
  rcases hk with hk | hk | hk
  · exact .inl hk
  · exact .inr (Nat.le_trans HB0.out.size hk)
  · exact .inr (Nat.le_trans Z9.out hk)
set_option maxRecDepth 100000 in
set_option maxHeartbeats 4000000 in
/-- groyneref04.do, renamed -/
theorem rdo_ren {A : Nat → Prop} {w : World} {v u : Value} {F : Fl} {n m : By} (k : Int) (h : Ts A w v F) (hS : Srt F) (hl : F.length ≤ 900000) :
    Calls Try.prog 70 #[v, .agg #[.int .i64 3, .string ⟨n.toArray⟩, .string ⟨m.toArray⟩, .int .i64 0, u], .int .i64 k] w fun e w' => ∃ x, e = .returned x ∧ Ts (fun k => A k ∨ w.heap.size ≤ k) w' x (fput (fdel F n) m (foz F n)) ∧ Below w.heap.size w w' := by
  obtain ⟨a, c, rfl, hc, _, _, _⟩ := h.at
  have HT := Hid.mk' h
  have HS := Hid.mk' hS
  have HL := Hid.mk' hl
  clear h hS hl hc
  go_enter Try.func70, Try.ntmps70
  go_wp2_with fail
  have hup := up_alloc w (.cells #[.int .i64 3, .string ⟨n.toArray⟩, .string ⟨m.toArray⟩, .int .i64 0, u] 68)
  have hbx : (w.alloc (.cells #[.int .i64 3, .string ⟨n.toArray⟩, .string ⟨m.toArray⟩, .int .i64 0, u] 68)).heap[w.heap.size]? = some (.cells #[.int .i64 3, .string ⟨n.toArray⟩, .string ⟨m.toArray⟩, .int .i64 0, u] 68 (0, 0)) := heap_alloc_new w _
  have HB0 := Hid.mk' hup
  have HBX := Hid.mk' hbx
  clear hup hbx
  go_wp2_with fail
  refine (get_any n (HT.out.up HB0.out)).mono ?_
  rintro e w1 ⟨⟨u1, rfl, hu1⟩, rfl⟩
  obtain ⟨a1, c1, rfl, _⟩ := hu1.at
  have HU1 := Hid.mk' hu1
  obtain ⟨W, hW⟩ : ∃ W, W = w.alloc (.cells #[.int .i64 3, .string ⟨n.toArray⟩, .string ⟨m.toArray⟩, .int .i64 0, u] 68) := ⟨_, rfl⟩
  rw [← hW] at HU1 HB0 HBX ⊢
  clear hW hu1
  have q1 : W.cell? ⟨w.heap.size, 0, none⟩ = some (.int .i64 3) := by simp only [World.cell?, HBX.out]; rfl
  generalize (fget F n).isSome = bb at *
  go_wp2_with fail
  have r1 : ∀ q : Kp (fun _ => False) W, q.nx.cell? ⟨w.heap.size, 1, none⟩ = some (.string ⟨n.toArray⟩) := fun q => q.cell (by simp only [World.cell?, HBX.out]; rfl) id
  have r2 : ∀ q : Kp (fun _ => False) W, q.nx.cell? ⟨w.heap.size, 2, none⟩ = some (.string ⟨m.toArray⟩) := fun q => q.cell (by simp only [World.cell?, HBX.out]; rfl) id
  clear q1
  refine wp_region_mix 8 (fun w' => ∃ q : Kp (fun _ => False) W, w' = q.nx) (by kernel_rfl) (by kernel_rfl) (kp_first _ W) ?_
  simp only [List.take_succ_cons, List.take_zero, List.drop_succ_cons, List.drop_zero]
  refine mx_take 3 rfl ?_
  simp only [List.take_succ_cons, List.take_zero, List.drop_succ_cons, List.drop_zero]
  repeat (go_big_quiet_step (fail))
  refine wpQuiet_nil ?_
  refine mx_call (vals := [.slice a (List.length F) c, .string ⟨n.toArray⟩]) Try.func80 (by kernel_rfl) rfl rfl (by kernel_rfl) (by kernel_rfl) (rout_any n (HT.out.up (HB0.out.trans (drew_blx W _))) HS.out) (fun e wa ha => ?_)
  obtain ⟨v9, rfl, ta, hba⟩ := ha
  have hWa : Below W.heap.size W wa := (drew_blx W _).trans hba
  refine ⟨_, rfl, kp_mk hWa.size fun b hb hx => hWa.block b hb, ?_⟩
  simp only [Act.put, List.setIfInBounds_toArray, List.set_cons_succ, List.set_cons_zero]
  obtain ⟨a9, c9, rfl, _⟩ := ta.at
  refine mx_take 3 rfl ?_
  simp only [List.take_succ_cons, List.take_zero, List.drop_succ_cons, List.drop_zero]
  repeat (go_big_quiet_step (fail))
  refine wpQuiet_nil ?_
  refine mx_call (vals := [.slice a9 (fdel F n).length c9, .string ⟨m.toArray⟩, .slice a1 (foz F n).length c1]) Try.func79 (by kernel_rfl) rfl rfl (by kernel_rfl) (by kernel_rfl) (rput_any m ta (HS.out.del n) (HU1.out.up hWa) (by have := HL.out; rw [len_del]; split <;> omega)) (fun e wb hb => ?_)
  obtain ⟨x9, rfl, t9, b9⟩ := hb
  have hWb := bt hWa b9
  refine ⟨_, rfl, kp_mk hWb.size fun b hb hx => hWb.block b hb, ?_⟩
  simp only [Act.put, List.setIfInBounds_toArray, List.set_cons_succ, List.set_cons_zero]
  simp only [wpMix]
  have T9 := Hid.mk' t9
  have BB := Hid.mk' (bt HB0.out hWb)
  have Z9 : Hid (w.heap.size ≤ wa.heap.size) := Nat.le_trans HB0.out.size hWa.size
  clear r1 r2 ta hWa hWb t9 b9 hba
  go_wp2_with fail
  go_ret
  refine ⟨x9, rfl, T9.out.monoS fun k hk => ?_, BB.out⟩
  rcases hk with (hk | hk) | hk | hk
  · exact .inl hk
  · exact .inr (Nat.le_trans HB0.out.size hk)
  · exact .inl hk
  · exact .inr (Nat.le_trans Z9.out hk)
set_option maxRecDepth 100000 in
set_option maxHeartbeats 4000000 in
/-- groyneref04.do, removed -/
theorem rdo_rem {A : Nat → Prop} {w : World} {v u : Value} {F : Fl} {n : By} (k : Int) (h : Ts A w v F) (hS : Srt F) :
    Calls Try.prog 70 #[v, .agg #[.int .i64 4, .string ⟨n.toArray⟩, .string ⟨#[]⟩, .int .i64 0, u], .int .i64 k] w fun e w' => ∃ x, e = .returned x ∧ Ts (fun k => A k ∨ w.heap.size ≤ k) w' x (fdel F n) ∧ Below w.heap.size w w' := by
  obtain ⟨a, c, rfl, hc, _, _, _⟩ := h.at
  have HT := Hid.mk' h
  have HS := Hid.mk' hS
  clear h hS hc
  go_enter Try.func70, Try.ntmps70
  go_wp2_with fail
  have hup := up_alloc w (.cells #[.int .i64 4, .string ⟨n.toArray⟩, .string ⟨#[]⟩, .int .i64 0, u] 68)
  have hbx : (w.alloc (.cells #[.int .i64 4, .string ⟨n.toArray⟩, .string ⟨#[]⟩, .int .i64 0, u] 68)).heap[w.heap.size]? = some (.cells #[.int .i64 4, .string ⟨n.toArray⟩, .string ⟨#[]⟩, .int .i64 0, u] 68 (0, 0)) := heap_alloc_new w _
  have HB0 := Hid.mk' hup
  have HBX := Hid.mk' hbx
  clear hup hbx
  go_wp2_with fail
  refine (get_any n (HT.out.up HB0.out)).mono ?_
  rintro e w1 ⟨⟨u1, rfl, hu1⟩, rfl⟩
  obtain ⟨a1, c1, rfl, _⟩ := hu1.at
  have HU1 := Hid.mk' hu1
  obtain ⟨W, hW⟩ : ∃ W, W = w.alloc (.cells #[.int .i64 4, .string ⟨n.toArray⟩, .string ⟨#[]⟩, .int .i64 0, u] 68) := ⟨_, rfl⟩
  rw [← hW] at HU1 HB0 HBX ⊢
  clear hW hu1
  have q1 : W.cell? ⟨w.heap.size, 0, none⟩ = some (.int .i64 4) := by simp only [World.cell?, HBX.out]; rfl
  generalize (fget F n).isSome = bb at *
  have q2 : W.cell? ⟨w.heap.size, 1, none⟩ = some (.string ⟨n.toArray⟩) := by simp only [World.cell?, HBX.out]; rfl
  go_wp2_with fail
  refine (rout_any n (HT.out.up HB0.out) HS.out).mono ?_
  rintro e wa ⟨v9, rfl, ta, hba⟩
  have T9 := Hid.mk' ta
  have BB := Hid.mk' (bt HB0.out hba)
  clear q1 q2 ta hba
  go_wp2_with fail
  go_ret
  refine ⟨v9, rfl, T9.out.monoS fun k hk => ?_, BB.out⟩
  rcases hk with hk | hk
  · exact .inl hk
  · exact .inr (Nat.le_trans HB0.out.size hk)
/-- groyneref04.do -/
theorem rdo_any {A : Nat → Prop} {w : World} {v u : Value} {F : Fl} (x : Dd) (k : Nat) (h : Ts A w v F) (hS : Srt F) (hu : Bs A w u (oda x)) (hl : F.length ≤ 900000) (hx : Dok F x) (hk1 : 1 ≤ k) (hk2 : k ≤ x.units) :
    Calls Try.prog 70 #[v, .agg #[.int .i64 (okd x), .string ⟨(onm x).toArray⟩, .string ⟨(oto x).toArray⟩, .int .i64 (oat x : Int), u], .int .i64 (k : Int)] w fun e w' => ∃ y, e = .returned y ∧ Ts (fun k => A k ∨ w.heap.size ≤ k) w' y (ddo F x k) ∧ Below w.heap.size w w' := by
  cases x with
  | write n i l => exact rdo_write k h hS hu hl hx.1 hk1 hk2 hx.2.2
  | trim n i => exact rdo_trim k h hS hl hx
  | ren a b => exact rdo_ren k h hS hl
  | rem n => exact rdo_rem k h hS
end Go.Proofs.Ytpgpncngamagdaa
