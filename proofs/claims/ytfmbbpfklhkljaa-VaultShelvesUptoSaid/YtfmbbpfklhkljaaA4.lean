/- groynelaw08.own. -/
import Derived.Test.YtfmbbpfklhkljaaA3
import Derived.Test.YtfmbbpfklhkljaaFS
set_option linter.unusedVariables false
set_option linter.unusedSimpArgs false
namespace Go.Proofs.Ytfmbbpfklhkljaa
open Go.RowKit
def UL.bss (l : List (List UInt8)) : UL := ⟨⟨fun v => ∃ a c, v = .slice a l.length c, fun v w => Bss (Ty w) w v l⟩, fun _ _ _ h hb => h.upTy hb⟩
def UL.bs (l : List UInt8) : UL := ⟨⟨fun v => ∃ a c, v = .slice a l.length c, fun v w => Bs (Ty w) w v l⟩, fun _ _ _ h hb => h.upTy hb⟩
def UL.ints (l : List Int) : UL := ⟨⟨fun v => ∃ a c, v = .slice a l.length c, fun v w => Is (Ty w) w v l⟩, fun _ _ _ h hb => h.upTy hb⟩
theorem Try.info3 : (Try.prog.info? 3).map (fun i => (i.zero, i.size, i.bytes)) = some (some (.int .i64 0), 1, 8) := by kernel_rfl
theorem Try.lays29 (w : World) : (Instr.buildSlice 29 0 #[]).run Try.prog w = .ok (.slice (some ⟨w.heap.size, 0, none⟩) 0 0) (w.alloc (.cells #[] 3)) := by kernel_rfl
theorem cells_set {w : World} {b o : Nat} {u : Value} {cur : Array Value} {e : TypeId} {fr : Nat × Nat} (h : w.heap[b]? = some (.cells cur e fr)) : ∃ cur', (w.setCell ⟨b, o, none⟩ u).heap[b]? = some (.cells cur' e fr) := by
  have hlt := (Array.getElem?_eq_some_iff.1 h).1
  refine ⟨cur.setIfInBounds o u, ?_⟩
  have h2 : w.heap[b] = .cells cur e fr := (Array.getElem?_eq_some_iff.1 h).2
  simp [World.setCell, hlt, Array.getElem_modify, h2]
/-- stores into one block that is no plain row -/
inductive Sts (b : Nat) (w : World) : World → Prop
  | refl : Sts b w w
  | set {w' : World} (o : Nat) (u : Value) : Sts b w w' → Sts b w (w'.setCell ⟨b, o, none⟩ u)
theorem Sts.cells {b : Nat} {w w' : World} (h : Sts b w w') {cur : Array Value} {e : TypeId} {fr : Nat × Nat} (hc : w.heap[b]? = some (.cells cur e fr)) : ∃ cur', w'.heap[b]? = some (.cells cur' e fr) := by
  induction h with
  | refl => exact ⟨_, hc⟩
  | set o u _ ih => obtain ⟨_, h⟩ := ih; exact cells_set h
theorem Sts.same {b : Nat} {w w' : World} (h : Sts b w w') {cur : Array Value} {e : TypeId} {fr : Nat × Nat} (hc : w.heap[b]? = some (.cells cur e fr)) (he : ¬ (e = 3 ∨ e = 5 ∨ e = 32)) : Same (Ty w) w w' ∧ ∀ k, Ty w k → Ty w' k := by
  have h1 : ∀ k, Ty w k → k ≠ b := by
    rintro k ⟨cur', e', fr', hb, he'⟩ rfl
    rw [hc] at hb
    cases hb
    exact he he'
  have h2 : ∀ k, k ≠ b → w'.heap[k]? = w.heap[k]? := by
    intro k hk
    induction h with
    | refl => rfl
    | set o u _ ih => rw [Below.heap_setCell _ _ _ _ hk, ih]
  refine ⟨fun k hk => h2 k (h1 k hk), fun k hk => ?_⟩
  have h3 := h2 k (h1 k hk)
  obtain ⟨cur', e', fr', hb, he'⟩ := hk
  exact ⟨cur', e', fr', by rw [h3]; exact hb, he'⟩
theorem Sts.under {b B : Nat} {w w' W : World} (h : Sts b w w') (hb : B ≤ b) (hW : Below B W w) : Below B W w' := by
  induction h with
  | refl => exact hW
  | set o u _ ih => exact ih.setCell (p := ⟨b, o, none⟩) hb u
theorem Bss.sets {b : Nat} {w w' : World} (h : Sts b w w') {cur : Array Value} {e : TypeId} {fr : Nat × Nat} (hc : w.heap[b]? = some (.cells cur e fr)) (he : ¬ (e = 3 ∨ e = 5 ∨ e = 32)) {v : Value} {l : List (List UInt8)} (hv : Bss (Ty w) w v l) : Bss (Ty w') w' v l :=
  (hv.keepS (h.same hc he).1).monoS (h.same hc he).2
theorem Is.sets {b : Nat} {w w' : World} (h : Sts b w w') {cur : Array Value} {e : TypeId} {fr : Nat × Nat} (hc : w.heap[b]? = some (.cells cur e fr)) (he : ¬ (e = 3 ∨ e = 5 ∨ e = 32)) {v : Value} {l : List Int} (hv : Is (Ty w) w v l) : Is (Ty w') w' v l :=
  (hv.keepS (h.same hc he).1).monoS (h.same hc he).2
theorem RN.sets {b : Nat} {w w' : World} (h : Sts b w w') {cur : Array Value} {e : TypeId} {fr : Nat × Nat} (hc : w.heap[b]? = some (.cells cur e fr)) (he : ¬ (e = 3 ∨ e = 5 ∨ e = 32)) {v : Value} {n : Nd} (hv : RN (Ty w) w v n) : RN (Ty w') w' v n := by
  obtain ⟨k, u, c, e', h1, h2, h3⟩ := hv
  exact ⟨k, u, c, e', h1.sets h hc he, h2.sets h hc he, h3.sets h hc he⟩
theorem RN.upTy {w w' : World} {v : Value} {n : Nd} (h : RN (Ty w) w v n) (hb : Below w.heap.size w w') : RN (Ty w') w' v n := by
  obtain ⟨k, u, c, e, h1, h2, h3⟩ := h; exact ⟨k, u, c, e, h1.upTy hb, h2.upTy hb, h3.upTy hb⟩
/-- Copies, in a region -/
theorem copies_free {A : Nat → Prop} {w : World} {v : Value} {l : List (List UInt8)} (h : Bss A w v l) : Calls Try.prog 63 #[v] w fun e w'' => ∃ u, e = .returned u ∧ Up w w'' ∧ (UL.bss l).1.one u ∧ (UL.bss l).1.led u w'' := by
  refine (copies_any v l w h 0 (Nat.zero_le _)).mono ?_
  rintro e w' ⟨v', rfl, h1, h2⟩
  have h3 := h1.ty (let ⟨_, _, _, h⟩ := h; h)
  obtain ⟨a, c, e, _⟩ := h3.at
  exact ⟨v', rfl, h2, ⟨a, c, e⟩, h3⟩
set_option maxRecDepth 100000 in
set_option maxHeartbeats 2000000 in
/-- groynelaw08.own -/
theorem own_any {A : Nat → Prop} {w : World} {v : Value} {n : Nd} (h : RN A w v n) : Calls Try.prog 19 #[v] w fun e w' => ∃ v', e = .returned v' ∧ RN (Ty w') w' v' n ∧ Below w.heap.size w w' := by
  obtain ⟨k, u, c, rfl, h1, h2, h3⟩ := h
  generalize hlf : n.leaf = lf
  go_enter Try.func19, Try.ntmps19
  go_wp2
  obtain ⟨W, hW, ⟨b0, b1, b2, b3⟩, bf, hbW, hsz⟩ := box4 w (.bool lf) k u c 31
  rw [← hW]
  clear hW
  have hz : (W.alloc (.cells #[.bool false, .slice none 0 0, .slice none 0 0, .slice none 0 0] 37)).heap[w.heap.size + 1]? = some (.cells #[.bool false, .slice none 0 0, .slice none 0 0, .slice none 0 0] 37 (0, 0)) := by rw [← hsz]; exact heap_alloc_new W _
  have hb2 := up_alloc W (.cells #[.bool false, .slice none 0 0, .slice none 0 0, .slice none 0 0] 37)
  generalize (W.alloc (.cells #[.bool false, .slice none 0 0, .slice none 0 0, .slice none 0 0] 37)) = V at *
  have hbV := bt hbW hb2
  have c0 : ∀ p : Ups V, p.nx.cell? ⟨w.heap.size, 0, none⟩ = some (.bool lf) := fun p => p.cell (cell_later hb2 b0)
  have c1 : ∀ p : Ups V, p.nx.cell? ⟨w.heap.size, 1, none⟩ = some k := fun p => p.cell (cell_later hb2 b1)
  have c2 : ∀ p : Ups V, p.nx.cell? ⟨w.heap.size, 2, none⟩ = some u := fun p => p.cell (cell_later hb2 b2)
  have c3 : ∀ p : Ups V, p.nx.cell? ⟨w.heap.size, 3, none⟩ = some c := fun p => p.cell (cell_later hb2 b3)
  have h1 := h1.up hbV
  have h2 := h2.up hbV
  have h3 := h3.up hbV
  clear b0 b1 b2 b3 bf hbW hb2 hsz
  clear W
  have H1 := Hid.mk' h1
  have H2 := Hid.mk' h2
  have H3 := Hid.mk' h3
  have HZ := Hid.mk' hz
  have HB := Hid.mk' hbV
  clear h1 h2 h3 hz hbV
  refine wp_region_free 12 Up (fun w' => ∃ p : Ups V, w' = p.nx) (ul [(7, UL.bss n.keys), (10, UL.bss n.vals), (11, UL.void 3), (14, UL.ints n.kids)]) (by kernel_rfl) (by kernel_rfl) (ul_ck _) (up_first V) ?_
  simp only [List.take_succ_cons, List.take_zero, List.drop_succ_cons, List.drop_zero]
  refine wf_take 4 rfl ?_
  simp only [List.take_succ_cons, List.take_zero, List.drop_succ_cons, List.drop_zero]
  repeat (go_big_quiet_step (fail))
  refine wpQuiet_nil ?_
  refine wf_call (V := (UL.bss n.keys).1) (vals := [k]) Try.func63 (by kernel_rfl) rfl rfl (by kernel_rfl) (by kernel_rfl) (by kernel_rfl) (fun w1 hC _ => ?_) (fun u1 ho1 => ?_)
  · obtain ⟨p, rfl⟩ := hC
    exact copies_free (H1.out.up p.ok)
  simp only [Act.put, List.setIfInBounds_toArray, List.set_cons_succ, List.set_cons_zero]
  refine wf_take 2 rfl ?_
  simp only [List.take_succ_cons, List.take_zero, List.drop_succ_cons, List.drop_zero]
  repeat (go_big_quiet_step (fail))
  refine wpQuiet_nil ?_
  refine wf_call (V := (UL.bss n.vals).1) (vals := [u]) Try.func63 (by kernel_rfl) rfl rfl (by kernel_rfl) (by kernel_rfl) (by kernel_rfl) (fun w1 hC _ => ?_) (fun u2 ho2 => ?_)
  · obtain ⟨p, rfl⟩ := hC
    exact copies_free (H2.out.up p.ok)
  simp only [Act.put, List.setIfInBounds_toArray, List.set_cons_succ, List.set_cons_zero]
  refine wf_make (V := (UL.void 3).1) (by kernel_rfl) (by kernel_rfl) (fun w1 hC _ => ?_) (fun u3 ho3 => ?_)
  · refine ⟨_, _, by simp only [execOp, List.map_toArray, List.map_nil]; exact run_v (Try.lays29 w1), up_alloc _ _, ⟨_, rfl⟩, ⟨_, rfl, heap_alloc_new _ _⟩⟩
  obtain ⟨g, rfl⟩ := ho3
  simp only [Act.put, List.setIfInBounds_toArray, List.set_cons_succ, List.set_cons_zero]
  refine wf_take 2 rfl ?_
  simp only [List.take_succ_cons, List.take_zero, List.drop_succ_cons, List.drop_zero]
  repeat (go_big_quiet_step (fail))
  refine wpQuiet_nil ?_
  refine wf_app (V := (UL.ints n.kids).1) rfl rfl rfl (by kernel_rfl) (by kernel_rfl) (fun w1 hC hK => ?_) (fun u4 ho4 => ?_)
  · obtain ⟨p, rfl⟩ := hC
    obtain ⟨g', e, hg⟩ := hK 11 _ _ (looks_of (by kernel_rfl)) (.inr ⟨rfl, rfl⟩) rfl
    cases e
    have h3 := H3.out.up p.ok
    have hl : lim = 140737488351232 := rfl
    have hl1 := h3.2.1
    have hlm : n.kids.length ≤ maxLen := by unfold maxLen; omega
    obtain ⟨v', w', k1, k2, k3, k4⟩ := run_app0 (P := Try.prog) 29 29 Try.underlying29 Try.info3 rfl (by decide) hg h3.1 (iv_one _) hlm (by omega)
    exact ⟨v', w', k1, k4, k2, row_ty k3 (.inl rfl), h3.2⟩
  simp only [Act.put, List.setIfInBounds_toArray, List.set_cons_succ, List.set_cons_zero]
  intro w1 hC hK
  have k1 := hK 7 _ _ trivial (.inl (.inl (.inl (.inr ⟨rfl, rfl⟩)))) rfl
  have k2 := hK 10 _ _ trivial (.inl (.inl (.inr ⟨rfl, rfl⟩))) rfl
  have k4 := hK 14 _ _ trivial (.inr ⟨rfl, rfl⟩) rfl
  clear hK
  obtain ⟨p, rfl⟩ := hC
  have HK : Hid _ := Hid.mk' (And.intro k1 (And.intro k2 k4))
  have HZ2 : p.nx.heap[w.heap.size + 1]? = some (.cells #[.bool false, .slice none 0 0, .slice none 0 0, .slice none 0 0] 37 (0, 0)) := by rw [p.ok.block _ (Array.getElem?_eq_some_iff.1 HZ.out).1]; exact HZ.out
  have z0 : p.nx.cell? ⟨w.heap.size + 1, 0, none⟩ = some (.bool false) := by simp only [World.cell?, HZ2]; rfl
  have z1 : p.nx.cell? ⟨w.heap.size + 1, 1, none⟩ = some (.slice none 0 0) := by simp only [World.cell?, HZ2]; rfl
  have z2 : p.nx.cell? ⟨w.heap.size + 1, 2, none⟩ = some (.slice none 0 0) := by simp only [World.cell?, HZ2]; rfl
  have z3 : p.nx.cell? ⟨w.heap.size + 1, 3, none⟩ = some (.slice none 0 0) := by simp only [World.cell?, HZ2]; rfl
  have zf : ∀ i, p.nx.frozen? ⟨w.heap.size + 1, i, none⟩ = false := fun i => by simp only [World.frozen?, HZ2]; simp
  have HZ2 := Hid.mk' HZ2
  clear k1 k2 k4
  obtain ⟨a1, q1, rfl⟩ := ho1
  obtain ⟨a2, q2, rfl⟩ := ho2
  obtain ⟨a4, q4, rfl⟩ := ho4
  go_wp2
  refine bodyPost_ret (v := .agg #[.bool lf, .slice a1 n.keys.length q1, .slice a2 n.vals.length q2, .slice a4 n.kids.length q4]) (by simp [results, Try.results19, go_sem, z0, z1, z2, z3]) rfl ?_
  obtain ⟨k1, k2, k4⟩ := HK.out
  have hs : Sts (w.heap.size + 1) p.nx ((((p.nx.setCell ⟨w.heap.size + 1, 0, none⟩ (.bool lf)).setCell ⟨w.heap.size + 1, 1, none⟩ (.slice a1 n.keys.length q1)).setCell ⟨w.heap.size + 1, 2, none⟩ (.slice a2 n.vals.length q2)).setCell ⟨w.heap.size + 1, 3, none⟩ (.slice a4 n.kids.length q4)) :=
    .set _ _ (.set _ _ (.set _ _ (.set _ _ .refl)))
  exact ⟨_, rfl, RN.sets hs HZ2.out (by decide) ⟨_, _, _, by rw [hlf], k1, k2, k4⟩, hs.under (Nat.le_succ _) (bt HB.out p.ok)⟩
end Go.Proofs.Ytfmbbpfklhkljaa
