/- twin again, with what it owns; Held. -/
import Derived.Test.YteejlmeinndlhaaAW
set_option linter.unusedVariables false
set_option linter.unusedSimpArgs false
namespace Go.Proofs.Yteejlmeinndlhaa
open Go.RowKit Go.Maps
attribute [local go_sem ↓] Go.wp_at_zero Go.wp_at_succ
theorem Ob.mono2 {e : TypeId} {B B' : Nat} {w : World} {v : Value} {l : List UInt8} (h : w.ownsRow B e 1 v l.length (bv l)) (hB : B' ≤ B) : Ob e B' w v l := own_mono h hB
def TwP (w : World) (r : Rg) (e : Ending) (w' : World) : Prop := ∃ f t, e = .returned (.agg #[f, t, .bool r.xc]) ∧ Ob 5 w.heap.size w' f r.lo ∧ Ob 5 w.heap.size w' t r.hi ∧ (∀ k, f.ownBlock = some k → t.ownBlock ≠ some k) ∧ Below w.heap.size w w'
set_option maxRecDepth 100000 in
set_option maxHeartbeats 2000000 in
/-- twin -/
theorem twin2_any {A : Nat → Prop} {w : World} {v : Value} {r : Rg} (h : RgIs A w v r) : Calls Try.prog 49 #[v] w fun e w' => TwP w r e w' := by
  obtain ⟨fa, fc, ta, tc, rfl, hf, ht⟩ := h.form
  obtain ⟨W, hW⟩ : ∃ W, W = (w.alloc (.cells #[.slice fa r.lo.length fc, .slice ta r.hi.length tc, .bool r.xc] 24)).alloc (.cells #[.slice none 0 0, .slice none 0 0, .bool false] 24) := ⟨_, rfl⟩
  have hs : W.heap.size = w.heap.size + 1 + 1 := by rw [hW]; simp
  have hb : Below w.heap.size w W := by rw [hW]; exact bt (up_alloc _ _) (up_alloc _ _)
  have e0 : W.heap[w.heap.size]? = some (.cells #[.slice fa r.lo.length fc, .slice ta r.hi.length tc, .bool r.xc] 24 (0, 0)) := by
    rw [hW, (up_alloc _ _).block _ (by simp)]; exact heap_alloc_new w _
  have e1 : W.heap[w.heap.size + 1]? = some (.cells #[.slice none 0 0, .slice none 0 0, .bool false] 24 (0, 0)) := by
    rw [hW]; have := heap_alloc_new (w.alloc (.cells #[.slice fa r.lo.length fc, .slice ta r.hi.length tc, .bool r.xc] 24)) (.cells #[.slice none 0 0, .slice none 0 0, .bool false] 24); rwa [World.size_alloc] at this
  obtain ⟨x0, x1, x2⟩ := box3 e0
  have r0 : ∀ q : Kp (fun _ => False) W, q.nx.cell? ⟨w.heap.size, 0, none⟩ = some _ := fun q => q.cell x0 id
  have r1 : ∀ q : Kp (fun _ => False) W, q.nx.cell? ⟨w.heap.size, 1, none⟩ = some _ := fun q => q.cell x1 id
  have HC1 := Hid.mk' (clone_any _ _ W.drew ((hf.up hb).up (drew_blx W _)))
  have HC2 : Hid (∀ wz, Below W.heap.size W wz → Calls Try.prog 61 #[.slice ta r.hi.length tc] wz (RetOb 5 wz r.hi)) := fun wz hz => clone_any _ _ wz ((ht.up hb).up hz)
  have HB := Hid.mk' hb
  have HE0 := Hid.mk' e0
  have HE1 := Hid.mk' e1
  have HL1 := Hid.mk' hf.2
  have HL2 := Hid.mk' ht.2
  have HS := Hid.mk' hs
  clear h hf ht hb e0 e1 x0 x1 x2
  generalize hxc : r.xc = xc at *
  have HXC := Hid.mk' hxc
  clear hxc
  go_enter Try.func49, Try.ntmps49
  go_upto_region 1 with fail
  rw [← hW]
  clear hW
  refine wp_region_mix 7 (fun w' => ∃ q : Kp (fun _ => False) W, w' = q.nx) (by kernel_rfl) (by kernel_rfl) (kp_first _ W) ?_
  simp only [List.take_succ_cons, List.take_zero, List.drop_succ_cons, List.drop_zero]
  refine mx_take 2 rfl ?_
  simp only [List.take_succ_cons, List.take_zero, List.drop_succ_cons, List.drop_zero]
  repeat (go_big_quiet_step (fail))
  refine wpQuiet_nil ?_
  refine mx_call (vals := [.slice fa r.lo.length fc]) Try.func61 (by kernel_rfl) rfl rfl (by kernel_rfl) (by kernel_rfl) HC1.out (fun E wa ha => ?_)
  obtain ⟨u1, rfl, hba, ho1⟩ := ha
  have hWa : Below W.heap.size W wa := (drew_blx W _).trans hba
  obtain ⟨a1, k1, rfl⟩ := own_slice ho1
  refine ⟨_, rfl, kp_mk hWa.size fun b hb hx => hWa.block b hb, ?_⟩
  simp only [Act.put, List.setIfInBounds_toArray, List.set_cons_succ, List.set_cons_zero]
  refine mx_take 2 rfl ?_
  simp only [List.take_succ_cons, List.take_zero, List.drop_succ_cons, List.drop_zero]
  repeat (go_big_quiet_step (fail))
  refine wpQuiet_nil ?_
  refine mx_call (vals := [.slice ta r.hi.length tc]) Try.func61 (by kernel_rfl) rfl rfl (by kernel_rfl) (by kernel_rfl) (HC2.out wa hWa) (fun E wb hb => ?_)
  obtain ⟨u2, rfl, hbb, ho2⟩ := hb
  have hWb : Below W.heap.size W wb := bt hWa hbb
  obtain ⟨a2, k2, rfl⟩ := own_slice ho2
  refine ⟨_, rfl, kp_mk hWb.size fun b hb hx => hWb.block b hb, ?_⟩
  simp only [Act.put, List.setIfInBounds_toArray, List.set_cons_succ, List.set_cons_zero]
  refine mx_take 1 rfl ?_
  simp only [List.take_succ_cons, List.take_zero, List.drop_succ_cons, List.drop_zero]
  repeat (go_big_quiet_step (fail))
  refine wpQuiet_nil ?_
  simp only [wpMix]
  clear r0 r1
  have HS2 : Hid (w.heap.size + 1 + 1 ≤ wb.heap.size) := by have := hWb.size; rw [HS.out] at this; exact this
  have e0 : wb.heap[w.heap.size]? = _ := (hWb.block _ (by rw [HS.out]; omega)).trans HE0.out
  have e1 : wb.heap[w.heap.size + 1]? = _ := (hWb.block _ (by rw [HS.out]; omega)).trans HE1.out
  have HO1 : Hid (Ob 5 w.heap.size wb (.slice a1 r.lo.length k1) r.lo) := Ob.mono2 (own_keep ho1 hbb (Nat.le_refl _)) (by have h2 : W.drew.heap.size = W.heap.size := rfl; rw [h2, HS.out]; omega)
  have HO2 : Hid (Ob 5 w.heap.size wb (.slice a2 r.hi.length k2) r.hi) := ho2.mono (by have h3 := hWa.size; rw [HS.out] at h3; omega)
  have HK1 : Hid (∀ k, (Value.slice a1 r.lo.length k1).ownBlock = some k → w.heap.size + 1 < k ∧ k < wa.heap.size) := fun k hk => ⟨by have := (Ob.lt ho1 k hk).1; have h2 : W.drew.heap.size = W.heap.size := rfl; rw [h2, HS.out] at this; omega, (Ob.lt ho1 k hk).2⟩
  have HK2 : Hid (∀ k, (Value.slice a2 r.hi.length k2).ownBlock = some k → w.heap.size + 1 < k ∧ wa.heap.size ≤ k) := fun k hk => ⟨by have := (Ob.lt ho2 k hk).1; have h3 := hWa.size; rw [HS.out] at h3; omega, (Ob.lt ho2 k hk).1⟩
  have HBB := Hid.mk' (bt HB.out hWb)
  clear ho1 ho2 hba hbb hWa hWb HC1 HC2
  obtain ⟨x0, x1, x2⟩ := box3 e0
  obtain ⟨y0, y1, y2⟩ := box3 e1
  have hx := box3_fr e0
  have hy := box3_fr e1
  have fx0 := hx 0
  have fx1 := hx 1
  have fy0 := hy 0
  have fy1 := hy 1
  have fy2 := hy 2
  have HX := Hid.mk' e0
  have HY := Hid.mk' e1
  clear e0 e1 hx hy
  go_upto_region 2 with fail
  obtain ⟨X, hX⟩ : ∃ X, X = (wb.setCell ⟨w.heap.size, 0, none⟩ (.slice a1 r.lo.length k1)).setCell ⟨w.heap.size, 1, none⟩ (.slice a2 r.hi.length k2) := ⟨_, rfl⟩
  rw [← hX]
  have hwX : Wb (fun k => k = w.heap.size) wb X := by rw [hX]; exact (Wb.set (X := fun k => k = w.heap.size) _ _ _ _ rfl).trans (Wb.set _ _ _ _ rfl)
  have e0 : X.heap[w.heap.size]? = some (.cells #[.slice a1 r.lo.length k1, .slice a2 r.hi.length k2, .bool xc] 24 (0, 0)) := by rw [hX]; exact box3_set (box3_set HX.out 0 _) 1 _
  have e1 : X.heap[w.heap.size + 1]? = some (.cells #[.slice none 0 0, .slice none 0 0, .bool false] 24 (0, 0)) := (hwX.block _ (by have := HS2.out; omega) (by omega)).trans HY.out
  clear hX x0 x1 x2 y0 y1 y2 fx0 fx1 fy0 fy1 fy2
  obtain ⟨x0, x1, x2⟩ := box3 e0
  obtain ⟨y0, y1, y2⟩ := box3 e1
  have hy := box3_fr e1
  have fy0 := hy 0
  have fy1 := hy 1
  have fy2 := hy 2
  have hw3 := wb3 (w.heap.size + 1) 0 1 2 (.slice a1 r.lo.length k1) (.slice a2 r.hi.length k2) (.bool xc) X
  have HW3 : Hid (Wb (fun k => k = w.heap.size ∨ k = w.heap.size + 1) wb (((X.setCell ⟨w.heap.size + 1, 0, none⟩ (.slice a1 r.lo.length k1)).setCell ⟨w.heap.size + 1, 1, none⟩ (.slice a2 r.hi.length k2)).setCell ⟨w.heap.size + 1, 2, none⟩ (.bool xc))) := (hwX.mono fun k hk => .inl hk).trans (hw3.mono fun k hk => .inr hk)
  have HX3 := Hid.mk' (show ((((X.setCell ⟨w.heap.size + 1, 0, none⟩ (.slice a1 r.lo.length k1)).setCell ⟨w.heap.size + 1, 1, none⟩ (.slice a2 r.hi.length k2)).setCell ⟨w.heap.size + 1, 2, none⟩ (.bool xc)).heap[w.heap.size + 1]?) = some (.cells #[.slice a1 r.lo.length k1, .slice a2 r.hi.length k2, .bool xc] 24 (0, 0)) from box3_set (box3_set (box3_set e1 0 _) 1 _) 2 _)
  clear hw3 hwX hy e0 e1
  go_wp2_with fail
  (try simp only [Exit.inBlock, Exit.then])
  refine bodyPost_ret (results_cell_row rfl _ _ (w.heap.size + 1) 24 _ (0, 0) _ rfl HX3.out Try.underlying24 rfl Try.sz24) rfl ?_
  refine ⟨_, _, by rw [HXC.out], own_wb HO1.out HW3.out ?_, own_wb HO2.out HW3.out ?_, ?_, HBB.out.trans (HW3.out.below (by have := HS2.out; omega) fun k hk => by omega)⟩
  · intro k hk e; have := HK1.out k e.symm; omega
  · intro k hk e; have := HK2.out k e.symm; omega
  · intro k h1 h2; have := HK1.out k h1; have := HK2.out k h2; omega
/-- ranges of the call's own, their bytes too -/
def Oi (S0 : Nat) (w : World) (v : Value) (L : List Rq) : Prop := w.ownsRow S0 24 3 v L.length (rcs L) ∧ (∀ q ∈ L, Ob 5 S0 w q.2.1 q.1.lo ∧ Ob 5 S0 w q.2.2 q.1.hi ∧ q.1.lo.length ≤ lim ∧ q.1.hi.length ≤ lim ∧ (∀ k, q.2.1.ownBlock = some k → q.2.2.ownBlock ≠ some k) ∧ (∀ k, v.ownBlock = some k → q.2.1.ownBlock ≠ some k ∧ q.2.2.ownBlock ≠ some k)) ∧ L.length * 56 ≤ lim
theorem Oi.up {S0 : Nat} {w w' : World} {v : Value} {L : List Rq} (h : Oi S0 w v L) (hb : Below w.heap.size w w') : Oi S0 w' v L :=
  ⟨own_keep h.1 hb (Nat.le_refl _), fun q hq => let ⟨a, b, c⟩ := h.2.1 q hq; ⟨own_keep a hb (Nat.le_refl _), own_keep b hb (Nat.le_refl _), c⟩, h.2.2⟩
theorem Oi.mono {S0 S1 : Nat} {w : World} {v : Value} {L : List Rq} (h : Oi S0 w v L) (hS : S1 ≤ S0) : Oi S1 w v L :=
  ⟨own_mono h.1 hS, fun q hq => let ⟨a, b, c⟩ := h.2.1 q hq; ⟨own_mono a hS, own_mono b hS, c⟩, h.2.2⟩
theorem oi_nil {S0 : Nat} {w : World} : Oi S0 w (.slice none 0 0) [] := ⟨World.ownsRow_nil w S0 24 3, fun q hq => by simp at hq, by unfold lim; simp⟩
theorem Oi.app {S0 c : Nat} {w w1 : World} {v v' : Value} {r : Rg} {f t : Value} {L : List Rq} (h : Oi S0 w v L) (hS : S0 ≤ c) (hf : Ob 5 c w f r.lo) (ht : Ob 5 c w t r.hi) (hlf : r.lo.length ≤ lim) (hlt : r.hi.length ≤ lim) (hne : ∀ k, f.ownBlock = some k → t.ownBlock ≠ some k)
    (hc : ∀ k, v.ownBlock = some k → k < c) (ho : w1.ownsRow S0 24 3 v' (L.length + 1) (rcs L ++ [f, t, .bool r.xc])) (hg : w.grownBy w1 v.ownBlock) (hb : v'.ownBlock = v.ownBlock ∨ v'.ownBlock = some w.heap.size) (hn : (L.length + 1) * 56 ≤ lim) : Oi S0 w1 v' (L ++ [(r, f, t)]) := by
  have hwb := Wb.of_grown hg
  have hlt' : ∀ {B : Nat} {x : Value} {l : List UInt8}, Ob 5 B w x l → ∀ k, v'.ownBlock = some k → (v.ownBlock = some k → x.ownBlock ≠ some k) → x.ownBlock ≠ some k := fun hx k hk hv e => by
    rcases hb with hb | hb
    · exact hv (hb ▸ hk) e
    · rw [hb] at hk; cases hk; have := (Ob.lt hx _ e).2; omega
  refine ⟨by rw [rcs_app, List.length_append, List.length_singleton]; exact ho, fun q hq => ?_, by simpa using hn⟩
  rw [List.mem_append, List.mem_singleton] at hq
  rcases hq with hq | rfl
  · obtain ⟨a, b, d1, d2, d3, d4⟩ := h.2.1 q hq
    exact ⟨own_wb a hwb fun k hk e => (d4 k hk.symm).1 e.symm, own_wb b hwb fun k hk e => (d4 k hk.symm).2 e.symm, d1, d2, d3, fun k hk => ⟨hlt' a k hk fun h => (d4 k h).1, hlt' b k hk fun h => (d4 k h).2⟩⟩
  · have h1 : ∀ k, v.ownBlock = some k → f.ownBlock ≠ some k := fun k hk e => by have := hc k hk; have := (Ob.lt hf k e).1; omega
    have h2 : ∀ k, v.ownBlock = some k → t.ownBlock ≠ some k := fun k hk e => by have := hc k hk; have := (Ob.lt ht k e).1; omega
    exact ⟨own_mono (own_wb hf hwb fun k hk e => h1 k hk.symm e.symm) hS, own_mono (own_wb ht hwb fun k hk e => h2 k hk.symm e.symm) hS, hlf, hlt, hne, fun k hk => ⟨hlt' hf k hk (h1 k), hlt' ht k hk (h2 k)⟩⟩
def HeP (w : World) (l : List Rg) (e : Ending) (w' : World) : Prop := ∃ v L, e = .returned v ∧ L.map (·.1) = l ∧ Oi w.heap.size w' v L ∧ Below w.heap.size w w'
set_option maxRecDepth 100000 in
set_option maxHeartbeats 4000000 in
/-- Held -/
theorem held_any {M D : Nat → Prop} {w : World} {b : Nat} {T : Tb} {x : Tx} (h : TbIs M D w b T) (hm : (tgz T x).length ≤ 1000000) : Calls Try.prog 27 #[.pointer (some ⟨b, 0, none⟩), tv x] w (HeP w (tgz T x)) := by
  obtain ⟨W, hW⟩ : ∃ W, W = w.alloc (.cells #[.int .u64 (x.1.toNat : Int), .int .u64 (x.2.1.toNat : Int), .int .u64 (x.2.2.toNat : Int)] 30) := ⟨_, rfl⟩
  have hb : Below w.heap.size w W := by rw [hW]; exact up_alloc _ _
  obtain ⟨y0, y1, y2⟩ : W.cell? ⟨w.heap.size, 0, none⟩ = some (.int .u64 (x.1.toNat : Int)) ∧ W.cell? ⟨w.heap.size, 1, none⟩ = some (.int .u64 (x.2.1.toNat : Int)) ∧ W.cell? ⟨w.heap.size, 2, none⟩ = some (.int .u64 (x.2.2.toNat : Int)) := by rw [hW]; exact box3 (heap_alloc_new w _)
  obtain ⟨m, hbh, hmi⟩ := (h.below hb).ex
  obtain ⟨c0, _⟩ := cell_of_box_a hbh
  obtain ⟨u, hlk, hu⟩ := mi_look hmi x
  have r0 : ∀ q : Kp (fun _ => False) W, q.nx.cell? ⟨b, 0, none⟩ = some _ := fun q => q.cell c0 id
  have rx0 : ∀ q : Kp (fun _ => False) W, q.nx.cell? ⟨w.heap.size, 0, none⟩ = some _ := fun q => q.cell y0 id
  have rx1 : ∀ q : Kp (fun _ => False) W, q.nx.cell? ⟨w.heap.size, 1, none⟩ = some _ := fun q => q.cell y1 id
  have rx2 : ∀ q : Kp (fun _ => False) W, q.nx.cell? ⟨w.heap.size, 2, none⟩ = some _ := fun q => q.cell y2 id
  have rl : ∀ q : Kp (fun _ => False) W, (Instr.lookup 35 (.map m) (.agg #[.int .u64 (x.1.toNat : Int), .int .u64 (x.2.1.toNat : Int), .int .u64 (x.2.2.toNat : Int)]) false).run Try.prog q.nx = .ok _ q.nx := fun q => hlk _ fun b hb => q.ok b hb id
  obtain ⟨va, vc, rfl, hvc, _, _, hat⟩ := hu.at
  have HAT := Hid.mk' hat
  have HB := Hid.mk' hb
  have hl' : ((tgz T x).length : Int) ≤ 1000000 := by omega
  clear h hb y0 y1 y2 hbh hmi c0 hlk hu hat hm
  generalize tgz T x = l at *
  show Calls Try.prog 27 #[.pointer (some ⟨b, 0, none⟩), .agg #[.int .u64 (x.1.toNat : Int), .int .u64 (x.2.1.toNat : Int), .int .u64 (x.2.2.toNat : Int)]] w _
  generalize (x.1.toNat : Int) = n1 at *
  generalize (x.2.1.toNat : Int) = n2 at *
  generalize (x.2.2.toNat : Int) = n3 at *
  go_enter Try.func27, Try.ntmps27
  go_upto_region 2 with fail
  rw [← hW]
  clear hW
  refine wp_region_mix 8 (fun w' => ∃ q : Kp (fun _ => False) W, w' = q.nx) (by kernel_rfl) (by kernel_rfl) (kp_first _ W) ?_
  simp only [List.take_succ_cons, List.take_zero, List.drop_succ_cons, List.drop_zero]
  refine mx_take 8 rfl ?_
  simp only [List.take_succ_cons, List.take_zero, List.drop_succ_cons, List.drop_zero]
  repeat (go_big_quiet_step (fail))
  refine wpQuiet_nil ?_
  simp only [wpMix]
  clear r0 rx0 rx1 rx2 rl
  have HWD : Hid (Below W.heap.size W W.drew) := drew_blx W _
  have HBD := Hid.mk' (bt HB.out HWD.out)
  go_wp2_with fail
  go_loopw [5, 15] (fun y i wr => ∃ (k : Nat) (L : List Rq) (oa : Option Addr) (oc : Nat), k ≤ l.length ∧ i = .int .i64 k ∧ y = .slice oa L.length oc ∧ Hid (L.map (·.1) = l.take k) ∧ Hid (Oi W.heap.size wr (.slice oa L.length oc) L) ∧ Hid (Below w.heap.size w wr) ∧ Hid (Below W.heap.size W wr)) (fun _ i _ => l.length - (intOf i).toNat)
  case atStart => exact ⟨0, [], none, 0, by omega, rfl, rfl, rfl, oi_nil, HBD, HWD⟩
  case round =>
    clear HWD HBD
    obtain ⟨k, L, oa, oc, hk, rfl, rfl, HL, HO, HB3, HW3⟩ := hrel
    by_cases hlt : k < l.length
    · have hlt' : (k : Int) < (l.length : Int) := by omega
      obtain ⟨bb, of, fa, fc, ta, tc, rfl, _, ⟨c0, c1, c2⟩, h3, h4⟩ := HAT.out k hlt
      have c0 := cell_up c0 HW3.out
      have c1 := cell_up c1 HW3.out
      have c2 := cell_up c2 HW3.out
      have hLk : L.length = k := by have := congrArg List.length HL.out; rw [List.length_map, List.length_take] at this; omega
      obtain ⟨W3, hW3, hbW3, hcW3⟩ := one_box wr (.slice fa l[k].lo.length fc) (.slice ta l[k].hi.length tc) (.bool l[k].xc) 24
      have HTW : Hid (Calls Try.prog 49 #[.agg #[.slice fa l[k].lo.length fc, .slice ta l[k].hi.length tc, .bool l[k].xc]] W3 (TwP W3 l[k])) := twin2_any ⟨_, _, rfl, (h3.up HW3.out).up hbW3, (h4.up HW3.out).up hbW3⟩
      have HTK : Hid (L.map (·.1) ++ [l[k]] = l.take (k + 1)) := by show _ = _; rw [List.take_succ_eq_append_getElem hlt, HL.out]
      have HZ1 : Hid (l[k].lo.length ≤ lim) := h3.2
      have HZ2 : Hid (l[k].hi.length ≤ lim) := h4.2
      have HBW3 := Hid.mk' hbW3
      obtain ⟨b0, b1, b2⟩ := hcW3 W3 (Below.refl _ _)
      have HLk := Hid.mk' hLk
      clear h3 h4 hbW3 hcW3 hLk
      generalize l[k] = r at *
      generalize hlo : r.lo.length = n at *
      generalize hhi : r.hi.length = mm at *
      generalize hxc : r.xc = xc at *
      have HLO := Hid.mk' hlo
      have HHI := Hid.mk' hhi
      have HXC := Hid.mk' hxc
      clear hlo hhi hxc
      go_wp2_with fail
      rw [← hW3]
      clear hW3 c0 c1 c2
      go_wp2_with fail
      refine HTW.out.mono ?_
      rintro e w5 ⟨f, t, rfl, hf, ht, hne, hb5⟩
      obtain ⟨f1, k1, rfl⟩ := own_slice hf
      obtain ⟨f2, k2, rfl⟩ := own_slice ht
      have HF1 := Hid.mk' hf
      have HF2 := Hid.mk' ht
      have HNE := Hid.mk' hne
      have HB5 := Hid.mk' (bt HBW3.out hb5)
      have H35 : Hid (W3.heap.size ≤ w5.heap.size) := hb5.size
      have HO5 := Hid.mk' ((HO.out.up HB5.out).up (up_alloc w5 (.cells #[.slice f1 r.lo.length k1, .slice f2 r.hi.length k2, .bool r.xc] 24)))
      have HOL : Hid (∀ k, (Value.slice oa L.length oc).ownBlock = some k → k < W3.heap.size) := fun k hk => Nat.lt_of_lt_of_le (World.ownsRow.lt HO.out.1 k hk).2 HBW3.out.size
      clear hf ht hne hb5 b0 b1 b2 HTW
      go_wp2_with (at_builtin; go_must (refine wpl_app rfl (.tmp 19) (.tmp 22) 40 rfl Try.underlying40 Try.info24 rfl (by decide) rfl HO5.out.1 rfl row_one3 (by intro u hu; simp only [List.mem_cons, List.not_mem_nil, or_false] at hu; rcases hu with rfl | rfl | rfl <;> rfl) (by have := HLk.out; unfold maxLen; omega) (by have := HLk.out; omega) (by have := HW3.out.size; have := HB5.out.size; simp; omega) ?_); intro v6 w6 ho hg hn hbb)
      have hup := up_alloc w5 (.cells #[.slice f1 r.lo.length k1, .slice f2 r.hi.length k2, .bool r.xc] 24)
      have hbW6 : Below wr.heap.size wr (w5.alloc (.cells #[.slice f1 r.lo.length k1, .slice f2 r.hi.length k2, .bool r.xc] 24)) := bt HB5.out hup
      have e0 := HB3.out.size
      have e1 := HBW3.out.size
      have e2 := hbW6.size
      have e3 := HW3.out.size
      have e4 := HB.out.size
      have HO6 : Hid (Oi W.heap.size w6 v6 (L ++ [(r, .slice f1 r.lo.length k1, .slice f2 r.hi.length k2)])) := Oi.app (c := W3.heap.size) HO5.out (by omega) (own_keep HF1.out hup (Nat.le_refl _)) (own_keep HF2.out hup (Nat.le_refl _)) (by rw [HLO.out]; exact HZ1.out) (by rw [HHI.out]; exact HZ2.out) HNE.out HOL.out ho hg hbb (by have := HLk.out; unfold lim; omega)
      have HB6 : Hid (Below w.heap.size w w6) := below_app (HB3.out.trans (hbW6.mono e0)) HO5.out.1 hg e4 (by omega)
      have HB7 : Hid (Below W.heap.size W w6) := below_app (HW3.out.trans (hbW6.mono e3)) HO5.out.1 hg (Nat.le_refl _) (by omega)
      obtain ⟨a6, c6, e6⟩ := own_sliceN ho
      have E6 : Hid (v6 = .slice a6 (L ++ [((r, Value.slice f1 r.lo.length k1, Value.slice f2 r.hi.length k2) : Rq)]).length c6) := by show _ = _; rw [e6, List.length_append]; rfl
      have HTK2 : Hid ((L ++ [(r, Value.slice f1 r.lo.length k1, Value.slice f2 r.hi.length k2)]).map (·.1) = l.take (k + 1)) := by show _ = _; rw [List.map_append]; exact HTK.out
      rw [E6.out] at HO6
      clear ho hg hn hbb hup hbW6 e0 e1 e2 e3 e4 e6 HTK
      go_wp2_with fail
      go_roundw
      case rel => exact ⟨k + 1, _, a6, c6, by omega, by go_num, E6.out, HTK2, HO6, HB6, HB7⟩
      case measure => simp [intOf]; omega
    · obtain rfl : k = l.length := by omega
      go_wp2_with fail
      go_ret
      exact ⟨_, L, rfl, by rw [HL.out, List.take_length], HO.out.mono HB.out.size, HB3.out⟩
end Go.Proofs.Yteejlmeinndlhaa
