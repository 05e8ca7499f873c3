/- pack.Writer: Num, Text; Join. -/
import Derived.Test.YtojgkjpmphfakaaGreatDoorPN
set_option linter.unusedVariables false
set_option linter.unusedSimpArgs false
namespace Go.Proofs.YtojgkjpmphfakaaGreatDoor
open Go.RowKit
attribute [local go_sem ↓] Go.wp_at_zero Go.wp_at_succ
/-- a writer at block b: what was put -/
def Wrt (S0 : Nat) (w : World) (b : Nat) (l : List UInt8) : Prop := ∃ a c, w.heap[b]? = some (.cells #[.slice a l.length c] 104 (0, 0)) ∧ Ob 5 S0 w (.slice a l.length c) l ∧ b < S0 ∧ S0 ≤ w.heap.size
theorem Wrt.up {S0 b : Nat} {w w' : World} {l : List UInt8} (h : Wrt S0 w b l) (hb : Below w.heap.size w w') : Wrt S0 w' b l := by
  obtain ⟨a, c, h1, h2, h3, h4⟩ := h
  exact ⟨a, c, (hb.block b (by omega)).trans h1, own_keep h2 hb (Nat.le_refl _), h3, Nat.le_trans h4 hb.size⟩
theorem box1 {w : World} {b : Nat} {c0 : Value} {e : TypeId} (h : w.heap[b]? = some (.cells #[c0] e (0, 0))) : w.cell? ⟨b, 0, none⟩ = some c0 ∧ ∀ i, w.frozen? ⟨b, i, none⟩ = false := ⟨by simp [World.cell?, h], fun i => by simp [World.frozen?, h]⟩
set_option maxRecDepth 100000 in
set_option maxHeartbeats 2000000 in
/-- Writer.Num -/
theorem wnum_any {A : Nat → Prop} {S0 b : Nat} {w : World} {v : Value} {l : List UInt8} {ns : List Nat} (h : Wrt S0 w b l) (hv : Us A w v ns) (hn : ns.length ≤ 1000000) (hz : l.length + (nms ns).length ≤ 100000000) :
    Calls Tryz.prog 57 #[.pointer (some ⟨b, 0, none⟩), v] w fun e w' => e = .returned (.tuple #[]) ∧ Wrt S0 w' b (l ++ nms ns) ∧ Below b w w' := by
  obtain ⟨a, c, h1, h2, h3, h4⟩ := h
  obtain ⟨va, vc, rfl, _, _, _⟩ := hv.at
  obtain ⟨c0, f0⟩ := box1 h1
  have HN := Hid.mk' (pnum_any (hv.up (drew_blx w _)) hn)
  have HO := Hid.mk' h2
  have HE := Hid.mk' h1
  have HS : Hid (b < S0 ∧ S0 ≤ w.heap.size) := ⟨h3, h4⟩
  have s0 : ∀ q : Kp (fun k => S0 ≤ k) w, q.nx.cell? ⟨b, 0, none⟩ = some _ := fun q => q.cell c0 (by omega)
  have HZ := Hid.mk' hz
  have HLL : Hid (l.length + (nms ns).length = (l ++ nms ns).length) := (List.length_append ..).symm
  clear h1 h2 hv f0 hz
  go_enter Tryz.func57, Tryz.ntmps57
  go_upto_region 0 with fail
  refine wp_region_mox 8 (fun w' => ∃ q : Kp (fun k => S0 ≤ k) w, w' = q.nx) (by kernel_rfl) (by kernel_rfl) (kp_first _ w) ?_
  simp only [List.take_succ_cons, List.take_zero, List.drop_succ_cons, List.drop_zero]
  refine mx_take 6 rfl ?_
  simp only [List.take_succ_cons, List.take_zero, List.drop_succ_cons, List.drop_zero]
  repeat (go_big_quiet_step (fail))
  refine wpQuiet_nil ?_
  refine mx_call (vals := [.slice va ns.length vc]) Tryz.func45 (by kernel_rfl) rfl rfl (by kernel_rfl) (by kernel_rfl) HN.out (fun E wc hc => ?_)
  obtain ⟨v5, rfl, ho5, hbe5⟩ := hc
  have HB5 : Hid (Below w.heap.size w wc) := (drew_blx w _).trans hbe5
  refine ⟨_, rfl, kp_mk HB5.out.size fun b hb hx => HB5.out.block b hb, ?_⟩
  simp only [Act.put, List.setIfInBounds_toArray, List.set_cons_succ, List.set_cons_zero]
  have HO5 := Hid.mk' (own_keep HO.out HB5.out (Nat.le_refl _))
  have HR5 : Hid (Row 1 (fun k => w.drew.heap.size ≤ k) wc v5 (nms ns).length (bv (nms ns))) := Row.of_ownB ho5
  have HE5 : Hid (wc.heap[b]? = some (.cells #[.slice a l.length c] 104 (0, 0))) := (HB5.out.block b (by omega)).trans HE.out
  have HOL : Hid (∀ i, (Value.slice a l.length c).ownBlock = some i → S0 ≤ i) := fun i hi => (HO.out.lt i hi).1
  have hs5 := HB5.out.size
  obtain ⟨v6, w6, hrun, ho, hg, _, hbb⟩ := run_app (P := Tryz.prog) (w := wc) 69 69 Tryz.underlying69 Tryz.info5 rfl (by decide) HO5.out HR5.out (bv_one _) (by have := HZ.out; unfold maxLen; omega) (by have := HZ.out; omega) (by omega)
  have hsz6 := hg.size
  have HE6 : Hid (w6.heap[b]? = some (.cells #[.slice a l.length c] 104 (0, 0))) := (hg.block _ (by omega) (fun e => by have h1 := HOL.out _ e.symm; omega)).trans HE5.out
  have hkeep : ∀ k, k < w.heap.size → ¬ S0 ≤ k → w6.heap[k]? = w.heap[k]? := fun k hk hx => (hg.block _ (by omega) (fun e => by have h1 := HOL.out _ e.symm; omega)).trans (HB5.out.block k hk)
  have HB6 : Hid (Below b w w6) := below_app (HB5.out.mono (by omega)) HO5.out hg (by omega) (by omega)
  obtain ⟨a6, c6, e6⟩ := own_slice ho
  subst e6
  refine mx_app rfl rfl rfl (by kernel_rfl) hrun (kp_mk (by omega) hkeep) ?_
  simp only [Act.put, List.setIfInBounds_toArray, List.set_cons_succ, List.set_cons_zero]
  simp only [wpMix]
  obtain ⟨d0, f0⟩ := box1 HE6.out
  have f00 := f0 0
  have hw7 := Wb.set (X := fun k => k = b) w6 b 0 (.slice a6 (l.length + (nms ns).length) c6) rfl
  have HE7 : Hid ((w6.setCell ⟨b, 0, none⟩ (.slice a6 (l.length + (nms ns).length) c6)).heap[b]? = some (.cells #[.slice a6 (l ++ nms ns).length c6] 104 (0, 0))) := by
    rw [← HLL.out]
    exact heap_setCell_same w6 b 0 _ 104 _ HE6.out
  have HO7 : Hid (Ob 5 S0 (w6.setCell ⟨b, 0, none⟩ (.slice a6 (l.length + (nms ns).length) c6)) (.slice a6 (l ++ nms ns).length c6) (l ++ nms ns)) := by
    unfold Hid Ob
    rw [← HLL.out, show bv (l ++ nms ns) = bv l ++ bv (nms ns) by simp [bv]]
    refine own_wb ho hw7 fun k hk e => ?_
    subst hk
    have := (World.ownsRow.lt ho _ e.symm).1
    omega
  have HSZ : Hid (b < S0 ∧ S0 ≤ (w6.setCell ⟨b, 0, none⟩ (.slice a6 (l.length + (nms ns).length) c6)).heap.size) := ⟨h3, by rw [size_setCell]; omega⟩
  have HB7 : Hid (Below b w (w6.setCell ⟨b, 0, none⟩ (.slice a6 (l.length + (nms ns).length) c6))) := HB6.out.trans (hw7.below (by omega) fun k hk => by subst hk; exact Nat.le_refl _)
  clear s0 ho5 hbe5 HN c0 hrun ho hg hbb hsz6 hkeep hw7 f0 h3 h4 hs5
  go_wp2_with fail
  go_end0
  exact ⟨rfl, ⟨_, _, HE7.out, HO7.out, HSZ.out⟩, HB7.out⟩
end Go.Proofs.YtojgkjpmphfakaaGreatDoor
