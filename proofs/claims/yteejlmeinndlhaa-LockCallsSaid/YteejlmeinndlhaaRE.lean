/- Release. -/
import Derived.Test.YteejlmeinndlhaaAS
set_option linter.unusedVariables false
set_option linter.unusedSimpArgs false
namespace Go.Proofs.Yteejlmeinndlhaa
open Go.RowKit Go.Maps
attribute [local go_sem ↓] Go.wp_at_zero Go.wp_at_succ
/-- v reads as the transactions l -/
def Txr (A : Nat → Prop) (w : World) (v : Value) (l : List Tx) : Prop := Row 3 A w v l.length (txs l) ∧ l.length * 24 ≤ lim
theorem Txr.up {A : Nat → Prop} {w w' : World} {v : Value} {l : List Tx} (h : Txr A w v l) (hb : Below w.heap.size w w') : Txr A w' v l := ⟨h.1.up hb, h.2⟩
theorem Txr.wb {A X : Nat → Prop} {w w' : World} {v : Value} {l : List Tx} (h : Txr A w v l) (hw : Wb X w w') (hX : ∀ k, X k → ¬ A k) : Txr A w' v l := ⟨h.1.wb hw hX, h.2⟩
theorem Txr.monoS {A A' : Nat → Prop} {w : World} {v : Value} {l : List Tx} (h : Txr A w v l) (hA : ∀ k, A k → A' k) : Txr A' w v l := ⟨h.1.monoS hA, h.2⟩
theorem Txr.at {A : Nat → Prop} {w : World} {v : Value} {l : List Tx} (h : Txr A w v l) : ∃ (a : Option Addr) (c : Nat), v = .slice a l.length c ∧ l.length ≤ c ∧ ∀ j (hj : j < l.length), ∃ b o, a = some ⟨b, o, none⟩ ∧ A b ∧
    (w.cell? ⟨b, o + j * 3, none⟩ = some (.int .u64 (l[j].1.toNat : Int)) ∧ w.cell? ⟨b, o + j * 3 + 1, none⟩ = some (.int .u64 (l[j].2.1.toNat : Int)) ∧ w.cell? ⟨b, o + j * 3 + 2, none⟩ = some (.int .u64 (l[j].2.2.toNat : Int))) := by
  obtain ⟨⟨hl, a, c, hv, hc, ha, H⟩, _⟩ := h
  refine ⟨a, c, hv, hc, fun j hj => ?_⟩
  have g := txs_get l j hj
  have g0 := g 0 (by decide)
  have g1 := g 1 (by decide)
  have g2 := g 2 (by decide)
  unfold tc at g0 g1 g2
  obtain ⟨b, o, rfl, hA, e0⟩ := H _ _ g0
  obtain ⟨_, _, k, _, e1⟩ := H _ _ g1; cases k
  obtain ⟨_, _, k, _, e2⟩ := H _ _ g2; cases k
  exact ⟨b, o, rfl, hA, e0, e1, e2⟩
theorem Ot.txr {B : Nat} {w : World} {v : Value} {l : List Tx} (h : Ot B w v l) (hl : l.length * 24 ≤ lim) : Txr (fun k => B ≤ k ∧ k < w.heap.size) w v l := ⟨(Row.of_ownB h).andLtR, hl⟩
def relT (T : Tb) (l : List Tx) : Tb := l.foldl tdel T
theorem TbIs.del {M D : Nat → Prop} {w : World} {b : Nat} {T : Tb} (h : TbIs M D w b T) (x : Tx) : ∃ m, w.heap[b]? = some (.cells #[.map m] 37 (0, 0)) ∧ ∃ w', (Builtin.delete_ #[35, 30] 0 #[.map m, tv x]).run Try.prog w = .ok (.tuple #[]) w' ∧ TbIs M D w' b (tdel T x) ∧ Wb M w w' := by
  obtain ⟨m, hb, h1⟩ := h.ex
  refine ⟨m, hb, ?_⟩
  rcases h1 with ⟨rfl, rfl⟩ | ⟨k, rfl, hk, ht⟩
  · exact ⟨w, Maps.drop_nil (w := w) K30 Try.underlying35 (keyOf_tx x) 0, h, Wb.refl _ _⟩
  · obtain ⟨w', hr, ht', hg⟩ := ht.del x (fun hd => (h.hD k hd).2.1 hk) 0
    have hsz := hg.size
    have hkb := (h.hM k hk).2
    refine ⟨w', hr, ⟨⟨some k, (hg.block b (Array.getElem?_eq_some_iff.1 hb).1 (by simp; omega)).trans hb, .inr ⟨k, rfl, hk, ht'⟩⟩, fun i hi => ⟨by have := (h.hD i hi).1; omega, (h.hD i hi).2⟩, fun i hi => ⟨by have := (h.hM i hi).1; omega, (h.hM i hi).2⟩⟩, (Wb.of_grown hg).mono fun i hi => by cases hi; exact hk⟩
theorem TbIs.len {M D : Nat → Prop} {w : World} {b : Nat} {T : Tb} (h : TbIs M D w b T) : ∃ m, w.heap[b]? = some (.cells #[.map m] 37 (0, 0)) ∧ ∀ ty, (Builtin.len_ #[35] ty #[.map m]).run Try.prog w = .ok (.int .i64 (T.length : Int)) w := by
  obtain ⟨m, hb, h1⟩ := h.ex
  refine ⟨m, hb, fun ty => ?_⟩
  rcases h1 with ⟨rfl, rfl⟩ | ⟨k, rfl, hk, ht⟩
  · exact Maps.len_nil (w := w) Try.underlying35 ty
  · obtain ⟨h0, g, h1, h2⟩ := ht
    exact h1.len Try.underlying35 ty
theorem relT_take {T : Tb} {l : List Tx} {k : Nat} (h : k < l.length) : relT T (l.take (k + 1)) = tdel (relT T (l.take k)) l[k] := by
  unfold relT
  rw [List.take_succ_eq_append_getElem h, List.foldl_append]
  rfl
def RelPost (M D : Nat → Prop) (w : World) (b : Nat) (T T' : Tb) (e : Ending) (w' : World) : Prop := e = .returned (.int .i64 ((T.length : Int) - (T'.length : Int))) ∧ Wb M w w' ∧ TbIs M D w' b T'
set_option maxRecDepth 100000 in
set_option maxHeartbeats 4000000 in
/-- Release -/
theorem release_any {M D A : Nat → Prop} {w : World} {b : Nat} {T : Tb} {v : Value} {l : List Tx} (h : TbIs M D w b T) (hv : Txr A w v l) (hA : ∀ k, A k → ¬ M k) (hn : T.length ≤ 1000000) :
    Calls Try.prog 24 #[.pointer (some ⟨b, 0, none⟩), v] w (RelPost M D w b T (relT T l)) := by
  obtain ⟨m, hb, hlen⟩ := h.len
  obtain ⟨c0, _⟩ := cell_of_box_a hb
  obtain ⟨a, c, rfl, hc, hat⟩ := hv.at
  have HAT := Hid.mk' hat
  have HH := Hid.mk' h
  have HA := Hid.mk' hA
  have hl' : (l.length : Int) ≤ 140737488351232 := by have := hv.2; unfold lim at this; omega
  have HPOST : Hid (∀ w', RelPost M D w b T (relT T l) (.returned (.int .i64 ((T.length : Int) - ((relT T l).length : Int)))) w' ↔ Wb M w w' ∧ TbIs M D w' b (relT T l)) := fun w' => ⟨fun h => h.2, fun h => ⟨rfl, h⟩⟩
  have HLE : Hid (∀ k, (relT T (l.take k)).length ≤ T.length) := by
    intro k
    unfold relT
    generalize l.take k = l2
    clear h hb hlen hn HH HPOST
    induction l2 generalizing T with
    | nil => exact Nat.le_refl _
    | cons x t ih =>
      refine Nat.le_trans (ih (T := tdel T x)) ?_
      rw [len_tdel]; split <;> omega
  have hn' : (T.length : Int) ≤ 1000000 := by omega
  clear h hv hA hat hb hn
  go_enter Try.func24, Try.ntmps24
  go_wp2_with fail
  clear c0 hlen
  go_loopw [15] (fun i wr => ∃ k : Nat, k ≤ l.length ∧ i = .int .i64 k ∧ Hid (TbIs M D wr b (relT T (l.take k))) ∧ Hid (Wb M w wr)) (fun i _ => l.length - (intOf i).toNat)
  case atStart => exact ⟨0, by omega, rfl, HH, Wb.refl _ _⟩
  case round =>
    obtain ⟨k, hk, rfl, HT, HW⟩ := hrel
    by_cases hlt : k < l.length
    · have hlt' : (k : Int) < (l.length : Int) := by omega
      obtain ⟨bb, of, rfl, hAb, c0, c1, c2⟩ := HAT.out k hlt
      have hcw : ∀ j v, w.cell? ⟨bb, j, none⟩ = some v → wr.cell? ⟨bb, j, none⟩ = some v := fun j v hj => (World.cell?_of_block (w := w) (a := ⟨bb, j, none⟩) (HW.out.block bb (World.block_lt_of_cell? w ⟨bb, j, none⟩ hj) (HA.out bb hAb))).trans hj
      have c0 := hcw _ _ c0
      have c1 := hcw _ _ c1
      have c2 := hcw _ _ c2
      obtain ⟨W, hW, hbW, hcW⟩ := one_box wr (.int .u64 (l[k].1.toNat : Int)) (.int .u64 (l[k].2.1.toNat : Int)) (.int .u64 (l[k].2.2.toNat : Int)) 30
      obtain ⟨y0, y1, y2⟩ := hcW W (Below.refl _ _)
      obtain ⟨m2, hb2, w3, hdel, htb, hwm⟩ := ((HT.out.below hbW).below (drew_blx W _)).del l[k]
      have z0 := (cell_of_box_a (W := W) hb2).1
      have hdel : (Builtin.delete_ #[35, 30] 0 #[.map m2, .agg #[.int .u64 (l[k].1.toNat : Int), .int .u64 (l[k].2.1.toNat : Int), .int .u64 (l[k].2.2.toNat : Int)]]).run Try.prog W.drew = .ok (.tuple #[]) w3 := hdel
      have HT3 : Hid (TbIs M D w3 b (relT T (l.take (k + 1)))) := by rw [relT_take hlt]; exact htb
      have HW3 : Hid (Wb M w w3) := ((HW.out.trans (Wb.of_below _ hbW)).trans (Wb.of_below _ (drew_blx W _))).trans hwm
      have r0 : ∀ q : Kp (fun _ => False) W, q.nx.cell? ⟨b, 0, none⟩ = some (.map m2) := fun q => q.cell z0 id
      have rx0 : ∀ q : Kp (fun _ => False) W, q.nx.cell? ⟨wr.heap.size, 0, none⟩ = some (.int .u64 (l[k].1.toNat : Int)) := fun q => q.cell y0 id
      have rx1 : ∀ q : Kp (fun _ => False) W, q.nx.cell? ⟨wr.heap.size, 1, none⟩ = some (.int .u64 (l[k].2.1.toNat : Int)) := fun q => q.cell y1 id
      have rx2 : ∀ q : Kp (fun _ => False) W, q.nx.cell? ⟨wr.heap.size, 2, none⟩ = some (.int .u64 (l[k].2.2.toNat : Int)) := fun q => q.cell y2 id
      clear hcw hbW hcW hb2 htb hwm y0 y1 y2 z0 HT HW
      generalize (l[k].1.toNat : Int) = n1 at *
      generalize (l[k].2.1.toNat : Int) = n2 at *
      generalize (l[k].2.2.toNat : Int) = n3 at *
      go_upto_region 5 with fail
      rw [← hW]
      clear hW
      refine wp_region_mix 5 (fun w' => ∃ q : Kp (fun _ => False) W, w' = q.nx) (by kernel_rfl) (by kernel_rfl) (kp_first _ W) ?_
      simp only [List.take_succ_cons, List.take_zero, List.drop_succ_cons, List.drop_zero]
      refine mx_take 5 rfl ?_
      simp only [List.take_succ_cons, List.take_zero, List.drop_succ_cons, List.drop_zero]
      repeat (go_big_quiet_step (fail))
      refine wpQuiet_nil ?_
      simp only [wpMix]
      clear r0 rx0 rx1 rx2
      go_wp2_with fail
      go_roundw
      case rel => exact ⟨k + 1, by omega, by go_num, HT3, HW3⟩
      case measure => simp [intOf]; omega
    · obtain rfl : k = l.length := by omega
      have HT2 : Hid (TbIs M D wr b (relT T l)) := by have := HT.out; rwa [List.take_length] at this
      obtain ⟨m2, hb2, hlen⟩ := HT2.out.len
      obtain ⟨c0, _⟩ := cell_of_box_a hb2
      have hrl : ((relT T l).length : Int) ≤ 1000000 := by have := HLE.out l.length; rw [List.take_length] at this; omega
      clear hb2
      go_wp2_with fail
      go_ret
      exact (HPOST.out _).2 ⟨HW.out, HT2.out⟩
end Go.Proofs.Yteejlmeinndlhaa
