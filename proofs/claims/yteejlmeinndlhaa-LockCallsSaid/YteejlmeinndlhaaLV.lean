/- A table of locks in memory. slices.SortedFunc, All. -/
import Derived.Test.YteejlmeinndlhaaLU
import Derived.Test.YteejlmeinndlhaaLS
set_option linter.unusedVariables false
set_option linter.unusedSimpArgs false
namespace Go.Proofs.Yteejlmeinndlhaa
open Go.RowKit Go.Maps
attribute [local go_sem ↓] Go.wp_at_zero Go.wp_at_succ
/-- a map of locks at block k -/
def TI (D : Nat → Prop) (w : World) (k : Nat) (T : Tb) : Prop :=
  Tsrt T ∧ ∃ g, MapF Try.prog 30 w k g T.length ∧ ∀ x : Tx, (g (tkb x) = none ∧ tget T x = none) ∨ ∃ v l, g (tkb x) = some v ∧ tget T x = some l ∧ Rgs D w v l
structure TbIs (M D : Nat → Prop) (w : World) (b : Nat) (T : Tb) : Prop where
  ex : ∃ m, w.heap[b]? = some (.cells #[.map m] 37 (0, 0)) ∧ ((m = none ∧ T = []) ∨ ∃ k, m = some k ∧ M k ∧ TI D w k T)
  hD : ∀ k, D k → k < w.heap.size ∧ ¬ M k ∧ k ≠ b
  hM : ∀ k, M k → k < w.heap.size ∧ k ≠ b
theorem Row.wb {sz n : Nat} {D X : Nat → Prop} {w w' : World} {v : Value} {vs : List Value} (h : Row sz D w v n vs) (hw : Wb X w w') (hX : ∀ k, X k → ¬ D k) : Row sz D w' v n vs := by
  obtain ⟨hl, a, c, rfl, hc, ha, H⟩ := h
  refine ⟨hl, a, c, rfl, hc, ha, fun j u hj => ?_⟩
  obtain ⟨b, o, ha, hB, hu⟩ := H j u hj
  refine ⟨b, o, ha, hB, ?_⟩
  have hlt := World.block_lt_of_cell? w ⟨b, o + j, none⟩ hu
  exact (World.cell?_of_block (w := w) (a := ⟨b, o + j, none⟩) (hw.block b hlt fun e => hX b e hB)).trans hu
theorem Bs.wb {D X : Nat → Prop} {w w' : World} {v : Value} {l : List UInt8} (h : Bs D w v l) (hw : Wb X w w') (hX : ∀ k, X k → ¬ D k) : Bs D w' v l := ⟨h.1.wb hw hX, h.2⟩
theorem Rgs.wb {D X : Nat → Prop} {w w' : World} {v : Value} {l : List Rg} (h : Rgs D w v l) (hw : Wb X w w') (hX : ∀ k, X k → ¬ D k) : Rgs D w' v l := by
  obtain ⟨L, h1, h2, h3, h4⟩ := h
  exact ⟨L, h1, h2.wb hw hX, fun q hq => ⟨(h3 q hq).1.wb hw hX, (h3 q hq).2.wb hw hX⟩, h4⟩
theorem TI.wb {D X : Nat → Prop} {w w' : World} {k : Nat} {T : Tb} (h : TI D w k T) (hw : Wb X w w') (hX : ∀ i, X i → ¬ D i) (hk : ¬ X k) : TI D w' k T := by
  obtain ⟨h0, g, h1, h2⟩ := h
  refine ⟨h0, g, h1.block (hw.block k h1.lt hk), fun s => ?_⟩
  rcases h2 s with h | ⟨v, l, a, b, c⟩
  · exact .inl h
  · exact .inr ⟨v, l, a, b, c.wb hw hX⟩
theorem TI.mono {D D' : Nat → Prop} {w : World} {k : Nat} {T : Tb} (h : TI D w k T) (hD : ∀ i, D i → D' i) : TI D' w k T := by
  obtain ⟨h0, g, h1, h2⟩ := h
  refine ⟨h0, g, h1, fun s => ?_⟩
  rcases h2 s with h | ⟨v, l, a, b, c⟩
  · exact .inl h
  · exact .inr ⟨v, l, a, b, c.monoS hD⟩
theorem TI.lt {D : Nat → Prop} {w : World} {k : Nat} {T : Tb} (h : TI D w k T) : k < w.heap.size := by obtain ⟨_, g, h, _⟩ := h; exact h.lt
theorem TbIs.keep {M D X : Nat → Prop} {w w' : World} {b : Nat} {T : Tb} (h : TbIs M D w b T) (hw : Wb X w w') (hX : ∀ k, X k → ¬ M k ∧ ¬ D k ∧ k ≠ b) : TbIs M D w' b T := by
  obtain ⟨⟨m, hb, h1⟩, hD, hM⟩ := h
  refine ⟨⟨m, (hw.block b (Array.getElem?_eq_some_iff.1 hb).1 fun hx => (hX b hx).2.2 rfl).trans hb, ?_⟩, fun k hk => ⟨Nat.lt_of_lt_of_le (hD k hk).1 hw.size, (hD k hk).2⟩, fun k hk => ⟨Nat.lt_of_lt_of_le (hM k hk).1 hw.size, (hM k hk).2⟩⟩
  rcases h1 with h1 | ⟨k, e, hk, ht⟩
  · exact .inl h1
  · exact .inr ⟨k, e, hk, ht.wb hw (fun i hi => (hX i hi).2.1) fun hx => (hX k hx).1 hk⟩
theorem TbIs.below {M D : Nat → Prop} {w w' : World} {b : Nat} {T : Tb} (h : TbIs M D w b T) (hb : Below w.heap.size w w') : TbIs M D w' b T :=
  h.keep (Wb.of_below (fun _ => False) hb) fun _ h => h.elim
theorem TbIs.lt {M D : Nat → Prop} {w : World} {b : Nat} {T : Tb} (h : TbIs M D w b T) : b < w.heap.size := by
  obtain ⟨m, hb, _⟩ := h.ex
  exact (Array.getElem?_eq_some_iff.1 hb).1
/-- transactions in a row of the call's own -/
def Ot (B : Nat) (w : World) (v : Value) (l : List Tx) : Prop := w.ownsRow B 30 3 v l.length (txs l)
theorem Ot.up {B : Nat} {w w' : World} {v : Value} {l : List Tx} (h : Ot B w v l) (hb : Below w.heap.size w w') : Ot B w' v l := own_keep h hb (Nat.le_refl _)
theorem Ot.mono {B B' : Nat} {w : World} {v : Value} {l : List Tx} (h : Ot B w v l) (hB : B' ≤ B) : Ot B' w v l := own_mono h hB
theorem rise_eq {l m : List Tx} (hl : l.Pairwise fun a b => tkey a < tkey b) (hm : m.Pairwise fun a b => tkey a < tkey b) (h : ∀ x, x ∈ l ↔ x ∈ m) : l = m := by
  refine List.Perm.eq_of_pairwise (le := fun a b => tkey a < tkey b) (fun a b _ _ h1 h2 => absurd (Nat.lt_trans h1 h2) (Nat.lt_irrefl _)) hl hm ?_
  refine (List.perm_ext_iff_of_nodup ?_ ?_).2 h
  · exact hl.imp fun {a b} h e => by subst e; exact Nat.lt_irrefl _ h
  · exact hm.imp fun {a b} h e => by subst e; exact Nat.lt_irrefl _ h
theorem mem_tkeys {T : Tb} (hT : Tsrt T) (x : Tx) : x ∈ T.map (·.1) ↔ (tget T x).isSome = true := by
  constructor
  · intro hx
    obtain ⟨t, ht, rfl⟩ := List.mem_map.1 hx
    rw [tget_of_mem hT (s := t.1) (l := t.2) ht]; rfl
  · intro hx
    obtain ⟨l, hl⟩ := Option.isSome_iff_exists.1 hx
    exact List.mem_map.2 ⟨_, tget_mem hl, rfl⟩
/-- what was collected, sorted, are the table's transactions -/
theorem keys_sorted {D : Nat → Prop} {w : World} {k : Nat} {T : Tb} (h : TI D w k T) {g : List UInt8 → Option Value} {D0 : DataW Value} (hg : ∀ x : Tx, (g (tkb x)).isSome = (tget T x).isSome) (hD : ∀ s, Maps.has D0 (.string s) = (g s).isSome)
    {left : Lit → Bool} (hl : ∀ kl, left kl = false) {ss zs : List Tx} (hC : Collected D0 left (ss.map tkb)) (hp : zs.Perm ss) (hs : zs.Pairwise fun a b => tkey a ≤ tkey b) : zs = T.map (·.1) := by
  obtain ⟨c1, c2⟩ := hC
  have hnd : ss.Nodup := (List.pairwise_map.1 c1).imp fun h e => h (by rw [e])
  have hmem : ∀ x, x ∈ ss ↔ (tget T x).isSome = true := fun x => by
    have h1 := c2 (tkb x)
    rw [hl, hD, hg] at h1
    simp only [and_true] at h1
    rw [← h1, List.mem_map]
    exact ⟨fun h => ⟨x, h, rfl⟩, fun ⟨y, hy, e⟩ => by rw [← tkb_inj e]; exact hy⟩
  refine rise_eq ?_ (List.pairwise_map.2 h.1) fun x => by rw [hp.mem_iff, hmem, mem_tkeys h.1]
  have hnz : zs.Nodup := hp.nodup_iff.2 hnd
  have hb := List.Pairwise.and hs hnz
  refine hb.imp fun {a b} hab => ?_
  have : tkey a ≠ tkey b := fun e => hab.2 (tkey_inj e)
  have := hab.1
  omega
set_option maxRecDepth 100000 in
set_option maxHeartbeats 1000000 in
/-- slices.SortedFunc(maps.Keys(m), Compare) -/
theorem sorted50 {D : Nat → Prop} {w : World} {k Bm : Nat} {T : Tb} (h : TI D w k T) (hBm : Bm < w.heap.size) (hc : w.cell? ⟨Bm, 0, none⟩ = some (.map (some k))) (hn : T.length ≤ 1000000) :
    Calls Try.prog 50 #[.func (.func 64) #[] #[.pointer (some ⟨Bm, 0, none⟩)], .func (.func 13) #[] #[]] w fun e w' => ∃ v, e = .returned v ∧ Ot w.heap.size w' v (T.map (·.1)) ∧ Below w.heap.size w w' := by
  obtain ⟨hT, g, ⟨D0, hown, hsz, hTi, hf⟩, hg⟩ := id h
  have eg : ∀ args w, (callFunc 64 args).run Try.prog w = .ok (.enter 64 args) w := enters_of Try.func64 (by kernel_rfl) rfl
  have hseq := keys_give Fence.wide (5 - 1 - 1) trivial rfl (by decide) Bm k T.length D0 w hBm hc hown
  have HC := Hid.mk' (callsIn_wide.1 (collect62_in Fence.wide 5 trivial trivial rfl (by decide) 64 #[.pointer (some ⟨Bm, 0, none⟩)] trivial eg _ (Maps.size D0) (by rw [hsz]; unfold maxLen; omega) (by rw [hsz]; omega) w hseq))
  have HK : Hid (∀ (left : Lit → Bool) (ss zs : List Tx), (∀ kl, left kl = false) → Collected D0 left (ss.map tkb) → zs.Perm ss → zs.Pairwise (fun a b => tkey a ≤ tkey b) → zs = T.map (·.1)) := fun left ss zs h1 h2 h3 h4 => keys_sorted h (g := g) (fun x => by
    rcases hg x with ⟨a, b⟩ | ⟨v, l, a, b, _⟩ <;> rw [a, b] <;> rfl) (fun s => (hf s).1) h1 h2 h3 h4
  have HN := Hid.mk' hn
  clear hseq hown hf hg hTi h hn
  go_enter Try.func50, Try.ntmps50
  go_wp2_with fail
  refine HC.out.mono ?_
  rintro e w1 ⟨v, ss, rfl, ⟨left, hl, hcol⟩, hrow, _, hb⟩
  have hlen : ss.length = T.length := by
    have := HK.out left ss (ss.mergeSort fun a b => decide (tkey a ≤ tkey b)) hl hcol (List.mergeSort_perm _ _) ?_
    · have h2 := congrArg List.length this
      simpa using h2
    · refine (List.pairwise_mergeSort (le := fun a b => decide (tkey a ≤ tkey b)) (fun a b c h1 h2 => ?_) (fun a b => ?_) ss).imp fun h => of_decide_eq_true h
      · rw [decide_eq_true_eq] at *; omega
      · simp only [Bool.or_eq_true, decide_eq_true_eq]; omega
  have HS := Hid.mk' (sort63 hrow (by rw [hlen]; exact HN.out))
  have HK2 : Hid (∀ zs : List Tx, zs.Perm ss → zs.Pairwise (fun a b => tkey a ≤ tkey b) → zs = T.map (·.1)) := fun zs h3 h4 => HK.out left ss zs hl hcol h3 h4
  have HB := Hid.mk' hb
  obtain ⟨va, vc, rfl⟩ := own_sliceN hrow
  clear hcol hrow hb hlen HK HC
  go_wp2_with fail
  refine HS.out.mono ?_
  rintro e w2 ⟨rfl, zs, h1, h2, h3, h4⟩
  have hz := HK2.out zs h1 h2
  subst hz
  have H3 := Hid.mk' h3
  have H4 := Hid.mk' h4
  clear h1 h2 h3 h4 HS HK2
  go_wp2_with fail
  go_ret
  exact ⟨_, rfl, H3.out, HB.out.trans H4.out⟩
theorem keys64_nil (F : Fence) (n : Nat) (h10 : F.fn 64) (hro : F.round = none) (l Bm : Nat) (J : List Tx → World → Prop) (W : World) (hJ : AbidesFrom W.heap.size J)
    (hm : W.cell? ⟨Bm, 0, none⟩ = some (.map none)) (h0 : J [] W) :
    CallsIn F n Try.prog 64 #[.func (.yield l) #[] #[], .pointer (some ⟨Bm, 0, none⟩)] W fun e W' => (∃ v, e = .returned v) ∧ ∃ ss : List Tx, ss = [] ∧ J ss W' := by
  refine callsIn_of_wp Try.func64 rfl h10 ?_ hro
  simp only [Try.ntmps64, List.size_toArray, List.length_cons, List.length_nil, Nat.reduceAdd, Nat.reduceSub, Array.replicate_succ, Array.replicate_zero, List.push_toArray, List.append_toArray, List.nil_append, List.cons_append]
  have hrg := run_range_nilMap (P := Try.prog) W 35 30 40 Try.underlying35
  have hnx : ∀ ty, (Instr.next (.pointer (some ⟨W.heap.size, 0, none⟩)) false ty).run Try.prog (W.alloc (.mapIter none 0 #[] 0)) = _ := fun ty => run_next_nilMap _ ty 0 0 #[]
  gi_wp2
  refine wpIn_loop_rounds 1 ?_
  rw [roundsIn_succ]
  gi_wp2
  go_end0
  exact ⟨⟨_, rfl⟩, [], rfl, hJ [] W _ none h0 (World.grownBy_alloc W _ none) (fun r e => by cases e)⟩
set_option maxRecDepth 100000 in
set_option maxHeartbeats 1000000 in
theorem sorted50_nil {w : World} {Bm : Nat} (hBm : Bm < w.heap.size) (hc : w.cell? ⟨Bm, 0, none⟩ = some (.map none)) :
    Calls Try.prog 50 #[.func (.func 64) #[] #[.pointer (some ⟨Bm, 0, none⟩)], .func (.func 13) #[] #[]] w fun e w' => ∃ v, e = .returned v ∧ Ot w.heap.size w' v [] ∧ Below w.heap.size w w' := by
  have eg : ∀ args w, (callFunc 64 args).run Try.prog w = .ok (.enter 64 args) w := enters_of Try.func64 (by kernel_rfl) rfl
  have hseq : SeqGives Fence.wide (5 - 1 - 1) Try.prog 64 #[.pointer (some ⟨Bm, 0, none⟩)] tv (fun ss : List Tx => ss = []) 0 w := fun l J W hW hJ _ h0 => keys64_nil Fence.wide _ trivial rfl l Bm J W hJ ((hW.cell (p := ⟨Bm, 0, none⟩) hBm).trans hc) h0
  have HC := Hid.mk' (callsIn_wide.1 (collect62_in Fence.wide 5 trivial trivial rfl (by decide) 64 #[.pointer (some ⟨Bm, 0, none⟩)] trivial eg _ 0 (by decide) (by decide) w hseq))
  clear hseq
  go_enter Try.func50, Try.ntmps50
  go_wp2_with fail
  refine HC.out.mono ?_
  rintro e w1 ⟨v, ss, rfl, rfl, hrow, _, hb⟩
  have HS := Hid.mk' (sort63 hrow (by decide))
  have HB := Hid.mk' hb
  obtain ⟨va, vc, rfl⟩ := own_sliceN hrow
  clear hrow hb HC
  go_wp2_with fail
  refine HS.out.mono ?_
  rintro e w2 ⟨rfl, zs, h1, h2, h3, h4⟩
  have hz := List.perm_nil.1 h1
  subst hz
  have H3 := Hid.mk' h3
  have H4 := Hid.mk' h4
  clear h1 h2 h3 h4 HS
  go_wp2_with fail
  go_ret
  exact ⟨_, rfl, H3.out, HB.out.trans H4.out⟩
/-- All -/
theorem all_any {M D : Nat → Prop} {w : World} {b : Nat} {T : Tb} (h : TbIs M D w b T) (hn : T.length ≤ 1000000) : Calls Try.prog 25 #[.pointer (some ⟨b, 0, none⟩)] w fun e w' => ∃ v, e = .returned v ∧ Ot w.heap.size w' v (T.map (·.1)) ∧ Below w.heap.size w w' := by
  obtain ⟨m, hb, h1⟩ := h.ex
  have hlt := h.lt
  obtain ⟨c0, c1⟩ := cell_of_box_a hb
  have HS : Hid (Calls Try.prog 50 #[.func (.func 64) #[] #[.pointer (some ⟨w.heap.size, 0, none⟩)], .func (.func 13) #[] #[]] (w.alloc (.cells #[.map m] 35)) fun e w' => ∃ v, e = .returned v ∧ Ot (w.alloc (.cells #[.map m] 35)).heap.size w' v (T.map (·.1)) ∧ Below (w.alloc (.cells #[.map m] 35)).heap.size (w.alloc (.cells #[.map m] 35)) w') := by
    have hc : (w.alloc (.cells #[.map m] 35)).cell? ⟨w.heap.size, 0, none⟩ = some (.map m) := by simp
    have hl : w.heap.size < (w.alloc (.cells #[.map m] 35)).heap.size := by simp
    rcases h1 with ⟨rfl, rfl⟩ | ⟨k, rfl, hk, ht⟩
    · exact sorted50_nil hl hc
    · exact sorted50 (ht.wb (Wb.of_below (fun _ => False) (up_alloc w _)) (fun _ h => h.elim) id) hl hc hn
  clear h1 h
  go_enter Try.func25, Try.ntmps25
  go_wp2_with fail
  refine (callsIn_wide.1 (keys51_in Fence.wide 5 trivial rfl m w)).mono ?_
  rintro e w1 ⟨rfl, rfl⟩
  go_wp2_with fail
  refine HS.out.mono ?_
  rintro e w2 ⟨v, rfl, h2, h3⟩
  have H2 : Hid (Ot w.heap.size w2 v (T.map (·.1))) := h2.mono (by simp)
  have H3 := Hid.mk' (bt (up_alloc w _) h3)
  obtain ⟨va, vc, ev⟩ := own_sliceN h2
  rw [List.length_map] at ev
  subst ev
  clear h2 h3 HS
  go_wp2_with fail
  go_ret
  exact ⟨_, rfl, H2.out, H3.out⟩
end Go.Proofs.Yteejlmeinndlhaa
