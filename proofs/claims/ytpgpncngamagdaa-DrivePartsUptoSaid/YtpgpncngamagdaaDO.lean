/- What deeds do to files. -/
import Derived.Test.YtpgpncngamagdaaDS
import Derived.Laws.CopyOwn
set_option linter.unusedVariables false
set_option linter.unusedSimpArgs false
namespace Go.Proofs.Ytpgpncngamagdaa
open Go.RowKit
attribute [local go_sem ↓] Go.wp_at_zero Go.wp_at_succ
/-- what is made of the files at block k -/
def DoPost (D : Nat → Prop) (w : World) (k : Nat) (F' : Fl) (e : Ending) (w' : World) : Prop :=
  e = .returned (.tuple #[]) ∧ Wb (fun i => i = k) w w' ∧ ∃ D' : Nat → Prop, (∀ i, D i → D' i) ∧ (∀ i, D' i → D i ∨ w.heap.size ≤ i ∧ i < w'.heap.size) ∧ FI D' w' k F'
theorem size5 : (Try.prog.info? 5).map (·.size) = some 1 := by kernel_rfl
theorem sz22 (w : World) : (sizeOf (Try.prog.elem 22)).run Try.prog w = .ok 1 w := by kernel_rfl
theorem un22 : Try.prog.underlying 22 = some (.slice (Try.prog.elem 22)) := by kernel_rfl
theorem lo_of (g n i : Nat) (h : i ≤ n) : ∃ dp, (∀ w, (Instr.slice 22 (.slice (some ⟨g, 0, none⟩) n n) (some (.int .i64 (i : Int))) none none).run Try.prog w = .ok (.slice dp (n - i) (n - i)) w) ∧ (i < n → dp = some ⟨g, i, none⟩) := by
  by_cases h1 : n = i
  · refine ⟨some ⟨g, 0, none⟩, fun w => ?_, fun h2 => by omega⟩
    rw [run_slice_l w 22 _ n n un22 .i64 (i : Int) (by omega) (by omega)]
    rw [sz22]
    simp only [Result.andThen, Int.toNat_natCast, Go.sliced, if_pos h1]
  · refine ⟨some ⟨g, i, none⟩, fun w => ?_, fun h2 => rfl⟩
    rw [run_slice_l w 22 _ n n un22 .i64 (i : Int) (by omega) (by omega)]
    have e := addr_add g 0 i
    rw [sz22]
    simp only [Result.andThen, Int.toNat_natCast, Go.sliced, if_neg h1, Option.map_some, Nat.mul_one, e, Nat.zero_add]
theorem spl_zero (Z X : List Value) (h : X.length ≤ Z.length) : splice Z 0 X = X ++ Z.drop X.length := by simp [splice]
theorem spl_wrt (o x : By) (i n : Nat) (hi : i ≤ o.length) (hn : n = max o.length (i + x.length)) :
    splice (splice (bv (List.replicate n 0)) 0 (bv o)) i (bv x) = bv (wrt o i x) := by
  have h1 : splice (bv (List.replicate n 0)) 0 (bv o) = bv (o ++ List.replicate (n - o.length) 0) := by
    rw [spl_zero _ _ (by simp; omega)]
    simp [bv, List.drop_replicate]
  rw [h1]
  subst hn
  simp only [splice, wrt, bv, List.map_append, List.map_take, List.map_drop, List.length_map, List.append_assoc]
theorem Bs.cellsAt {D : Nat → Prop} {w : World} {a : Option Addr} {n c : Nat} {l : By} (h : Bs D w (.slice a n c) l) (hl : 0 < (bv l).length) : ∃ ad, a = some ad ∧ ∀ j v, (bv l)[j]? = some v → w.cell? (ad.add j) = some v := by
  obtain ⟨_, a', c', hv, _, _, H⟩ := h.1
  cases hv
  obtain ⟨b, o, ha, _, _⟩ := H 0 ((bv l)[0]'hl) (by simp)
  refine ⟨_, ha, fun j v hj => ?_⟩
  obtain ⟨b', o', ha', _, hu⟩ := H j v hj
  rw [ha] at ha'
  cases ha'
  rw [addr_add]; exact hu
theorem FI.stored {D : Nat → Prop} {w w1 w2 : World} {k : Nat} {F : Fl} (n l : By) (v : Value) (hF : FI D w1 k F) (hn : n.length ≤ maxLen) (hl : F.length < maxLen) (hv : Bs D w1 v l) (hk : ¬ D k) :
    ∃ w2, (Instr.mapUpdate 43 (.map (some k)) (.string ⟨n.toArray⟩) v).run Try.prog w1 = .ok () w2 ∧ FI D w2 k (fput F n l) ∧ Wb (fun i => i = k) w1 w2 := by
  obtain ⟨hS, g, hm, hg⟩ := hF
  obtain ⟨w2, hr, hm2, hgr⟩ := hm.store Try.underlying9 Try.underlying43 n hn v hl
  have hW : Wb (fun i => i = k) w1 w2 := (Wb.of_grown hgr).mono fun i hi => by cases hi; rfl
  refine ⟨w2, hr, ⟨hS.put _ _, (fun x => if x = n then some v else g x), ?_, fun s => ?_⟩, hW⟩
  · rw [len_put F hS]
    have : (g n).isSome = (fget F n).isSome := by
      rcases hg n with ⟨a, b⟩ | ⟨v, l, a, b, _⟩
      · rw [a, b]; rfl
      · rw [a, b]; rfl
    rw [← this]; exact hm2
  · rw [fget_put hS]
    by_cases hs : s = n
    · subst hs
      exact .inr ⟨v, l, by simp, by simp, hv.wb hW fun i hi => by subst hi; exact hk⟩
    · simp only [if_neg hs]
      rcases hg s with h | ⟨v, l, a, b, c⟩
      · exact .inl h
      · exact .inr ⟨v, l, a, b, c.wb hW fun i hi => by subst hi; exact hk⟩
theorem FI.dropped {D : Nat → Prop} {w1 : World} {k : Nat} {F : Fl} (n : By) (ty : TypeId) (hF : FI D w1 k F) (hn : n.length ≤ maxLen) (hk : ¬ D k) :
    ∃ w2, (Builtin.delete_ #[43, 9] ty #[.map (some k), .string ⟨n.toArray⟩]).run Try.prog w1 = .ok (.tuple #[]) w2 ∧ FI D w2 k (fdel F n) ∧ Wb (fun i => i = k) w1 w2 := by
  obtain ⟨hS, g, hm, hg⟩ := hF
  obtain ⟨w2, hr, hm2, hgr⟩ := hm.drop Try.underlying9 Try.underlying43 n hn ty
  have hW : Wb (fun i => i = k) w1 w2 := (Wb.of_grown hgr).mono fun i hi => by cases hi; rfl
  refine ⟨w2, hr, ⟨hS.del _, (fun x => if x = n then none else g x), ?_, fun s => ?_⟩, hW⟩
  · rw [len_del F]
    have : (g n).isSome = (fget F n).isSome := by
      rcases hg n with ⟨a, b⟩ | ⟨v, l, a, b, _⟩
      · rw [a, b]; rfl
      · rw [a, b]; rfl
    rw [← this]; exact hm2
  · rw [fget_del hS]
    by_cases hs : s = n
    · subst hs
      exact .inl ⟨by simp, by simp⟩
    · simp only [if_neg hs]
      rcases hg s with h | ⟨v, l, a, b, c⟩
      · exact .inl h
      · exact .inr ⟨v, l, a, b, c.wb hW fun i hi => by subst hi; exact hk⟩
theorem FI.looks {D : Nat → Prop} {w : World} {k : Nat} {F : Fl} (h : FI D w k F) (s : By) (hs : s.length ≤ maxLen) :
    ∃ v, (Instr.lookup 43 (.map (some k)) (.string ⟨s.toArray⟩) false).run Try.prog w = .ok v w ∧ Bs D w v (foz F s) := by
  obtain ⟨v, _, h1, h2, _⟩ := (FilesIs.look (M := fun _ => True) (.inr ⟨k, rfl, trivial, h⟩) s hs)
  exact ⟨v, h1, h2⟩
/-- remove -/
theorem do_rem {D : Nat → Prop} {w : World} {k : Nat} {F : Fl} (n : By) (u : Int) (hF : FI D w k F) (hn : n.length ≤ maxLen) (hk : ¬ D k) :
    Calls Try.prog 130 #[.agg #[.string ⟨n.toArray⟩], .map (some k), .int .i64 u] w (DoPost D w k (fdel F n)) := by
  have hX : ∀ i, (fun _ : Nat => False) i → ¬ D i := fun i hi => hi.elim
  have h1 : FI D (w.alloc (.cells #[.string ⟨n.toArray⟩] 123)) k F := hF.wb (Wb.of_below (fun _ => False) (up_alloc _ _)) hX id
  obtain ⟨w2, hr, h2, h3⟩ := h1.dropped n 0 hn hk
  have H2 := Hid.mk' h2
  have H3 := Hid.mk' h3
  clear h1 h2 h3 hF
  go_enter Try.func130, Try.ntmps130
  go_wp2
  go_end0
  exact ⟨rfl, (Wb.of_below _ (up_alloc _ _)).trans H3.out, D, fun _ h => h, fun _ h => .inl h, H2.out⟩
theorem hi_of {D : Nat → Prop} {w0 : World} {u : Value} {l : By} (hu : Bs D w0 u l) (p : Nat) (hp : p ≤ l.length) (x : Int) (hx : x = p) : ∃ a c, (∀ w, (Instr.slice 22 u none (some (.int .i64 x)) none).run Try.prog w = .ok (.slice a p c) w) ∧ Bs D w0 (.slice a p c) (l.take p) := by
  subst hx
  obtain ⟨a, c, rfl, hc, ha, _⟩ := hu.at
  obtain ⟨a', c', h1, h2⟩ := row_hi un22 sz22 hu.1 p hp
  refine ⟨a', c', h1, ?_, ?_⟩
  · have e : (l.take p).length = p := by rw [List.length_take]; omega
    rw [e]
    have e2 : bv (l.take p) = (bv l).take p := by simp [bv, List.map_take]
    rw [e2]; exact h2
  · have := hu.2; rw [List.length_take]; omega
theorem bs_own {D : Nat → Prop} {w : World} {g n : Nat} {l : By} (h : w.heap[g]? = some (.cells (bv l).toArray 5 (0, 0))) (hn : n = l.length) (hl : l.length ≤ lim) (hD : D g) : Bs D w (.slice (some ⟨g, 0, none⟩) n n) l := by
  subst hn
  refine ⟨⟨by simp, _, _, rfl, Nat.le_refl _, (fun h => by cases h), fun j u hj => ⟨g, 0, rfl, hD, ?_⟩⟩, hl⟩
  simp only [World.cell?, h, Nat.zero_add]
  simpa using hj
theorem Bs.toLt {A : Nat → Prop} {w : World} {v : Value} {l : By} (h : Bs A w v l) : Bs (Lt w.heap.size) w v l := ⟨h.1.toLtN, h.2⟩
theorem run_cp {w : World} {dp sp : Option Addr} {dLen dCap sLen sCap g off : Nat} {cur : List Value} (ty : TypeId) (hg : w.heap[g]? = some (.cells cur.toArray 5 (0, 0))) (cs : List Value) (hn : cs.length = Nat.min sLen dLen)
    (hpos : 0 < cs.length → dp = some ⟨g, off, none⟩ ∧ ∃ ad, sp = some ad ∧ ∀ j v, cs[j]? = some v → w.cell? (ad.add j) = some v)
    (hfit : off + cs.length ≤ cur.length) (h1 : ∀ v ∈ cs, v.oneCell' = true) {B : Nat} {w0 : World} (hb : Below B w0 w) (hBg : B ≤ g) :
    ∃ w', (Builtin.copy_ #[22, 22] ty #[.slice dp dLen dCap, .slice sp sLen sCap]).run Try.prog w = .ok (goInt cs.length) w' ∧ w'.heap[g]? = some (.cells (splice cur off cs).toArray 5 (0, 0)) ∧ Below B w0 w' := by
  by_cases h0 : cs.length = 0
  · obtain rfl : cs = [] := List.eq_nil_of_length_eq_zero h0
    exact ⟨w, run_copy_none (P := Try.prog) w 22 22 ty 5 dp sp dLen dCap sLen sCap Try.underlying22 size5 (by simpa using hn.symm), by simpa [splice] using hg, hb⟩
  · obtain ⟨rfl, ad, rfl, hsrc⟩ := hpos (by omega)
    exact ⟨_, run_copy_row (P := Try.prog) w 22 22 ty 5 g off dLen dCap ad sLen sCap cur.toArray 5 cs Try.underlying22 size5 hg hn hsrc (by simpa using hfit) h1, by simpa [splice] using setRow_heap w g _ _ 5 _ hg, below_setRow hb hBg _⟩
set_option maxRecDepth 100000 in
set_option maxHeartbeats 1000000 in
/-- write -/
theorem do_write {D : Nat → Prop} {w : World} {k : Nat} {F : Fl} (n l : By) (i p : Nat) (u : Value) (y : Int) (hF : FI D w k F) (hn : n.length ≤ maxLen) (hk : ¬ D k) (hu : Bs D w u l) (hp : p ≤ l.length) (hy : y = p + 1)
    (hi : i ≤ (foz F n).length) (h1 : i + p ≤ lim) (hl : F.length < maxLen) :
    Calls Try.prog 124 #[.agg #[.string ⟨n.toArray⟩, .int .i64 (i : Int), u], .map (some k), .int .i64 y] w (DoPost D w k (fput F n (wrt (foz F n) i (l.take p)))) := by
  have hlim : lim = 140737488351232 := rfl
  have hul := hu.2
  have b1 : 1 ≤ y := by omega
  have b2 : y ≤ 140737488351233 := by omega
  have b3 : (i : Int) ≤ 140737488351232 := by omega
  have b4 : (i : Int) + (p : Int) ≤ 140737488351232 := by omega
  have b5 : (0 : Int) ≤ (i : Int) + (p : Int) := by omega
  obtain ⟨w0, hw0⟩ : ∃ w0, w0 = w.alloc (.cells #[.string ⟨n.toArray⟩, .int .i64 (i : Int), u] 90) := ⟨_, rfl⟩
  have hb0 : Below w.heap.size w w0 := by rw [hw0]; exact up_alloc _ _
  have hk0 := hF.lt
  have hs0 : w0.heap.size = w.heap.size + 1 := by rw [hw0]; simp
  have hX : ∀ i, (fun _ : Nat => False) i → ¬ D i := fun i hi => hi.elim
  have h0 : FI D w0 k F := hF.wb (Wb.of_below (fun _ => False) hb0) hX id
  have hu0 : Bs D w0 u l := hu.up hb0
  obtain ⟨v, hlk, hv⟩ := h0.looks n hn
  obtain ⟨xa, xc, hsl, hx⟩ := hi_of hu0 p hp (y - 1) (by omega)
  have hol := hv.2
  have hv1 := hv.toLt
  obtain ⟨va, vc, rfl, hvc, hvn, _⟩ := hv.at
  generalize hO : foz F n = o at *
  have hxl : (l.take p).length = p := by rw [List.length_take]; omega
  generalize l.take p = x at *
  obtain ⟨N, hN⟩ : ∃ N : Nat, N = max o.length (i + p) := ⟨_, rfl⟩
  have hNl : N ≤ lim := by omega
  have hmk := run_mk (P := Try.prog) 22 Try.underlying22 Try.info5 N hNl w0
  obtain ⟨dp, hlo, hdp⟩ := lo_of (w.heap.size + 1) N i (by omega)
  rw [hs0] at hmk
  have hx1 := hx.toLt
  have hal : Below (w.heap.size + 1) w0 (w0.alloc (.cells (zeros N) 5)) := by rw [← hs0]; exact up_alloc _ _
  rw [hs0] at hv1 hx1
  have HV1 := Hid.mk' (hv1.keep hal)
  have HX1 := Hid.mk' (hx1.keep hal)
  have HG : Hid ((w0.alloc (.cells (zeros N) 5)).heap[w.heap.size + 1]? = some (.cells (bv (List.replicate N 0)).toArray 5 (0, 0))) := by
    show _ = _
    rw [← hs0, heap_alloc_new, ← zeros_list]
  obtain ⟨w1, hc1, hg1, hb1⟩ := run_cp (dp := some ⟨w.heap.size + 1, 0, none⟩) (dLen := N) (dCap := N) (sp := va) (sLen := o.length) (sCap := vc) 3 HG.out (bv o) (by rw [bv_length]; exact (Nat.min_eq_left (by omega)).symm) (fun h => ⟨rfl, HV1.out.cellsAt h⟩) (by simp; omega) (bv_one o) (Below.refl (w.heap.size + 1) _) (Nat.le_refl _)
  obtain ⟨w2, hc2, hg, hb⟩ := run_cp (dp := dp) (dLen := N - i) (dCap := N - i) (sp := xa) (sLen := p) (sCap := xc) 3 hg1 (bv x) (by rw [bv_length, hxl]; exact (Nat.min_eq_left (by omega)).symm) (fun h => ⟨hdp (by simp [hxl] at h; omega), (HX1.out.keep hb1).cellsAt h⟩) (by rw [length_splice _ _ _ (by simp; omega)]; simp; omega) (bv_one x) hb1 (Nat.le_refl _)
  have hF2 : FI (fun j => D j ∨ j = w.heap.size + 1) w2 k F := (h0.wb (Wb.of_below (fun _ => False) (by rw [hs0]; exact hal.trans hb)) hX id).mono fun i h => .inl h
  rw [spl_wrt o x i N hi (by rw [hxl]; exact hN)] at hg
  have hwl : (wrt o i x).length = N := by rw [wrt_len, hxl, hN]
  obtain ⟨w3, hst, hF3, hW⟩ := hF2.stored (w := w) (w2 := w) n (wrt o i x) _ hn hl (bs_own hg hwl.symm (by rw [hwl]; exact hNl) (.inr rfl)) fun h => h.elim hk (by omega)
  have HQ : Hid (DoPost D w k (fput F n (wrt o i x)) (.returned (.tuple #[])) w3) := by
    have hs2 : w.heap.size + 1 < w2.heap.size := Nat.lt_of_lt_of_le (by simp [hs0]) hb.size
    refine ⟨rfl, (Wb.of_below _ (hb0.trans ((hal.trans hb).mono (by omega)))).trans hW, _, fun i h => .inl h, fun i h => h.imp id fun h => ⟨by omega, ?_⟩, hF3⟩
    have := hW.size; omega
  have hcl : ∀ (w' : World) (j : Nat), Below (w.heap.size + 1) (w0.alloc (.cells (zeros N) 5)) w' → w'.cell? ⟨w.heap.size, j, none⟩ = w0.cell? ⟨w.heap.size, j, none⟩ := fun w' j h => ((hal.trans h).cell (p := ⟨w.heap.size, j, none⟩) (Nat.lt_succ_self _))
  have hcA : w1.cell? ⟨w.heap.size, 1, none⟩ = some (.int .i64 (i : Int)) := by rw [hcl w1 1 hb1, hw0]; simp
  have hcB : w2.cell? ⟨w.heap.size, 0, none⟩ = some (.string ⟨n.toArray⟩) := by rw [hcl w2 0 hb, hw0]; simp
  subst hw0
  clear hcl hF hk hn hi hl h0 hu0 hv hx hb0 hdp hk0 hu hs0 hv1 hx1 hal hxl hX hul hlim h1 hp hy hNl hb hg hF2 hF3 hW hg1 hb1 hwl
  rcases Nat.lt_or_ge o.length (i + p) with hm | hm
  · have hm1 : ((o.length : Nat) : Int) < (i : Int) + (p : Int) := by omega
    have e : ((N : Nat) : Int) = (i : Int) + (p : Int) := by omega
    rw [e] at hmk
    clear e hN hm
    go_enter Try.func124, Try.ntmps124
    go_wp2
    go_end0
    exact HQ.out
  · have hm1 : (i : Int) + (p : Int) ≤ ((o.length : Nat) : Int) := by omega
    have e : ((N : Nat) : Int) = (o.length : Nat) := by omega
    rw [e] at hmk
    clear e hN hm
    go_enter Try.func124, Try.ntmps124
    go_wp2
    go_end0
    exact HQ.out
end Go.Proofs.Ytpgpncngamagdaa
