/- For every list of barriers, every number (uint64) and every list of strings the law groynelaw16.CutBarriers returns true, and each argument reads afterwards as before. No condition. -/
import Derived.Test.YtojgkjpmphfakaaGreatDoorBA
import Derived.Test.YtojgkjpmphfakaaGreatDoorCR
import Derived.Test.YtojgkjpmphfakaaGreatDoorOU
set_option linter.unusedVariables false
set_option linter.unusedSimpArgs false
namespace Go.Proofs.YtojgkjpmphfakaaGreatDoor
open Go.RowKit
open Go.WideShapes
def txtOf {H : Type} (d : DataW H) : List UInt8 := match d with | .lit (.string b) => b | _ => []
def txtsOf {H : Type} (d : DataW H) : List (List UInt8) := match d with | .slice elems _ => elems.map txtOf | _ => []
def rbOf {H : Type} (d : DataW H) : Bi := match d with | .agg [d0, d1, d2, d3] => (natOf d0, natOf d1, txtOf d2, natsOf d3) | _ => (0, 0, [], [])
def rbsOf {H : Type} (d : DataW H) : List Bi := match d with | .slice elems _ => elems.map rbOf | _ => []
set_option maxRecDepth 100000 in
/-- []string -/
theorem open_ss {H : Type} {enc : TypeId × Value → H} {W : World} {base : Nat} {spare : Nat → Bool} {held : Bool} {fuel : Nat} {cs : List Value} {x : DataW H × List MemPlace}
    (h : DataW.trod enc Tryz.prog W base spare held fuel 24 cs = some x) (hz : Sz Tryz.prog 24 x.1) :
    ∃ v, cs = [v] ∧ Ss (Lt W.heap.size) W v (txtsOf x.1) ∧ ∀ s ∈ txtsOf x.1, s.length ≤ maxLen := by
  obtain ⟨v, vs, ds, h1, h2, h4, h5, h6, h7⟩ := open_row1 Tryz.underlying24 (by kernel_rfl) h hz
  have h9 : txtsOf x.1 = ds.map txtOf := by
    rcases h7 with ⟨h7, rfl⟩ | ⟨sp, h7⟩ <;> rw [h7] <;> rfl
  have hel : ∀ i (hi : i < vs.length) (hi' : i < ds.length), vs[i] = .string ⟨(txtOf ds[i]).toArray⟩ ∧ (txtOf ds[i]).length ≤ maxLen := by
    intro i hi hi'
    obtain ⟨n, ps, h10, _⟩ := h6 i hi hi'
    obtain ⟨s, e1, e2, e3⟩ := DataW.trod_string Tryz.underlying9 h10
    simp only [List.cons.injEq, and_true] at e1
    simp only [Prod.mk.injEq] at e2
    rw [e1, e2.1]
    exact ⟨rfl, e3⟩
  have h8 : vs = sv (ds.map txtOf) := by
    apply List.ext_getElem (by simp [h4, sv])
    intro i hi hi'
    rw [(hel i hi (by omega)).1]
    simp [sv]
  refine ⟨v, h1, ⟨?_, ?_⟩, ?_⟩
  · rw [h9, ← h8, List.length_map, h4]; exact h2
  · rw [h9, List.length_map, h4]
    have hb : Tryz.prog.bytesOf 9 = 16 := by kernel_rfl
    rw [hb] at h5
    have : reachBytes = lim := by decide
    omega
  · intro s hs
    rw [h9] at hs
    obtain ⟨d, hd, rfl⟩ := List.mem_map.1 hs
    obtain ⟨i, hi, rfl⟩ := List.mem_iff_getElem.1 hd
    exact (hel i (by omega) hi).2
set_option maxRecDepth 100000 in
/-- a barrier's cells -/
theorem open_rb {H : Type} {enc : TypeId × Value → H} {W : World} {base : Nat} {spare : Nat → Bool} {held : Bool} {fuel : Nat} {cs : List Value} {x : DataW H × List MemPlace} (h4 : cs.length = 4)
    (h : DataW.trod enc Tryz.prog W base spare held fuel 32 cs = some x) (hz : Sz Tryz.prog 32 x.1) : ∃ u, cs = rcs [(rbOf x.1, u)] ∧ Us (Lt W.heap.size) W u (rbOf x.1).2.2.2 ∧ (rbOf x.1).1 < 18446744073709551616 ∧ (rbOf x.1).2.1 < 18446744073709551616 ∧ (rbOf x.1).2.2.1.length ≤ maxLen := by
  obtain ⟨xs, n, _, hx, hl, hlen, hf⟩ := DataW.trod_struct Tryz.underlying32 h
  have f0 := hf 0 _ rfl
  have f1 := hf 1 _ rfl
  have f2 := hf 2 _ rfl
  have f3 := hf 3 _ rfl
  obtain ⟨y0, y1, y2, y3, rfl⟩ : ∃ y0 y1 y2 y3, xs = [y0, y1, y2, y3] := by
    match xs, hlen with
    | [y0, y1, y2, y3], _ => exact ⟨y0, y1, y2, y3, rfl⟩
  obtain ⟨q0, q1, q2, q3, rfl⟩ : ∃ q0 q1 q2 q3, cs = [q0, q1, q2, q3] := by
    match cs, h4 with
    | [q0, q1, q2, q3], _ => exact ⟨q0, q1, q2, q3, rfl⟩
  have k23 : Tryz.prog.cellsOf 23 = 1 := by kernel_rfl
  have k9 : Tryz.prog.cellsOf 9 = 1 := by kernel_rfl
  have k30 : Tryz.prog.cellsOf 30 = 1 := by kernel_rfl
  simp only [k23, k9, k30, List.drop_zero, List.drop_succ_cons, List.take_succ_cons, List.take_zero, List.getElem?_cons_zero, List.getElem?_cons_succ] at f0 f1 f2 f3
  subst hx
  have hz' : Sz Tryz.prog 30 y3.1 := by
    unfold Sz at hz ⊢
    rw [List.all_eq_true] at hz ⊢
    intro m hm
    refine hz m ?_
    simp only [List.map_cons, List.map_nil, DataW.weights, Tryz.underlying32, DataW.weightsEach, List.mem_append]
    simp [hm]
  obtain ⟨m0, a1, a2, a3⟩ := DataW.trod_int Tryz.underlying23 f0
  obtain ⟨m1, b1, b2, b3⟩ := DataW.trod_int Tryz.underlying23 f1
  obtain ⟨s2, c1, c2, c3⟩ := DataW.trod_string Tryz.underlying9 f2
  obtain ⟨v3, g3, r3⟩ := open_us f3 hz'
  obtain rfl : q0 = .int .u64 m0 := (List.cons.inj (show [q0] = [Value.int .u64 m0] from a1)).1
  obtain rfl : q1 = .int .u64 m1 := (List.cons.inj (show [q1] = [Value.int .u64 m1] from b1)).1
  have hc := (List.cons.inj (show [q2] = [_] from c1)).1
  obtain rfl : q3 = v3 := (List.cons.inj (show [q3] = [v3] from g3)).1
  obtain ⟨u0, rfl, h0⟩ := u64_nat a3
  obtain ⟨u1, rfl, h1⟩ := u64_nat b3
  have x0 : natOf y0.1 = u0 := by rw [a2]; simp [natOf]
  have x1 : natOf y1.1 = u1 := by rw [b2]; simp [natOf]
  refine ⟨q3, ?_, r3, by simpa [rbOf, x0] using h0, by simpa [rbOf, x1] using h1, ?_⟩
  · simp only [rcs, List.flatMap_cons, List.flatMap_nil, List.append_nil, rbOf, List.map_cons, List.map_nil, x0, x1, hc, c2, txtOf]
  · simp only [rbOf, List.map_cons, List.map_nil, c2, txtOf]
    simpa using c3
/-- []Barrier -/
theorem open_rbs {H : Type} {enc : TypeId × Value → H} {W : World} {base : Nat} {spare : Nat → Bool} {held : Bool} {fuel : Nat} {cs : List Value} {x : DataW H × List MemPlace}
    (h : DataW.trod enc Tryz.prog W base spare held fuel 22 cs = some x) (hz : Sz Tryz.prog 22 x.1) : ∃ v, cs = [v] ∧ RbR (Lt W.heap.size) W v (rbsOf x.1) ∧ ∀ y ∈ rbsOf x.1, y.1 < 18446744073709551616 ∧ y.2.1 < 18446744073709551616 ∧ y.2.2.1.length ≤ maxLen := by
  obtain ⟨v, css, ds, h1, h2, h3, h4, h5, h6, h7⟩ := open_rows (k := 4) Tryz.underlying22 (by kernel_rfl) (by decide) h hz
  have h9 : rbsOf x.1 = ds.map rbOf := by
    rcases h7 with ⟨h7, rfl⟩ | ⟨sp, h7⟩ <;> rw [h7] <;> rfl
  have hex : ∀ i (hi : i < css.length), ∃ u, css[i] = rcs [(rbOf (ds[i]'(by omega)), u)] ∧ Us (Lt W.heap.size) W u (rbOf (ds[i]'(by omega))).2.2.2 ∧ (rbOf (ds[i]'(by omega))).1 < 18446744073709551616 ∧ (rbOf (ds[i]'(by omega))).2.1 < 18446744073709551616 ∧ (rbOf (ds[i]'(by omega))).2.2.1.length ≤ maxLen := by
    intro i hi
    obtain ⟨n, ps, h10, hz'⟩ := h6 i hi (by omega)
    exact open_rb (h3 _ (List.getElem_mem hi)) h10 hz'
  refine ⟨v, h1, ⟨(List.range css.length).attach.map fun i => (rbOf (ds[i.1]'(by have := List.mem_range.1 i.2; omega)), Classical.choose (hex i.1 (List.mem_range.1 i.2))), ?_, ?_, ?_, ?_⟩, ?_⟩
  · rw [h9]
    apply List.ext_getElem
    · simp [h4]
    · intro i a b; simp
  · have e : rcs ((List.range css.length).attach.map fun i => (rbOf (ds[i.1]'(by have := List.mem_range.1 i.2; omega)), Classical.choose (hex i.1 (List.mem_range.1 i.2)))) = css.flatten := by
      unfold rcs
      rw [List.flatMap_def]
      congr 1
      apply List.ext_getElem
      · simp
      · intro i a b
        simp only [List.getElem_map, List.getElem_attach, List.getElem_range]
        refine Eq.trans ?_ (Classical.choose_spec (hex i b)).1.symm
        simp [rcs]
    rw [e, h9, List.length_map, h4]
    exact h2
  · intro q hq
    obtain ⟨i, hi, rfl⟩ := List.mem_map.1 hq
    exact (Classical.choose_spec (hex i.1 (List.mem_range.1 i.2))).2.1
  · rw [h9, List.length_map, h4]
    have hb : Tryz.prog.bytesOf 32 = 56 := by kernel_rfl
    rw [hb] at h5
    have : reachBytes = lim := by decide
    omega
  · intro y hy
    rw [h9] at hy
    obtain ⟨d, hd, rfl⟩ := List.mem_map.1 hy
    obtain ⟨i, hi, rfl⟩ := List.mem_iff_getElem.1 hd
    exact (Classical.choose_spec (hex i (by omega))).2.2
end Go.Proofs.YtojgkjpmphfakaaGreatDoor
namespace Go.Proofs.YtojgkjpmphfakaaGreatDoor
open Go.RowKit
open Go.ChangeShapes Go.WideShapes Go.ChangeAt
open Go.ChangeMaps (open_string shut_string)
namespace CutBarriersC
theorem reads (os : Os) {H : Type} (enc : TypeId × Value → H) : ∃ places, DataW.whole enc Tryz.prog ((laidWorld os #[.slice none 0 0, .int .u64 0, .slice none 0 0]).forCall (fun _ _ => 0) ⟨#[], #[.slice none 0 0, .int .u64 0, .slice none 0 0], []⟩).memory Tryz.f3.params.toList Rows.cutBarriersSpec.vars false #[Value.slice none 0 0, .int .u64 0, .slice none 0 0].toList 8 = some ([.nil, .lit (.int .u64 0), .nil], [], places) :=
  ⟨[], by kernel_rfl⟩
set_option maxRecDepth 100000 in
theorem lifted (os : Os) (started : os.Started) (H : Type) (enc : TypeId × Value → H) (F : Stop.Interp) :
    ReturnsInHanded {} Tryz.checked os 3 .any ((OpenSpec.ofChange Rows.cutBarriersSpec).preRow enc Tryz.prog Tryz.f3 Rows.cutBarriersRow.domain false Rows.cutBarriersRow.laid) (((OpenSpec.ofChange Rows.cutBarriersSpec).at F).post enc Tryz.prog Tryz.f3 false true false false) := by
  obtain ⟨places, hx⟩ := reads os enc
  refine returnsInHanded_of_row (C := Tryz.checked) (s := OpenSpec.ofChange Rows.cutBarriersSpec) Tryz.own started (by kernel_rfl) Tryz.func3
    (witness_row_at (enc := enc) (C := Tryz.checked) false (laidWorld os #[.slice none 0 0, .int .u64 0, .slice none 0 0]) #[.slice none 0 0, .int .u64 0, .slice none 0 0] rfl (by kernel_rfl) (by kernel_rfl) (by kernel_rfl)
      (OpenSpec.preRow_of_cond 8 hx (by kernel_rfl) (fun k hk => by cases hk) (by kernel_rfl) (laid_met os _))) ?_
  intro W base args ds gs before hval0 hW _ hcond hZ hL _ _
  have hval : ∀ (j : Nat) t v, Tryz.f3.params[j]? = some t → args[j]? = some v → Value.okWide Tryz.prog W .any base t v := hval0
  have hW' := hW
  obtain ⟨p, q, hA0, hV, rfl, hfz, hnd⟩ := hW
  have hA : DataW.TrodAll enc Tryz.prog W 0 (fun _ => true) true Tryz.f3.params.toList args.toList ds p := hA0
  rw [Tryz.params3] at hA hval
  obtain ⟨v0, v1, v2, d0, d1, d2, p0, p1, p2, rfl, rfl, rfl, h0, h1, h2⟩ := trodAll_three hA
  obtain ⟨rfl, rfl⟩ := trodVars_none hV
  have z0 := sz_each hZ (j := 0) (t := 22) (d := d0) (by rw [Tryz.params3]; rfl) rfl
  obtain ⟨fu0, e0⟩ := h0
  rw [slice_okWide Tryz.underlying22 (hval 0 22 v0 rfl rfl)] at e0
  obtain ⟨v0', c0, b0⟩ := open_rbs e0 z0
  simp only [List.cons.injEq, and_true] at c0
  subst c0
  obtain ⟨j1, rfl, rfl, rfl, j1a⟩ := open_int Tryz.underlying23 (hval 1 23 v1 rfl rfl) h1
  obtain ⟨n1, rfl, n1a⟩ := u64_nat j1a
  have z2 := sz_each hZ (j := 2) (t := 24) (d := d2) (by rw [Tryz.params3]; rfl) rfl
  obtain ⟨fu2, e2⟩ := h2
  rw [slice_okWide Tryz.underlying24 (hval 2 24 v2 rfl rfl)] at e2
  obtain ⟨v2', c2, b2⟩ := open_ss e2 z2
  simp only [List.cons.injEq, and_true] at c2
  subst c2
  clear hA0 hval0
  have hwalk := barriers_law b0.1 b0.2 n1a b2.1 b2.2
  refine hwalk.mono fun e W' ⟨he, hg⟩ => ?_
  subst he
  exact ⟨_, rfl, law_post Tryz.laidOut (by rw [Tryz.params3]; kernel_rfl) rfl Tryz.underlying4 rfl hW' rfl hg⟩
theorem said : Rows.CutBarriersSaid :=
  OpenClaim.holds_of_cond 3 Tryz.f3 rfl rfl rfl rfl rfl rfl rfl ⟨rfl, rfl, rfl, rfl, rfl⟩ rfl rfl rfl rfl rfl (by kernel_rfl) Tryz.func3 (by kernel_rfl)
    (of_decide_eq_true (by kernel_rfl)) (by unfold Func.isWrapper; first | (rw [if_pos (by decide +kernel)]; kernel_rfl) | (rw [if_neg (by decide +kernel)]; exact ⟨rfl, rfl⟩))
    (fun os started H enc _ F => by rw [OpenClaim.pre_eq_preRow]; exact lifted os started H enc F)
theorem plain (f : FuncId) (fn : Func) (hf : Tryz.pinned.checked.prog.funcNamed "groyne/groynelaw16.CutBarriers" = some f) (hfn : Tryz.pinned.checked.prog.funcs[f]? = some fn) :
    false = Tryz.pinned.checked.prog.looks [] ∧ ∀ (j : Nat) t, fn.params[j]? = some t → Tryz.pinned.checked.prog.wantsStandIn t = false := by
  obtain rfl : f = 3 := Option.some.inj ((show Tryz.prog.funcNamed "groyne/groynelaw16.CutBarriers" = some 3 by kernel_rfl).symm.trans hf) |>.symm
  obtain rfl : fn = Tryz.f3 := (Option.some.inj (Tryz.func3.symm.trans hfn)).symm
  refine ⟨by kernel_rfl, fun j t ht => ?_⟩
  rw [Tryz.params3] at ht
  have hm := Array.mem_of_getElem? ht
  simp only [List.mem_toArray, List.mem_cons, List.not_mem_nil, or_false] at hm
  rcases hm with rfl | rfl | rfl
  · exact (show Tryz.prog.wantsStandIn 22 = false by kernel_rfl)
  · exact (show Tryz.prog.wantsStandIn 23 = false by kernel_rfl)
  · exact (show Tryz.prog.wantsStandIn 24 = false by kernel_rfl)
end CutBarriersC
theorem cutBarriers_holds : Rows.CutBarriersCardSaid :=
  Claim7.holds_tied_plain_at .later [] _ _ _ _ CutBarriersC.said (fun _ h => by cases h) (by kernel_rfl) (fun _ h => by cases h) cutBarriers_row_tie rfl ⟨rfl, rfl⟩ (by kernel_rfl) rfl CutBarriersC.plain (by kernel_rfl)
#print axioms cutBarriers_holds
end Go.Proofs.YtojgkjpmphfakaaGreatDoor
