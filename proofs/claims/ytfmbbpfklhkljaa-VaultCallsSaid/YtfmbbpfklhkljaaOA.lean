/- What a list of acts that was handed in reads as. -/
import Derived.Test.YtfmbbpfklhkljaaOP
import Derived.Test.YtfmbbpfklhkljaaVC
set_option linter.unusedVariables false
set_option linter.unusedSimpArgs false
namespace Go.Proofs.Ytfmbbpfklhkljaa
open Go.RowKit
open Go.WideShapes
def numOf {H : Type} (d : DataW H) : Int := match d with | .lit (.int _ n) => n | _ => 0
def txtOf {H : Type} (d : DataW H) : List UInt8 := match d with | .lit (.string b) => b | _ => []
def actOf {H : Type} (d : DataW H) : Ac := match d with | .agg [d0, d1, d2, d3] => ⟨numOf d0, txtOf d1, txtOf d2, bytesOf d3⟩ | _ => ⟨0, [], [], []⟩
def actsOf {H : Type} (d : DataW H) : List Ac := match d with | .slice elems _ => elems.map actOf | _ => []
set_option maxRecDepth 100000 in
/-- an act -/
theorem open_act {H : Type} {enc : TypeId × Value → H} {W : World} {base : Nat} {spare : Nat → Bool} {held : Bool} {fuel : Nat} {cs : List Value} {x : DataW H × List MemPlace} (h4 : cs.length = 4)
    (h : DataW.trod enc Try.prog W base spare held fuel 84 cs = some x) (hz : Sz Try.prog 84 x.1) : ∃ u, cs = ac (actOf x.1, u) ∧ Bs (Lt W.heap.size) W u (actOf x.1).data ∧ (actOf x.1).name.length ≤ maxLen ∧ (actOf x.1).dest.length ≤ maxLen := by
  obtain ⟨xs, n, _, hx, hl, hlen, hf⟩ := DataW.trod_struct Try.underlying84 h
  have f0 := hf 0 _ rfl
  have f1 := hf 1 _ rfl
  have f2 := hf 2 _ rfl
  have f3 := hf 3 _ rfl
  obtain ⟨y0, y1, y2, y3, rfl⟩ : ∃ y0 y1 y2 y3, xs = [y0, y1, y2, y3] := by
    match xs, hlen with
    | [y0, y1, y2, y3], _ => exact ⟨y0, y1, y2, y3, rfl⟩
  obtain ⟨q0, q1, q2, q3, rfl⟩ : ∃ q0 q1 q2 q3, cs = [q0, q1, q2, q3] := by
    match cs, h4 with
    | [q0, q1, q2, q3], _ => exact ⟨q0, q1, q2, q3, rfl⟩
  have k3 : Try.prog.cellsOf 3 = 1 := by kernel_rfl
  have k9 : Try.prog.cellsOf 9 = 1 := by kernel_rfl
  have k32 : Try.prog.cellsOf 32 = 1 := by kernel_rfl
  simp only [k3, k9, k32, List.drop_zero, List.drop_succ_cons, List.take_succ_cons, List.take_zero, List.getElem?_cons_zero, List.getElem?_cons_succ] at f0 f1 f2 f3
  subst hx
  have hz' : Sz Try.prog 32 y3.1 := by
    unfold Sz at hz ⊢
    rw [List.all_eq_true] at hz ⊢
    intro m hm
    refine hz m ?_
    simp only [List.map_cons, List.map_nil, DataW.weights, Try.underlying84, DataW.weightsEach, List.mem_append]
    simp [hm]
  obtain ⟨m, a1, a2, _⟩ := DataW.trod_int Try.underlying3 f0
  obtain ⟨s1, b1, b2, b3⟩ := DataW.trod_string Try.underlying9 f1
  obtain ⟨s2, c1, c2, c3⟩ := DataW.trod_string Try.underlying9 f2
  obtain ⟨v3, g3, r3⟩ := open_bs Try.underlying32 Try.underlying5 (by kernel_rfl) (by kernel_rfl) f3 hz'
  obtain rfl : q0 = .int .i64 m := (List.cons.inj (show [q0] = [Value.int .i64 m] from a1)).1
  obtain rfl : q1 = .string s1 := (List.cons.inj (show [q1] = [Value.string s1] from b1)).1
  obtain rfl : q2 = .string s2 := (List.cons.inj (show [q2] = [Value.string s2] from c1)).1
  obtain rfl : q3 = v3 := (List.cons.inj (show [q3] = [v3] from g3)).1
  have e0 : numOf y0.1 = m := by rw [a2]; rfl
  have e1 : txtOf y1.1 = s1.data.toList := by rw [b2]; rfl
  have e2 : txtOf y2.1 = s2.data.toList := by rw [c2]; rfl
  refine ⟨q3, ?_, r3, ?_, ?_⟩
  · simp [ac, actOf, e0, e1, e2]
  · simp only [actOf, List.map_cons, List.map_nil, e1]; simpa using b3
  · simp only [actOf, List.map_cons, List.map_nil, e2]; simpa using c3
/-- []Act -/
theorem open_acts {H : Type} {enc : TypeId × Value → H} {W : World} {base : Nat} {spare : Nat → Bool} {held : Bool} {fuel : Nat} {cs : List Value} {x : DataW H × List MemPlace}
    (h : DataW.trod enc Try.prog W base spare held fuel 78 cs = some x) (hz : Sz Try.prog 78 x.1) : ∃ v, cs = [v] ∧ As (Lt W.heap.size) W v (actsOf x.1) := by
  obtain ⟨v, css, ds, h1, h2, h3, h4, h5, h6, h7⟩ := open_rows (k := 4) Try.underlying78 (by kernel_rfl) (by decide) h hz
  have h9 : actsOf x.1 = ds.map actOf := by
    rcases h7 with ⟨h7, rfl⟩ | ⟨sp, h7⟩ <;> rw [h7] <;> rfl
  have hex : ∀ i (hi : i < css.length), ∃ u, css[i] = ac (actOf (ds[i]'(by omega)), u) ∧ Bs (Lt W.heap.size) W u (actOf (ds[i]'(by omega))).data ∧ (actOf (ds[i]'(by omega))).name.length ≤ maxLen ∧ (actOf (ds[i]'(by omega))).dest.length ≤ maxLen := by
    intro i hi
    obtain ⟨n, ps, h10, hz'⟩ := h6 i hi (by omega)
    exact open_act (h3 _ (List.getElem_mem hi)) h10 hz'
  refine ⟨v, h1, (List.range css.length).attach.map fun i => (actOf (ds[i.1]'(by have := List.mem_range.1 i.2; omega)), Classical.choose (hex i.1 (List.mem_range.1 i.2))), ?_, ?_, ?_, ?_⟩
  · rw [h9]
    apply List.ext_getElem
    · simp [h4]
    · intro i a b; simp
  · have e : acs ((List.range css.length).attach.map fun i => (actOf (ds[i.1]'(by have := List.mem_range.1 i.2; omega)), Classical.choose (hex i.1 (List.mem_range.1 i.2)))) = css.flatten := by
      unfold acs
      congr 1
      apply List.ext_getElem
      · simp
      · intro i a b
        simp only [List.getElem_map, List.getElem_attach, List.getElem_range]
        exact (Classical.choose_spec (hex i b)).1.symm
    rw [e]
    simpa using h2
  · intro q hq
    obtain ⟨i, hi, rfl⟩ := List.mem_map.1 hq
    have := (Classical.choose_spec (hex i.1 (List.mem_range.1 i.2))).2
    exact ⟨this.1, this.2.1, this.2.2⟩
  · simp only [List.length_map, List.length_attach, List.length_range]
    have hb : Try.prog.bytesOf 84 = 64 := by kernel_rfl
    rw [hb] at h5
    have : reachBytes = lim := by decide
    omega
end Go.Proofs.Ytfmbbpfklhkljaa
