/- What a node, and rows of rows, that were handed in read as. -/
import Derived.Test.YtfmbbpfklhkljaaOP
import Derived.Test.YtfmbbpfklhkljaaA3
set_option linter.unusedVariables false
set_option linter.unusedSimpArgs false
namespace Go.Proofs.Ytfmbbpfklhkljaa
open Go.RowKit
open Go.WideShapes
section
variable {H : Type} {enc : TypeId × Value → H} {P : Program} {W : World} {base : Nat} {spare : Nat → Bool} {held : Bool}
def rowsOf (d : DataW H) : List (List UInt8) := match d with | .slice elems _ => elems.map bytesOf | _ => []
def intOfD (d : DataW H) : Int := match d with | .lit (.int _ n) => n | _ => 0
def intsOf (d : DataW H) : List Int := match d with | .slice elems _ => elems.map intOfD | _ => []
/-- [][]byte -/
theorem open_bss {t e b : TypeId} {fuel : Nat} {cs : List Value} {x : DataW H × List MemPlace} (ht : P.underlying t = some (.slice e)) (hc : P.cellsOf e = 1) (hb : P.bytesOf e = 24)
    (he : P.underlying e = some (.slice b)) (hbb : P.underlying b = some (.int .u8)) (hbc : P.cellsOf b = 1) (hb1 : P.bytesOf b = 1)
    (h : DataW.trod enc P W base spare held fuel t cs = some x) (hz : Sz P t x.1) :
    ∃ v, cs = [v] ∧ Bss (Lt W.heap.size) W v (rowsOf x.1) := by
  obtain ⟨v, vs, ds, h1, h2, h4, h5, h6, h7⟩ := open_row1 ht hc h hz
  have h9 : rowsOf x.1 = ds.map bytesOf := by
    rcases h7 with ⟨h7, rfl⟩ | ⟨sp, h7⟩ <;> rw [h7] <;> rfl
  refine ⟨v, h1, vs, ?_, ⟨by rw [h9]; simp [h4], fun i a b' => ?_⟩, ?_⟩
  · rw [h9, List.length_map, h4]; exact h2
  · obtain ⟨n, ps, h10, hz'⟩ := h6 i b' (by omega)
    obtain ⟨v', h11, h12⟩ := open_bs he hbb hbc hb1 h10 hz'
    simp only [List.cons.injEq, and_true] at h11
    subst h11
    have : (rowsOf x.1)[i] = bytesOf (ds[i]'(by omega)) := by simp [h9]
    rw [this]; exact h12
  · rw [h9, List.length_map, h4]
    rw [hb] at h5
    have : reachBytes = lim := by decide
    omega
/-- []int -/
theorem open_is {t e : TypeId} {fuel : Nat} {cs : List Value} {x : DataW H × List MemPlace} (ht : P.underlying t = some (.slice e)) (hc : P.cellsOf e = 1) (hb : P.bytesOf e = 8) (he : P.underlying e = some (.int .i64))
    (h : DataW.trod enc P W base spare held fuel t cs = some x) (hz : Sz P t x.1) :
    ∃ v, cs = [v] ∧ Is (Lt W.heap.size) W v (intsOf x.1) := by
  obtain ⟨v, vs, ds, h1, h2, h4, h5, h6, h7⟩ := open_row1 ht hc h hz
  have h9 : intsOf x.1 = ds.map intOfD := by
    rcases h7 with ⟨h7, rfl⟩ | ⟨sp, h7⟩ <;> rw [h7] <;> rfl
  have hel : ∀ i (hi : i < vs.length) (hi' : i < ds.length), vs[i] = .int .i64 (intOfD ds[i]) ∧ -9223372036854775808 ≤ intOfD ds[i] ∧ intOfD ds[i] ≤ 9223372036854775807 := by
    intro i hi hi'
    obtain ⟨n, ps, h10, _⟩ := h6 i hi hi'
    obtain ⟨m, e1, e2, e3⟩ := DataW.trod_int he h10
    simp only [List.cons.injEq, and_true] at e1
    simp only [Prod.mk.injEq] at e2
    rw [e1, e2.1]
    simp only [Lit.wf, Bool.and_eq_true, decide_eq_true_eq] at e3
    have a1 : IntKind.i64.min = -9223372036854775808 := by decide
    have a2 : IntKind.i64.max = 9223372036854775807 := by decide
    exact ⟨rfl, by simp only [intOfD]; omega, by simp only [intOfD]; omega⟩
  have h8 : vs = iv (ds.map intOfD) := by
    apply List.ext_getElem (by simp [h4])
    intro i hi hi'
    rw [(hel i hi (by omega)).1]
    simp [iv]
  refine ⟨v, h1, ?_, ?_, fun y hy => ?_⟩
  · rw [h9, ← h8, List.length_map, h4]; exact h2
  · rw [h9, List.length_map, h4]
    rw [hb] at h5
    have : reachBytes = lim := by decide
    omega
  · rw [h9] at hy
    obtain ⟨d, hd, rfl⟩ := List.mem_map.1 hy
    obtain ⟨i, hi, rfl⟩ := List.mem_iff_getElem.1 hd
    exact (hel i (by omega) hi).2
end
def boolOfD {H : Type} (d : DataW H) : Bool := match d with | .lit (.bool b) => b | _ => false
def nodeOf {H : Type} (d : DataW H) : Nd := match d with | .agg [d0, d1, d2, d3] => ⟨boolOfD d0, rowsOf d1, rowsOf d2, intsOf d3⟩ | _ => ⟨false, [], [], []⟩
set_option maxRecDepth 100000 in
/-- a node -/
theorem open_node {H : Type} {enc : TypeId × Value → H} {W : World} {base b0 : Nat} {spare : Nat → Bool} {held : Bool} {fuel : Nat} {r : Reach} {v : Value} {x : DataW H × List MemPlace} (hv : Value.okWide Try.prog W r b0 31 v)
    (h : DataW.trod enc Try.prog W base spare held fuel 31 v.cells.toList = some x) (hz : Sz Try.prog 31 x.1) : RN (Lt W.heap.size) W v (nodeOf x.1) := by
  obtain ⟨cs, rfl, hcs⟩ := okWide_struct Try.underlying31 hv
  obtain ⟨xs, n, _, hx, hl, hlen, hf⟩ := DataW.trod_struct Try.underlying31 h
  have f0 := hf 0 _ rfl
  have f1 := hf 1 _ rfl
  have f2 := hf 2 _ rfl
  have f3 := hf 3 _ rfl
  obtain ⟨y0, y1, y2, y3, rfl⟩ : ∃ y0 y1 y2 y3, xs = [y0, y1, y2, y3] := by
    match xs, hlen with
    | [y0, y1, y2, y3], _ => exact ⟨y0, y1, y2, y3, rfl⟩
  have hc4 : cs.size = 4 := by rw [hcs]; kernel_rfl
  obtain ⟨q0, q1, q2, q3, rfl⟩ : ∃ q0 q1 q2 q3, cs = #[q0, q1, q2, q3] := by
    obtain ⟨l⟩ := cs
    match l, hc4 with
    | [q0, q1, q2, q3], _ => exact ⟨q0, q1, q2, q3, rfl⟩
  have k4 : Try.prog.cellsOf 4 = 1 := by kernel_rfl
  have k28 : Try.prog.cellsOf 28 = 1 := by kernel_rfl
  have k29 : Try.prog.cellsOf 29 = 1 := by kernel_rfl
  simp only [Value.cells, k4, k28, k29, List.drop_zero, List.drop_succ_cons, List.take_succ_cons, List.take_zero, List.getElem?_cons_zero, List.getElem?_cons_succ] at f0 f1 f2 f3
  subst hx
  have hz' : ∀ (t : TypeId) (d : DataW H), (t = 28 ∧ (d = y1.1 ∨ d = y2.1)) ∨ (t = 29 ∧ d = y3.1) → Sz Try.prog t d := by
    intro t d hd
    unfold Sz at hz ⊢
    rw [List.all_eq_true] at hz ⊢
    intro m hm
    refine hz m ?_
    simp only [List.map_cons, List.map_nil, DataW.weights, Try.underlying31, DataW.weightsEach, List.mem_append]
    rcases hd with ⟨rfl, rfl | rfl⟩ | ⟨rfl, rfl⟩ <;> simp [hm]
  obtain ⟨b, e0⟩ : ∃ b, q0 = .bool b ∧ y0.1 = .lit (.bool b) := by
    obtain ⟨b, e1, e2⟩ := DataW.trod_bool Try.underlying4 f0
    have e1 : [q0] = [Value.bool b] := e1
    exact ⟨b, (List.cons.inj e1).1, by rw [e2]⟩
  obtain ⟨v1, g1, r1⟩ := open_bss Try.underlying28 (by kernel_rfl) (by kernel_rfl) Try.underlying32 Try.underlying5 (by kernel_rfl) (by kernel_rfl) f1 (hz' 28 _ (.inl ⟨rfl, .inl rfl⟩))
  obtain ⟨v2, g2, r2⟩ := open_bss Try.underlying28 (by kernel_rfl) (by kernel_rfl) Try.underlying32 Try.underlying5 (by kernel_rfl) (by kernel_rfl) f2 (hz' 28 _ (.inl ⟨rfl, .inr rfl⟩))
  obtain ⟨v3, g3, r3⟩ := open_is Try.underlying29 (by kernel_rfl) (by kernel_rfl) Try.underlying3 f3 (hz' 29 _ (.inr ⟨rfl, rfl⟩))
  obtain rfl : q1 = v1 := (List.cons.inj (show [q1] = [v1] from g1)).1
  obtain rfl : q2 = v2 := (List.cons.inj (show [q2] = [v2] from g2)).1
  obtain rfl : q3 = v3 := (List.cons.inj (show [q3] = [v3] from g3)).1
  refine ⟨_, _, _, by rw [e0.1]; simp [nodeOf, e0.2, boolOfD], r1, r2, r3⟩
end Go.Proofs.Ytfmbbpfklhkljaa
