/- How a list of acts on locks that was handed in reads. -/
import Derived.Test.YteejlmeinndlhaaOQ
set_option linter.unusedVariables false
set_option linter.unusedSimpArgs false
namespace Go.Proofs.Yteejlmeinndlhaa
open Go.RowKit
open Go.WideShapes
structure Ak where
  kind : Int
  x : Tx
  y : Tx
  rs : List Rg
abbrev Kq := Ak × Value
def akc (q : Kq) : List Value := [.int .i64 q.1.kind] ++ tc q.1.x ++ tc q.1.y ++ [q.2]
def akcs (L : List Kq) : List Value := (L.map akc).flatten
def numI {H : Type} (d : DataW H) : Int := match d with | .lit (.int _ n) => n | _ => 0
def akOf {H : Type} (d : DataW H) : Ak := match d with | .agg [d0, d1, d2, d3] => ⟨numI d0, txOf d1, txOf d2, rgsOf d3⟩ | _ => ⟨0, (0, 0, 0), (0, 0, 0), []⟩
def aksOf {H : Type} (d : DataW H) : List Ak := match d with | .slice elems _ => elems.map akOf | _ => []
set_option maxRecDepth 100000 in
/-- an act -/
theorem open_ak {H : Type} {enc : TypeId × Value → H} {W : World} {base : Nat} {spare : Nat → Bool} {held : Bool} {fuel : Nat} {cs : List Value} {x : DataW H × List MemPlace} (h8 : cs.length = 8)
    (h : DataW.trod enc Try.prog W base spare held fuel 42 cs = some x) (hz : Sz Try.prog 42 x.1) : ∃ u, cs = akc (akOf x.1, u) ∧ Rgs (Lt W.heap.size) W u (akOf x.1).rs := by
  obtain ⟨xs, n, _, hx, hl, hlen, hf⟩ := DataW.trod_struct Try.underlying42 h
  have f0 := hf 0 _ rfl
  have f1 := hf 1 _ rfl
  have f2 := hf 2 _ rfl
  have f3 := hf 3 _ rfl
  obtain ⟨y0, y1, y2, y3, rfl⟩ : ∃ y0 y1 y2 y3, xs = [y0, y1, y2, y3] := by
    match xs, hlen with
    | [y0, y1, y2, y3], _ => exact ⟨y0, y1, y2, y3, rfl⟩
  obtain ⟨q0, q1, q2, q3, q4, q5, q6, q7, rfl⟩ : ∃ q0 q1 q2 q3 q4 q5 q6 q7, cs = [q0, q1, q2, q3, q4, q5, q6, q7] := by
    match cs, h8 with
    | [q0, q1, q2, q3, q4, q5, q6, q7], _ => exact ⟨q0, q1, q2, q3, q4, q5, q6, q7, rfl⟩
  have k3 : Try.prog.cellsOf 3 = 1 := by kernel_rfl
  have k40 : Try.prog.cellsOf 40 = 1 := by kernel_rfl
  simp only [k3, c30, k40, List.drop_zero, List.drop_succ_cons, List.take_succ_cons, List.take_zero, List.getElem?_cons_zero, List.getElem?_cons_succ] at f0 f1 f2 f3
  subst hx
  have hz' : Sz Try.prog 40 y3.1 := by
    unfold Sz at hz ⊢
    rw [List.all_eq_true] at hz ⊢
    intro m hm
    refine hz m ?_
    simp only [List.map_cons, List.map_nil, DataW.weights, Try.underlying42, DataW.weightsEach, List.mem_append]
    simp [hm]
  obtain ⟨m, a1, a2, a3⟩ := DataW.trod_int Try.underlying3 f0
  have e1 := open_tx (by rfl) f1
  have e2 := open_tx (by rfl) f2
  obtain ⟨v3, g3, r3⟩ := open_rgs f3 hz'
  obtain rfl : q0 = .int .i64 m := (List.cons.inj (show [q0] = [Value.int .i64 m] from a1)).1
  obtain rfl : q7 = v3 := (List.cons.inj (show [q7] = [v3] from g3)).1
  have x0 : numI y0.1 = m := by rw [a2]; rfl
  have e1 : [q1, q2, q3] = tc (txOf y1.1) := e1
  have e2 : [q4, q5, q6] = tc (txOf y2.1) := e2
  refine ⟨q7, ?_, r3⟩
  show [Value.int .i64 m, q1, q2, q3, q4, q5, q6, q7] = _
  simp only [akc, akOf, List.map_cons, List.map_nil, x0, ← e1, ← e2]
  rfl
/-- v reads as the acts l -/
def Aks (A : Nat → Prop) (w : World) (v : Value) (l : List Ak) : Prop := ∃ L : List Kq, L.map (·.1) = l ∧ Row 8 A w v L.length (akcs L) ∧ (∀ q ∈ L, Rgs A w q.2 q.1.rs) ∧ L.length * 80 ≤ lim
set_option maxRecDepth 100000 in
/-- []act -/
theorem open_aks {H : Type} {enc : TypeId × Value → H} {W : World} {base : Nat} {spare : Nat → Bool} {held : Bool} {fuel : Nat} {cs : List Value} {x : DataW H × List MemPlace}
    (h : DataW.trod enc Try.prog W base spare held fuel 34 cs = some x) (hz : Sz Try.prog 34 x.1) : ∃ v, cs = [v] ∧ Aks (Lt W.heap.size) W v (aksOf x.1) := by
  obtain ⟨v, css, ds, h1, h2, h3, h4, h5, h6, h7⟩ := open_rows (k := 8) Try.underlying34 (by kernel_rfl) (by decide) h hz
  have h9 : aksOf x.1 = ds.map akOf := by
    rcases h7 with ⟨h7, rfl⟩ | ⟨sp, h7⟩ <;> rw [h7] <;> rfl
  have hex : ∀ i (hi : i < css.length), ∃ u, css[i] = akc (akOf (ds[i]'(by omega)), u) ∧ Rgs (Lt W.heap.size) W u (akOf (ds[i]'(by omega))).rs := by
    intro i hi
    obtain ⟨n, ps, h10, hz'⟩ := h6 i hi (by omega)
    exact open_ak (h3 _ (List.getElem_mem hi)) h10 hz'
  refine ⟨v, h1, (List.range css.length).attach.map fun i => (akOf (ds[i.1]'(by have := List.mem_range.1 i.2; omega)), Classical.choose (hex i.1 (List.mem_range.1 i.2))), ?_, ?_, ?_, ?_⟩
  · rw [h9]
    apply List.ext_getElem
    · simp [h4]
    · intro i a b; simp
  · have e : akcs ((List.range css.length).attach.map fun i => (akOf (ds[i.1]'(by have := List.mem_range.1 i.2; omega)), Classical.choose (hex i.1 (List.mem_range.1 i.2)))) = css.flatten := by
      unfold akcs
      congr 1
      apply List.ext_getElem
      · simp
      · intro i a b
        simp only [List.getElem_map, List.getElem_attach, List.getElem_range]
        exact (Classical.choose_spec (hex i b)).1.symm
    rw [e]
    simpa using h2
  · intro q hq
    obtain ⟨i, hi, rfl⟩ := List.mem_map.1 hq
    exact (Classical.choose_spec (hex i.1 (List.mem_range.1 i.2))).2
  · simp only [List.length_map, List.length_attach, List.length_range]
    have hb : Try.prog.bytesOf 42 = 80 := by kernel_rfl
    rw [hb] at h5
    have : reachBytes = lim := by decide
    omega
end Go.Proofs.Yteejlmeinndlhaa
