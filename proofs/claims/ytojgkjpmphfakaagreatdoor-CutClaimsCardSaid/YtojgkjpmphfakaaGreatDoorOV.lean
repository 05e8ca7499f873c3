/- Origins that were handed in. -/
import Derived.Test.YtojgkjpmphfakaaGreatDoorOU
import Derived.Test.YtojgkjpmphfakaaGreatDoorCQ
import Derived.ChangeArms
set_option linter.unusedVariables false
set_option linter.unusedSimpArgs false
namespace Go.Proofs.YtojgkjpmphfakaaGreatDoor
open Go.RowKit
open Go.WideShapes
def strOf {H : Type} (d : DataW H) : List UInt8 := match d with | .lit (.string b) => b | _ => []
def ogOf {H : Type} (d : DataW H) : Og := match d with | .agg [d0, d1, d2] => (natOf d0, natOf d1, strOf d2) | _ => (0, 0, [])
def ogsOf {H : Type} (d : DataW H) : List Og := match d with | .slice elems _ => elems.map ogOf | _ => []
set_option maxRecDepth 100000 in
/-- an origin's cells -/
theorem open_og {H : Type} {enc : TypeId × Value → H} {W : World} {base : Nat} {spare : Nat → Bool} {held : Bool} {fuel : Nat} {cs : List Value} {x : DataW H × List MemPlace} (h3 : cs.length = 3)
    (h : DataW.trod enc Tryz.prog W base spare held fuel 52 cs = some x) : cs = ocs [ogOf x.1] ∧ (ogOf x.1).1 < 18446744073709551616 ∧ (ogOf x.1).2.1 < 18446744073709551616 ∧ (ogOf x.1).2.2.length ≤ maxLen := by
  obtain ⟨xs, n, _, hx, hl, hlen, hf⟩ := DataW.trod_struct Tryz.underlying52 h
  have f0 := hf 0 _ rfl
  have f1 := hf 1 _ rfl
  have f2 := hf 2 _ rfl
  obtain ⟨y0, y1, y2, rfl⟩ : ∃ y0 y1 y2, xs = [y0, y1, y2] := by
    match xs, hlen with
    | [y0, y1, y2], _ => exact ⟨y0, y1, y2, rfl⟩
  obtain ⟨q0, q1, q2, rfl⟩ : ∃ q0 q1 q2, cs = [q0, q1, q2] := by
    match cs, h3 with
    | [q0, q1, q2], _ => exact ⟨q0, q1, q2, rfl⟩
  have k23 : Tryz.prog.cellsOf 23 = 1 := by kernel_rfl
  have k9 : Tryz.prog.cellsOf 9 = 1 := by kernel_rfl
  simp only [k23, k9, List.drop_zero, List.drop_succ_cons, List.take_succ_cons, List.take_zero, List.getElem?_cons_zero, List.getElem?_cons_succ] at f0 f1 f2
  subst hx
  obtain ⟨m0, a1, a2, a3⟩ := DataW.trod_int Tryz.underlying23 f0
  obtain ⟨m1, b1, b2, b3⟩ := DataW.trod_int Tryz.underlying23 f1
  obtain ⟨s2, c1, c2, c3⟩ := DataW.trod_string Tryz.underlying9 f2
  obtain rfl : q0 = .int .u64 m0 := (List.cons.inj (show [q0] = [Value.int .u64 m0] from a1)).1
  obtain rfl : q1 = .int .u64 m1 := (List.cons.inj (show [q1] = [Value.int .u64 m1] from b1)).1
  have hc := (List.cons.inj (show [q2] = [_] from c1)).1
  obtain ⟨u0, rfl, h0⟩ := u64_nat a3
  obtain ⟨u1, rfl, h1⟩ := u64_nat b3
  have x0 : natOf y0.1 = u0 := by rw [a2]; simp [natOf]
  have x1 : natOf y1.1 = u1 := by rw [b2]; simp [natOf]
  refine ⟨?_, by simpa [ogOf, x0] using h0, by simpa [ogOf, x1] using h1, ?_⟩
  · rw [ocs_one]
    simp only [ogOf, List.map_cons, List.map_nil, x0, x1, hc, c2, strOf]
  · simp only [ogOf, List.map_cons, List.map_nil, c2, strOf]
    simpa using c3
theorem ocs_map (l : List Og) : ocs l = (l.map fun o => ocs [o]).flatten := by
  induction l with
  | nil => rfl
  | cons o l ih => rw [List.map_cons, List.flatten_cons, ← ih, ← ocs_append]; rfl
/-- []Origin -/
theorem open_ogs {H : Type} {enc : TypeId × Value → H} {W : World} {base : Nat} {spare : Nat → Bool} {held : Bool} {fuel : Nat} {cs : List Value} {x : DataW H × List MemPlace}
    (h : DataW.trod enc Tryz.prog W base spare held fuel 49 cs = some x) (hz : Sz Tryz.prog 49 x.1) : ∃ v, cs = [v] ∧ OgR (Lt W.heap.size) W v (ogsOf x.1) := by
  obtain ⟨v, css, ds, h1, h2, h3, h4, h5, h6, h7⟩ := open_rows (k := 3) Tryz.underlying49 (by kernel_rfl) (by decide) h hz
  have h9 : ogsOf x.1 = ds.map ogOf := by
    rcases h7 with ⟨h7, rfl⟩ | ⟨sp, h7⟩ <;> rw [h7] <;> rfl
  have hl : (ogsOf x.1).length = css.length := by rw [h9, List.length_map, h4]
  have hel : ∀ i (hi : i < css.length), css[i] = ocs [ogOf (ds[i]'(by omega))] ∧ (ogOf (ds[i]'(by omega))).1 < 18446744073709551616 ∧ (ogOf (ds[i]'(by omega))).2.1 < 18446744073709551616 ∧ (ogOf (ds[i]'(by omega))).2.2.length ≤ maxLen := by
    intro i hi
    obtain ⟨n, ps, h10, hz'⟩ := h6 i hi (by omega)
    exact open_og (h3 _ (List.getElem_mem hi)) h10
  refine ⟨v, h1, ?_, ?_, ?_⟩
  · rw [hl]
    have e : ocs (ogsOf x.1) = css.flatten := by
      rw [ocs_map]
      congr 1
      apply List.ext_getElem
      · rw [List.length_map, hl]
      · intro i a b
        rw [(hel i b).1]
        simp [h9]
    rw [e]; exact h2
  · intro o ho
    rw [h9] at ho
    obtain ⟨d, hd, rfl⟩ := List.mem_map.1 ho
    obtain ⟨i, hi, rfl⟩ := List.mem_iff_getElem.1 hd
    exact (hel i (by omega)).2
  · rw [hl]
    have hb : Tryz.prog.bytesOf 52 = 32 := by kernel_rfl
    rw [hb] at h5
    have : reachBytes = lim := by decide
    omega
end Go.Proofs.YtojgkjpmphfakaaGreatDoor
