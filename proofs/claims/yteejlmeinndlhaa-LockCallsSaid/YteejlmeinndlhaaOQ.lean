/- How a list of ranges that was handed in reads. -/
import Derived.Test.YteejlmeinndlhaaOR
set_option linter.unusedVariables false
set_option linter.unusedSimpArgs false
namespace Go.Proofs.Yteejlmeinndlhaa
open Go.RowKit
open Go.WideShapes
set_option maxRecDepth 100000 in
/-- []Range -/
theorem open_rgs {H : Type} {enc : TypeId × Value → H} {W : World} {base : Nat} {spare : Nat → Bool} {held : Bool} {fuel : Nat} {cs : List Value} {x : DataW H × List MemPlace}
    (h : DataW.trod enc Try.prog W base spare held fuel 40 cs = some x) (hz : Sz Try.prog 40 x.1) : ∃ v, cs = [v] ∧ Rgs (Lt W.heap.size) W v (rgsOf x.1) := by
  obtain ⟨v, css, ds, h1, h2, h3, h4, h5, h6, h7⟩ := open_rows (k := 3) Try.underlying40 (by kernel_rfl) (by decide) h hz
  have h9 : rgsOf x.1 = ds.map rgOf := by
    rcases h7 with ⟨h7, rfl⟩ | ⟨sp, h7⟩ <;> rw [h7] <;> rfl
  have hex : ∀ i (hi : i < css.length), ∃ p : Value × Value, css[i] = rc (rgOf (ds[i]'(by omega)), p.1, p.2) ∧ Bs (Lt W.heap.size) W p.1 (rgOf (ds[i]'(by omega))).lo ∧ Bs (Lt W.heap.size) W p.2 (rgOf (ds[i]'(by omega))).hi := by
    intro i hi
    obtain ⟨n, ps, h10, hz'⟩ := h6 i hi (by omega)
    obtain ⟨f, t, e, b1, b2⟩ := open_rgc (h3 _ (List.getElem_mem hi)) h10 hz'
    exact ⟨(f, t), e, b1, b2⟩
  refine ⟨v, h1, (List.range css.length).attach.map fun i => (rgOf (ds[i.1]'(by have := List.mem_range.1 i.2; omega)), Classical.choose (hex i.1 (List.mem_range.1 i.2))), ?_, ?_, ?_, ?_⟩
  · rw [h9]
    apply List.ext_getElem
    · simp [h4]
    · intro i a b; simp
  · have e : rcs ((List.range css.length).attach.map fun i => (rgOf (ds[i.1]'(by have := List.mem_range.1 i.2; omega)), Classical.choose (hex i.1 (List.mem_range.1 i.2)))) = css.flatten := by
      unfold rcs
      congr 1
      apply List.ext_getElem
      · simp
      · intro i a b
        simp only [List.getElem_map, List.getElem_attach, List.getElem_range]
        exact (Classical.choose_spec (hex i b)).1.symm
    rw [e]
    simpa using h2
  · intro q hq
    obtain ⟨i, hi, rfl⟩ := List.mem_map.1 hq
    exact (Classical.choose_spec (hex i.1 (List.mem_range.1 i.2))).2
  · simp only [List.length_map, List.length_attach, List.length_range]
    have hb : Try.prog.bytesOf 24 = 56 := by kernel_rfl
    rw [hb] at h5
    have : reachBytes = lim := by decide
    omega
end Go.Proofs.Yteejlmeinndlhaa
