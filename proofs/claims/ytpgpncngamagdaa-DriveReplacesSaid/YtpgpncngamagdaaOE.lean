/- A slice of slices of bytes that was handed in. -/
import Derived.Test.YtpgpncngamagdaaGL
import Derived.Test.YtpgpncngamagdaaRF
set_option linter.unusedVariables false
namespace Go.Proofs.Ytpgpncngamagdaa
open Go.RowKit
open Go.WideShapes
def bssOf {H : Type} (d : DataW H) : List (List UInt8) := match d with | .slice elems _ => elems.map bytesOf | _ => []
set_option maxRecDepth 100000 in
/-- [][]byte -/
theorem open_bss {H : Type} {enc : TypeId × Value → H} {W : World} {base : Nat} {spare : Nat → Bool} {held : Bool} {fuel : Nat} {cs : List Value} {x : DataW H × List MemPlace}
    (h : DataW.trod enc Try.prog W base spare held fuel 38 cs = some x) (hz : Sz Try.prog 38 x.1) : ∃ v, cs = [v] ∧ Bss (Lt W.heap.size) W v (bssOf x.1) := by
  obtain ⟨v, vs, ds, h1, h2, h4, h5, h6, h7⟩ := open_row1 Try.underlying38 (by kernel_rfl) h hz
  have h9 : bssOf x.1 = ds.map bytesOf := by
    rcases h7 with ⟨h7, rfl⟩ | ⟨sp, h7⟩ <;> rw [h7] <;> rfl
  have hl : (bssOf x.1).length = vs.length := by rw [h9, List.length_map, h4]
  refine ⟨v, h1, vs, by rw [hl]; exact h2, ⟨hl.symm, fun i a b => ?_⟩, ?_⟩
  · obtain ⟨n, ps, h10, hz'⟩ := h6 i b (by omega)
    obtain ⟨u, e1, e2⟩ := open_bs Try.underlying22 Try.underlying5 (by kernel_rfl) (by kernel_rfl) h10 hz'
    have e3 : vs[i] = u := (List.cons.inj e1).1
    have e4 : (bssOf x.1)[i] = bytesOf ds[i] := by simp only [h9, List.getElem_map]
    rw [e3, e4]
    exact e2
  · rw [hl]
    have hb : Try.prog.bytesOf 22 = 24 := by kernel_rfl
    rw [hb] at h5
    have : reachBytes = lim := by decide
    omega
end Go.Proofs.Ytpgpncngamagdaa
