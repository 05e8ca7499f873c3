/- A slice of strings that was handed in. -/
import Derived.Test.YtpgpncngamagdaaGL
import Derived.Test.YtpgpncngamagdaaSR
set_option linter.unusedVariables false
namespace Go.Proofs.Ytpgpncngamagdaa
open Go.RowKit
open Go.WideShapes
def strOf {H : Type} (d : DataW H) : List UInt8 := match d with | .lit (.string b) => b | _ => []
def strsOf {H : Type} (d : DataW H) : List (List UInt8) := match d with | .slice elems _ => elems.map strOf | _ => []
set_option maxRecDepth 100000 in
/-- []string -/
theorem open_ss {H : Type} {enc : TypeId × Value → H} {W : World} {base : Nat} {spare : Nat → Bool} {held : Bool} {fuel : Nat} {cs : List Value} {x : DataW H × List MemPlace}
    (h : DataW.trod enc Try.prog W base spare held fuel 60 cs = some x) (hz : Sz Try.prog 60 x.1) :
    ∃ v, cs = [v] ∧ Ss (Lt W.heap.size) W v (strsOf x.1) ∧ ∀ s ∈ strsOf x.1, s.length ≤ maxLen := by
  obtain ⟨v, vs, ds, h1, h2, h4, h5, h6, h7⟩ := open_row1 Try.underlying60 (by kernel_rfl) h hz
  have h9 : strsOf x.1 = ds.map strOf := by
    rcases h7 with ⟨h7, rfl⟩ | ⟨sp, h7⟩ <;> rw [h7] <;> rfl
  have hel : ∀ i (hi : i < vs.length) (hi' : i < ds.length), vs[i] = .string ⟨(strOf ds[i]).toArray⟩ ∧ (strOf ds[i]).length ≤ maxLen := by
    intro i hi hi'
    obtain ⟨n, ps, h10, _⟩ := h6 i hi hi'
    obtain ⟨s, e1, e2, e3⟩ := DataW.trod_string (by kernel_rfl) h10
    simp only [List.cons.injEq, and_true] at e1
    simp only [Prod.mk.injEq] at e2
    rw [e1, e2.1]
    exact ⟨rfl, e3⟩
  have h8 : vs = sv (ds.map strOf) := by
    apply List.ext_getElem (by simp [h4])
    intro i hi hi'
    rw [(hel i hi (by omega)).1]
    simp [sv]
  refine ⟨v, h1, ⟨?_, ?_⟩, ?_⟩
  · rw [h9, ← h8, List.length_map, h4]; exact h2
  · rw [h9, List.length_map, h4]
    have hb : Try.prog.bytesOf 9 = 16 := by kernel_rfl
    rw [hb] at h5
    have : reachBytes = lim := by decide
    omega
  · intro s hs
    rw [h9] at hs
    obtain ⟨d, hd, rfl⟩ := List.mem_map.1 hs
    obtain ⟨i, hi, rfl⟩ := List.mem_iff_getElem.1 hd
    exact (hel i (by omega) hi).2
end Go.Proofs.Ytpgpncngamagdaa
