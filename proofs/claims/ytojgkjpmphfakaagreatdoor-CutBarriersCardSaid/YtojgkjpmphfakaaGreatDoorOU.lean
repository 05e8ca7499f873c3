/- Numbers that were handed in. -/
import Derived.Test.YtojgkjpmphfakaaGreatDoorBA
import Derived.Test.YtojgkjpmphfakaaGreatDoorPN
set_option linter.unusedVariables false
namespace Go.Proofs.YtojgkjpmphfakaaGreatDoor
open Go.RowKit
open Go.WideShapes
theorem u64_nat {x : Int} (h : (Lit.int .u64 x).wf = true) : ∃ n : Nat, x = (n : Int) ∧ n < 18446744073709551616 := by
  simp [Lit.wf, IntKind.min, IntKind.max, IntKind.signed, IntKind.bits] at h
  exact ⟨x.toNat, by omega, by omega⟩
def natOf {H : Type} (d : DataW H) : Nat := match d with | .lit (.int _ n) => n.toNat | _ => 0
def natsOf {H : Type} (d : DataW H) : List Nat := match d with | .slice elems _ => elems.map natOf | _ => []
/-- []uint64 -/
theorem open_us {H : Type} {enc : TypeId × Value → H} {W : World} {base : Nat} {spare : Nat → Bool} {held : Bool} {fuel : Nat} {cs : List Value} {x : DataW H × List MemPlace}
    (h : DataW.trod enc Tryz.prog W base spare held fuel 30 cs = some x) (hz : Sz Tryz.prog 30 x.1) :
    ∃ v, cs = [v] ∧ Us (Lt W.heap.size) W v (natsOf x.1) := by
  obtain ⟨v, vs, ds, h1, h2, h4, h5, h6, h7⟩ := open_row1 Tryz.underlying30 (by kernel_rfl) h hz
  have h9 : natsOf x.1 = ds.map natOf := by
    rcases h7 with ⟨h7, rfl⟩ | ⟨sp, h7⟩ <;> rw [h7] <;> rfl
  have hel : ∀ i (hi : i < vs.length) (hi' : i < ds.length), vs[i] = .int .u64 (natOf ds[i] : Int) ∧ natOf ds[i] < 18446744073709551616 := by
    intro i hi hi'
    obtain ⟨n, ps, h10, _⟩ := h6 i hi hi'
    obtain ⟨m, e1, e2, e3⟩ := DataW.trod_int Tryz.underlying23 h10
    simp only [List.cons.injEq, and_true] at e1
    simp only [Prod.mk.injEq] at e2
    obtain ⟨k, rfl, hk⟩ := u64_nat e3
    rw [e1, e2.1]
    simp only [natOf, Int.toNat_natCast, true_and]
    exact hk
  have h8 : vs = uv (ds.map natOf) := by
    apply List.ext_getElem (by simp [h4, uv])
    intro i hi hi'
    rw [(hel i hi (by omega)).1]
    simp [uv]
  refine ⟨v, h1, ?_, ?_, ?_⟩
  · rw [h9, ← h8, List.length_map, h4]; exact h2
  · intro n hn
    rw [h9] at hn
    obtain ⟨d, hd, rfl⟩ := List.mem_map.1 hn
    obtain ⟨i, hi, rfl⟩ := List.mem_iff_getElem.1 hd
    exact (hel i (by omega) hi).2
  · rw [h9, List.length_map, h4]
    have hb : Tryz.prog.bytesOf 23 = 8 := by kernel_rfl
    rw [hb] at h5
    have : reachBytes = lim := by decide
    omega
end Go.Proofs.YtojgkjpmphfakaaGreatDoor
