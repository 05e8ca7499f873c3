/- A slice of slices of acts: how it reads, and how one that was handed in reads. -/
import Derived.Test.YtpgpncngamagdaaOA
import Derived.Test.YtpgpncngamagdaaOB
set_option linter.unusedVariables false
namespace Go.Proofs.Ytpgpncngamagdaa
open Go.RowKit
open Go.WideShapes
def Ass (A : Nat → Prop) (w : World) (v : Value) (l : List (List Ac)) : Prop := ∃ vs : List Value, Row 1 A w v l.length vs ∧ (vs.length = l.length ∧ ∀ i (h : i < l.length) (h' : i < vs.length), As A w vs[i] l[i]) ∧ l.length * 24 ≤ lim
theorem Ass.at {A : Nat → Prop} {w : World} {v : Value} {l : List (List Ac)} (h : Ass A w v l) : ∃ (a : Option Addr) (c : Nat), v = .slice a l.length c ∧ l.length ≤ c ∧ (a = none → c = 0) ∧ l.length * 24 ≤ lim ∧
    ∀ j (hj : j < l.length), ∃ b o u, a = some ⟨b, o, none⟩ ∧ A b ∧ w.cell? ⟨b, o + j, none⟩ = some u ∧ As A w u l[j] := by
  obtain ⟨vs, h1, h2, h3⟩ := h
  obtain ⟨a, c, hv, hc, ha, H⟩ := h1.at1
  refine ⟨a, c, hv, hc, ha, h3, fun j hj => ?_⟩
  have hj' : j < vs.length := by have := h2.1; omega
  obtain ⟨b, o, h1, h2', h3⟩ := H j hj
  exact ⟨b, o, vs[j], h1, h2', by rw [h3]; simp [hj'], h2.2 j hj hj'⟩
def actssOf {H : Type} (d : DataW H) : List (List Ac) := match d with | .slice elems _ => elems.map actsOf | _ => []
set_option maxRecDepth 100000 in
/-- [][]Act -/
theorem open_actss {H : Type} {enc : TypeId × Value → H} {W : World} {base : Nat} {spare : Nat → Bool} {held : Bool} {fuel : Nat} {cs : List Value} {x : DataW H × List MemPlace}
    (h : DataW.trod enc Try.prog W base spare held fuel 76 cs = some x) (hz : Sz Try.prog 76 x.1) : ∃ v, cs = [v] ∧ Ass (Lt W.heap.size) W v (actssOf x.1) := by
  obtain ⟨v, vs, ds, h1, h2, h4, h5, h6, h7⟩ := open_row1 Try.underlying76 (by kernel_rfl) h hz
  have h9 : actssOf x.1 = ds.map actsOf := by
    rcases h7 with ⟨h7, rfl⟩ | ⟨sp, h7⟩ <;> rw [h7] <;> rfl
  have hl : (actssOf x.1).length = vs.length := by rw [h9, List.length_map, h4]
  refine ⟨v, h1, vs, by rw [hl]; exact h2, ⟨hl.symm, fun i a b => ?_⟩, ?_⟩
  · obtain ⟨n, ps, h10, hz'⟩ := h6 i b (by omega)
    obtain ⟨u, e1, e2⟩ := open_acts h10 hz'
    have e3 : vs[i] = u := (List.cons.inj e1).1
    have e4 : (actssOf x.1)[i] = actsOf ds[i] := by simp only [h9, List.getElem_map]
    rw [e3, e4]
    exact e2
  · rw [hl]
    have hb : Try.prog.bytesOf 41 = 24 := by kernel_rfl
    rw [hb] at h5
    have : reachBytes = lim := by decide
    omega
theorem bulk_actss {H : Type} (d : DataW H) : ∀ l ∈ actssOf d, smd l ≤ Rows.uptoBulk d := by
  unfold actssOf
  split
  · rename_i el sp
    intro l hl
    obtain ⟨x, hx, rfl⟩ := List.mem_map.1 hl
    have h1 := bulk_acts x
    have h2 := bulk_in hx
    simp only [Rows.uptoBulk]; omega
  · intro l hl; cases hl
end Go.Proofs.Ytpgpncngamagdaa
