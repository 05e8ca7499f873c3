/- Slices of rows. No program is named here. -/
import Derived.Test.YtfmbbpfklhkljaaKit
set_option linter.unusedVariables false
set_option linter.unusedSimpArgs false
namespace Go.Proofs.Ytfmbbpfklhkljaa
open Go.RowKit
theorem Row.cutTo {A : Nat → Prop} {w : World} {a : Option Addr} {n m c : Nat} {vs : List Value} (h : Row 1 A w (.slice a n c) n vs) (hm : m ≤ n) : Row 1 A w (.slice a m c) m (vs.take m) := by
  obtain ⟨hl, a', c', hv, hc, ha, H⟩ := h
  cases hv
  refine ⟨by simp; omega, a, c, rfl, by omega, ha, fun j u hj => H j u ?_⟩
  rw [List.getElem?_take] at hj
  split at hj
  · exact hj
  · cases hj
/-- v[m:] where that is not the end -/
theorem Row.cutOff {A : Nat → Prop} {w : World} {b o n m c : Nat} {vs : List Value} (h : Row 1 A w (.slice (some ⟨b, o, none⟩) n c) n vs) (hm : m ≤ n) : Row 1 A w (.slice (some ⟨b, o + m, none⟩) (n - m) (c - m)) (n - m) (vs.drop m) := by
  obtain ⟨hl, a', c', hv, hc, ha, H⟩ := h
  cases hv
  refine ⟨by simp; omega, _, _, rfl, by omega, by simp, fun j u hj => ?_⟩
  rw [List.getElem?_drop] at hj
  obtain ⟨b', o', he, hA, hu⟩ := H _ _ hj
  cases he
  exact ⟨b, o + m, rfl, hA, by rw [← hu, Nat.add_assoc]⟩
theorem Row.void {A : Nat → Prop} {w : World} {a : Option Addr} {c : Nat} (h : a = none → c = 0) : Row 1 A w (.slice a 0 c) 0 [] := ⟨rfl, a, c, rfl, by omega, h, fun j u hj => by simp at hj⟩
theorem addr_add (b o m : Nat) : (⟨b, o, none⟩ : Addr).add m = ⟨b, o + m, none⟩ := by unfold Addr.add; split <;> simp_all
/-- v[l:h], whatever the form of its address -/
theorem Row.sliced {A : Nat → Prop} {w : World} {a : Option Addr} {n c l h : Nat} {vs : List Value} (hr : Row 1 A w (.slice a n c) n vs) (hl : l ≤ h) (hh : h ≤ n) :
    ∃ a' c', Go.sliced a l h c 1 = .slice a' (h - l) c' ∧ Row 1 A w (.slice a' (h - l) c') (h - l) ((vs.take h).drop l) := by
  have hv : ∀ h' : h - l = 0, ∀ a' c', (a' = none → c' = 0) → Row 1 A w (.slice a' (h - l) c') (h - l) ((vs.take h).drop l) := by
    intro h' a' c' hn
    have hvl : vs.length = n := by have := hr.1; omega
    rw [h', List.drop_of_length_le (by rw [List.length_take]; omega)]
    exact Row.void hn
  have hc : n ≤ c := by obtain ⟨_, _, _, hv, hc, _⟩ := hr; cases hv; exact hc
  have ha : a = none → c = 0 := by obtain ⟨_, _, _, hv, _, ha, _⟩ := hr; cases hv; exact ha
  unfold Go.sliced
  by_cases h1 : c = l
  · rw [if_pos h1]
    exact ⟨a, c - l, rfl, hv (by omega) _ _ (fun _ => by omega)⟩
  · rw [if_neg h1]
    cases a with
    | none => have := ha rfl; omega
    | some p =>
      refine ⟨_, _, rfl, ?_⟩
      by_cases h2 : h - l = 0
      · exact hv h2 _ _ (fun h => by cases h)
      · have h3 := hr.cutTo hh
        have hvl : vs.length = n := by have := hr.1; omega
        have hp : ∃ b o, p = ⟨b, o, none⟩ := by
          obtain ⟨_, _, _, hv', _, _, H⟩ := hr
          cases hv'
          obtain ⟨b, o, he, _⟩ := H 0 (vs[0]'(by omega)) (by simp)
          exact ⟨b, o, Option.some.inj he⟩
        obtain ⟨b, o, rfl⟩ := hp
        have h4 := h3.cutOff hl
        have e : (⟨b, o, none⟩ : Addr).add (l * 1) = ⟨b, o + l, none⟩ := by rw [Nat.mul_one]; exact addr_add b o l
        rw [Option.map_some, e]
        exact h4
section
variable {P : Program} {t : TypeId} {A : Nat → Prop} {w : World} {a : Option Addr} {n c : Nat} {vs : List Value}
theorem row_lo (ht : P.underlying t = some (.slice (P.elem t))) (hz : ∀ w, (sizeOf (P.elem t)).run P w = .ok 1 w) (hr : Row 1 A w (.slice a n c) n vs) (l : Nat) (hl : l ≤ n) :
    ∃ a' c', (∀ w, (Instr.slice t (.slice a n c) (some (.int .i64 (l : Int))) none none).run P w = .ok (.slice a' (n - l) c') w) ∧ Row 1 A w (.slice a' (n - l) c') (n - l) (vs.drop l) := by
  obtain ⟨a', c', h1, h2⟩ := hr.sliced (l := l) (h := n) hl (Nat.le_refl _)
  have hvl : vs.length = n := by have := hr.1; omega
  refine ⟨a', c', fun w => ?_, by rwa [List.take_of_length_le (by omega)] at h2⟩
  rw [run_slice_l w t a n c ht .i64 (l : Int) (by omega) (by omega), hz]
  simp only [Result.andThen, Int.toNat_natCast, h1]
theorem row_hi (ht : P.underlying t = some (.slice (P.elem t))) (hz : ∀ w, (sizeOf (P.elem t)).run P w = .ok 1 w) (hr : Row 1 A w (.slice a n c) n vs) (h : Nat) (hh : h ≤ n) :
    ∃ a' c', (∀ w, (Instr.slice t (.slice a n c) none (some (.int .i64 (h : Int))) none).run P w = .ok (.slice a' h c') w) ∧ Row 1 A w (.slice a' h c') h (vs.take h) := by
  obtain ⟨a', c', h1, h2⟩ := hr.sliced (l := 0) (h := h) (Nat.zero_le _) hh
  have hc : n ≤ c := by obtain ⟨_, _, _, hv, hc, _⟩ := hr; cases hv; exact hc
  refine ⟨a', c', fun w => ?_, by simpa using h2⟩
  rw [run_slice_h w t a n c ht .i64 (h : Int) (by omega) (by omega), hz]
  simp only [Result.andThen, Int.toNat_natCast, h1, Nat.sub_zero]
theorem row_lh (ht : P.underlying t = some (.slice (P.elem t))) (hz : ∀ w, (sizeOf (P.elem t)).run P w = .ok 1 w) (hr : Row 1 A w (.slice a n c) n vs) (l h : Nat) (hl : l ≤ h) (hh : h ≤ n) :
    ∃ a' c', (∀ w, (Instr.slice t (.slice a n c) (some (.int .i64 (l : Int))) (some (.int .i64 (h : Int))) none).run P w = .ok (.slice a' (h - l) c') w) ∧ Row 1 A w (.slice a' (h - l) c') (h - l) ((vs.take h).drop l) := by
  obtain ⟨a', c', h1, h2⟩ := hr.sliced (l := l) (h := h) hl hh
  have hc : n ≤ c := by obtain ⟨_, _, _, hv, hc, _⟩ := hr; cases hv; exact hc
  refine ⟨a', c', fun w => ?_, h2⟩
  rw [run_slice_lh w t a n c ht .i64 .i64 (l : Int) (h : Int) (by omega) (by omega) (by omega), hz]
  simp only [Result.andThen, Int.toNat_natCast, h1]
end
end Go.Proofs.Ytfmbbpfklhkljaa
