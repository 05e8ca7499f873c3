/- More for LockMirrors: what a table of one holds and whom it meets. -/
import Derived.Test.YteejlmeinndlhaaMP
set_option linter.unusedVariables false
namespace Go.Proofs.Yteejlmeinndlhaa
open Go.RowKit
theorem clsB_symm (a b : List Rg) : clsB a b = clsB b a := by
  rw [Bool.eq_iff_iff]
  unfold clsB
  simp only [List.any_eq_true]
  exact ⟨fun ⟨r, hr, s, hs, h⟩ => ⟨s, hs, r, hr, by rw [clh_symm]; exact h⟩, fun ⟨r, hr, s, hs, h⟩ => ⟨s, hs, r, hr, by rw [clh_symm]; exact h⟩⟩
theorem rivT_one {x y : Tx} {l b : List Rg} (h : x ≠ y) : rivT [(x, l)] y b = if clsB l b then [x] else [] := by
  have e1 : tgz [(x, l)] x = l := by simp [tgz, tget]
  unfold rivT Stay noRiv
  simp only [List.map_cons, List.map_nil, List.filter_cons, List.filter_nil, e1, decide_eq_false h, Bool.false_or, Bool.not_not]
theorem rivT_nil (y : Tx) (b : List Rg) : rivT [] y b = [] := rfl
/-- whom one meets is who meets it -/
theorem mirror (x y : Tx) (a b : List Rg) (h : x ≠ y) : ((rivT [(x, growR [] a)] y b).length = (rivT [(y, growR [] b)] x a).length) := by
  have e1 : clsB (growR [] a) b = clsB a b := by rw [grow_cls]; rfl
  have e2 : clsB (growR [] b) a = clsB a b := by rw [grow_cls, clsB_symm b a]; rfl
  rw [rivT_one h, rivT_one (Ne.symm h), e1, e2]
  split <;> rfl
end Go.Proofs.Yteejlmeinndlhaa
