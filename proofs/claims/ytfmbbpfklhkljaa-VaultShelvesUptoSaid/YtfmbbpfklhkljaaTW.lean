/- slices.Clone of rows; leaf.twin. -/
import Derived.Test.YtfmbbpfklhkljaaA17
set_option linter.unusedVariables false
set_option linter.unusedSimpArgs false
namespace Go.Proofs.Ytfmbbpfklhkljaa
open Go.RowKit
theorem own_below (w : World) (o : Obj) : Below w.heap.size w (w.alloc o) := up_alloc w o
theorem eqn28 (w : World) (a : Option Addr) (n c : Nat) : Sem.run Try.prog (binOp BinOp.eql 28 (Value.slice a n c) (Value.slice none 0 0)) w = Result.ok (Value.bool a.isNone) w := Lib.run_eql_slice_nil (P := Try.prog) w 28 32 a n c 0 0 Try.underlying28
theorem eqn29 (w : World) (a : Option Addr) (n c : Nat) : Sem.run Try.prog (binOp BinOp.eql 29 (Value.slice a n c) (Value.slice none 0 0)) w = Result.ok (Value.bool a.isNone) w := Lib.run_eql_slice_nil (P := Try.prog) w 29 3 a n c 0 0 Try.underlying29
/-- a row that has no address has no element -/
theorem Row.none_nil {size n c : Nat} {A : Nat → Prop} {w : World} {vs : List Value} (h : Row size A w (.slice none n c) n vs) : n = 0 ∧ c = 0 := by
  obtain ⟨hl, a, c', hv, hc, ha, _⟩ := h
  cases hv
  have := ha rfl
  omega
set_option maxHeartbeats 400000 in
/-- slices.Clone at [][]byte: the same elements in a row of the call's own -/
theorem clone98_any {A : Nat → Prop} {w : World} {v : Value} {n : Nat} {vs : List Value} (h : Row 1 A w v n vs) (h1 : ∀ u ∈ vs, u.oneCell' = true) (hlim : n * 24 ≤ lim) : Calls Try.prog 98 #[v] w fun e w' => ∃ v', e = .returned v' ∧ w'.ownsRow w.heap.size 32 1 v' n vs ∧ Below w.heap.size w w' := by
  obtain ⟨a, c, rfl, hc, ha, _⟩ := h.at1
  have h0 := eqn28
  have HR := Hid.mk' h
  cases a with
  | none =>
    obtain ⟨rfl, rfl⟩ := h.none_nil
    have hv : vs = [] := List.eq_nil_of_length_eq_zero (by have := h.1; simpa using this)
    subst hv
    clear h
    go_enter Try.func98, Try.ntmps98
    go_wp2
    go_ret
    exact ⟨_, rfl, World.ownsRow_nil _ _ _ _, Below.refl _ _⟩
  | some p =>
    have H1 := Hid.mk' h1
    clear h h1
    have hlim' : n * 24 ≤ 140737488351232 := hlim
    go_enter Try.func98, Try.ntmps98
    go_wp2_with (at_builtin; go_must (refine wpl_app rfl (.tmp 5) (.tmp 6) 28 rfl Try.underlying28 Try.info32 rfl (by decide) rfl (own_empty (e := 32) (Nat.le_refl _)) rfl (HR.out.up (up_alloc _ _)) H1.out (by unfold maxLen; omega) (by omega) (up_alloc _ _).size ?_); intro v' w1 ho hg hn hb; clear hn hb)
    go_ret
    exact ⟨v', rfl, by simpa using ho, below_app (own_below w _) (own_empty (e := 32) (Nat.le_refl _)) hg (Nat.le_refl _) (up_alloc _ _).size⟩
set_option maxHeartbeats 400000 in
/-- slices.Clone at []int -/
theorem clone99_any {A : Nat → Prop} {w : World} {v : Value} {l : List Int} (h : Is A w v l) : Calls Try.prog 99 #[v] w fun e w' => ∃ v', e = .returned v' ∧ w'.ownsRow w.heap.size 3 1 v' l.length (iv l) ∧ Below w.heap.size w w' := by
  obtain ⟨a, c, rfl, hc, ha, _⟩ := h.at
  have h0 := eqn29
  have HR := Hid.mk' h
  have hlim' : l.length * 8 ≤ 140737488351232 := h.2.1
  cases a with
  | none =>
    obtain ⟨e1, rfl⟩ := h.1.none_nil
    have hv : l = [] := List.eq_nil_of_length_eq_zero e1
    subst hv
    clear h
    go_enter Try.func99, Try.ntmps99
    go_wp2
    go_ret
    exact ⟨_, rfl, World.ownsRow_nil _ _ _ _, Below.refl _ _⟩
  | some p =>
    clear h
    go_enter Try.func99, Try.ntmps99
    go_wp2_with (at_builtin; go_must (refine wpl_app rfl (.tmp 5) (.tmp 6) 29 rfl Try.underlying29 Try.info3 rfl (by decide) rfl (own_empty (e := 3) (Nat.le_refl _)) rfl (HR.out.1.up (up_alloc _ _)) (iv_one _) (by unfold maxLen; omega) (by omega) (up_alloc _ _).size ?_); intro v' w1 ho hg hn hb; clear hn hb)
    go_ret
    exact ⟨v', rfl, by simpa using ho, below_app (own_below w _) (own_empty (e := 3) (Nat.le_refl _)) hg (Nat.le_refl _) (up_alloc _ _).size⟩
end Go.Proofs.Ytfmbbpfklhkljaa
