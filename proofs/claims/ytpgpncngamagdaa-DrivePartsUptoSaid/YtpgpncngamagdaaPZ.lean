/- The laws of chapter 04 over acts: how things stand between two acts. -/
import Derived.Test.YtpgpncngamagdaaPW
import Derived.Test.YtpgpncngamagdaaPX
import Derived.Test.YtpgpncngamagdaaOA
set_option linter.unusedVariables false
set_option linter.unusedSimpArgs false
namespace Go.Proofs.Ytpgpncngamagdaa
open Go.RowKit
attribute [local go_sem ↓] Go.wp_at_zero Go.wp_at_succ
def smd (l : List Ac) : Nat := (l.map fun a => a.da.length).sum
theorem smd_take (l : List Ac) (k : Nat) (h : k < l.length) : smd (l.take (k + 1)) = smd (l.take k) + l[k].da.length := by
  rw [List.take_succ_eq_append_getElem h]; simp only [smd, List.map_append, List.sum_append, List.map_cons, List.map_nil, List.sum_cons, List.sum_nil, Nat.add_zero]
theorem smd_take_le (l : List Ac) (k : Nat) : smd (l.take k) ≤ smd l := by
  have h1 : smd (l.take k ++ l.drop k) = smd (l.take k) + smd (l.drop k) := by simp only [smd, List.map_append, List.sum_append]
  rw [List.take_append_drop] at h1
  omega
/-- the drive in block b, the reference's drive in the box x -/
structure Sl (w0 : World) (b x : Nat) (d : Dm) (r : Rd) (M D A : Nat → Prop) (vb : Array Value) (wr : World) : Prop where
  bl : Below w0.heap.size w0 wr
  dr : DrIs M D wr b d
  rf : Rf A wr (.agg vb) r
  bx : wr.heap[x]? = some (.cells vb 51 (0, 0))
  hM : ∀ k, M k → w0.heap.size ≤ k ∧ k ≠ x
  hD : ∀ k, D k → k ≠ x
  hA : ∀ k, A k → ¬ M k ∧ k ≠ b ∧ k ≠ x
  hb : w0.heap.size ≤ b ∧ b ≠ x
  hx : w0.heap.size ≤ x
theorem Sl.up {w0 wr w2 : World} {b x : Nat} {d : Dm} {r : Rd} {M D A : Nat → Prop} {vb : Array Value} (h : Sl w0 b x d r M D A vb wr) (hb : Below wr.heap.size wr w2) : Sl w0 b x d r M D A vb w2 :=
  ⟨bt h.bl hb, h.dr.below hb, h.rf.up hb, by rw [hb.block _ (Array.getElem?_eq_some_iff.1 h.bx).1]; exact h.bx, h.hM, h.hD, h.hA, h.hb, h.hx⟩
/-- an act, its answer stored -/
theorem Sl.play {w0 wr w2 W9 : World} {b x : Nat} {d d' : Dm} {r r' : Rd} {M D A Aa : Nat → Prop} {vb vb' : Array Value} {ok : Bool} {E : Ending} (h : Sl w0 b x d r M D A vb wr) (hAa : ∀ k, Aa k → k < w0.heap.size)
    (hw : Wb (fun k => k = b ∨ M k) wr w2) {M' D' A' : Nat → Prop} (hd : DrIs M' D' w2 b d') (hr : Rf A' w2 (.agg vb') r') (iM : ∀ k, M' k → M k ∨ wr.heap.size ≤ k) (iD : ∀ k, D' k → D k ∨ wr.heap.size ≤ k) (iA : ∀ k, A' k → A k ∨ Aa k ∨ wr.heap.size ≤ k) (hA' : ∀ k, A' k → ¬ M' k ∧ k ≠ b ∧ k < w2.heap.size)
    (h9 : Wb (fun k => k = x) w2 W9) (hx9 : W9.heap[x]? = some (.cells vb' 51 (0, 0))) : Sl w0 b x d' r' M' D' A' vb' W9 := by
  have hxl : x < wr.heap.size := (Array.getElem?_eq_some_iff.1 h.bx).1
  have h0 := h.bl.size
  have nM : ∀ k, M' k → w0.heap.size ≤ k ∧ k ≠ x := fun k hk => by
    rcases iM k hk with h1 | h1
    · exact h.hM k h1
    · exact ⟨by omega, by omega⟩
  have nD : ∀ k, D' k → k ≠ x := fun k hk => by
    rcases iD k hk with h1 | h1
    · exact h.hD k h1
    · omega
  have nA : ∀ k, A' k → k ≠ x := fun k hk => by
    rcases iA k hk with h1 | h1 | h1
    · exact (h.hA k h1).2.2
    · have := hAa k h1; have := h.hx; omega
    · omega
  refine ⟨(h.bl.trans (hw.below h0 fun k hk => ?_)).trans (h9.below (Nat.le_trans h0 hw.size) fun k hk => by have := h.hx; omega), hd.keep h9 fun k hk => ?_, hr.wb h9 fun k hk hk2 => nA k hk2 hk, hx9, nM, nD, fun k hk => ⟨(hA' k hk).1, (hA' k hk).2.1, nA k hk⟩, h.hb, h.hx⟩
  · rcases hk with hk | hk
    · have := h.hb.1; omega
    · exact (h.hM k hk).1
  · subst hk
    exact ⟨fun h1 => (nM _ h1).2 rfl, fun h1 => nD _ h1 rfl, fun h1 => h.hb.2 h1.symm⟩
theorem Try.size41 (w : World) : (sizeOf (Try.prog.elem 41)).run Try.prog w = .ok 5 w := by kernel_rfl
theorem acs_take (L : List Aq) (m : Nat) : (acs L).take (m * 5) = acs (L.take m) := by
  induction L generalizing m with
  | nil => simp [acs]
  | cons q L ih =>
    cases m with
    | zero => simp [acs]
    | succ m =>
      have : acs (q :: L) = ac q ++ acs L := by simp [acs]
      rw [this, List.take_succ_cons, show acs (q :: L.take m) = ac q ++ acs (L.take m) by simp [acs], ← ih m]
      rw [show (m + 1) * 5 = m * 5 + 1 + 1 + 1 + 1 + 1 by omega]
      simp [ac]
theorem As.hi {A : Nat → Prop} {w : World} {a : Option Addr} {n c m : Nat} {l : List Ac} (h : As A w (.slice a n c) l) (hm : m ≤ l.length) : ∃ a' c', (∀ w : World, (Instr.slice 41 (.slice a n c) none (some (.int .i64 (m : Int))) none).run Try.prog w = .ok (.slice a' m c') w) ∧ As A w (.slice a' m c') (l.take m) := by
  obtain ⟨L, rfl, hrow, h3, h4⟩ := h
  rw [List.length_map] at hm
  have hnL : n = L.length := by obtain ⟨_, _, _, e, _⟩ := hrow; cases e; rfl
  subst hnL
  obtain ⟨a', c', S2, R2⟩ := row_hiN (P := Try.prog) (t := 41) (by kernel_rfl) Try.size41 (by decide) hrow m hm
  rw [acs_take] at R2
  have e2 : (L.take m).length = m := by rw [List.length_take]; omega
  exact ⟨a', c', S2, L.take m, List.map_take, by rw [e2]; exact R2, fun q hq => h3 q (List.mem_of_mem_take hq), by rw [e2]; omega⟩
/-- groynelaw04.cut -/
theorem cut_any {A : Nat → Prop} {w : World} {v : Value} {l : List Ac} (n : Nat) (h : As A w v l) (hn : n ≤ 1000) : Calls Try.prog 26 #[v, .int .i64 (n : Int)] w fun e w' => (∃ u, e = .returned u ∧ As A w u (l.take n)) ∧ w = w' := by
  obtain ⟨a, c, rfl, hc, ha, hl, _⟩ := h.at
  have HH := Hid.mk' h
  have hl' : (l.length : Int) ≤ 140737488351232 := by unfold lim at hl; omega
  by_cases hk : n < l.length
  · have hk' : (n : Int) < (l.length : Int) := by omega
    obtain ⟨a', c', hrs, ht⟩ := h.hi (m := n) (by omega)
    have HT := Hid.mk' ht
    clear h hl ht HH
    go_enter Try.func26, Try.ntmps26
    go_wp2_with fail
    go_ret
    exact ⟨⟨_, rfl, HT.out⟩, rfl⟩
  · have hk' : ¬ (n : Int) < (l.length : Int) := by omega
    have e1 : l.take n = l := List.take_of_length_le (by omega)
    rw [e1]
    clear h hl e1
    go_enter Try.func26, Try.ntmps26
    go_wp2_with fail
    go_ret
    exact ⟨⟨_, rfl, HH.out⟩, rfl⟩
end Go.Proofs.Ytpgpncngamagdaa
