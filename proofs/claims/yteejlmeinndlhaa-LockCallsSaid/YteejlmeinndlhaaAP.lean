/- LockApart, plain: what different ones hold never clashes. -/
import Derived.Test.YteejlmeinndlhaaMR
set_option linter.unusedVariables false
set_option linter.unusedSimpArgs false
namespace Go.Proofs.Yteejlmeinndlhaa
open Go.RowKit
/-- a table as the law has it: in order, no two clash, its lists are of at most n ranges, at most k entries -/
structure Apt (n k : Nat) (T : Tb) : Prop where
  srt : Tsrt T
  ap : ∀ p ∈ T, ∀ q ∈ T, p.1 ≠ q.1 → clsB p.2 q.2 = false
  le : ∀ p ∈ T, p.2.length ≤ n
  len : T.length ≤ k
theorem Apt.nil : Apt 0 0 [] := ⟨Tsrt.nil, fun _ h => (by cases h), fun _ h => (by cases h), Nat.le_refl _⟩
theorem Apt.mono {n k n' k' : Nat} {T : Tb} (h : Apt n k T) (hn : n ≤ n') (hk : k ≤ k') : Apt n' k' T := ⟨h.srt, h.ap, fun p hp => Nat.le_trans (h.le p hp) hn, Nat.le_trans h.len hk⟩
theorem tgz_mem {T : Tb} (x : Tx) : tgz T x = [] ∨ (x, tgz T x) ∈ T := by
  unfold tgz
  cases h : tget T x with
  | none => exact .inl rfl
  | some l => exact .inr (tget_mem h)
theorem tgz_of_mem {T : Tb} (h : Tsrt T) {p : Tx × List Rg} (hp : p ∈ T) : tgz T p.1 = p.2 := by
  unfold tgz
  rw [tget_of_mem h (show (p.1, p.2) ∈ T from hp)]
  rfl
theorem Apt.tgzl {n k : Nat} {T : Tb} (h : Apt n k T) (x : Tx) : (tgz T x).length ≤ n := by
  rcases tgz_mem (T := T) x with e | e
  · rw [e]; exact Nat.zero_le _
  · exact h.le _ e
theorem Apt.del {n k : Nat} {T : Tb} (h : Apt n k T) (x : Tx) : Apt n k (tdel T x) :=
  ⟨h.srt.del x, fun p hp q hq => h.ap p (mem_tdel hp) q (mem_tdel hq), fun p hp => h.le p (mem_tdel hp), by rw [len_tdel]; have := h.len; split <;> omega⟩
theorem Apt.rel {n k : Nat} : ∀ (l : List Tx) {T : Tb}, Apt n k T → Apt n k (relT T l)
  | [], T, h => h
  | x :: t, T, h => Apt.rel t (h.del x)
theorem Apt.ask {n k m : Nat} {T : Tb} (h : Apt n k T) (x : Tx) (l : List Rg) (hl : l.length ≤ m) : Apt (n + m) (k + 1) (askT T x l).2 := by
  unfold askT
  split
  · exact h.mono (Nat.le_add_right _ _) (Nat.le_succ _)
  · split
    · exact h.mono (Nat.le_add_right _ _) (Nat.le_succ _)
    · rename_i hr
      have hno : ∀ q ∈ T, q.1 ≠ x → clsB q.2 l = false := fun q hq hx => by
        have h0 : rivT T x l = [] := List.eq_nil_of_length_eq_zero (by omega)
        have h1 := (List.filter_eq_nil_iff.1 (show (T.map (·.1)).filter (fun y => !noRiv T x l y) = [] from h0)) q.1 (List.mem_map_of_mem hq)
        unfold noRiv at h1
        rw [decide_eq_false hx, tgz_of_mem h.srt hq] at h1
        simpa using h1
      have hG : ∀ q ∈ T, q.1 ≠ x → clsB (growR (tgz T x) l) q.2 = false := fun q hq hx => by
        rw [grow_cls, clsB_symm l, hno q hq hx, Bool.or_false]
        rcases tgz_mem (T := T) x with e | e
        · rw [e]; rfl
        · exact h.ap _ e q hq (Ne.symm hx)
      refine ⟨h.srt.put x _, fun p hp q hq hpq => ?_, fun p hp => ?_, ?_⟩
      · rcases mem_tput hp with rfl | hp <;> rcases mem_tput hq with rfl | hq
        · exact absurd rfl hpq
        · exact hG q hq (Ne.symm hpq)
        · rw [clsB_symm]; exact hG p hp hpq
        · exact h.ap p hp q hq hpq
      · rcases mem_tput hp with rfl | hp
        · have := growR_len l (tgz T x); have := h.tgzl x
          show (growR (tgz T x) l).length ≤ _
          omega
        · have := h.le p hp; omega
      · rw [len_tput T h.srt]; have := h.len; split <;> omega
/-- no two held by different ones clash -/
theorem Apt.clash {n k : Nat} {T : Tb} (h : Apt n k T) {x y : Tx} (hx : x ≠ y) {p q : Rg} (hp : p ∈ tgz T x) (hq : q ∈ tgz T y) : rclB p q = false := by
  have h1 : (x, tgz T x) ∈ T := by
    rcases tgz_mem (T := T) x with e | e
    · rw [e] at hp; cases hp
    · exact e
  have h2 : (y, tgz T y) ∈ T := by
    rcases tgz_mem (T := T) y with e | e
    · rw [e] at hq; cases hq
    · exact e
  have h3 := h.ap _ h1 _ h2 hx
  rw [← clh_eq]
  cases hc : clhB p q
  · rfl
  · have : clsB (tgz T x) (tgz T y) = true := List.any_eq_true.2 ⟨p, hp, List.any_eq_true.2 ⟨q, hq, hc⟩⟩
    rw [this] at h3; cases h3
/-- the ones that hold something are different ones -/
theorem Apt.keys {n k : Nat} {T : Tb} (h : Apt n k T) {i j : Nat} (hij : j < i) (hi : i < (T.map (·.1)).length) : (T.map (·.1))[i] ≠ (T.map (·.1))[j]'(by omega) := by
  have h1 := List.pairwise_iff_getElem.1 h.srt j i (by rw [List.length_map] at hi; omega) (by rwa [List.length_map] at hi) hij
  rw [List.getElem_map, List.getElem_map]
  intro e
  rw [e] at h1
  exact tk_irr _ h1
end Go.Proofs.Yteejlmeinndlhaa
