/- Ask, plain: the program's and the document's are one. -/
import Derived.Test.YteejlmeinndlhaaNL
set_option linter.unusedVariables false
set_option linter.unusedSimpArgs false
namespace Go.Proofs.Yteejlmeinndlhaa
open Go.RowKit
theorem ckR_val (r : Rg) : ckR r = if szB r then 2 else if fqB r then 3 else 0 := by
  have hn := cmp_neg r.lo r.hi
  unfold ckR szB fqB
  simp only [Bool.or_eq_true, Bool.and_eq_true, decide_eq_true_eq]
  rw [hn]
  by_cases h1 : 65 < r.lo.length ∨ 65 < r.hi.length
  · rw [if_pos h1, if_pos h1]
  · rw [if_neg h1, if_neg h1]
    by_cases h2 : 0 < r.hi.length ∧ 0 ≤ cmp r.lo r.hi
    · rw [if_pos h2, if_pos ⟨h2.1, by omega⟩]
    · rw [if_neg h2, if_neg fun h => h2 ⟨h.1, by omega⟩]
theorem wst_two : ∀ (l : List Rg), wst 2 l = 2
  | [] => rfl
  | r :: t => by
    rw [wst_cons, if_neg, wst_two t]
    rw [ckR_val]
    split
    · omega
    · split <;> omega
theorem wst_rcg : ∀ (l : List Rg) (o : Int), (o = 0 ∨ o = 3) → wst o l = rcg o l
  | [], o, _ => rfl
  | r :: t, o, ho => by
    rw [wst_cons, rcg_cons, ckR_val]
    cases hs : szB r
    · cases hf : fqB r
      · simp only [Bool.false_eq_true, if_false]
        rw [if_neg (by simp)]
        exact wst_rcg t o ho
      · simp only [Bool.false_eq_true, if_false, if_true]
        rcases ho with rfl | rfl
        · rw [if_pos (by simp)]; exact wst_rcg t 3 (.inr rfl)
        · rw [if_neg (by simp)]; exact wst_rcg t 3 (.inr rfl)
    · simp only [if_true]
      rw [if_pos (by rcases ho with rfl | rfl <;> simp)]
      exact wst_two t
theorem worst_rck (l : List Rg) : worstB l = rck l := by
  unfold worstB rck
  split
  · rfl
  · exact wst_rcg l 0 (.inl rfl)
def raskT (T : Tb) (x : Tx) (l : List Rg) : Int × Tb := if rck l ≠ 0 then (rck l, T) else if 0 < (rrT T x l).length then (11, T) else (0, tput T x (growR (tgz T x) l))
theorem rask_eq {T : Tb} (h : Tsrt T) (x : Tx) (l : List Rg) : raskT T x l = askT T x l := by
  unfold raskT askT
  rw [worst_rck, rrT_eq h]
theorem put_hit : ∀ {T : Tb} {x : Tx} {n : Nat} (h : n < T.length) (G : List Rg), (∀ p ∈ T.take n, tltB p.1 x = true) → T[n].1 = x → tput T x G = T.take n ++ [(x, G)] ++ T.drop (n + 1) ∧ tgz T x = T[n].2
  | (y, m) :: r, x, 0, h, G, _, e => by
    have e : y = x := e
    simp [tput, tgz, tget, e]
  | (y, m) :: r, x, n + 1, h, G, hb, e => by
    have h1 : tkey y < tkey x := by have := hb (y, m) (by simp); rwa [tkey_lt, decide_eq_true_eq] at this
    have h2 : x ≠ y := fun e2 => by rw [e2] at h1; exact tk_irr _ h1
    have h3 : ¬ tkey x < tkey y := by omega
    obtain ⟨i1, i2⟩ := put_hit (T := r) (x := x) (n := n) (by simpa using h) G (fun p hp => hb p (by simp [hp])) e
    refine ⟨?_, ?_⟩
    · simp only [tput, if_neg h2, if_neg h3, i1, List.take_succ_cons, List.drop_succ_cons, List.cons_append]
    · rw [List.getElem_cons_succ, ← i2]
      simp [tgz, tget, h2]
theorem put_miss : ∀ {T : Tb} {x : Tx} {n : Nat} (hs : Tsrt T) (h : n ≤ T.length) (G : List Rg), (∀ p ∈ T.take n, tltB p.1 x = true) → (∀ hn : n < T.length, tltB T[n].1 x = false ∧ T[n].1 ≠ x) → tput T x G = T.take n ++ [(x, G)] ++ T.drop n ∧ tgz T x = []
  | [], x, n, _, h, G, _, _ => by simp [tput, tgz, tget]
  | (y, m) :: r, x, 0, hs, h, G, _, hn => by
    obtain ⟨h1, h2⟩ := hn (by simp)
    have h2 : y ≠ x := h2
    have h1 : ¬ tkey y < tkey x := by have h1 : tltB y x = false := h1; rwa [tkey_lt, decide_eq_false_iff_not] at h1
    have h3 : tkey x < tkey y := tk_tri h2 h1
    refine ⟨by simp [tput, Ne.symm h2, h3], ?_⟩
    have : tget ((y, m) :: r) x = none := tget_lt fun a ha => by
      rcases List.mem_cons.1 ha with rfl | ha
      · exact h3
      · exact Nat.lt_trans h3 ((List.pairwise_cons.1 hs).1 a ha)
    unfold tgz
    rw [this]; rfl
  | (y, m) :: r, x, n + 1, hs, h, G, hb, hn => by
    have h1 : tkey y < tkey x := by have := hb (y, m) (by simp); rwa [tkey_lt, decide_eq_true_eq] at this
    have h2 : x ≠ y := fun e2 => by rw [e2] at h1; exact tk_irr _ h1
    have h3 : ¬ tkey x < tkey y := by omega
    obtain ⟨i1, i2⟩ := put_miss (T := r) (x := x) (n := n) hs.tail (by simpa using h) G (fun p hp => hb p (by simp [hp])) (fun hn' => hn (by simpa using hn'))
    refine ⟨?_, ?_⟩
    · simp only [tput, if_neg h2, if_neg h3, i1, List.take_succ_cons, List.drop_succ_cons, List.cons_append]
    · rw [← i2]
      simp [tgz, tget, h2]
end Go.Proofs.Yteejlmeinndlhaa
