/- LockMirrors, plain: how the two tables go. -/
import Derived.Test.YteejlmeinndlhaaMQ
import Derived.Test.YteejlmeinndlhaaAW
set_option linter.unusedVariables false
set_option linter.unusedSimpArgs false
namespace Go.Proofs.Yteejlmeinndlhaa
open Go.RowKit
theorem rcg_zero : ∀ (l : List Rg) (o : Int), rcg o l = 0 → o = 0 ∧ ∀ r ∈ l, ckR r = 0
  | [], o, h => ⟨h, fun r hr => by cases hr⟩
  | r :: t, o, h => by
    rw [rcg_cons] at h
    split at h
    · cases h
    · rename_i hs
      obtain ⟨h1, h2⟩ := rcg_zero t _ h
      split at h1
      · cases h1
      · rename_i hf
        refine ⟨h1, fun s hs' => ?_⟩
        rcases List.mem_cons.1 hs' with rfl | hs'
        · have hn := cmp_neg s.lo s.hi
          simp only [szB, fqB, Bool.or_eq_true, Bool.and_eq_true, decide_eq_true_eq] at hs hf
          rw [hn] at hf
          unfold ckR
          rw [if_neg (by omega), if_neg (by omega)]
        · exact h2 s hs'
theorem wst_zero : ∀ (l : List Rg), (∀ r ∈ l, ckR r = 0) → wst 0 l = 0
  | [], _ => rfl
  | r :: t, h => by
    rw [wst_cons, if_neg (by rw [h r (by simp)]; simp)]
    exact wst_zero t fun s hs => h s (by simp [hs])
theorem rck_worst {l : List Rg} (h : rck l = 0) : worstB l = 0 := by
  unfold rck at h
  unfold worstB
  split at h
  · cases h
  · rename_i hl
    rw [if_neg hl]
    exact wst_zero l (rcg_zero l 0 h).2
theorem growR_len : ∀ (l o : List Rg), (growR o l).length ≤ o.length + l.length
  | [], o => by simp [growR]
  | r :: t, o => by
    rw [growR_cons]
    have := growR_len t (if o.any (fun h => cvB h r) then o else o ++ [r])
    refine Nat.le_trans this ?_
    split <;> simp <;> omega
theorem tgz_one_ne {x y : Tx} (A : List Rg) (h : x ≠ y) : tgz [(y, A)] x = [] := by simp [tgz, tget, h]
theorem tgz_one (x : Tx) (A : List Rg) : tgz [(x, A)] x = A := by simp [tgz, tget]
theorem mir_ask0 (x : Tx) {a : List Rg} (h : rck a = 0) : askT [] x a = (0, [(x, growR [] a)]) := by
  unfold askT
  rw [if_neg (by rw [rck_worst h]; simp), rivT_nil, if_neg (by simp)]
  rfl
theorem mir_ask1 {x y : Tx} (A : List Rg) {b : List Rg} (h : rck b = 0) (hn : x ≠ y) : askT [(x, A)] y b = if clsB A b then (11, [(x, A)]) else (0, tput [(x, A)] y (growR [] b)) := by
  unfold askT
  rw [if_neg (by rw [rck_worst h]; simp), rivT_one hn, tgz_one_ne A hn.symm]
  cases clsB A b <;> simp
theorem mir_rel {x y : Tx} (A B : List Rg) (hn : x ≠ y) : relT (tput [(x, A)] y B) [x] = [(y, B)] := by
  have hk : tkey x ≠ tkey y := fun e => hn (tkey_inj e)
  unfold relT
  simp only [List.foldl_cons, List.foldl_nil, tput]
  split
  · rename_i e; exact absurd e.symm hn
  · split
    · simp [tdel, hn]
    · simp [tdel, hn, tput]
theorem mir_rel1 (x : Tx) (A : List Rg) : relT [(x, A)] [x] = [] := by simp [relT, tdel]
theorem riv_self (y : Tx) (A l : List Rg) : rivT [(y, A)] y l = [] := by
  unfold rivT Stay noRiv
  simp
theorem mir_ask3 (y : Tx) (B : List Rg) {b : List Rg} (h : rck b = 0) : askT [(y, B)] y b = (0, [(y, growR B b)]) := by
  unfold askT
  rw [if_neg (by rw [rck_worst h]; simp), riv_self, if_neg (by simp), tgz_one]
  simp [tput]
end Go.Proofs.Yteejlmeinndlhaa
