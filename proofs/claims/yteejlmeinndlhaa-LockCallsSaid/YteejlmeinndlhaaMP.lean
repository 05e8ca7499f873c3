/- LockMirrors' plain law: what is covered needs not be held. -/
import Derived.Test.YteejlmeinndlhaaLP
import Derived.Test.YteejlmeinndlhaaAS
set_option linter.unusedVariables false
namespace Go.Proofs.Yteejlmeinndlhaa
open Go.RowKit
theorem cmp_le_le {a b c : By} (h : cmp a b ≤ 0) (k : cmp b c ≤ 0) : cmp a c ≤ 0 := by
  by_cases e : cmp b c = 0
  · rw [← cmp_eqz b c e]; exact h
  · have := cmp_le_lt h (by omega : cmp b c < 0); omega
theorem cv_cl {h r s : Rg} (c : cvB h r = true) (k : clhB r s = true) : clhB h s = true := by
  unfold cvB at c
  unfold clhB at k ⊢
  split at c
  · cases c
  · rename_i hc
    simp only [Bool.and_eq_true, Bool.not_eq_true', Bool.or_eq_true, fmB, beq_iff_eq, decide_eq_true_eq] at c k ⊢
    obtain ⟨⟨⟨⟨k1, k2⟩, k3⟩, k4⟩, k5⟩ := k
    have hf : fmB h r = true := by rw [← Bool.not_eq_false]; exact fun e => hc (.inl e)
    simp only [fmB, Bool.and_eq_true, beq_iff_eq] at hf
    have hx : r.xc = true → h.xc = true := fun e => by
      cases hh : h.xc
      · exact absurd (.inr (.inl ⟨e, hh⟩)) hc
      · rfl
    have hlo : cmp h.lo r.lo ≤ 0 := Int.not_lt.1 fun e => hc (.inr (.inr e))
    refine ⟨⟨⟨⟨hf.1, k2⟩, k3.imp hx id⟩, ?_⟩, ?_⟩
    · cases hb : befB h s
      · rfl
      · exfalso
        unfold befB at hb k4
        simp only [Bool.and_eq_true, decide_eq_true_eq] at hb
        simp only [Bool.and_eq_false_iff, decide_eq_false_iff_not] at k4
        rcases c with c | ⟨c1, c2⟩
        · omega
        · have := cmp_le_le c2 hb.2; omega
    · cases hb : befB s h
      · rfl
      · exfalso
        unfold befB at hb k5
        simp only [Bool.and_eq_true, decide_eq_true_eq] at hb
        simp only [Bool.and_eq_false_iff, decide_eq_false_iff_not] at k5
        have := cmp_le_le hb.2 hlo; omega
theorem grow_cls : ∀ (a o b : List Rg), clsB (growR o a) b = (clsB o b || clsB a b)
  | [], o, b => by simp [growR, clsB]
  | r :: t, o, b => by
    rw [growR_cons, grow_cls t]
    have e1 : clsB (r :: t) b = ((b.any fun s => clhB r s) || clsB t b) := rfl
    rw [e1]
    split
    · rename_i hc
      obtain ⟨h, hh, hcv⟩ := List.any_eq_true.1 hc
      cases hr : (b.any fun s => clhB r s)
      · simp
      · obtain ⟨s, hs, hk⟩ := List.any_eq_true.1 hr
        have : clsB o b = true := List.any_eq_true.2 ⟨h, hh, List.any_eq_true.2 ⟨s, hs, cv_cl hcv hk⟩⟩
        rw [this]; simp
    · have : clsB (o ++ [r]) b = (clsB o b || b.any fun s => clhB r s) := by unfold clsB; simp
      rw [this, Bool.or_assoc]
end Go.Proofs.Yteejlmeinndlhaa
