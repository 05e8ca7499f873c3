/- Clash and Covers are what the reference says: plain. -/
import Derived.Test.YteejlmeinndlhaaLD
set_option linter.unusedVariables false
namespace Go.Proofs.Yteejlmeinndlhaa
open Go.RowKit
theorem cmp_neg : ∀ (a b : By), cmp b a = -cmp a b
  | [], [] => rfl
  | [], _ :: _ => rfl
  | _ :: _, [] => rfl
  | x :: a, y :: b => by
    rw [cmp, cmp, cmp_neg a b]
    split <;> split <;> (try split) <;> omega
theorem cmp_lt_trans : ∀ (a b c : By), cmp a b < 0 → cmp b c < 0 → cmp a c < 0
  | [], [], c, h, _ => by simp [cmp] at h
  | [], _ :: _, [], _, h => by simp [cmp] at h
  | [], _ :: _, _ :: _, _, _ => by simp [cmp]
  | _ :: _, [], _, h, _ => by simp [cmp] at h
  | x :: a, y :: b, [], _, h => by simp [cmp] at h
  | x :: a, y :: b, z :: c, h, k => by
    rw [cmp] at h k ⊢
    by_cases h1 : x.toNat < y.toNat
    · by_cases k1 : y.toNat < z.toNat
      · rw [if_pos (by omega)]; decide
      · rw [if_neg k1] at k
        by_cases k2 : z.toNat < y.toNat
        · rw [if_pos k2] at k; simp at k
        · rw [if_pos (by omega)]; decide
    · rw [if_neg h1] at h
      by_cases h2 : y.toNat < x.toNat
      · rw [if_pos h2] at h; simp at h
      · rw [if_neg h2] at h
        by_cases k1 : y.toNat < z.toNat
        · rw [if_pos (by omega)]; decide
        · rw [if_neg k1] at k
          by_cases k2 : z.toNat < y.toNat
          · rw [if_pos k2] at k; simp at k
          · rw [if_neg k2] at k
            rw [if_neg (by omega), if_neg (by omega)]
            exact cmp_lt_trans a b c h k
theorem cmp_eqz : ∀ (a b : By), cmp a b = 0 → a = b
  | [], [], _ => rfl
  | [], _ :: _, h => by simp [cmp] at h
  | _ :: _, [], h => by simp [cmp] at h
  | x :: a, y :: b, h => by
    rw [cmp] at h
    by_cases h1 : x.toNat < y.toNat
    · rw [if_pos h1] at h; cases h
    · rw [if_neg h1] at h
      by_cases h2 : y.toNat < x.toNat
      · rw [if_pos h2] at h; cases h
      · rw [if_neg h2] at h
        have hxy : x = y := UInt8.toNat_inj.1 (by omega)
        rw [hxy, cmp_eqz a b h]
theorem cmp_self (a : By) : cmp a a = 0 := by have := cmp_neg a a; omega
theorem cmp_le_lt {a b c : By} (h : cmp a b ≤ 0) (k : cmp b c < 0) : cmp a c < 0 := by
  by_cases e : cmp a b = 0
  · rw [cmp_eqz a b e]; exact k
  · exact cmp_lt_trans a b c (by omega) k
theorem rck_zero (r s : Rg) : rck [r, s] = 0 ↔ (ckR r = 0 ∧ ckR s = 0) := by
  have h1 := cmp_neg r.lo r.hi
  have h2 := cmp_neg s.lo s.hi
  unfold rck ckR
  simp only [List.length_cons, List.length_nil, rcg, szB, fqB, Bool.or_eq_true, Bool.and_eq_true, decide_eq_true_eq]
  rw [h1, h2]
  generalize cmp r.lo r.hi = z1
  generalize cmp s.lo s.hi = z2
  generalize r.lo.length = n1
  generalize r.hi.length = n2
  generalize s.lo.length = n3
  generalize s.hi.length = n4
  repeat' split
  all_goals first | omega | (simp_all <;> omega)
theorem fmB_iff (r s : Rg) : fmB r s = true ↔ rck [r, s] = 0 := by
  rw [rck_zero]; unfold fmB; simp
theorem ck_wf {r : Rg} (h : ckR r = 0) : r.hi.length = 0 ∨ cmp r.lo r.hi < 0 := by
  unfold ckR at h
  split at h
  · cases h
  · split at h
    · cases h
    · omega
theorem clh_eq (r s : Rg) : clhB r s = rclB r s := by
  unfold clhB rclB
  by_cases hf : rck [r, s] = 0
  case neg =>
    rw [if_pos (.inl hf), show fmB r s = false by rw [Bool.eq_false_iff]; exact fun h => hf ((fmB_iff r s).1 h)]; rfl
  rw [(fmB_iff r s).2 hf]
  obtain ⟨h1, h2⟩ := (rck_zero r s).1 hf
  have w1 := ck_wf h1
  have w2 := ck_wf h2
  by_cases hx : r.xc = false ∧ s.xc = false
  · rw [if_pos (.inr hx), hx.1, hx.2]; rfl
  rw [if_neg (by rintro (h | h); exact h hf; exact hx h)]
  have hxo : (r.xc || s.xc) = true := by cases h : r.xc <;> cases k : s.xc <;> simp_all
  rw [hxo, Bool.true_and, Bool.true_and, Bool.eq_iff_iff]
  have e1 := cmp_neg r.lo s.lo
  have e2 := cmp_neg r.hi s.lo
  have e3 := cmp_neg s.hi r.lo
  have e4 := cmp_self r.lo
  have e5 := cmp_self s.lo
  have t1 := fun h => @cmp_le_lt r.lo s.lo s.hi h
  have t2 := fun h => @cmp_le_lt s.lo r.lo r.hi h
  unfold befB hasR kR
  simp only [Bool.and_eq_true, Bool.not_eq_true', Bool.and_eq_false_iff, Bool.or_eq_true, decide_eq_true_eq, decide_eq_false_iff_not]
  split <;> omega
theorem clh_symm (r s : Rg) : clhB r s = clhB s r := by
  unfold clhB fmB
  cases ckR r == 0 <;> cases ckR s == 0 <;> cases r.xc <;> cases s.xc <;> cases befB r s <;> cases befB s r <;> rfl
theorem cv_eq (r s : Rg) : cvB r s = rcvB r s := by
  unfold cvB rcvB
  by_cases hf : rck [r, s] = 0
  case neg =>
    rw [if_pos (.inl (by rw [Bool.eq_false_iff]; exact fun h => hf ((fmB_iff r s).1 h))), if_pos (.inl hf)]
  have hf2 := (fmB_iff r s).2 hf
  by_cases h : (s.xc = true ∧ r.xc = false) ∨ 0 < cmp r.lo s.lo
  · rw [if_pos (.inr h), if_pos (.inr h)]
  · rw [if_neg (by rintro (h' | h'); rw [hf2] at h'; cases h'; exact h h'), if_neg (by rintro (h' | h'); exact h' hf; exact h h')]
    by_cases hn : r.hi.length = 0
    · rw [if_pos hn, decide_eq_true hn]; rfl
    · rw [if_neg hn, decide_eq_false hn]; rfl
end Go.Proofs.Yteejlmeinndlhaa
