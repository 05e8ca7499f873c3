/- The drive of DriveReplaces, in plain words. -/
import Derived.Test.YtpgpncngamagdaaDE
set_option linter.unusedVariables false
set_option linter.unusedSimpArgs false
namespace Go.Proofs.Ytpgpncngamagdaa
open Go.RowKit
/-- the drive whose files are S, all of them safe -/
def rq (S : Fl) (a : Bool) (m : Int) : Dm := ⟨S, S, [], 1048576, a, m, false⟩
theorem rq_lt : ([102] : By) < [102, 126] := by decide
theorem rq_ne : ([102] : By) ≠ [102, 126] := by decide
theorem wrt0 (l : By) : wrt [] 0 l = l := by have := wrt_end [] l; simpa using this
theorem frs_f : frs [102] = [102, 126] := rfl
/-- a file replaced where nothing is armed -/
theorem rep_first (l : By) (h : l.length ≤ 5000) : repD (rq [] false 0) [102] l = (0, rq [([102], l)] false 0) := by
  have h1 : ¬ (1048576 : Int) - ((0 : Nat) : Int) < (l.length : Int) - (0 - 0) := by omega
  have h2 : ¬ (1048576 : Int) < (l.length : Int) := by omega
  simp [repD, rp1, rp2, rp3, rq, frs, fget, foz, wrE, thE, rawE, mayR, rawD, mayD, ddo, fput, fdel, Dd.units, tot, flD, wrt0, h1, h2]
theorem rep_one (y l : By) (h : l.length ≤ 5000) (hy : y.length ≤ 5000) : repD (rq [([102], y)] false 0) [102] l = (0, rq [([102], l)] false 0) := by
  have h2 : ¬ (1048576 : Int) - (y.length : Int) < (l.length : Int) := by omega
  simp [repD, rp1, rp2, rp3, rq, frs, fget, foz, wrE, thE, rawE, mayR, rawD, mayD, ddo, fput, fdel, Dd.units, tot, flD, wrt0, h2]
theorem rep_two (y x l : By) (h : l.length ≤ 5000) (hy : y.length ≤ 5000) (hx : x.length ≤ 5000) : repD (rq [([102], y), ([102, 126], x)] false 0) [102] l = (0, rq [([102], l)] false 0) := by
  have h2 : ¬ (1048576 : Int) - (y.length : Int) < (l.length : Int) := by omega
  simp [repD, rp1, rp2, rp3, rq, frs, fget, foz, wrE, thE, rawE, mayR, rawD, mayD, ddo, fput, fdel, Dd.units, tot, flD, wrt0, h2]
/-- what a crash leaves -/
def Sok (o l : By) (e : Int) (S : Fl) : Prop := S = [([102], l)] ∨ (e ≠ 0 ∧ (S = [([102], o)] ∨ ∃ x : By, x.length ≤ 5000 ∧ S = [([102], o), ([102, 126], x)]))
theorem after_w (o l : By) (K : Nat) : ∃ S, after [([102], o)] [.write [102, 126] 0 l] K = S ∧ (S = [([102], o)] ∨ ∃ x : By, x.length ≤ l.length ∧ S = [([102], o), ([102, 126], x)]) := by
  by_cases hK : K = 0
  · subst hK
    exact ⟨_, after_zero _ _, .inl rfl⟩
  · have h1 : ¬ min K (l.length + 1) = 0 := by omega
    refine ⟨_, rfl, .inr ⟨l.take (min K (l.length + 1) - 1), by rw [List.length_take]; omega, ?_⟩⟩
    simp [after, Dd.units, h1, ddo, fput, foz, fget, wrt0]
theorem after_wr (o l : By) (K : Nat) (hK : K ≤ l.length + 2) : ∃ S, after [([102], o)] [.write [102, 126] 0 l, .ren [102, 126] [102]] K = S ∧ (S = [([102], l)] ∨ S = [([102], o)] ∨ ∃ x : By, x.length ≤ l.length ∧ S = [([102], o), ([102, 126], x)]) := by
  by_cases h0 : K = 0
  · subst h0
    exact ⟨_, after_zero _ _, .inr (.inl rfl)⟩
  · by_cases h1 : K = l.length + 2
    · subst h1
      have e1 : min (l.length + 2) (l.length + 1) = l.length + 1 := by omega
      refine ⟨_, rfl, .inl ?_⟩
      simp [after, Dd.units, e1, ddo, fput, fdel, foz, fget, wrt0]
    · have e1 : min K (l.length + 1) = K := by omega
      refine ⟨_, rfl, .inr (.inr ⟨l.take (K - 1), by rw [List.length_take]; omega, ?_⟩)⟩
      simp [after, Dd.units, e1, h0, ddo, fput, foz, fget, wrt0]
/-- what the armed drive is behind Replace, and what a crash makes of it -/
structure Rok2 (o l : By) (a : Bool) (keep : Int) (p : Int × Dm) : Prop where
  code : p.1 = 0 ∨ (p.1 = 9 ∧ a = true)
  crash : ∃ S, crD p.2 keep = rq S false 0 ∧ Sok o l p.1 S
  qok : Qok p.2.safe p.2.queue
  len : p.2.safe.length + p.2.queue.length ≤ 10
  unit : units p.2.queue ≤ 10000
theorem crd_rq (d : Dm) (keep : Int) (S : Fl) (h : after d.safe d.queue (crK d keep) = S) (hr : d.room = 1048576) : crD d keep = rq S false 0 := by
  unfold crD rq; rw [h, hr]
theorem rep_arm (o l : By) (ho : o.length ≤ 5000) (hl : l.length ≤ 5000) (a : Bool) (m : Int) (ha : a = true → 0 ≤ m) (keep : Int) : Rok2 o l a keep (repD (rq [([102], o)] a m) [102] l) := by
  have h2 : ¬ (1048576 : Int) - (o.length : Int) < (l.length : Int) := by omega
  have hlim : l.length ≤ lim := by unfold lim; omega
  cases a
  · have e : repD (rq [([102], o)] false m) [102] l = (0, rq [([102], l)] false m) := by
      simp [repD, rp1, rp2, rp3, rq, frs, fget, foz, wrE, thE, rawE, mayR, rawD, mayD, ddo, fput, fdel, Dd.units, tot, flD, wrt0, h2]
    rw [e]
    exact ⟨.inl rfl, ⟨_, crd_rq _ _ _ (after_nil _ _) rfl, .inl rfl⟩, trivial, by simp [rq], by simp [rq, units]⟩
  · have hm := ha rfl
    by_cases m0 : m = 0
    · subst m0
      have e : repD (rq [([102], o)] true 0) [102] l = (9, ⟨[([102], o)], [([102], o), ([102, 126], l)], [.write [102, 126] 0 l], 1048576, true, 0, true⟩) := by
        simp [repD, rp1, rp2, rp3, rq, frs, fget, foz, wrE, thE, rawE, mayR, rawD, mayD, ddo, fput, fdel, Dd.units, tot, flD, wrt0, h2]
      rw [e]
      obtain ⟨S, hS, hS2⟩ := after_w o l (crK ⟨[([102], o)], [([102], o), ([102, 126], l)], [.write [102, 126] 0 l], 1048576, true, 0, true⟩ keep)
      refine ⟨.inr ⟨rfl, rfl⟩, ⟨S, crd_rq _ _ _ hS rfl, .inr ⟨by simp, hS2.imp id fun ⟨x, h1, h3⟩ => ⟨x, by omega, h3⟩⟩⟩, ⟨⟨Nat.zero_le _, Nat.zero_le _, by show 0 + l.length ≤ lim; omega⟩, trivial⟩, by simp, by simp [units, Dd.units]; omega⟩
    · by_cases m1 : m = 1 ∨ m = 2
      · have e : repD (rq [([102], o)] true m) [102] l = (9, ⟨[([102], o)], [([102], l)], [.write [102, 126] 0 l, .ren [102, 126] [102]], 1048576, true, 0, true⟩) := by
          rcases m1 with rfl | rfl
          · simp [repD, rp1, rp2, rp3, rq, frs, fget, foz, wrE, thE, rawE, mayR, rawD, mayD, ddo, fput, fdel, Dd.units, tot, flD, wrt0, h2]
          · simp [repD, rp1, rp2, rp3, rq, frs, fget, foz, wrE, thE, rawE, mayR, rawD, mayD, ddo, fput, fdel, Dd.units, tot, flD, wrt0, h2]
        rw [e]
        have hK : crK ⟨[([102], o)], [([102], l)], [.write [102, 126] 0 l, .ren [102, 126] [102]], 1048576, true, 0, true⟩ keep ≤ l.length + 2 := by
          unfold crK
          have hu : units [Dd.write [102, 126] 0 l, .ren [102, 126] [102]] = l.length + 2 := by simp [units, Dd.units]
          simp only [hu]
          have h1 := Int.emod_lt_of_pos keep (show (0 : Int) < ((l.length + 2 : Nat) : Int) + 1 by omega)
          have h3 := Int.emod_nonneg keep (show (((l.length + 2 : Nat) : Int) + 1) ≠ 0 by omega)
          omega
        obtain ⟨S, hS, hS2⟩ := after_wr o l _ hK
        refine ⟨.inr ⟨rfl, rfl⟩, ⟨S, crd_rq _ _ _ hS rfl, hS2.imp id fun h => ⟨by simp, h.imp id fun ⟨x, h1, h3⟩ => ⟨x, by omega, h3⟩⟩⟩, ⟨⟨Nat.zero_le _, Nat.zero_le _, by show 0 + l.length ≤ lim; omega⟩, trivial, trivial⟩, by simp, by simp [units, Dd.units]; omega⟩
      · have hm1 : ¬ m = 1 := fun h => m1 (.inl h)
        have hm2 : ¬ m = 2 := fun h => m1 (.inr h)
        have e1 : ¬ m - 1 = 0 := by omega
        have e2 : ¬ m - 1 - 1 = 0 := by omega
        have e : repD (rq [([102], o)] true m) [102] l = (0, rq [([102], l)] true (m - 1 - 1 - 1)) := by
          simp [repD, rp1, rp2, rp3, rq, frs, fget, foz, wrE, thE, rawE, mayR, rawD, mayD, ddo, fput, fdel, Dd.units, tot, flD, wrt0, h2, m0, e1, e2]
        rw [e]
        exact ⟨.inl rfl, ⟨_, crd_rq _ _ _ (after_nil _ _) rfl, .inl rfl⟩, trivial, by simp [rq], by simp [rq, units]⟩
end Go.Proofs.Ytpgpncngamagdaa
