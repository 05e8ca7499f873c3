/- Plain laws: the greedy way with a pattern. No program is named here. -/
import Derived.Test.YtojgkjpmphfakaaGreatDoorPL
set_option linter.unusedVariables false
set_option linter.unusedSimpArgs false
namespace Go.Proofs.YtojgkjpmphfakaaGreatDoor
open PL
/-- where the greedy way stands: i bytes of s and k of p are taken; st: the last star, f: where it began -/
def MI (s p : List UInt8) (i k : Nat) (st : Int) (f : Nat) : Prop :=
  i ≤ s.length ∧ k ≤ p.length ∧ ((st = -1 ∧ f = 0 ∧ seg (s.take i) (p.take k) = true) ∨ ∃ a : Nat, st = a ∧ a < k ∧ f ≤ i ∧ mt s p = mt (s.drop f) (42 :: p.drop (a + 1)) ∧ seg ((s.drop f).take (i - f)) ((p.drop (a + 1)).take (k - (a + 1))) = true)
theorem MI_start (s p : List UInt8) : MI s p 0 0 (-1) 0 := ⟨by omega, by omega, .inl ⟨rfl, rfl, by simp [seg]⟩⟩
theorem MI_rest {s p : List UInt8} {i k f : Nat} (h : MI s p i k (-1) f) : mt s p = mt (s.drop i) (p.drop k) := by
  obtain ⟨hi, hk, ⟨_, _, h⟩ | ⟨a, h, _⟩⟩ := h
  · have := seg_mt _ _ (s.drop i) (p.drop k) h
    rwa [List.take_append_drop, List.take_append_drop] at this
  · omega
theorem MI_mid {s p : List UInt8} {i k f a : Nat} (hf : f ≤ i) (ha : a < k) (h : seg ((s.drop f).take (i - f)) ((p.drop (a + 1)).take (k - (a + 1))) = true) : s.drop f = (s.drop f).take (i - f) ++ s.drop i ∧ p.drop (a + 1) = (p.drop (a + 1)).take (k - (a + 1)) ++ p.drop k := by
  have h1 := List.take_append_drop (i - f) (s.drop f)
  have h2 := List.take_append_drop (k - (a + 1)) (p.drop (a + 1))
  rw [List.drop_drop, show f + (i - f) = i from by omega] at h1
  rw [List.drop_drop, show a + 1 + (k - (a + 1)) = k from by omega] at h2
  exact ⟨h1.symm, h2.symm⟩
theorem MI_star {s p : List UInt8} {i k f : Nat} {st : Int} (h : MI s p i k st f) (hk : k < p.length) (h42 : p[k] = 42) : MI s p i (k + 1) k i := by
  have hd : p.drop k = 42 :: p.drop (k + 1) := by rw [List.drop_eq_getElem_cons hk, h42]
  have h0 := h
  obtain ⟨hi, hk', ⟨hst, _, h⟩ | ⟨a, hst, ha, hf, he, h⟩⟩ := h
  · subst hst
    exact ⟨hi, by omega, .inr ⟨k, rfl, by omega, by omega, by rw [MI_rest h0, hd], by simp [seg]⟩⟩
  · obtain ⟨e1, e2⟩ := MI_mid hf ha h
    refine ⟨hi, by omega, .inr ⟨k, rfl, by omega, by omega, ?_, by simp [seg]⟩⟩
    have := star_over _ _ (s.drop i) (p.drop (k + 1)) h
    rw [← e1, ← hd, ← e2, hd] at this
    rw [he, this]
theorem MI_one {s p : List UInt8} {i k f : Nat} {st : Int} (h : MI s p i k st f) (hi : i < s.length) (hk : k < p.length) (hn : p[k] ≠ 42) (hm : p[k] = 63 ∨ p[k] = s[i]) : MI s p (i + 1) (k + 1) st f := by
  obtain ⟨hi', hk', ⟨hst, hf0, h⟩ | ⟨a, hst, ha, hf, he, h⟩⟩ := h
  · refine ⟨by omega, by omega, .inl ⟨hst, hf0, ?_⟩⟩
    rw [List.take_succ_eq_append_getElem hi, List.take_succ_eq_append_getElem hk]
    exact seg_snoc _ _ _ _ h hn hm
  · refine ⟨by omega, by omega, .inr ⟨a, hst, by omega, by omega, he, ?_⟩⟩
    have l1 : i - f < (s.drop f).length := by simp; omega
    have l2 : k - (a + 1) < (p.drop (a + 1)).length := by simp; omega
    rw [show i + 1 - f = i - f + 1 from by omega, show k + 1 - (a + 1) = k - (a + 1) + 1 from by omega, List.take_succ_eq_append_getElem l1, List.take_succ_eq_append_getElem l2]
    have g1 : (s.drop f)[i - f] = s[i] := by rw [List.getElem_drop]; congr 1; omega
    have g2 : (p.drop (a + 1))[k - (a + 1)] = p[k] := by rw [List.getElem_drop]; congr 1; omega
    rw [g1, g2]
    exact seg_snoc _ _ _ _ h hn hm
theorem mt_no {s p : List UInt8} {i k : Nat} (hi : i < s.length) (hn : ∀ hk : k < p.length, p[k] ≠ 42 ∧ p[k] ≠ 63 ∧ p[k] ≠ s[i]) : mt (s.drop i) (p.drop k) = false := by
  rw [List.drop_eq_getElem_cons hi]
  by_cases hk : k < p.length
  · rw [List.drop_eq_getElem_cons hk]
    obtain ⟨n1, n2, n3⟩ := hn hk
    rw [PL.mt, if_neg (by simpa using n1)]
    simp [n2, n3]
  · rw [List.drop_of_length_le (show p.length ≤ k by omega), PL.mt]; rfl
theorem MI_fail {s p : List UInt8} {i k f : Nat} (h : MI s p i k (-1) f) (hi : i < s.length) (hn : ∀ hk : k < p.length, p[k] ≠ 42 ∧ p[k] ≠ 63 ∧ p[k] ≠ s[i]) : mt s p = false := by
  rw [MI_rest h, mt_no hi hn]
theorem MI_back {s p : List UInt8} {i k f a : Nat} (h : MI s p i k a f) (hi : i < s.length) (hn : ∀ hk : k < p.length, p[k] ≠ 42 ∧ p[k] ≠ 63 ∧ p[k] ≠ s[i]) : MI s p (f + 1) (a + 1) a (f + 1) ∧ f ≤ i ∧ a < k := by
  obtain ⟨hi', hk', ⟨hst, _, h⟩ | ⟨a', hst, ha, hf, he, h⟩⟩ := h
  · omega
  · have : a' = a := by omega
    subst this
    obtain ⟨e1, e2⟩ := MI_mid hf ha h
    refine ⟨⟨by omega, by omega, .inr ⟨a', rfl, by omega, by omega, ?_, by simp [seg]⟩⟩, hf, ha⟩
    have h1 := seg_mt _ _ (s.drop i) (p.drop k) h
    rw [← e1, ← e2, mt_no hi hn] at h1
    have hfl : f < s.length := by omega
    rw [List.drop_eq_getElem_cons hfl] at h1 he
    rw [he, star_more _ _ _ h1]
theorem plainN_app (p q : List UInt8) : plainN (p ++ q) = plainN p + plainN q := by simp [plainN]
theorem plainN_zero (p : List UInt8) : plainN p = 0 ↔ p.all (· == 42) = true := by
  unfold plainN
  rw [List.length_eq_zero_iff, List.filter_eq_nil_iff, List.all_eq_true]
  simp
theorem MI_end {s p : List UInt8} {k f : Nat} {st : Int} (h : MI s p s.length k st f) : mt s p = (p.drop k).all (· == 42) := by
  have h0 := h
  obtain ⟨hi, hk', ⟨hst, _, h⟩ | ⟨a, hst, ha, hf, he, h⟩⟩ := h
  · subst hst
    rw [MI_rest h0, List.drop_length, mt_nil_left]
  · obtain ⟨e1, e2⟩ := MI_mid hf ha h
    have h1 := seg_mt _ _ (s.drop s.length) (p.drop k) h
    rw [← e1, ← e2, List.drop_length, mt_nil_left] at h1
    rw [he]
    cases hall : (p.drop k).all (· == 42)
    · rw [hall] at h1
      cases hm : mt (s.drop f) (42 :: p.drop (a + 1))
      · rfl
      · exfalso
        obtain ⟨j, hj, hm⟩ := (mt_star _ _).1 hm
        have hl := mt_len _ _ hm
        rw [e2, plainN_app, seg_plain _ _ h, ← seg_len _ _ h] at hl
        rw [List.drop_length, List.append_nil] at e1
        rw [← e1] at hl
        simp only [List.length_drop] at hl
        have : plainN (p.drop k) = 0 := by omega
        rw [(plainN_zero _).1 this] at hall
        cases hall
    · rw [hall] at h1
      exact (mt_star _ _).2 ⟨0, by omega, by rw [List.drop_zero]; exact h1⟩
end Go.Proofs.YtojgkjpmphfakaaGreatDoor
