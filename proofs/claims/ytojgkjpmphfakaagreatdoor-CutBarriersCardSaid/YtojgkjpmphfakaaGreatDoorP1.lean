/- Plain laws: numbers and their texts. -/
import Derived.Test.YtojgkjpmphfakaaGreatDoorW2
set_option linter.unusedVariables false
set_option linter.unusedSimpArgs false
namespace Go.Proofs.YtojgkjpmphfakaaGreatDoor
open Go.RowKit
def hexk : Nat → Nat → List UInt8
  | _, 0 => []
  | n, k + 1 => hexk (n / 16) k ++ [dg (n % 16)]
theorem hexk_len (n k : Nat) : (hexk n k).length = k := by
  induction k generalizing n with
  | zero => rfl
  | succ k ih => simp [hexk, ih]
theorem hexk_get (k : Nat) : ∀ (n i : Nat) (h : i < (hexk n k).length), (hexk n k)[i] = dg (n / 16 ^ (k - 1 - i) % 16) := by
  induction k with
  | zero => intro n i h; simp [hexk] at h
  | succ k ih =>
    intro n i h
    rw [hexk_len] at h
    simp only [hexk]
    by_cases hi : i < k
    · rw [List.getElem_append_left (by rw [hexk_len]; exact hi), ih, Nat.div_div_eq_div_mul, ← Nat.pow_succ']
      congr 4
      omega
    · have : i = k := by omega
      subst this
      rw [List.getElem_append_right (by rw [hexk_len]; exact Nat.le_refl _)]
      simp [hexk_len]
theorem hex_eq (n : Nat) : hex n = hexk n 16 := by
  apply List.ext_getElem
  · simp [hex, hexk_len]
  · intro i h1 h2
    rw [hexk_get]
    simp [hex]
theorem idx_dg (d : Nat) (h : d < 16) : idx (dg d) = d := by
  have : ∀ d : Fin 16, idx (dg d.val) = (d.val : Int) := by decide
  exact this ⟨d, h⟩
theorem dg_idx (c : UInt8) (h : 0 ≤ idx c) : dg (idx c).toNat = c := by
  have h' : ∀ n : Fin 256, 0 ≤ idx (UInt8.ofNat n.val) → dg (idx (UInt8.ofNat n.val)).toNat = UInt8.ofNat n.val := by decide +kernel
  have := h' ⟨c.toNat, c.toNat_lt⟩
  simp only [UInt8.ofNat_toNat] at this
  exact this h
theorem toN_snoc (l : List UInt8) (c : UInt8) : ∀ n, toN (l ++ [c]) n = (toN l n).bind fun v => if idx c < 0 then none else some (v * 16 + (idx c).toNat) := by
  induction l with
  | nil => intro n; simp [toN]
  | cons x l ih =>
    intro n
    simp only [List.cons_append, toN]
    split
    · rfl
    · exact ih _
theorem toN_hexk (k : Nat) : ∀ n, toN (hexk n k) 0 = some (n % 16 ^ k) := by
  induction k with
  | zero => intro n; simp [hexk, toN, Nat.mod_one]
  | succ k ih =>
    intro n
    have hd : n % 16 < 16 := Nat.mod_lt _ (by decide)
    rw [hexk, toN_snoc, ih, Option.bind_some, idx_dg _ hd, if_neg (by omega), Int.toNat_natCast, Nat.pow_succ, Nat.mul_comm (16 ^ k) 16, Nat.mod_mul]
    congr 1
    omega
theorem toN_inv (k : Nat) : ∀ (s : List UInt8) (m : Nat), s.length = k → toN s 0 = some m → s = hexk m k ∧ m < 16 ^ k := by
  induction k with
  | zero =>
    intro s m hl h
    have : s = [] := List.eq_nil_of_length_eq_zero hl
    subst this
    simp [toN] at h
    subst h; exact ⟨rfl, by decide⟩
  | succ k ih =>
    intro s m hl h
    have hne : s ≠ [] := by intro e; subst e; simp at hl
    obtain ⟨r, c, rfl⟩ : ∃ r c, s = r ++ [c] := ⟨s.dropLast, s.getLast hne, (List.dropLast_concat_getLast hne).symm⟩
    rw [toN_snoc] at h
    cases hv : toN r 0 with
    | none => rw [hv] at h; cases h
    | some v =>
      rw [hv, Option.bind_some] at h
      have hb := idx_bd c
      by_cases hc : idx c < 0
      · rw [if_pos hc] at h; cases h
      · rw [if_neg hc] at h
        cases h
        obtain ⟨h1, h2⟩ := ih r v (by simpa using hl) hv
        have e1 : (v * 16 + (idx c).toNat) / 16 = v := by omega
        have e2 : (v * 16 + (idx c).toNat) % 16 = (idx c).toNat := by omega
        refine ⟨?_, by rw [Nat.pow_succ]; omega⟩
        rw [hexk, e1, e2, dg_idx c (by omega), h1]
theorem p64 : (16 : Nat) ^ 16 = 18446744073709551616 := by decide
theorem numV_hex (n : Nat) (h : n < 18446744073709551616) : numV (hex n) = some n := by
  unfold numV
  rw [hex_eq, hexk_len, if_pos rfl, toN_hexk, Nat.mod_eq_of_lt (by rw [p64]; exact h)]
theorem hex_numV (s : List UInt8) (m : Nat) (h : numV s = some m) : hex m = s ∧ m < 18446744073709551616 := by
  unfold numV at h
  split at h
  · rename_i hl
    obtain ⟨h1, h2⟩ := toN_inv 16 s m hl h
    rw [hex_eq]; exact ⟨h1.symm, by rw [← p64]; exact h2⟩
  · cases h
theorem less_snoc (c d : UInt8) : ∀ (l m : List UInt8), l.length = m.length → Op.bytesLess (l ++ [c]) (m ++ [d]) = (Op.bytesLess l m || (l == m && decide (c < d)))
  | [], [], _ => by simp [Op.bytesLess]
  | [], _ :: _, h => by simp at h
  | _ :: _, [], h => by simp at h
  | x :: l, y :: m, h => by
    have ih := less_snoc c d l m (by simpa using h)
    simp only [List.cons_append, Op.bytesLess, ih, List.cons_beq_cons]
    cases decide (x < y) <;> cases (x == y) <;> simp
theorem dg_lt (x y : Nat) (hx : x < 16) (hy : y < 16) : decide (dg x < dg y) = decide (x < y) := by
  have : ∀ x y : Fin 16, decide (dg x.val < dg y.val) = decide (x.val < y.val) := by decide
  exact this ⟨x, hx⟩ ⟨y, hy⟩
theorem hexk_inj (k a b : Nat) : (hexk a k == hexk b k) = decide (a % 16 ^ k = b % 16 ^ k) := by
  rw [Bool.eq_iff_iff, beq_iff_eq, decide_eq_true_iff]
  constructor
  · intro h
    have h1 := toN_hexk k a
    rw [h, toN_hexk] at h1
    exact (Option.some.inj h1).symm
  · intro h
    obtain ⟨h1, _⟩ := toN_inv k (hexk a k) _ (hexk_len a k) (toN_hexk k a)
    obtain ⟨h2, _⟩ := toN_inv k (hexk b k) _ (hexk_len b k) (toN_hexk k b)
    rw [h1, h2, h]
theorem less_hexk (k : Nat) : ∀ a b, Op.bytesLess (hexk a k) (hexk b k) = decide (a % 16 ^ k < b % 16 ^ k) := by
  induction k with
  | zero => intro a b; simp [hexk, Op.bytesLess, Nat.mod_one]
  | succ k ih =>
    intro a b
    have ha : a % 16 < 16 := Nat.mod_lt _ (by decide)
    have hb : b % 16 < 16 := Nat.mod_lt _ (by decide)
    rw [hexk, hexk, less_snoc _ _ _ _ (by rw [hexk_len, hexk_len]), ih, hexk_inj, dg_lt _ _ ha hb, Nat.pow_succ, Nat.mul_comm (16 ^ k) 16, Nat.mod_mul, Nat.mod_mul]
    generalize a / 16 % 16 ^ k = x
    generalize b / 16 % 16 ^ k = y
    rw [Bool.eq_iff_iff]
    simp
    omega
theorem less_hex (a b : Nat) (ha : a < 18446744073709551616) (hb : b < 18446744073709551616) : Op.bytesLess (hex a) (hex b) = decide (a < b) := by
  rw [hex_eq, hex_eq, less_hexk, p64, Nat.mod_eq_of_lt ha, Nat.mod_eq_of_lt hb]
end Go.Proofs.YtojgkjpmphfakaaGreatDoor
