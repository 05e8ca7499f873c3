/- Plain laws: a name's successor stands behind it. No program is named here. -/
import Derived.Test.YtahmihlpnlfefaaDoorL6
set_option linter.unusedVariables false
set_option linter.unusedSimpArgs false
namespace Go.Proofs.YtahmihlpnlfefaaDoor
open PL
theorem inc_cmp (d : List UInt8) (h : d.all dgt = true) : ((inc d).2 = true → d = List.replicate d.length 57 ∧ (inc d).1 = List.replicate d.length 48) ∧ ((inc d).2 = false → cmp d (inc d).1 = -1 ∧ numC (numb d) (numb (inc d).1) = -1) := by
  induction d with
  | nil => simp [inc]
  | cons c r ih =>
    simp only [List.all_cons, Bool.and_eq_true] at h
    obtain ⟨hc, hr⟩ := h
    obtain ⟨i1, i2⟩ := ih hr
    simp only [dgt, Bool.and_eq_true, decide_eq_true_eq] at hc
    cases hi : (inc r).2
    · obtain ⟨j1, j2⟩ := i2 hi
      have e : inc (c :: r) = (c :: (inc r).1, false) := by simp [inc, hi]
      rw [e]
      refine ⟨by simp, fun _ => ⟨by simp [cmp, j1], ?_⟩⟩
      by_cases h0 : c = 48
      · subst h0
        exact j2
      · have e1 : numb (c :: r) = c :: r := by unfold numb; rw [List.dropWhile_cons, if_neg (by simpa using h0)]
        have e2 : numb (c :: (inc r).1) = c :: (inc r).1 := by unfold numb; rw [List.dropWhile_cons, if_neg (by simpa using h0)]
        have := inc_len r
        show numC (numb (c :: r)) (numb (c :: (inc r).1)) = -1
        rw [e1, e2]
        simp [numC, both, natC, this, cmp, j1]
    · obtain ⟨j1, j2⟩ := i1 hi
      by_cases h57 : c.toNat < 57
      · have e : inc (c :: r) = (UInt8.ofNat (c.toNat + 1) :: (inc r).1, false) := by simp [inc, hi, h57]
        rw [e]
        have ht : (UInt8.ofNat (c.toNat + 1)).toNat = c.toNat + 1 := by simp; omega
        refine ⟨by simp, fun _ => ⟨by simp only [cmp, ht]; rw [if_pos (by omega)], ?_⟩⟩
        have hn : UInt8.ofNat (c.toNat + 1) ≠ 48 := by
          intro e; have := congrArg UInt8.toNat e; rw [ht] at this; simp at this; omega
        have e2 : numb (UInt8.ofNat (c.toNat + 1) :: (inc r).1) = UInt8.ofNat (c.toNat + 1) :: (inc r).1 := by unfold numb; rw [List.dropWhile_cons, if_neg (by simpa using hn)]
        have hl := inc_len r
        show numC (numb (c :: r)) (numb (UInt8.ofNat (c.toNat + 1) :: (inc r).1)) = -1
        by_cases h0 : c = 48
        · have e1 : (numb (c :: r)).length ≤ r.length := by
            subst h0
            exact (List.dropWhile_suffix (l := r) (· == 48)).length_le
          rw [e2]
          simp only [numC, both, natC, List.length_cons, hl]
          rw [if_pos (show (numb (c :: r)).length < r.length + 1 by omega), if_pos (by decide)]
        · have e1 : numb (c :: r) = c :: r := by unfold numb; rw [List.dropWhile_cons, if_neg (by simpa using h0)]
          rw [e1, e2]
          simp only [numC, both, natC, List.length_cons, hl, cmp, ht]
          simp
      · have hc57 : c = 57 := by apply UInt8.toNat_inj.1; show c.toNat = 57; omega
        have e : inc (c :: r) = (48 :: (inc r).1, true) := by simp [inc, hi, h57]
        rw [e]
        refine ⟨fun _ => ⟨?_, ?_⟩, by simp⟩
        · rw [List.length_cons, List.replicate_succ, ← j1, hc57]
        · rw [List.length_cons, List.replicate_succ, ← j2]
theorem raise_numC (d : List UInt8) (hne : d ≠ []) (h : d.all dgt = true) : numC (numb d) (numb (raiseL d)) = -1 := by
  obtain ⟨i1, i2⟩ := inc_cmp d h
  unfold raiseL
  cases hi : (inc d).2
  · simpa using (i2 hi).2
  · obtain ⟨j1, j2⟩ := i1 hi
    rw [if_pos rfl, j2]
    have e1 : (numb d).length ≤ d.length := (List.dropWhile_suffix (l := d) (· == 48)).length_le
    have e2 : numb (49 :: List.replicate d.length 48) = 49 :: List.replicate d.length 48 := rfl
    rw [e2]
    simp only [numC, both, natC, List.length_cons, List.length_replicate]
    rw [if_pos (show (numb d).length < d.length + 1 by omega), if_pos (by decide)]
theorem raise_dgt (d : List UInt8) (h : d.all dgt = true) : (raiseL d).all dgt = true := by
  have key : ∀ d : List UInt8, d.all dgt = true → (inc d).1.all dgt = true := by
    intro d
    induction d with
    | nil => intro _; rfl
    | cons c r ih =>
      intro h
      simp only [List.all_cons, Bool.and_eq_true] at h
      have hc := h.1
      simp only [dgt, Bool.and_eq_true, decide_eq_true_eq] at hc
      simp only [inc]
      split
      · split
        · rename_i h57
          simp only [List.all_cons, ih h.2, Bool.and_true]
          simp only [dgt, Bool.and_eq_true, decide_eq_true_eq]
          simp; omega
        · simp only [List.all_cons, ih h.2, Bool.and_true]; decide
      · simp only [List.all_cons, ih h.2, Bool.and_true, h.1]
  unfold raiseL
  split
  · simp only [List.all_cons, key d h, Bool.and_true]; decide
  · exact key d h
theorem raise_ne (d : List UInt8) (h : d ≠ []) : raiseL d ≠ [] := by
  unfold raiseL; split
  · simp
  · intro e; have := inc_len d; rw [e] at this; exact h (List.eq_nil_of_length_eq_zero this.symm)
theorem pieceC_refl (p : List UInt8) : pieceC p p = 0 := by
  cases p with
  | nil => rfl
  | cons a p => exact (piece_key (a :: p) (a :: p) (by simp) (by simp)).1.2 (keyC_ord.refl _)
theorem tw_app (pre x : List UInt8) (hne : pre ≠ []) (hl : ∀ c, pre.getLast? = some c → dgt c = false) : (pre ++ x).takeWhile dgt = pre.takeWhile dgt := by
  rw [List.takeWhile_append]
  split
  · rename_i h
    exfalso
    have h1 : pre.takeWhile dgt = pre := (List.takeWhile_prefix (p := dgt) (l := pre)).eq_of_length h
    have h2 := List.all_takeWhile (p := dgt) (l := pre)
    rw [h1] at h2
    have h3 := hl _ (List.getLast?_eq_some_getLast hne)
    rw [List.all_eq_true.1 h2 _ (List.getLast_mem hne)] at h3
    cases h3
  · rfl
theorem core_pre : ∀ (n : Nat) (pre x y : List UInt8), pre.length ≤ n → (∀ c, pre.getLast? = some c → dgt c = false) → core (pre ++ x) (pre ++ y) = core x y := by
  intro n
  induction n with
  | zero => intro pre x y h _; have : pre = [] := List.eq_nil_of_length_eq_zero (by omega); subst this; rfl
  | succ n ih =>
    intro pre x y h hl
    by_cases h0 : pre = []
    · subst h0; rfl
    · have hx : pcN (pre ++ x) = pcN pre := by unfold pcN; rw [tw_app pre x h0 hl]
      have hy : pcN (pre ++ y) = pcN pre := by unfold pcN; rw [tw_app pre y h0 hl]
      have h1 := pcN_le pre h0
      have h2 := pcN_pos pre
      rw [core_step _ _ (by simp [h0]) (by simp [h0]), hx, hy, List.take_append_of_le_length h1, List.take_append_of_le_length h1, List.drop_append_of_le_length h1, List.drop_append_of_le_length h1, pieceC_refl, if_neg (by simp)]
      refine ih _ _ _ (by simp; omega) fun c hc => hl c ?_
      rw [List.getLast?_drop] at hc
      split at hc
      · cases hc
      · exact hc
theorem tw_all (x : List UInt8) (h : x.all dgt = true) : x.takeWhile dgt = x := by
  have := List.takeWhile_append_of_pos (p := dgt) (l₁ := x) (l₂ := []) (fun a ha => List.all_eq_true.1 h a ha)
  simpa using this
theorem core_digits (x y : List UInt8) (hx : x ≠ []) (hy : y ≠ []) (dx : x.all dgt = true) (dy : y.all dgt = true) : core x y = numC (numb x) (numb y) := by
  have tx : x.takeWhile dgt = x := tw_all x dx
  have ty : y.takeWhile dgt = y := tw_all y dy
  have lx := (ne_facts hx).2.2
  have ly := (ne_facts hy).2.2
  have px : pcN x = x.length := by unfold pcN; rw [tx]; omega
  have py : pcN y = y.length := by unfold pcN; rw [ty]; omega
  rw [core_step x y hx hy, px, py, List.take_length, List.take_length, List.drop_length, List.drop_length]
  have hp : pieceC x y = numC (numb x) (numb y) := by
    cases x with
    | nil => exact absurd rfl hx
    | cons a x => cases y with
      | nil => exact absurd rfl hy
      | cons b y =>
        simp only [List.all_cons, Bool.and_eq_true] at dx dy
        simp [pieceC, dx.1, dy.1]
  rw [hp]
  split
  · rfl
  · rename_i h
    have h' : numC (numb x) (numb y) = 0 := by omega
    rw [core, h']
theorem next_after (s : List UInt8) (hv : validB s = true) : comp s (nextR s) = -1 := by
  obtain ⟨hp, h16, h0⟩ := valid_facts s hv
  have hs : s = (s.reverse.dropWhile dgt).reverse ++ (s.reverse.takeWhile dgt).reverse := by
    rw [← List.reverse_append, List.takeWhile_append_dropWhile, List.reverse_reverse]
  have hlen : (s.reverse.dropWhile dgt).reverse.length = cutN s := by
    have := congrArg List.length hs
    rw [List.length_append] at this
    have h2 : (s.reverse.takeWhile dgt).reverse.length = (s.reverse.takeWhile dgt).length := List.length_reverse
    unfold cutN
    omega
  have htake : s.take (cutN s) = (s.reverse.dropWhile dgt).reverse := by
    rw [← hlen]
    conv => lhs; arg 2; rw [hs]
    rw [List.take_left]
  have hdrop : s.drop (cutN s) = (s.reverse.takeWhile dgt).reverse := by
    rw [← hlen]
    conv => lhs; arg 2; rw [hs]
    rw [List.drop_left]
  have hlast : ∀ c, (s.take (cutN s)).getLast? = some c → dgt c = false := by
    intro c hc
    rw [htake, List.getLast?_reverse] at hc
    have := List.head?_dropWhile_not dgt s.reverse
    rw [hc] at this
    simpa using this
  have hdd : (s.drop (cutN s)).all dgt = true := by
    rw [hdrop, List.all_reverse]; exact List.all_takeWhile
  unfold comp both
  by_cases hc : cutN s < s.length
  · have hne : s.drop (cutN s) ≠ [] := by intro e; have := congrArg List.length e; simp at this; omega
    have hk : core s (nextR s) = -1 := by
      unfold nextR
      rw [if_pos hc]
      conv => lhs; arg 1; rw [← List.take_append_drop (cutN s) s]
      rw [core_pre _ _ _ _ (Nat.le_refl _) hlast, core_digits _ _ hne (raise_ne _ hne) hdd (raise_dgt _ hdd)]
      exact raise_numC _ hne hdd
    rw [hk, if_pos (by decide)]
  · have hk : core s (nextR s) = -1 := by
      unfold nextR
      rw [if_neg hc]
      have h1 : s.take (cutN s) = s := List.take_of_length_le (by omega)
      rw [h1] at hlast
      have := core_pre _ s [] [45, 50] (Nat.le_refl _) hlast
      rw [List.append_nil] at this
      rw [this, core]
    rw [hk, if_pos (by decide)]
end Go.Proofs.YtahmihlpnlfefaaDoor
