/- Plain law of picking: strictly rising lists. No program is named here. -/
import Derived.Test.YtahmihlpnlfefaaDoorPL
import Derived.Lib.SlicesCompact
set_option linter.unusedVariables false
set_option linter.unusedSimpArgs false
namespace Go.Proofs.YtahmihlpnlfefaaDoor.PL
abbrev Bytes := List UInt8
/-- strictly rising -/
def Rise (l : List Bytes) : Prop := l.Pairwise fun a b => comp a b < 0
theorem comp_self (a : Bytes) : comp a a = 0 := comp_ord.refl a
theorem rise_unique : ∀ (a b : List Bytes), Rise a → Rise b → (∀ x, x ∈ a ↔ x ∈ b) → a = b
  | [], [], _, _, _ => rfl
  | [], y :: b, _, _, h => by have := (h y).2 (List.mem_cons_self ..); cases this
  | x :: a, [], _, _, h => by have := (h x).1 (List.mem_cons_self ..); cases this
  | x :: a, y :: b, ha, hb, h => by
    obtain ⟨ha1, ha2⟩ := List.pairwise_cons.1 ha
    obtain ⟨hb1, hb2⟩ := List.pairwise_cons.1 hb
    have hxy : x = y := by
      rcases List.mem_cons.1 ((h x).1 (List.mem_cons_self ..)) with e | e
      · exact e
      · rcases List.mem_cons.1 ((h y).2 (List.mem_cons_self ..)) with e' | e'
        · exact e'.symm
        · have h1 := hb1 x e
          have h2 := ha1 y e'
          have := comp_ord.anti x y
          omega
    subst hxy
    congr 1
    refine rise_unique a b ha2 hb2 fun z => ?_
    have hz := h z
    constructor
    · intro hza
      rcases List.mem_cons.1 (hz.1 (List.mem_cons_of_mem _ hza)) with e | e
      · subst e; have := ha1 z hza; rw [comp_self] at this; omega
      · exact e
    · intro hzb
      rcases List.mem_cons.1 (hz.2 (List.mem_cons_of_mem _ hzb)) with e | e
      · subst e; have := hb1 z hzb; rw [comp_self] at this; omega
      · exact e
/-- out is what is picked -/
def IsPick (p : Bytes) (names out : List Bytes) : Prop := Rise out ∧ ∀ x, x ∈ out ↔ x ∈ names ∧ mt x p = true
theorem IsPick.unique {p : Bytes} {n a b : List Bytes} (h : IsPick p n a) (k : IsPick p n b) : a = b :=
  rise_unique a b h.1 k.1 fun x => (h.2 x).trans (k.2 x).symm
theorem IsPick.congr {p : Bytes} {n m a : List Bytes} (h : IsPick p n a) (e : ∀ x, x ∈ n ↔ x ∈ m) : IsPick p m a := ⟨h.1, fun x => by rw [h.2 x, e x]⟩
theorem pick_nil (p : Bytes) : IsPick p [] [] := ⟨List.Pairwise.nil, fun x => by simp⟩
theorem pick_skip {p : Bytes} {n out : List Bytes} {x : Bytes} (h : IsPick p n out) (hx : mt x p = false ∨ x ∈ out) : IsPick p (n ++ [x]) out := by
  refine ⟨h.1, fun y => ?_⟩
  rw [h.2 y, List.mem_append, List.mem_singleton]
  constructor
  · rintro ⟨a, b⟩; exact ⟨.inl a, b⟩
  · rintro ⟨a | a, b⟩
    · exact ⟨a, b⟩
    · subst a
      rcases hx with hx | hx
      · rw [hx] at b; cases b
      · exact ⟨((h.2 y).1 hx).1, b⟩
theorem pick_put {p : Bytes} {m out : List Bytes} {x : Bytes} {n : Nat} (h : IsPick p m out) (hn : n ≤ out.length) (hx : mt x p = true)
    (hlo : ∀ j (hj : j < out.length), j < n → comp out[j] x < 0) (hhi : ∀ j (hj : j < out.length), n ≤ j → comp x out[j] < 0) : IsPick p (m ++ [x]) (out.take n ++ [x] ++ out.drop n) := by
  constructor
  · unfold Rise
    rw [List.pairwise_append, List.pairwise_append]
    refine ⟨⟨h.1.sublist (List.take_sublist _ _), List.pairwise_singleton _ _, ?_⟩, h.1.sublist (List.drop_sublist _ _), ?_⟩
    · intro a ha b hb
      rw [List.mem_singleton] at hb; subst hb
      obtain ⟨j, hj, rfl⟩ := List.mem_iff_getElem.1 ha
      simp at hj
      rw [List.getElem_take]
      exact hlo j (by omega) (by omega)
    · intro a ha b hb
      obtain ⟨j, hj, rfl⟩ := List.mem_iff_getElem.1 hb
      simp at hj
      rw [List.getElem_drop]
      have hxb := hhi (n + j) (by omega) (by omega)
      rcases List.mem_append.1 ha with ha | ha
      · obtain ⟨i, hi, rfl⟩ := List.mem_iff_getElem.1 ha
        simp at hi
        rw [List.getElem_take]
        exact List.pairwise_iff_getElem.1 h.1 i (n + j) (by omega) (by omega) (by omega)
      · rw [List.mem_singleton] at ha; subst ha; exact hxb
  · intro y
    rw [List.mem_append, List.mem_append, List.mem_singleton, List.mem_append, List.mem_singleton]
    have h1 : (y ∈ out.take n ∨ y ∈ out.drop n) ↔ y ∈ out := by
      rw [← List.mem_append, List.take_append_drop]
    constructor
    · rintro ((a | a) | a)
      · have := (h.2 y).1 (h1.1 (.inl a)); exact ⟨.inl this.1, this.2⟩
      · subst a; exact ⟨.inr rfl, hx⟩
      · have := (h.2 y).1 (h1.1 (.inr a)); exact ⟨.inl this.1, this.2⟩
    · rintro ⟨a | a, b⟩
      · rcases h1.2 ((h.2 y).2 ⟨a, b⟩) with c | c
        · exact .inl (.inl c)
        · exact .inr c
      · exact .inl (.inr a)
/-- slices.Compact of what is sorted -/
theorem compact_rise (zs : List Bytes) (hs : zs.Pairwise fun a b => comp a b ≤ 0) : Rise (Lib.compact zs) ∧ ∀ x, x ∈ Lib.compact zs ↔ x ∈ zs := by
  have hget : ∀ i, i < zs.length → zs.toArray[i]! = zs[i]! := by intro i hi; simp [hi]
  have hle : ∀ i j, i ≤ j → j < zs.length → comp zs[i]! zs[j]! ≤ 0 := by
    intro i j hij hj
    rcases Nat.lt_or_eq_of_le hij with h | h
    · have := List.pairwise_iff_getElem.1 hs i j (by omega) hj h
      rw [getElem!_pos zs i (by omega), getElem!_pos zs j hj]; exact this
    · subst h; rw [comp_self]; omega
  have hk : ∀ j, Lib.keeps zs.toArray j = true ↔ (j = 0 ∨ zs.toArray[j]! ≠ zs.toArray[j - 1]!) := by
    intro j
    unfold Lib.keeps
    simp
  constructor
  · unfold Rise Lib.compact Lib.compactUpTo
    rw [List.pairwise_map]
    have h1 : ((List.range zs.length).filter (Lib.keeps zs.toArray)).Pairwise (· < ·) := List.Pairwise.sublist List.filter_sublist List.pairwise_lt_range
    refine List.Pairwise.imp_of_mem ?_ h1
    intro i j hi hj hij
    rw [List.mem_filter, List.mem_range] at hi hj
    rw [hget i hi.1, hget j hj.1]
    have h2 := hle i (j - 1) (by omega) (by omega)
    have h3 := hle (j - 1) j (by omega) (by omega)
    have h4 : zs[j]! ≠ zs[j - 1]! := by
      have := (hk j).1 hj.2
      rcases this with e | e
      · omega
      · rw [hget j hj.1, hget (j - 1) (by omega)] at e; exact e
    have h5 : comp zs[j - 1]! zs[j]! < 0 := by
      rcases Int.lt_or_eq_of_le h3 with h | h
      · exact h
      · exact absurd ((comp_zero _ _).1 h).symm h4
    exact comp_ord.lt_right h2 h5
  · intro x
    unfold Lib.compact Lib.compactUpTo
    rw [List.mem_map]
    constructor
    · rintro ⟨i, hi, rfl⟩
      rw [List.mem_filter, List.mem_range] at hi
      rw [hget i hi.1, getElem!_pos zs i hi.1]
      exact List.getElem_mem hi.1
    · intro hx
      obtain ⟨i, hi, rfl⟩ := List.mem_iff_getElem.1 hx
      clear hx
      have : ∀ n i, i ≤ n → (hi : i < zs.length) → ∃ k, k ∈ (List.range zs.length).filter (Lib.keeps zs.toArray) ∧ zs.toArray[k]! = zs[i] := by
        intro n
        induction n with
        | zero =>
          intro i hin hi
          obtain rfl : i = 0 := by omega
          exact ⟨0, by rw [List.mem_filter, List.mem_range]; exact ⟨hi, (hk 0).2 (.inl rfl)⟩, by rw [hget 0 hi, getElem!_pos zs 0 hi]⟩
        | succ n ih =>
          intro i hin hi
          by_cases hkp : Lib.keeps zs.toArray i = true
          · exact ⟨i, by rw [List.mem_filter, List.mem_range]; exact ⟨hi, hkp⟩, by rw [hget i hi, getElem!_pos zs i hi]⟩
          · have h0 : i ≠ 0 := fun e => hkp ((hk i).2 (.inl e))
            have h1 : zs.toArray[i]! = zs.toArray[i - 1]! := by
              apply Classical.byContradiction
              intro h; exact hkp ((hk i).2 (.inr h))
            obtain ⟨k, h2, h3⟩ := ih (i - 1) (by omega) (by omega)
            refine ⟨k, h2, ?_⟩
            rw [h3]
            rw [hget i hi, hget (i - 1) (by omega), getElem!_pos zs i hi, getElem!_pos zs (i - 1) (by omega)] at h1
            exact h1.symm
      exact this i i (Nat.le_refl _) hi
theorem sorted_pick {p : Bytes} {names zs : List Bytes} (hp : zs.Perm (names.filter (mt · p))) (hs : zs.Pairwise fun a b => comp a b ≤ 0) : IsPick p names (Lib.compact zs) := by
  obtain ⟨h1, h2⟩ := compact_rise zs hs
  exact ⟨h1, fun x => by rw [h2, hp.mem_iff, List.mem_filter]⟩
end Go.Proofs.YtahmihlpnlfefaaDoor.PL
