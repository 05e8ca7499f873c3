/- Plain lists of things; a vault's facts in later worlds. -/
import Derived.Test.YtojgkjpmphfakaaGreatDoorVL
set_option linter.unusedVariables false
set_option linter.unusedSimpArgs false
namespace Go.Proofs.YtojgkjpmphfakaaGreatDoor
open Go.RowKit
theorem vault_new (w : World) : VaultIs w.heap.size (fun _ => False) (w.alloc (.cells #[.map none] 65)) w.heap.size (fun _ => none) 0 :=
  ⟨Nat.le_refl _, .inl ⟨heap_alloc_new w _, rfl, fun _ => rfl⟩⟩
theorem VaultIs.up {B b n : Nat} {V : Nat → Prop} {w w' : World} {f : List UInt8 → Option (List UInt8)} (h : VaultIs B V w b f n) (hb : Below w.heap.size w w') : VaultIs B V w' b f n := by
  obtain ⟨hB, ⟨h, rfl, hf⟩ | ⟨M, g, hM, h, hm, hf⟩⟩ := h
  · exact ⟨hB, .inl ⟨by rw [hb.block b (Array.getElem?_eq_some_iff.1 h).1]; exact h, rfl, hf⟩⟩
  · refine ⟨hB, .inr ⟨M, g, hM, by rw [hb.block b (Array.getElem?_eq_some_iff.1 h).1]; exact h, hm.block (hb.block M hm.lt), fun s => ?_⟩⟩
    rcases hf s with h | ⟨v, l, h1, h2, h3, h4⟩
    · exact .inl h
    · exact .inr ⟨v, l, h1, h2, h3.keep hb (Nat.le_refl _), h4⟩
theorem VaultIs.now {B b n : Nat} {V : Nat → Prop} {w : World} {f : List UInt8 → Option (List UInt8)} (h : VaultIs B V w b f n) : VaultIs B (fun k => V k ∧ k < w.heap.size) w b f n := by
  obtain ⟨hB, h | ⟨M, g, hM, h, hm, hf⟩⟩ := h
  · exact ⟨hB, .inl h⟩
  · refine ⟨hB, .inr ⟨M, g, hM, h, hm, fun s => ?_⟩⟩
    rcases hf s with h | ⟨v, l, h1, h2, h3, h4, h5⟩
    · exact .inl h
    · exact .inr ⟨v, l, h1, h2, h3, h4, fun k e => ⟨h5 k e, (h3.lt k e).2⟩⟩
abbrev Th := List UInt8 × List UInt8
def tget (l : List Th) (s : List UInt8) : Option (List UInt8) := (l.find? fun t => t.1 == s).map (·.2)
def Asc (l : List Th) : Prop := (l.map (·.1)).Pairwise fun a b => a < b
def tput (l : List Th) (s b : List UInt8) : List Th := if (tget l s).isSome then l else l.takeWhile (fun t => decide (t.1 < s)) ++ [(s, b)] ++ l.dropWhile (fun t => decide (t.1 < s))
def tlose (l : List Th) (ns : List (List UInt8)) : List Th := l.filter fun t => !ns.contains t.1
def tlist (l : List Th) (p : List UInt8) : List (List UInt8) := (l.map (·.1)).filter (pfx p)
theorem lt_irr (a : List UInt8) : ¬ a < a := List.lt_irrefl a
theorem lt_trans' {a b c : List UInt8} (h : a < b) (k : b < c) : a < c := List.lt_trans h k
theorem not_lt_le {a b : List UInt8} (h : ¬ a < b) : b ≤ a := List.not_lt.1 h
theorem Asc.cons {t : Th} {l : List Th} : Asc (t :: l) ↔ (∀ u ∈ l, t.1 < u.1) ∧ Asc l := by
  unfold Asc
  rw [List.map_cons, List.pairwise_cons]
  simp
theorem tget_cons (t : Th) (l : List Th) (s : List UInt8) : tget (t :: l) s = if t.1 = s then some t.2 else tget l s := by
  unfold tget
  rw [List.find?_cons]
  by_cases h : t.1 = s
  · simp [h]
  · rw [if_neg h]
    have : (t.1 == s) = false := by simpa using h
    rw [this]
theorem tget_none_of_lt {l : List Th} {s : List UInt8} (h : ∀ u ∈ l, s < u.1) : tget l s = none := by
  induction l with
  | nil => rfl
  | cons t l ih =>
    rw [tget_cons, if_neg, ih fun u hu => h u (List.mem_cons_of_mem _ hu)]
    intro e
    have := h t (List.mem_cons_self ..)
    rw [e] at this
    exact lt_irr _ this
theorem tget_mem {l : List Th} {s x : List UInt8} (h : tget l s = some x) : ∃ t ∈ l, t.1 = s ∧ t.2 = x := by
  induction l with
  | nil => cases h
  | cons t l ih =>
    rw [tget_cons] at h
    by_cases e : t.1 = s
    · rw [if_pos e] at h; exact ⟨t, List.mem_cons_self .., e, Option.some.inj h⟩
    · rw [if_neg e] at h
      obtain ⟨u, hu, r⟩ := ih h
      exact ⟨u, List.mem_cons_of_mem _ hu, r⟩
theorem tget_isSome (l : List Th) (s : List UInt8) : (tget l s).isSome = true ↔ s ∈ l.map (·.1) := by
  induction l with
  | nil => simp [tget]
  | cons t l ih =>
    rw [tget_cons, List.map_cons, List.mem_cons]
    by_cases e : t.1 = s
    · rw [if_pos e]; simp [e]
    · rw [if_neg e, ih]
      simp [Ne.symm e]
/-- one more name in its place -/
theorem tput_cons (t : Th) (l : List Th) (s b : List UInt8) (h : Asc (t :: l)) : tput (t :: l) s b = if t.1 < s then t :: tput l s b else if t.1 = s then t :: l else (s, b) :: t :: l := by
  unfold tput
  by_cases h1 : t.1 < s
  · have hne : ¬ t.1 = s := fun e => by rw [e] at h1; exact lt_irr _ h1
    rw [if_pos h1, tget_cons, if_neg hne]
    split
    · rfl
    · simp [h1]
  · rw [if_neg h1]
    by_cases h2 : t.1 = s
    · rw [if_pos h2, tget_cons, if_pos h2]; simp
    · rw [if_neg h2, tget_cons, if_neg h2]
      have hn : tget l s = none := tget_none_of_lt fun u hu => by
        have := (Asc.cons.1 h).1 u hu
        exact lt_trans' (lt_of_le_ne (not_lt_le h1) (Ne.symm h2)) this
      rw [hn]
      simp [h1]
theorem tput_get {l : List Th} (h : Asc l) (s b x : List UInt8) : tget (tput l s b) x = putF (tget l) s b x := by
  induction l with
  | nil =>
    simp only [tput, tget, putF]
    by_cases e : x = s
    · subst e; simp
    · have : (s == x) = false := by simpa using Ne.symm e
      simp [e, this]
  | cons t l ih =>
    have hl := (Asc.cons.1 h).2
    rw [tput_cons t l s b h]
    by_cases h1 : t.1 < s
    · have hne : ¬ t.1 = s := fun e => by rw [e] at h1; exact lt_irr _ h1
      rw [if_pos h1, tget_cons, ih hl]
      unfold putF
      rw [tget_cons, tget_cons, if_neg hne]
      by_cases e : x = s
      · subst e; rw [if_neg hne]; simp
      · simp only [if_neg e]
    · rw [if_neg h1]
      by_cases h2 : t.1 = s
      · rw [if_pos h2]
        unfold putF
        by_cases e : x = s
        · subst e; rw [tget_cons, if_pos h2]; simp
        · rw [if_neg e]
      · rw [if_neg h2, tget_cons]
        have hn : tget (t :: l) s = none := by
          rw [tget_cons, if_neg h2]
          exact tget_none_of_lt fun u hu => lt_trans' (lt_of_le_ne (not_lt_le h1) (Ne.symm h2)) ((Asc.cons.1 h).1 u hu)
        unfold putF
        rw [hn]
        by_cases e : s = x
        · subst e; simp
        · rw [if_neg e, if_neg (Ne.symm e)]
theorem tput_mem {l : List Th} {s b : List UInt8} {u : Th} (h : u ∈ tput l s b) : u ∈ l ∨ u = (s, b) := by
  unfold tput at h
  split at h
  · exact .inl h
  · rw [List.append_assoc, List.mem_append, List.mem_append, List.mem_singleton] at h
    rcases h with h | h | h
    · exact .inl (List.takeWhile_subset _ h)
    · exact .inr h
    · exact .inl (List.dropWhile_subset _ h)
theorem tput_asc {l : List Th} (h : Asc l) (s b : List UInt8) : Asc (tput l s b) := by
  induction l with
  | nil => simp [tput, tget, Asc]
  | cons t l ih =>
    have hl := (Asc.cons.1 h).2
    rw [tput_cons t l s b h]
    by_cases h1 : t.1 < s
    · rw [if_pos h1, Asc.cons]
      refine ⟨fun u hu => ?_, ih hl⟩
      rcases tput_mem hu with hu | rfl
      · exact (Asc.cons.1 h).1 u hu
      · exact h1
    · rw [if_neg h1]
      by_cases h2 : t.1 = s
      · rw [if_pos h2]; exact h
      · rw [if_neg h2, Asc.cons]
        refine ⟨fun u hu => ?_, h⟩
        have h3 := lt_of_le_ne (not_lt_le h1) (Ne.symm h2)
        rcases List.mem_cons.1 hu with rfl | hu
        · exact h3
        · exact lt_trans' h3 ((Asc.cons.1 h).1 u hu)
theorem tput_len {l : List Th} (s b : List UInt8) : (tput l s b).length = putN (tget l) s l.length := by
  unfold tput putN
  cases tget l s with
  | some o => simp
  | none =>
    simp only [Option.isSome_none, Bool.false_eq_true, if_false, List.length_append, List.length_singleton]
    have := congrArg List.length (List.takeWhile_append_dropWhile (p := fun t : Th => decide (t.1 < s)) (l := l))
    rw [List.length_append] at this
    omega
theorem tlose_asc {l : List Th} (h : Asc l) (ns : List (List UInt8)) : Asc (tlose l ns) := by
  unfold Asc tlose
  exact h.sublist (List.Sublist.map _ List.filter_sublist)
theorem tlose_get (l : List Th) (ns : List (List UInt8)) (x : List UInt8) : tget (tlose l ns) x = if ns.contains x then none else tget l x := by
  induction l with
  | nil => simp [tlose, tget]
  | cons t l ih =>
    unfold tlose
    rw [List.filter_cons]
    by_cases hc : ns.contains t.1 = true
    · rw [hc]
      simp only [Bool.not_true, Bool.false_eq_true, if_false]
      rw [show l.filter (fun t => !ns.contains t.1) = tlose l ns from rfl, ih, tget_cons]
      by_cases e : t.1 = x
      · subst e; rw [if_pos hc, if_pos hc]
      · rw [if_neg e]
    · have hc' : ns.contains t.1 = false := by simpa using hc
      rw [hc']
      simp only [Bool.not_false, if_true]
      rw [show l.filter (fun t => !ns.contains t.1) = tlose l ns from rfl, tget_cons, tget_cons, ih]
      by_cases e : t.1 = x
      · subst e; rw [if_pos rfl, if_pos rfl, if_neg hc]
      · rw [if_neg e, if_neg e]
/-- two rising lists of the same names are one -/
theorem rising_eq {l m : List (List UInt8)} (hl : l.Pairwise fun a b => a < b) (hm : m.Pairwise fun a b => a < b) (h : ∀ x, x ∈ l ↔ x ∈ m) : l = m := by
  have nd : ∀ {l : List (List UInt8)}, (l.Pairwise fun a b => a < b) → l.Nodup := fun hl => hl.imp fun {a b} hab e => by subst e; exact lt_irr _ hab
  refine List.Perm.eq_of_pairwise (le := fun a b => a < b) (fun a b _ _ h1 h2 => absurd (lt_trans' h1 h2) (lt_irr _)) hl hm ((List.perm_ext_iff_of_nodup (nd hl) (nd hm)).2 h)
theorem keys_list {f : List UInt8 → Option (List UInt8)} {n : Nat} {L : List (List UInt8)} {l : List Th} (h : Keys f n L) (hf : ∀ s, f s = tget l s) (hl : Asc l) : L = l.map (·.1) := by
  refine rising_eq h.1 hl fun x => ?_
  rw [h.2.1, hf, tget_isSome]
/-- how many there are -/
theorem vault_len {B b n : Nat} {V : Nat → Prop} {w : World} {f : List UInt8 → Option (List UInt8)} {l : List Th} (h : VaultIs B V w b f n) (hf : ∀ s, f s = tget l s) (hl : Asc l) : n = l.length := by
  obtain ⟨hB, ⟨_, rfl, hn⟩ | ⟨M, g, hM, h1, hm, hg⟩⟩ := h
  · cases l with
    | nil => rfl
    | cons t l =>
      have := hf t.1
      rw [hn, tget_cons, if_pos rfl] at this
      cases this
  · obtain ⟨D, h2, h3, hk⟩ := keys_of hm
    have h4 := hk _ (List.Perm.refl _)
    have h5 := h4.map (g := f) fun s => by
      rcases hg s with ⟨a, b⟩ | ⟨x, y, a, b, _⟩ <;> rw [a, b] <;> rfl
    have h6 := keys_list h5 hf hl
    have h7 := h5.2.2.1
    rw [h6] at h7
    simpa using h7.symm
end Go.Proofs.YtojgkjpmphfakaaGreatDoor
