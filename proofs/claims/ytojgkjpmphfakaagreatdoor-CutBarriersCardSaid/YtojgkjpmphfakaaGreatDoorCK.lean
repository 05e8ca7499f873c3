/- What lies in a catalogue, plain. -/
import Derived.Test.YtojgkjpmphfakaaGreatDoorCI
import Derived.Sort.Walk0
set_option linter.unusedVariables false
set_option linter.unusedSimpArgs false
namespace Go.Proofs.YtojgkjpmphfakaaGreatDoor
open Go.RowKit
theorem tget_iff {l : List Th} (h : Asc l) (s x : List UInt8) : tget l s = some x ↔ (s, x) ∈ l := by
  constructor
  · intro e
    obtain ⟨t, ht, h1, h2⟩ := tget_mem e
    have : t = (s, x) := by cases t; simp_all
    exact this ▸ ht
  · intro hm
    induction l with
    | nil => cases hm
    | cons t l ih =>
      rw [Asc.cons] at h
      rw [tget_cons]
      rcases List.mem_cons.1 hm with e | hm
      · subst e; simp
      · have := h.1 _ hm
        rw [if_neg (fun e => by rw [e] at this; exact lt_irr _ this)]
        exact ih h.2 hm
theorem tget_none_iff {l : List Th} (h : Asc l) (s : List UInt8) : tget l s = none ↔ ∀ x, (s, x) ∉ l := by
  cases hg : tget l s with
  | none => simp only [true_iff]; intro x hx; rw [(tget_iff h s x).2 hx] at hg; cases hg
  | some y => simp only [reduceCtorEq, false_iff]; intro hx; exact hx y ((tget_iff h s y).1 hg)
theorem tput_mem_free {l : List Th} {s b : List UInt8} (hf : tget l s = none) (t : Th) : t ∈ tput l s b ↔ t ∈ l ∨ t = (s, b) := by
  refine ⟨tput_mem, fun h => ?_⟩
  unfold tput
  rw [hf, if_neg (by simp)]
  rcases h with h | h
  · have := List.takeWhile_append_dropWhile (p := fun t : Th => decide (t.1 < s)) (l := l)
    rw [← this, List.mem_append] at h
    simp only [List.mem_append]
    rcases h with h | h
    · exact .inl (.inl h)
    · exact .inr h
  · subst h; simp
theorem hex_inj {a b : Nat} (ha : a < 18446744073709551616) (hb : b < 18446744073709551616) (h : hex a = hex b) : a = b := by
  have h1 := numV_hex a ha
  rw [h, numV_hex b hb] at h1
  exact (Option.some.inj h1).symm
theorem hex_len (n : Nat) : (hex n).length = 16 := by simp [hex]
theorem app_lt {p x y : List UInt8} : p ++ x < p ++ y ↔ x < y := by
  induction p with
  | nil => exact Iff.rfl
  | cons c p ih => rw [List.cons_append, List.cons_append, List.cons_lt_cons_iff]; simp [ih, UInt8.lt_irrefl]
theorem hex_lt {a b : Nat} (ha : a < 18446744073709551616) (hb : b < 18446744073709551616) : hex a < hex b ↔ a < b := by
  have h1 := less_hex a b ha hb
  rw [bytesLess_eq, decide_eq_decide] at h1
  exact h1
theorem pfx_iff (p s : List UInt8) : pfx p s = true ↔ ∃ x, s = p ++ x := by
  unfold pfx
  rw [Bool.and_eq_true, decide_eq_true_eq, beq_iff_eq]
  constructor
  · rintro ⟨_, h⟩
    exact ⟨s.drop p.length, by rw [← h, List.length_take]; conv => lhs; rw [← List.take_append_drop p.length s]
                               congr 2; rw [← List.length_take, h]⟩
  · rintro ⟨x, rfl⟩
    simp
/-- the numbers behind a prefix -/
theorem allN_of {l : List Th} {q : List UInt8} {N : List Nat} (hA : Asc l) (hN : N.Pairwise (· < ·)) (hb : ∀ n ∈ N, n < 18446744073709551616) (hm : ∀ x, (∃ t ∈ l, t.1 = q ++ x) ↔ ∃ n ∈ N, x = hex n) : allN l q = N := by
  have h : tlist l q = N.map fun n => q ++ hex n := by
    unfold tlist
    refine rising_eq (List.Pairwise.filter _ hA) ?_ fun x => ?_
    · refine List.pairwise_map.2 (hN.imp_of_mem fun {a b} ha hb' hab => ?_)
      exact app_lt.2 ((hex_lt (hb a ha) (hb b hb')).2 hab)
    · rw [List.mem_filter, pfx_iff, List.mem_map, List.mem_map]
      constructor
      · rintro ⟨⟨t, ht, rfl⟩, y, hy⟩
        obtain ⟨n, hn, rfl⟩ := (hm y).1 ⟨t, ht, hy⟩
        exact ⟨n, hn, hy.symm⟩
      · rintro ⟨n, hn, rfl⟩
        obtain ⟨t, ht, e⟩ := (hm (hex n)).2 ⟨n, hn, rfl⟩
        exact ⟨⟨t, ht, e⟩, _, rfl⟩
  unfold allN
  rw [h, List.filterMap_map]
  have hx : ∀ M : List Nat, (∀ n ∈ M, n < 18446744073709551616) → M.filterMap ((fun x : List UInt8 => numV (x.drop q.length)) ∘ fun n => q ++ hex n) = M := by
    intro M
    induction M with
    | nil => intro _; rfl
    | cons n M ih =>
      intro hb
      have e : ((fun x : List UInt8 => numV (x.drop q.length)) ∘ fun n => q ++ hex n) n = some n := by
        show numV ((q ++ hex n).drop q.length) = some n
        rw [List.drop_left, numV_hex n (hb n (by simp))]
      rw [List.filterMap_cons, e, ih fun m hm => hb m (by simp [hm])]
  exact hx N hb
theorem ikey_inj {p : List UInt8} {a b : Nat} (ha : a < 18446744073709551616) (hb : b < 18446744073709551616) (h : ikey p a = ikey p b) : a = b := by
  unfold ikey at h
  exact hex_inj ha hb (List.append_cancel_left h)
theorem okey_inj {p : List UInt8} {a b : Nat} (ha : a < 18446744073709551616) (hb : b < 18446744073709551616) (h : okey p a = okey p b) : a = b := by
  unfold okey at h
  exact hex_inj ha hb (List.append_cancel_left h)
theorem ikey_ne_okey (p : List UInt8) (a b : Nat) : ikey p a ≠ okey p b := by
  intro h
  have := congrArg List.length h
  simp [ikey, okey, incp, openp, hex_len] at this
/-- what lies of incarnations and of what is open -/
structure Clm (l : List Th) (p : List UInt8) (os : List Og) (op : Nat → Bool) : Prop where
  asc : Asc l
  mem : ∀ t, t ∈ l ↔ (∃ n o, orig os n = some o ∧ t = (ikey p n, enc [o.1, o.2.1] o.2.2)) ∨ (∃ n, op n = true ∧ t = (okey p n, []))
  opb : ∀ n, op n = true → n < 18446744073709551616
  bnd : ∀ o ∈ os, o.1 < 18446744073709551616 ∧ o.2.1 < 18446744073709551616 ∧ o.2.2.length ≤ 1000
  few : os.length ≤ 1000
theorem Clm.nil (p : List UInt8) : Clm [] p [] (fun _ => false) :=
  ⟨List.Pairwise.nil, fun t => by simp [orig], fun n h => by simp at h, fun o h => by simp at h, by simp⟩
theorem Clm.onum {l : List Th} {p : List UInt8} {os : List Og} {op : Nat → Bool} (h : Clm l p os op) {n : Nat} {o : Og} (ho : orig os n = some o) : n < 18446744073709551616 := by
  have := orig_le ho; have := h.few; omega
theorem Clm.inc {l : List Th} {p : List UInt8} {os : List Og} {op : Nat → Bool} (h : Clm l p os op) : Inc l p os := by
  refine ⟨fun n hn => ?_, h.bnd, h.few⟩
  cases ho : orig os n with
  | some o => exact (tget_iff h.asc _ _).2 ((h.mem _).2 (.inl ⟨n, o, ho, rfl⟩))
  | none =>
    refine (tget_none_iff h.asc _).2 fun x hx => ?_
    rcases (h.mem _).1 hx with ⟨m, o, h1, h2⟩ | ⟨m, h1, h2⟩
    · have := ikey_inj hn (h.onum h1) (Prod.mk.inj h2).1
      subst this
      rw [ho] at h1; cases h1
    · exact ikey_ne_okey p n m (Prod.mk.inj h2).1
theorem Clm.opn {l : List Th} {p : List UInt8} {os : List Og} {op : Nat → Bool} (h : Clm l p os op) {n : Nat} (hn : n < 18446744073709551616) : tget l (okey p n) = if op n then some [] else none := by
  cases ho : op n with
  | true => rw [if_pos rfl]; exact (tget_iff h.asc _ _).2 ((h.mem _).2 (.inr ⟨n, ho, rfl⟩))
  | false =>
    rw [if_neg (by decide)]
    refine (tget_none_iff h.asc _).2 fun x hx => ?_
    rcases (h.mem _).1 hx with ⟨m, o, h1, h2⟩ | ⟨m, h1, h2⟩
    · exact ikey_ne_okey p m n (Prod.mk.inj h2).1.symm
    · have := okey_inj hn (h.opb m h1) (Prod.mk.inj h2).1
      subst this
      rw [ho] at h1; cases h1
theorem orig_some {os : List Og} {n : Nat} : (∃ o, orig os n = some o) ↔ 1 ≤ n ∧ n ≤ os.length := by
  constructor
  · rintro ⟨o, h⟩; have := orig_le h; exact ⟨this.1, this.2.1⟩
  · rintro ⟨h1, h2⟩
    unfold orig
    rw [if_neg (by omega)]
    exact ⟨os[n - 1]'(by omega), by simp⟩
theorem Clm.all {l : List Th} {p : List UInt8} {os : List Og} {op : Nat → Bool} (h : Clm l p os op) : allN l (p ++ incp) = List.range' 1 os.length := by
  have hf := h.few
  refine allN_of h.asc (List.pairwise_lt_range' ..) (fun n hn => by rw [List.mem_range'_1] at hn; omega) fun x => ?_
  constructor
  · rintro ⟨t, ht, e⟩
    rcases (h.mem t).1 ht with ⟨n, o, h1, rfl⟩ | ⟨n, h1, rfl⟩
    · have := orig_le h1
      exact ⟨n, by rw [List.mem_range'_1]; omega, (List.append_cancel_left (show p ++ incp ++ hex n = p ++ incp ++ x from e)).symm⟩
    · exfalso
      have e2 : p ++ openp ++ hex n = p ++ incp ++ x := e
      rw [List.append_assoc, List.append_assoc] at e2
      have e3 := List.append_cancel_left e2
      simp [openp, incp] at e3
  · rintro ⟨n, hn, rfl⟩
    rw [List.mem_range'_1] at hn
    obtain ⟨o, ho⟩ := (orig_some (os := os) (n := n)).2 ⟨by omega, by omega⟩
    exact ⟨_, (h.mem _).2 (.inl ⟨n, o, ho, rfl⟩), rfl⟩
theorem maxN_range (k : Nat) : maxN (List.range' 1 k) = k := by
  induction k with
  | zero => rfl
  | succ k ih => rw [List.range'_1_concat, maxN_snoc, ih]; omega
theorem Clm.max {l : List Th} {p : List UInt8} {os : List Og} {op : Nat → Bool} (h : Clm l p os op) : maxN (allN l (p ++ incp)) = os.length := by rw [h.all, maxN_range]
theorem orig_snoc (os : List Og) (o : Og) (n : Nat) : orig (os ++ [o]) n = if n = os.length + 1 then some o else orig os n := by
  unfold orig
  by_cases h0 : n = 0
  · subst h0; simp
  · rw [if_neg h0, if_neg h0]
    by_cases h1 : n = os.length + 1
    · subst h1; simp
    · rw [if_neg h1]
      by_cases h2 : n - 1 < os.length
      · rw [List.getElem?_append_left h2]
      · rw [List.getElem?_eq_none (by simp; omega), List.getElem?_eq_none (by omega)]
theorem Clm.free {l : List Th} {p : List UInt8} {os : List Og} {op : Nat → Bool} (h : Clm l p os op) : tget l (ikey p (os.length + 1)) = none := by
  rw [h.inc.get _ (by have := h.few; omega)]
  have : orig os (os.length + 1) = none := by
    cases ho : orig os (os.length + 1) with
    | none => rfl
    | some o => have := orig_le ho; omega
  rw [this]; rfl
theorem Clm.claim {l : List Th} {p : List UInt8} {os : List Og} {op : Nat → Bool} (h : Clm l p os op) (o : Og) (h1 : o.1 < 18446744073709551616) (h2 : o.2.1 < 18446744073709551616) (h3 : o.2.2.length ≤ 1000) (h4 : os.length + 1 ≤ 1000) :
    Clm (tput l (ikey p (os.length + 1)) (enc [o.1, o.2.1] o.2.2)) p (os ++ [o]) op := by
  refine ⟨tput_asc h.asc _ _, fun t => ?_, h.opb, fun x hx => ?_, by simp; omega⟩
  · rw [tput_mem_free h.free, h.mem]
    constructor
    · rintro ((⟨n, x, hx, rfl⟩ | hx) | rfl)
      · refine .inl ⟨n, x, ?_, rfl⟩
        rw [orig_snoc, if_neg (by have := orig_le hx; omega)]; exact hx
      · exact .inr hx
      · exact .inl ⟨os.length + 1, o, by rw [orig_snoc, if_pos rfl], rfl⟩
    · rintro (⟨n, x, hx, rfl⟩ | hx)
      · rw [orig_snoc] at hx
        split at hx
        · rename_i e
          cases hx
          subst e
          exact .inr rfl
        · exact .inl (.inl ⟨n, x, hx, rfl⟩)
      · exact .inl (.inr hx)
  · rcases List.mem_append.1 hx with hx | hx
    · exact h.bnd x hx
    · simp only [List.mem_singleton] at hx; subst hx; exact ⟨h1, h2, h3⟩
theorem Clm.opened {l : List Th} {p : List UInt8} {os : List Og} {op op' : Nat → Bool} (h : Clm l p os op) {n : Nat} (hn : n < 18446744073709551616) (ho : op n = false) (ho' : ∀ m, op' m = (op m || m == n)) : Clm (tput l (okey p n) []) p os op' := by
  have hfree : tget l (okey p n) = none := by rw [h.opn hn, ho]; rfl
  refine ⟨tput_asc h.asc _ _, fun t => ?_, fun m hm => ?_, h.bnd, h.few⟩
  · rw [tput_mem_free hfree, h.mem]
    constructor
    · rintro ((hx | ⟨m, hm, rfl⟩) | rfl)
      · exact .inl hx
      · exact .inr ⟨m, by rw [ho', hm]; rfl, rfl⟩
      · exact .inr ⟨n, by rw [ho']; simp, rfl⟩
    · rintro (hx | ⟨m, hm, rfl⟩)
      · exact .inl (.inl hx)
      · rw [ho', Bool.or_eq_true, beq_iff_eq] at hm
        rcases hm with hm | rfl
        · exact .inl (.inr ⟨m, hm, rfl⟩)
        · exact .inr rfl
  · rw [ho', Bool.or_eq_true, beq_iff_eq] at hm
    rcases hm with hm | rfl
    · exact h.opb m hm
    · exact hn
theorem Clm.names {l : List Th} {p : List UInt8} {os : List Og} {op : Nat → Bool} (h : Clm l p os op) (hp : p.length ≤ 100) : ∀ t ∈ l, t.1.length ≤ maxLen := by
  intro t ht
  rcases (h.mem t).1 ht with ⟨n, o, h1, rfl⟩ | ⟨n, h1, rfl⟩ <;> simp [ikey, okey, incp, openp, hex_len] <;> unfold maxLen <;> omega
end Go.Proofs.YtojgkjpmphfakaaGreatDoor
