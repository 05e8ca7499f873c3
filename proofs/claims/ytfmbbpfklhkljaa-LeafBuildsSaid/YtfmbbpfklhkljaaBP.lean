/- Keys put in and taken out of an ascending row, in plain lists. -/
import Derived.Test.YtfmbbpfklhkljaaRWb
import Derived.Test.YtfmbbpfklhkljaaFI
set_option linter.unusedVariables false
namespace Go.Proofs.Ytfmbbpfklhkljaa
open Go.RowKit
theorem cmp_anti : ∀ (a b : List UInt8), ¬ cmp a b < 0 → a ≠ b → cmp b a < 0
  | [], [], _, h => absurd rfl h
  | [], _ :: _, h, _ => by simp [cmp] at h
  | _ :: _, [], _, _ => by simp [cmp]
  | x :: a, y :: b, h, k => by
    rw [cmp] at h ⊢
    by_cases h1 : x.toNat < y.toNat
    · rw [if_pos (by omega)] at h; exact absurd (by decide) h
    · rw [if_neg (by omega)] at h
      by_cases h2 : y.toNat < x.toNat
      · rw [if_pos (by omega)]; decide
      · rw [if_neg (by omega)] at h
        rw [if_neg (by omega), if_neg (by omega)]
        have hxy : x = y := UInt8.toNat_inj.1 (by omega)
        subst hxy
        exact cmp_anti a b h fun e => k (by rw [e])
theorem cmp_self (a : List UInt8) : cmp a a = 0 := (cmp_zero a a).2 rfl
abbrev Pw (l : List (List UInt8)) : Prop := l.Pairwise fun a b => cmp a b < 0
theorem asc_pw {l : List (List UInt8)} : asc l = true ↔ Pw l := by
  constructor
  · intro h
    rw [Pw, List.pairwise_iff_getElem]
    intro i j hi hj hij
    have := asc_lt h (j - i - 1) i (by omega)
    simp only [show i + (j - i - 1) + 1 = j by omega] at this
    exact this
  · intro h
    rw [asc_iff]
    intro i hi
    exact List.pairwise_iff_getElem.1 h i (i + 1) (by omega) hi (by omega)
def insK (l : List (List UInt8)) (k : List UInt8) : List (List UInt8) := if hit l k then l else l.take (pos l k) ++ [k] ++ l.drop (pos l k)
def delK (l : List (List UInt8)) (k : List UInt8) : List (List UInt8) := if hit l k then l.take (pos l k) ++ l.drop (pos l k + 1) else l
theorem pos_cons_lt {x k : List UInt8} {l : List (List UInt8)} (h : cmp x k < 0) : pos (x :: l) k = pos l k + 1 := by
  unfold pos; rw [List.takeWhile_cons_of_pos (by simpa using h)]; rfl
theorem pos_cons_ge {x k : List UInt8} {l : List (List UInt8)} (h : ¬ cmp x k < 0) : pos (x :: l) k = 0 := by
  unfold pos; rw [List.takeWhile_cons_of_neg (by simpa using h)]; rfl
theorem hit_cons_lt {x k : List UInt8} {l : List (List UInt8)} (h : cmp x k < 0) : hit (x :: l) k = hit l k := by
  unfold hit; rw [pos_cons_lt h]; simp
theorem hit_cons_ge {x k : List UInt8} {l : List (List UInt8)} (h : ¬ cmp x k < 0) : hit (x :: l) k = (cmp x k == 0) := by
  unfold hit; rw [pos_cons_ge h]; simp
theorem insK_cons (x k : List UInt8) (l : List (List UInt8)) : insK (x :: l) k = if cmp x k < 0 then x :: insK l k else if x = k then x :: l else k :: x :: l := by
  unfold insK
  by_cases h : cmp x k < 0
  · rw [if_pos h, hit_cons_lt h, pos_cons_lt h]; split <;> simp
  · rw [if_neg h, hit_cons_ge h, pos_cons_ge h]
    by_cases e : x = k
    · subst e; simp [cmp_self]
    · rw [if_neg e, if_neg (by simp [cmp_zero, e])]; simp
theorem delK_cons (x k : List UInt8) (l : List (List UInt8)) : delK (x :: l) k = if cmp x k < 0 then x :: delK l k else if x = k then l else x :: l := by
  unfold delK
  by_cases h : cmp x k < 0
  · rw [if_pos h, hit_cons_lt h, pos_cons_lt h]; split <;> simp
  · rw [if_neg h, hit_cons_ge h, pos_cons_ge h]
    by_cases e : x = k
    · subst e; simp [cmp_self]
    · rw [if_neg e, if_neg (by simp [cmp_zero, e])]
theorem insK_mem (k y : List UInt8) : ∀ (l : List (List UInt8)), y ∈ insK l k ↔ y = k ∨ y ∈ l
  | [] => by simp [insK, hit, pos]
  | x :: l => by
    rw [insK_cons]
    split
    · rw [List.mem_cons, insK_mem k y l, List.mem_cons]
      constructor
      · rintro (h | h | h) <;> simp [h]
      · rintro (h | h | h) <;> simp [h]
    · split
      · rename_i h; subst h; simp
      · simp
theorem insK_pw (k : List UInt8) : ∀ (l : List (List UInt8)), Pw l → Pw (insK l k)
  | [], _ => by simp [insK, hit, pos]
  | x :: l, h => by
    have h' := List.pairwise_cons.1 h
    rw [insK_cons]
    split
    · rename_i hx
      refine List.pairwise_cons.2 ⟨fun y hy => ?_, insK_pw k l h'.2⟩
      rcases (insK_mem k y l).1 hy with e | e
      · rw [e]; exact hx
      · exact h'.1 y e
    · split
      · exact h
      · rename_i h1 h2
        have hk := cmp_anti _ _ h1 h2
        refine List.pairwise_cons.2 ⟨fun y hy => ?_, h⟩
        rcases List.mem_cons.1 hy with e | e
        · rw [e]; exact hk
        · exact cmp_lt_trans _ _ _ hk (h'.1 y e)
theorem delK_mem (k y : List UInt8) : ∀ (l : List (List UInt8)), Pw l → (y ∈ delK l k ↔ y ∈ l ∧ y ≠ k)
  | [], _ => by simp [delK]
  | x :: l, h => by
    have h' := List.pairwise_cons.1 h
    rw [delK_cons]
    split
    · rename_i hx
      have hne : x ≠ k := fun e => by rw [e, cmp_self] at hx; exact absurd hx (by decide)
      rw [List.mem_cons, delK_mem k y l h'.2, List.mem_cons]
      constructor
      · rintro (e | ⟨e1, e2⟩)
        · exact ⟨.inl e, by rw [e]; exact hne⟩
        · exact ⟨.inr e1, e2⟩
      · rintro ⟨e | e, e2⟩
        · exact .inl e
        · exact .inr ⟨e, e2⟩
    · split
      · rename_i h1 e
        subst e
        rw [List.mem_cons]
        constructor
        · intro hy
          refine ⟨.inr hy, fun e => ?_⟩
          have := h'.1 y hy
          rw [e, cmp_self] at this; exact absurd this (by decide)
        · rintro ⟨e | e, e2⟩
          · exact absurd e e2
          · exact e
      · rename_i h1 h2
        have hk := cmp_anti _ _ h1 h2
        constructor
        · intro hy
          refine ⟨hy, fun e => ?_⟩
          subst e
          rcases List.mem_cons.1 hy with e | e
          · exact h2 e.symm
          · exact h1 (h'.1 _ e)
        · exact fun ⟨e, _⟩ => e
theorem delK_pw (k : List UInt8) : ∀ (l : List (List UInt8)), Pw l → Pw (delK l k)
  | [], _ => by simp [delK]
  | x :: l, h => by
    have h' := List.pairwise_cons.1 h
    rw [delK_cons]
    split
    · refine List.pairwise_cons.2 ⟨fun y hy => h'.1 y ((delK_mem k y l h'.2).1 hy).1, delK_pw k l h'.2⟩
    · split
      · exact h'.2
      · exact h
theorem eq_of_pw : ∀ (l m : List (List UInt8)), Pw l → Pw m → (∀ x, x ∈ l ↔ x ∈ m) → l = m
  | [], [], _, _, _ => rfl
  | [], y :: m, _, _, h => absurd ((h y).2 (List.mem_cons_self ..)) (by simp)
  | x :: l, [], _, _, h => absurd ((h x).1 (List.mem_cons_self ..)) (by simp)
  | x :: l, y :: m, hl, hm, h => by
    have hl' := List.pairwise_cons.1 hl
    have hm' := List.pairwise_cons.1 hm
    have nsym : ∀ a b : List UInt8, cmp a b < 0 → ¬ cmp b a < 0 := fun a b h1 h2 => by
      have := cmp_lt_trans _ _ _ h1 h2
      rw [cmp_self] at this; exact absurd this (by decide)
    have hxy : x = y := by
      rcases List.mem_cons.1 ((h x).1 (List.mem_cons_self ..)) with e | e
      · exact e
      · rcases List.mem_cons.1 ((h y).2 (List.mem_cons_self ..)) with e' | e'
        · exact e'.symm
        · exact absurd (hl'.1 y e') (nsym _ _ (hm'.1 x e))
    subst hxy
    have irr : ∀ a : List UInt8, ¬ cmp a a < 0 := fun a h => by rw [cmp_self] at h; exact absurd h (by decide)
    rw [eq_of_pw l m hl'.2 hm'.2 fun z => ?_]
    constructor
    · intro hz
      rcases List.mem_cons.1 ((h z).1 (List.mem_cons_of_mem _ hz)) with e | e
      · subst e; exact absurd (hl'.1 _ hz) (irr _)
      · exact e
    · intro hz
      rcases List.mem_cons.1 ((h z).2 (List.mem_cons_of_mem _ hz)) with e | e
      · subst e; exact absurd (hm'.1 _ hz) (irr _)
      · exact e
/-- the keys in the order that from and step say, put in -/
def bld (ks : List (List UInt8)) (f s : Nat) : Nat → List (List UInt8)
  | 0 => []
  | i + 1 => insK (bld ks f s i) (ks.getD ((f + i * s) % ks.length) [])
theorem bld_pw (ks : List (List UInt8)) (f s : Nat) : ∀ i, Pw (bld ks f s i)
  | 0 => List.Pairwise.nil
  | i + 1 => insK_pw _ _ (bld_pw ks f s i)
theorem bld_mem (ks : List (List UInt8)) (f s : Nat) (x : List UInt8) : ∀ i, x ∈ bld ks f s i ↔ ∃ j, j < i ∧ x = ks.getD ((f + j * s) % ks.length) []
  | 0 => by simp [bld]
  | i + 1 => by
    rw [bld, insK_mem, bld_mem ks f s x i]
    constructor
    · rintro (e | ⟨j, h1, h2⟩)
      · exact ⟨i, by omega, e⟩
      · exact ⟨j, by omega, h2⟩
    · rintro ⟨j, h1, h2⟩
      by_cases e : j = i
      · subst e; exact .inl h2
      · exact .inr ⟨j, by omega, h2⟩
theorem insK_len (l : List (List UInt8)) (k : List UInt8) : (insK l k).length ≤ l.length + 1 := by
  unfold insK; have := pos_le l k
  split <;> simp <;> omega
theorem bld_len (ks : List (List UInt8)) (f s : Nat) : ∀ i, (bld ks f s i).length ≤ i
  | 0 => by simp [bld]
  | i + 1 => by have := insK_len (bld ks f s i) (ks.getD ((f + i * s) % ks.length) []); have := bld_len ks f s i; rw [bld]; omega
theorem getD_mem {ks : List (List UInt8)} {i : Nat} (h : i < ks.length) : ks.getD i [] ∈ ks := by
  rw [List.getD_eq_getElem?_getD, List.getElem?_eq_getElem h]; exact List.getElem_mem h
theorem mem_getD {ks : List (List UInt8)} {x : List UInt8} (h : x ∈ ks) : ∃ i, i < ks.length ∧ x = ks.getD i [] := by
  obtain ⟨i, hi, e⟩ := List.getElem_of_mem h
  exact ⟨i, hi, by rw [List.getD_eq_getElem?_getD, List.getElem?_eq_getElem hi]; exact e.symm⟩
/-- a round that visits every key has all of them -/
theorem bld_all {ks : List (List UInt8)} {f s : Nat} (h0 : 0 < ks.length) (h : ∀ t, t < ks.length → ∃ j, j < ks.length ∧ (f + j * s) % ks.length = t) (x : List UInt8) : x ∈ bld ks f s ks.length ↔ x ∈ ks := by
  rw [bld_mem]
  constructor
  · rintro ⟨j, _, e⟩
    rw [e]; exact getD_mem (Nat.mod_lt _ h0)
  · intro hx
    obtain ⟨t, ht, e⟩ := mem_getD hx
    obtain ⟨j, hj, e'⟩ := h t ht
    exact ⟨j, hj, by rw [e']; exact e⟩
theorem step_one {n f : Nat} (hf : f < n) (t : Nat) (ht : t < n) : ∃ j, j < n ∧ (f + j * 1) % n = t := by
  by_cases h : f ≤ t
  · exact ⟨t - f, by omega, by rw [show f + (t - f) * 1 = t by omega]; exact Nat.mod_eq_of_lt ht⟩
  · refine ⟨t + n - f, by omega, ?_⟩
    rw [show f + (t + n - f) * 1 = t + n by omega, Nat.add_mod_right]; exact Nat.mod_eq_of_lt ht
theorem step_back {n : Nat} (t : Nat) (ht : t < n) : ∃ j, j < n ∧ (n - 1 + j * (n - 1)) % n = t := by
  refine ⟨n - 1 - t, by omega, ?_⟩
  obtain ⟨m, rfl⟩ : ∃ m, n = m + 1 := ⟨n - 1, by omega⟩
  simp only [Nat.add_sub_cancel]
  obtain ⟨d, rfl⟩ : ∃ d, m = t + d := ⟨m - t, by omega⟩
  rw [show t + d + (t + d - t) * (t + d) = t + (t + d + 1) * d by
    have : (t + d + 1) * d = d * (t + d) + d := by rw [Nat.add_mul, Nat.one_mul, Nat.mul_comm (t + d)]
    rw [show t + d - t = d by omega]; omega]
  rw [Nat.add_mul_mod_self_left]; exact Nat.mod_eq_of_lt ht
theorem bld_one {ks : List (List UInt8)} {f : Nat} (hf : f < ks.length) : bld ks f 1 ks.length = bld ks 0 1 ks.length :=
  eq_of_pw _ _ (bld_pw ..) (bld_pw ..) fun x => by
    rw [bld_all (by omega) (step_one hf), bld_all (by omega) (step_one (by omega))]
theorem bld_back {ks : List (List UInt8)} (h0 : 0 < ks.length) : bld ks (ks.length - 1) (ks.length - 1) ks.length = bld ks 0 1 ks.length :=
  eq_of_pw _ _ (bld_pw ..) (bld_pw ..) fun x => by
    rw [bld_all h0 step_back, bld_all (by omega) (step_one (by omega))]
/-- the keys taken out, one by one -/
def dls (l ks : List (List UInt8)) : Nat → List (List UInt8)
  | 0 => l
  | i + 1 => delK (dls l ks i) (ks.getD i [])
theorem dls_pw {l ks : List (List UInt8)} (h : Pw l) : ∀ i, Pw (dls l ks i)
  | 0 => h
  | i + 1 => delK_pw _ _ (dls_pw h i)
theorem dls_mem {l ks : List (List UInt8)} (h : Pw l) (x : List UInt8) : ∀ i, x ∈ dls l ks i ↔ x ∈ l ∧ ∀ j, j < i → x ≠ ks.getD j []
  | 0 => by simp [dls]
  | i + 1 => by
    rw [dls, delK_mem _ _ _ (dls_pw h i), dls_mem h x i]
    constructor
    · rintro ⟨⟨h1, h2⟩, h3⟩
      refine ⟨h1, fun j hj => ?_⟩
      by_cases e : j = i
      · subst e; exact h3
      · exact h2 j (by omega)
    · rintro ⟨h1, h2⟩
      exact ⟨⟨h1, fun j hj => h2 j (by omega)⟩, h2 i (by omega)⟩
theorem dls_end {ks : List (List UInt8)} (h0 : 0 < ks.length) (f : Nat) (hf : f < ks.length) : dls (bld ks f 1 ks.length) ks ks.length = [] := by
  refine List.eq_nil_iff_forall_not_mem.2 fun x hx => ?_
  obtain ⟨h1, h2⟩ := (dls_mem (bld_pw ..) x _).1 hx
  obtain ⟨i, hi, e⟩ := mem_getD ((bld_all h0 (step_one hf) x).1 h1)
  exact h2 i hi e
theorem dls_len (l ks : List (List UInt8)) : ∀ i, (dls l ks i).length ≤ l.length
  | 0 => Nat.le_refl _
  | i + 1 => by
    have := dls_len l ks i
    have h : (delK (dls l ks i) (ks.getD i [])).length ≤ (dls l ks i).length := by unfold delK; split <;> simp <;> omega
    rw [dls]; omega
/-- a node that holds each key as its value too -/
def twn (l : List (List UInt8)) : Nd := ⟨true, l, l, []⟩
theorem wth_twn (l : List (List UInt8)) (k : List UInt8) (h : hit l k = false) : wth (twn l) (pos l k) k k = twn (insK l k) := by
  have := pos_le l k
  unfold wth twn insK
  rw [if_pos ⟨rfl, by omega, by simp; omega, by simp; omega⟩, h]
  simp
theorem wout_twn (l : List (List UInt8)) (k : List UInt8) (h : hit l k = true) : wout (twn l) (pos l k) = twn (delK l k) := by
  have hp : pos l k < l.length := by unfold hit at h; simp at h; exact h.1
  unfold wout twn delK
  rw [if_pos ⟨rfl, by omega, by simp; omega, by simp; omega⟩, h]
  simp
theorem insK_hit (l : List (List UInt8)) (k : List UInt8) (h : hit l k = true) : insK l k = l := by unfold insK; rw [h]; rfl
theorem delK_hit (l : List (List UInt8)) (k : List UInt8) (h : hit l k = false) : delK l k = l := by unfold delK; rw [h]; rfl
end Go.Proofs.Ytfmbbpfklhkljaa
