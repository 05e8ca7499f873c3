/- A table of locks in plain words: transactions in order, each with its ranges. -/
import Derived.Test.YteejlmeinndlhaaLC
set_option linter.unusedVariables false
set_option linter.unusedSimpArgs false
namespace Go.Proofs.Yteejlmeinndlhaa
open Go.RowKit
abbrev Tb := List (Tx × List Rg)
theorem tk_irr (a : Tx) : ¬ tkey a < tkey a := Nat.lt_irrefl _
theorem tk_tr {a b c : Tx} (h : tkey a < tkey b) (k : tkey b < tkey c) : tkey a < tkey c := Nat.lt_trans h k
theorem tk_tri {a b : Tx} (h : a ≠ b) (k : ¬ tkey a < tkey b) : tkey b < tkey a := by
  have : tkey a ≠ tkey b := fun e => h (tkey_inj e)
  omega
def tget : Tb → Tx → Option (List Rg)
  | [], _ => none
  | (x, y) :: r, s => if s = x then some y else tget r s
def tput : Tb → Tx → List Rg → Tb
  | [], s, l => [(s, l)]
  | (x, y) :: r, s, l => if s = x then (s, l) :: r else if tkey s < tkey x then (s, l) :: (x, y) :: r else (x, y) :: tput r s l
def tdel : Tb → Tx → Tb
  | [], _ => []
  | (x, y) :: r, s => if s = x then r else (x, y) :: tdel r s
def Tsrt (F : Tb) : Prop := F.Pairwise (fun a b => tkey a.1 < tkey b.1)
theorem Tsrt.nil : Tsrt [] := List.Pairwise.nil
theorem Tsrt.tail {a : Tx × List Rg} {r : Tb} (h : Tsrt (a :: r)) : Tsrt r := (List.pairwise_cons.1 h).2
theorem tget_lt {x : Tx} {r : Tb} (h : ∀ a ∈ r, tkey x < tkey a.1) : tget r x = none := by
  induction r with
  | nil => rfl
  | cons a r ih =>
    obtain ⟨n, l⟩ := a
    have h1 := h (n, l) (List.mem_cons_self ..)
    rw [tget, if_neg (fun e => by subst e; exact tk_irr _ h1)]
    exact ih fun a ha => h a (List.mem_cons_of_mem _ ha)
theorem tget_ltn {x s : Tx} {r : Tb} (h : ∀ a ∈ r, tkey x < tkey a.1) (k : tkey s < tkey x) : tget r s = none := tget_lt fun a ha => tk_tr k (h a ha)
theorem tget_put {F : Tb} (hF : Tsrt F) (s : Tx) (l : List Rg) (x : Tx) : tget (tput F s l) x = if x = s then some l else tget F x := by
  induction F with
  | nil => simp [tput, tget]
  | cons a r ih =>
    obtain ⟨n, m⟩ := a
    have h2 := (List.pairwise_cons.1 hF).1
    rw [tput]
    split
    · rename_i e; subst e
      simp only [tget]
      split <;> rfl
    · split
      · rename_i e e'
        rfl
      · rename_i e e'
        simp only [tget]
        split
        · rename_i e2; subst e2
          rw [if_neg (fun e3 => e e3.symm)]
        · exact ih hF.tail
theorem mem_tput {F : Tb} {s : Tx} {l : List Rg} {a : Tx × List Rg} (h : a ∈ tput F s l) : a = (s, l) ∨ a ∈ F := by
  induction F with
  | nil => simp [tput] at h; exact .inl h
  | cons b r ih =>
    obtain ⟨n, m⟩ := b
    rw [tput] at h
    split at h
    · rcases List.mem_cons.1 h with h | h
      · exact .inl h
      · exact .inr (List.mem_cons_of_mem _ h)
    · split at h
      · rcases List.mem_cons.1 h with h | h
        · exact .inl h
        · exact .inr h
      · rcases List.mem_cons.1 h with h | h
        · exact .inr (h ▸ List.mem_cons_self ..)
        · rcases ih h with h | h
          · exact .inl h
          · exact .inr (List.mem_cons_of_mem _ h)
theorem Tsrt.put {F : Tb} (hF : Tsrt F) (s : Tx) (l : List Rg) : Tsrt (tput F s l) := by
  induction F with
  | nil => exact List.pairwise_singleton _ _
  | cons a r ih =>
    obtain ⟨n, m⟩ := a
    have h2 := (List.pairwise_cons.1 hF).1
    rw [tput]
    split
    · rename_i e; subst e
      exact List.pairwise_cons.2 ⟨h2, hF.tail⟩
    · split
      · rename_i e e'
        refine List.pairwise_cons.2 ⟨fun a ha => ?_, hF⟩
        rcases List.mem_cons.1 ha with rfl | ha
        · exact e'
        · exact tk_tr e' (h2 a ha)
      · rename_i e e'
        refine List.pairwise_cons.2 ⟨fun a ha => ?_, ih hF.tail⟩
        rcases mem_tput ha with rfl | ha
        · exact tk_tri e e'
        · exact h2 a ha
theorem len_tput (F : Tb) (hF : Tsrt F) (s : Tx) (l : List Rg) : (tput F s l).length = if (tget F s).isSome then F.length else F.length + 1 := by
  induction F with
  | nil => rfl
  | cons a r ih =>
    obtain ⟨n, m⟩ := a
    have h2 := (List.pairwise_cons.1 hF).1
    rw [tput, tget]
    split
    · rename_i e; subst e; simp
    · split
      · rename_i e e'
        rw [tget_ltn h2 e']; rfl
      · rw [List.length_cons, ih hF.tail]; split <;> simp_all
theorem mem_tdel {F : Tb} {s : Tx} {a : Tx × List Rg} (h : a ∈ tdel F s) : a ∈ F := by
  induction F with
  | nil => exact h
  | cons b r ih =>
    obtain ⟨n, m⟩ := b
    rw [tdel] at h
    split at h
    · exact List.mem_cons_of_mem _ h
    · rcases List.mem_cons.1 h with h | h
      · exact h ▸ List.mem_cons_self ..
      · exact List.mem_cons_of_mem _ (ih h)
theorem Tsrt.del {F : Tb} (hF : Tsrt F) (s : Tx) : Tsrt (tdel F s) := by
  induction F with
  | nil => exact hF
  | cons a r ih =>
    obtain ⟨n, m⟩ := a
    have h2 := (List.pairwise_cons.1 hF).1
    rw [tdel]
    split
    · exact hF.tail
    · exact List.pairwise_cons.2 ⟨fun a ha => h2 a (mem_tdel ha), ih hF.tail⟩
theorem tget_del {F : Tb} (hF : Tsrt F) (s x : Tx) : tget (tdel F s) x = if x = s then none else tget F x := by
  induction F with
  | nil => simp [tdel, tget]
  | cons a r ih =>
    obtain ⟨n, m⟩ := a
    have h2 := (List.pairwise_cons.1 hF).1
    rw [tdel]
    split
    · rename_i e; subst e
      split
      · rename_i e2; subst e2; exact tget_lt h2
      · rename_i e2; rw [tget, if_neg e2]
    · rename_i e
      simp only [tget]
      split
      · rename_i e2; subst e2
        rw [if_neg (fun e3 => e e3.symm)]
      · exact ih hF.tail
theorem len_tdel (F : Tb) (s : Tx) : (tdel F s).length = if (tget F s).isSome then F.length - 1 else F.length := by
  induction F with
  | nil => rfl
  | cons a r ih =>
    obtain ⟨n, m⟩ := a
    rw [tdel, tget]
    split
    · simp
    · rw [List.length_cons, ih]
      split
      · rename_i h
        cases r with
        | nil => simp [tget] at h
        | cons b r => simp
      · simp
theorem tget_mem {F : Tb} {s : Tx} {l : List Rg} (h : tget F s = some l) : (s, l) ∈ F := by
  induction F with
  | nil => cases h
  | cons a r ih =>
    obtain ⟨n, m⟩ := a
    rw [tget] at h
    split at h
    · rename_i e; subst e; cases h; exact List.mem_cons_self ..
    · exact List.mem_cons_of_mem _ (ih h)
theorem tget_of_mem {F : Tb} (hF : Tsrt F) {s : Tx} {l : List Rg} (h : (s, l) ∈ F) : tget F s = some l := by
  induction F with
  | nil => cases h
  | cons a r ih =>
    obtain ⟨n, m⟩ := a
    have h2 := (List.pairwise_cons.1 hF).1
    rw [tget]
    rcases List.mem_cons.1 h with h | h
    · cases h; rw [if_pos rfl]
    · have h3 := h2 _ h
      rw [if_neg (fun e => by subst e; exact tk_irr _ h3)]; exact ih hF.tail h
end Go.Proofs.Yteejlmeinndlhaa
