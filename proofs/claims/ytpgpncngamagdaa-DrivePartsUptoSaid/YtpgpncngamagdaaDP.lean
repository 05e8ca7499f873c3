/- A drive in plain words: files by rising names, deeds, the drive. No program is named here. -/
import Derived.Test.YtpgpncngamagdaaGX
set_option linter.unusedVariables false
set_option linter.unusedSimpArgs false
namespace Go.Proofs.Ytpgpncngamagdaa
open Go.RowKit
abbrev By := List UInt8
abbrev Fl := List (By × By)
def fget : Fl → By → Option By
  | [], _ => none
  | (x, y) :: r, s => if s = x then some y else fget r s
def fput : Fl → By → By → Fl
  | [], s, l => [(s, l)]
  | (x, y) :: r, s, l => if s = x then (s, l) :: r else if s < x then (s, l) :: (x, y) :: r else (x, y) :: fput r s l
def fdel : Fl → By → Fl
  | [], _ => []
  | (x, y) :: r, s => if s = x then r else (x, y) :: fdel r s
def Srt (F : Fl) : Prop := F.Pairwise (fun a b => a.1 < b.1)
def tot (F : Fl) : Nat := (F.map (fun a => a.2.length)).sum
def foz (F : Fl) (s : By) : By := (fget F s).getD []
theorem by_irr (a : By) : ¬ a < a := List.lt_irrefl a
theorem by_tr {a b c : By} (h : a < b) (k : b < c) : a < c := List.lt_trans h k
theorem by_tri {a b : By} (h : a ≠ b) (k : ¬ a < b) : b < a := by
  refine Classical.byContradiction fun h2 => h ?_
  exact List.le_antisymm (List.not_lt.1 h2) (List.not_lt.1 k)
theorem Srt.nil : Srt [] := List.Pairwise.nil
theorem Srt.tail {a : By × By} {r : Fl} (h : Srt (a :: r)) : Srt r := (List.pairwise_cons.1 h).2
theorem fget_lt {x : By} {r : Fl} (h : ∀ a ∈ r, x < a.1) : fget r x = none := by
  induction r with
  | nil => rfl
  | cons a r ih =>
    obtain ⟨n, l⟩ := a
    have h1 := h (n, l) (List.mem_cons_self ..)
    rw [fget, if_neg (fun e => by subst e; exact by_irr _ h1)]
    exact ih fun a ha => h a (List.mem_cons_of_mem _ ha)
theorem fget_ltn {x s : By} {r : Fl} (h : ∀ a ∈ r, x < a.1) (k : s < x) : fget r s = none := fget_lt fun a ha => by_tr k (h a ha)
theorem fget_put {F : Fl} (hF : Srt F) (s l x : By) : fget (fput F s l) x = if x = s then some l else fget F x := by
  induction F with
  | nil => simp [fput, fget]
  | cons a r ih =>
    obtain ⟨n, m⟩ := a
    have h2 := (List.pairwise_cons.1 hF).1
    rw [fput]
    split
    · rename_i e; subst e
      simp only [fget]
      split <;> rfl
    · split
      · rename_i e e'
        rfl
      · rename_i e e'
        simp only [fget]
        split
        · rename_i e2; subst e2
          rw [if_neg (fun e3 => e e3.symm)]
        · exact ih hF.tail
theorem mem_put {F : Fl} {s l : By} {a : By × By} (h : a ∈ fput F s l) : a = (s, l) ∨ a ∈ F := by
  induction F with
  | nil => simp [fput] at h; exact .inl h
  | cons b r ih =>
    obtain ⟨n, m⟩ := b
    rw [fput] at h
    split at h
    · rcases List.mem_cons.1 h with h | h
      · exact .inl h
      · exact .inr (List.mem_cons_of_mem _ h)
    · split at h
      · rcases List.mem_cons.1 h with h | h
        · exact .inl h
        · exact .inr h
      · rcases List.mem_cons.1 h with h | h
        · exact .inr (h ▸ List.mem_cons_self ..)
        · rcases ih h with h | h
          · exact .inl h
          · exact .inr (List.mem_cons_of_mem _ h)
theorem Srt.put {F : Fl} (hF : Srt F) (s l : By) : Srt (fput F s l) := by
  induction F with
  | nil => exact List.pairwise_singleton _ _
  | cons a r ih =>
    obtain ⟨n, m⟩ := a
    have h2 := (List.pairwise_cons.1 hF).1
    rw [fput]
    split
    · rename_i e; subst e
      exact List.pairwise_cons.2 ⟨h2, hF.tail⟩
    · split
      · rename_i e e'
        refine List.pairwise_cons.2 ⟨fun a ha => ?_, hF⟩
        rcases List.mem_cons.1 ha with rfl | ha
        · exact e'
        · exact by_tr e' (h2 a ha)
      · rename_i e e'
        refine List.pairwise_cons.2 ⟨fun a ha => ?_, ih hF.tail⟩
        rcases mem_put ha with rfl | ha
        · exact by_tri e e'
        · exact h2 a ha
theorem len_put (F : Fl) (hF : Srt F) (s l : By) : (fput F s l).length = if (fget F s).isSome then F.length else F.length + 1 := by
  induction F with
  | nil => rfl
  | cons a r ih =>
    obtain ⟨n, m⟩ := a
    have h2 := (List.pairwise_cons.1 hF).1
    rw [fput, fget]
    split
    · rename_i e; subst e; simp
    · split
      · rename_i e e'
        rw [fget_ltn h2 e']; rfl
      · rw [List.length_cons, ih hF.tail]; split <;> simp_all
theorem tot_put (F : Fl) (hF : Srt F) (s l : By) : tot (fput F s l) + (foz F s).length = tot F + l.length := by
  unfold foz
  induction F with
  | nil => simp [fput, tot, fget]
  | cons a r ih =>
    obtain ⟨n, m⟩ := a
    have h2 := (List.pairwise_cons.1 hF).1
    rw [fput, fget]
    split
    · rename_i e; subst e; simp [tot]; omega
    · split
      · rename_i e e'
        rw [fget_ltn h2 e']; simp [tot]; omega
      · have := ih hF.tail
        simp only [tot, List.map_cons, List.sum_cons] at this ⊢
        omega
theorem mem_del {F : Fl} {s : By} {a : By × By} (h : a ∈ fdel F s) : a ∈ F := by
  induction F with
  | nil => exact h
  | cons b r ih =>
    obtain ⟨n, m⟩ := b
    rw [fdel] at h
    split at h
    · exact List.mem_cons_of_mem _ h
    · rcases List.mem_cons.1 h with h | h
      · exact h ▸ List.mem_cons_self ..
      · exact List.mem_cons_of_mem _ (ih h)
theorem Srt.del {F : Fl} (hF : Srt F) (s : By) : Srt (fdel F s) := by
  induction F with
  | nil => exact hF
  | cons a r ih =>
    obtain ⟨n, m⟩ := a
    have h2 := (List.pairwise_cons.1 hF).1
    rw [fdel]
    split
    · exact hF.tail
    · exact List.pairwise_cons.2 ⟨fun a ha => h2 a (mem_del ha), ih hF.tail⟩
theorem fget_del {F : Fl} (hF : Srt F) (s x : By) : fget (fdel F s) x = if x = s then none else fget F x := by
  induction F with
  | nil => simp [fdel, fget]
  | cons a r ih =>
    obtain ⟨n, m⟩ := a
    have h2 := (List.pairwise_cons.1 hF).1
    rw [fdel]
    split
    · rename_i e; subst e
      split
      · rename_i e2; subst e2; exact fget_lt h2
      · rename_i e2; rw [fget, if_neg e2]
    · rename_i e
      simp only [fget]
      split
      · rename_i e2; subst e2
        rw [if_neg (fun e3 => e e3.symm)]
      · exact ih hF.tail
theorem len_del (F : Fl) (s : By) : (fdel F s).length = if (fget F s).isSome then F.length - 1 else F.length := by
  induction F with
  | nil => rfl
  | cons a r ih =>
    obtain ⟨n, m⟩ := a
    rw [fdel, fget]
    split
    · simp
    · rw [List.length_cons, ih]
      split
      · rename_i h
        cases r with
        | nil => simp [fget] at h
        | cons b r => simp
      · simp
theorem tot_del (F : Fl) (s : By) : tot (fdel F s) + (foz F s).length = tot F := by
  unfold foz
  induction F with
  | nil => simp [fdel, tot, fget]
  | cons a r ih =>
    obtain ⟨n, m⟩ := a
    rw [fdel, fget]
    split
    · simp [tot]; omega
    · simp only [tot, List.map_cons, List.sum_cons] at ih ⊢
      omega
theorem foz_le (F : Fl) (s : By) : (foz F s).length ≤ tot F := by have := tot_del F s; omega
theorem fget_mem {F : Fl} {s l : By} (h : fget F s = some l) : (s, l) ∈ F := by
  induction F with
  | nil => cases h
  | cons a r ih =>
    obtain ⟨n, m⟩ := a
    rw [fget] at h
    split at h
    · rename_i e; subst e; cases h; exact List.mem_cons_self ..
    · exact List.mem_cons_of_mem _ (ih h)
theorem fget_of_mem {F : Fl} (hF : Srt F) {s l : By} (h : (s, l) ∈ F) : fget F s = some l := by
  induction F with
  | nil => cases h
  | cons a r ih =>
    obtain ⟨n, m⟩ := a
    have h2 := (List.pairwise_cons.1 hF).1
    rw [fget]
    rcases List.mem_cons.1 h with h | h
    · cases h; rw [if_pos rfl]
    · have h3 := h2 _ h
      rw [if_neg (fun e => by subst e; exact by_irr _ h3)]; exact ih hF.tail h
/-- bytes at a place -/
def wrt (o : By) (at_ : Nat) (x : By) : By :=
  let b := o ++ List.replicate (max o.length (at_ + x.length) - o.length) 0
  b.take at_ ++ x ++ b.drop (at_ + x.length)
theorem wrt_len (o : By) (i : Nat) (x : By) : (wrt o i x).length = max o.length (i + x.length) := by
  simp only [wrt, List.length_append, List.length_take, List.length_drop, List.length_replicate]; omega
theorem wrt_end (o x : By) : wrt o o.length x = o ++ x := by
  simp only [wrt]
  have h1 : (o ++ List.replicate (max o.length (o.length + x.length) - o.length) (0 : UInt8)).take o.length = o := List.take_left
  have h2 : (o ++ List.replicate (max o.length (o.length + x.length) - o.length) (0 : UInt8)).drop (o.length + x.length) = [] := List.drop_of_length_le (by simp only [List.length_append, List.length_replicate]; omega)
  rw [h1, h2, List.append_nil]
inductive Dd where
  | write (n : By) (i : Nat) (l : By)
  | trim (n : By) (k : Nat)
  | ren (a b : By)
  | rem (n : By)
def Dd.units : Dd → Nat
  | .write _ _ l => l.length + 1
  | _ => 1
def ddo (F : Fl) (x : Dd) (k : Nat) : Fl :=
  match x with
  | .write n i l => fput F n (wrt (foz F n) i (l.take (k - 1)))
  | .trim n sz => fput F n ((foz F n).take sz)
  | .ren a b => fput (fdel F a) b (foz F a)
  | .rem n => fdel F n
theorem Srt.ddo {F : Fl} (h : Srt F) (x : Dd) (k : Nat) : Srt (ddo F x k) := by
  cases x
  · exact h.put _ _
  · exact h.put _ _
  · exact (h.del _).put _ _
  · exact h.del _
theorem Dd.pos (x : Dd) : 1 ≤ x.units := by cases x <;> simp [Dd.units]
/-- may a deed be done to these files? -/
def Dok (F : Fl) (x : Dd) : Prop :=
  match x with
  | .write n i l => i ≤ (foz F n).length ∧ (foz F n).length ≤ lim ∧ i + l.length ≤ lim
  | .trim n sz => sz ≤ (foz F n).length
  | _ => True
structure Dm where
  safe : Fl
  seen : Fl
  queue : List Dd
  room : Int
  armed : Bool
  left : Int
  dead : Bool
def mayR (d : Dm) (e : Int) : Bool × Bool × Int := if d.dead then (false, false, 9) else if e ≠ 0 then (false, false, e) else if d.armed ∧ d.left = 0 then (false, true, 9) else (true, false, 0)
def mayD (d : Dm) (e : Int) : Dm := if d.dead then d else if e ≠ 0 then d else if d.armed then (if d.left = 0 then { d with dead := true } else { d with left := d.left - 1 }) else d
def rawD (d : Dm) (x : Dd) (e : Int) : Dm := if d.dead = false ∧ e = 0 then { mayD d e with seen := ddo d.seen x x.units, queue := d.queue ++ [x] } else d
def rawE (d : Dm) (e : Int) : Int := (mayR d e).2.2
def wrE (d : Dm) (n : By) (i : Int) (l : Nat) : Int := if i < 0 ∨ ((foz d.seen n).length : Int) < i then 1 else if d.room - (tot d.seen : Int) < (l : Int) - ((foz d.seen n).length - i) then 8 else 0
def thE (d : Dm) (n : By) : Int := if (fget d.seen n).isSome then 0 else 6
def flD (d : Dm) : Dm := if d.dead then d else if d.armed ∧ d.left = 0 then { d with dead := true } else { mayD d 0 with safe := d.seen, queue := [] }
def after (F : Fl) : List Dd → Nat → Fl
  | [], _ => F
  | x :: r, k => if min k x.units = 0 then F else after (ddo F x (min k x.units)) r (k - min k x.units)
def units (q : List Dd) : Nat := (q.map Dd.units).sum
def crK (d : Dm) (k : Int) : Nat := (k % ((units d.queue : Int) + 1)).toNat
def crD (d : Dm) (k : Int) : Dm := { safe := after d.safe d.queue (crK d k), seen := after d.safe d.queue (crK d k), queue := [], room := d.room, armed := false, left := 0, dead := false }
end Go.Proofs.Ytpgpncngamagdaa
