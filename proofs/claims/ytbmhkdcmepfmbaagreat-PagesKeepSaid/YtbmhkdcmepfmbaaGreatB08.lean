/- Closed facts of the translation that all rows use. A drive in plain words: files by rising names, deeds, the drive. No program is named here. The drive in memory; frames. New, may, there, the units of deeds. What deeds do to files. What trim and rename do to files. -/
import Derived.Test.YtbmhkdcmepfmbaaGreatB03
import Derived.Test.YtbmhkdcmepfmbaaGreatRows
import Derived.Test.YtbmhkdcmepfmbaaGreatChecked
import Derived.Test.YtbmhkdcmepfmbaaGreatB05
import Derived.Handy
import Derived.Laws.CopyOwn
import Derived.BigRegion
namespace Go.Proofs.YtbmhkdcmepfmbaaGreat
theorem Tryz.laidOut : laidOutB Tryz.prog = true := by kernel_rfl
theorem Tryz.own : ownKnob Tryz.prog.godebug = none := by kernel_rfl
end Go.Proofs.YtbmhkdcmepfmbaaGreat
set_option linter.unusedVariables false
set_option linter.unusedSimpArgs false
namespace Go.Proofs.YtbmhkdcmepfmbaaGreat
open Go.RowKit
abbrev By := List UInt8
abbrev Fl := List (By × By)
def fget : Fl → By → Option By
  | [], _ => none
  | (x, y) :: r, s => if s = x then some y else fget r s
def fput : Fl → By → By → Fl
  | [], s, l => [(s, l)]
  | (x, y) :: r, s, l => if s = x then (s, l) :: r else if s < x then (s, l) :: (x, y) :: r else (x, y) :: fput r s l
def fdel : Fl → By → Fl
  | [], _ => []
  | (x, y) :: r, s => if s = x then r else (x, y) :: fdel r s
def Srt (F : Fl) : Prop := F.Pairwise (fun a b => a.1 < b.1)
def tot (F : Fl) : Nat := (F.map (fun a => a.2.length)).sum
def foz (F : Fl) (s : By) : By := (fget F s).getD []
theorem by_irr (a : By) : ¬ a < a := List.lt_irrefl a
theorem by_tr {a b c : By} (h : a < b) (k : b < c) : a < c := List.lt_trans h k
theorem by_tri {a b : By} (h : a ≠ b) (k : ¬ a < b) : b < a := by
  refine Classical.byContradiction fun h2 => h ?_
  exact List.le_antisymm (List.not_lt.1 h2) (List.not_lt.1 k)
theorem Srt.nil : Srt [] := List.Pairwise.nil
theorem Srt.tail {a : By × By} {r : Fl} (h : Srt (a :: r)) : Srt r := (List.pairwise_cons.1 h).2
theorem fget_lt {x : By} {r : Fl} (h : ∀ a ∈ r, x < a.1) : fget r x = none := by
  induction r with
  | nil => rfl
  | cons a r ih =>
    obtain ⟨n, l⟩ := a
    have h1 := h (n, l) (List.mem_cons_self ..)
    rw [fget, if_neg (fun e => by subst e; exact by_irr _ h1)]
    exact ih fun a ha => h a (List.mem_cons_of_mem _ ha)
theorem fget_ltn {x s : By} {r : Fl} (h : ∀ a ∈ r, x < a.1) (k : s < x) : fget r s = none := fget_lt fun a ha => by_tr k (h a ha)
theorem fget_put {F : Fl} (hF : Srt F) (s l x : By) : fget (fput F s l) x = if x = s then some l else fget F x := by
  induction F with
  | nil => simp [fput, fget]
  | cons a r ih =>
    obtain ⟨n, m⟩ := a
    have h2 := (List.pairwise_cons.1 hF).1
    rw [fput]
    split
    · rename_i e; subst e
      simp only [fget]
      split <;> rfl
    · split
      · rename_i e e'
        rfl
      · rename_i e e'
        simp only [fget]
        split
        · rename_i e2; subst e2
          rw [if_neg (fun e3 => e e3.symm)]
        · exact ih hF.tail
theorem mem_put {F : Fl} {s l : By} {a : By × By} (h : a ∈ fput F s l) : a = (s, l) ∨ a ∈ F := by
  induction F with
  | nil => simp [fput] at h; exact .inl h
  | cons b r ih =>
    obtain ⟨n, m⟩ := b
    rw [fput] at h
    split at h
    · rcases List.mem_cons.1 h with h | h
      · exact .inl h
      · exact .inr (List.mem_cons_of_mem _ h)
    · split at h
      · rcases List.mem_cons.1 h with h | h
        · exact .inl h
        · exact .inr h
      · rcases List.mem_cons.1 h with h | h
        · exact .inr (h ▸ List.mem_cons_self ..)
        · rcases ih h with h | h
          · exact .inl h
          · exact .inr (List.mem_cons_of_mem _ h)
theorem Srt.put {F : Fl} (hF : Srt F) (s l : By) : Srt (fput F s l) := by
  induction F with
  | nil => exact List.pairwise_singleton _ _
  | cons a r ih =>
    obtain ⟨n, m⟩ := a
    have h2 := (List.pairwise_cons.1 hF).1
    rw [fput]
    split
    · rename_i e; subst e
      exact List.pairwise_cons.2 ⟨h2, hF.tail⟩
    · split
      · rename_i e e'
        refine List.pairwise_cons.2 ⟨fun a ha => ?_, hF⟩
        rcases List.mem_cons.1 ha with rfl | ha
        · exact e'
        · exact by_tr e' (h2 a ha)
      · rename_i e e'
        refine List.pairwise_cons.2 ⟨fun a ha => ?_, ih hF.tail⟩
        rcases mem_put ha with rfl | ha
        · exact by_tri e e'
        · exact h2 a ha
theorem len_put (F : Fl) (hF : Srt F) (s l : By) : (fput F s l).length = if (fget F s).isSome then F.length else F.length + 1 := by
  induction F with
  | nil => rfl
  | cons a r ih =>
    obtain ⟨n, m⟩ := a
    have h2 := (List.pairwise_cons.1 hF).1
    rw [fput, fget]
    split
    · rename_i e; subst e; simp
    · split
      · rename_i e e'
        rw [fget_ltn h2 e']; rfl
      · rw [List.length_cons, ih hF.tail]; split <;> simp_all
theorem tot_put (F : Fl) (hF : Srt F) (s l : By) : tot (fput F s l) + (foz F s).length = tot F + l.length := by
  unfold foz
  induction F with
  | nil => simp [fput, tot, fget]
  | cons a r ih =>
    obtain ⟨n, m⟩ := a
    have h2 := (List.pairwise_cons.1 hF).1
    rw [fput, fget]
    split
    · rename_i e; subst e; simp [tot]; omega
    · split
      · rename_i e e'
        rw [fget_ltn h2 e']; simp [tot]; omega
      · have := ih hF.tail
        simp only [tot, List.map_cons, List.sum_cons] at this ⊢
        omega
theorem mem_del {F : Fl} {s : By} {a : By × By} (h : a ∈ fdel F s) : a ∈ F := by
  induction F with
  | nil => exact h
  | cons b r ih =>
    obtain ⟨n, m⟩ := b
    rw [fdel] at h
    split at h
    · exact List.mem_cons_of_mem _ h
    · rcases List.mem_cons.1 h with h | h
      · exact h ▸ List.mem_cons_self ..
      · exact List.mem_cons_of_mem _ (ih h)
theorem Srt.del {F : Fl} (hF : Srt F) (s : By) : Srt (fdel F s) := by
  induction F with
  | nil => exact hF
  | cons a r ih =>
    obtain ⟨n, m⟩ := a
    have h2 := (List.pairwise_cons.1 hF).1
    rw [fdel]
    split
    · exact hF.tail
    · exact List.pairwise_cons.2 ⟨fun a ha => h2 a (mem_del ha), ih hF.tail⟩
theorem fget_del {F : Fl} (hF : Srt F) (s x : By) : fget (fdel F s) x = if x = s then none else fget F x := by
  induction F with
  | nil => simp [fdel, fget]
  | cons a r ih =>
    obtain ⟨n, m⟩ := a
    have h2 := (List.pairwise_cons.1 hF).1
    rw [fdel]
    split
    · rename_i e; subst e
      split
      · rename_i e2; subst e2; exact fget_lt h2
      · rename_i e2; rw [fget, if_neg e2]
    · rename_i e
      simp only [fget]
      split
      · rename_i e2; subst e2
        rw [if_neg (fun e3 => e e3.symm)]
      · exact ih hF.tail
theorem len_del (F : Fl) (s : By) : (fdel F s).length = if (fget F s).isSome then F.length - 1 else F.length := by
  induction F with
  | nil => rfl
  | cons a r ih =>
    obtain ⟨n, m⟩ := a
    rw [fdel, fget]
    split
    · simp
    · rw [List.length_cons, ih]
      split
      · rename_i h
        cases r with
        | nil => simp [fget] at h
        | cons b r => simp
      · simp
theorem tot_del (F : Fl) (s : By) : tot (fdel F s) + (foz F s).length = tot F := by
  unfold foz
  induction F with
  | nil => simp [fdel, tot, fget]
  | cons a r ih =>
    obtain ⟨n, m⟩ := a
    rw [fdel, fget]
    split
    · simp [tot]; omega
    · simp only [tot, List.map_cons, List.sum_cons] at ih ⊢
      omega
theorem foz_le (F : Fl) (s : By) : (foz F s).length ≤ tot F := by have := tot_del F s; omega
theorem fget_mem {F : Fl} {s l : By} (h : fget F s = some l) : (s, l) ∈ F := by
  induction F with
  | nil => cases h
  | cons a r ih =>
    obtain ⟨n, m⟩ := a
    rw [fget] at h
    split at h
    · rename_i e; subst e; cases h; exact List.mem_cons_self ..
    · exact List.mem_cons_of_mem _ (ih h)
theorem fget_of_mem {F : Fl} (hF : Srt F) {s l : By} (h : (s, l) ∈ F) : fget F s = some l := by
  induction F with
  | nil => cases h
  | cons a r ih =>
    obtain ⟨n, m⟩ := a
    have h2 := (List.pairwise_cons.1 hF).1
    rw [fget]
    rcases List.mem_cons.1 h with h | h
    · cases h; rw [if_pos rfl]
    · have h3 := h2 _ h
      rw [if_neg (fun e => by subst e; exact by_irr _ h3)]; exact ih hF.tail h
/-- bytes at a place -/
def wrt (o : By) (at_ : Nat) (x : By) : By :=
  let b := o ++ List.replicate (max o.length (at_ + x.length) - o.length) 0
  b.take at_ ++ x ++ b.drop (at_ + x.length)
theorem wrt_len (o : By) (i : Nat) (x : By) : (wrt o i x).length = max o.length (i + x.length) := by
  simp only [wrt, List.length_append, List.length_take, List.length_drop, List.length_replicate]; omega
theorem wrt_end (o x : By) : wrt o o.length x = o ++ x := by
  simp only [wrt]
  have h1 : (o ++ List.replicate (max o.length (o.length + x.length) - o.length) (0 : UInt8)).take o.length = o := List.take_left
  have h2 : (o ++ List.replicate (max o.length (o.length + x.length) - o.length) (0 : UInt8)).drop (o.length + x.length) = [] := List.drop_of_length_le (by simp only [List.length_append, List.length_replicate]; omega)
  rw [h1, h2, List.append_nil]
inductive Dd where
  | write (n : By) (i : Nat) (l : By)
  | trim (n : By) (k : Nat)
  | ren (a b : By)
  | rem (n : By)
def Dd.units : Dd → Nat
  | .write _ _ l => l.length + 1
  | _ => 1
def ddo (F : Fl) (x : Dd) (k : Nat) : Fl :=
  match x with
  | .write n i l => fput F n (wrt (foz F n) i (l.take (k - 1)))
  | .trim n sz => fput F n ((foz F n).take sz)
  | .ren a b => fput (fdel F a) b (foz F a)
  | .rem n => fdel F n
theorem Srt.ddo {F : Fl} (h : Srt F) (x : Dd) (k : Nat) : Srt (ddo F x k) := by
  cases x
  · exact h.put _ _
  · exact h.put _ _
  · exact (h.del _).put _ _
  · exact h.del _
theorem Dd.pos (x : Dd) : 1 ≤ x.units := by cases x <;> simp [Dd.units]
/-- may a deed be done to these files? -/
def Dok (F : Fl) (x : Dd) : Prop :=
  match x with
  | .write n i l => i ≤ (foz F n).length ∧ (foz F n).length ≤ lim ∧ i + l.length ≤ lim
  | .trim n sz => sz ≤ (foz F n).length
  | _ => True
structure Dm where
  safe : Fl
  seen : Fl
  queue : List Dd
  room : Int
  armed : Bool
  left : Int
  dead : Bool
def mayR (d : Dm) (e : Int) : Bool × Bool × Int := if d.dead then (false, false, 9) else if e ≠ 0 then (false, false, e) else if d.armed ∧ d.left = 0 then (false, true, 9) else (true, false, 0)
def mayD (d : Dm) (e : Int) : Dm := if d.dead then d else if e ≠ 0 then d else if d.armed then (if d.left = 0 then { d with dead := true } else { d with left := d.left - 1 }) else d
def rawD (d : Dm) (x : Dd) (e : Int) : Dm := if d.dead = false ∧ e = 0 then { mayD d e with seen := ddo d.seen x x.units, queue := d.queue ++ [x] } else d
def rawE (d : Dm) (e : Int) : Int := (mayR d e).2.2
def wrE (d : Dm) (n : By) (i : Int) (l : Nat) : Int := if i < 0 ∨ ((foz d.seen n).length : Int) < i then 1 else if d.room - (tot d.seen : Int) < (l : Int) - ((foz d.seen n).length - i) then 8 else 0
def thE (d : Dm) (n : By) : Int := if (fget d.seen n).isSome then 0 else 6
def flD (d : Dm) : Dm := if d.dead then d else if d.armed ∧ d.left = 0 then { d with dead := true } else { mayD d 0 with safe := d.seen, queue := [] }
def after (F : Fl) : List Dd → Nat → Fl
  | [], _ => F
  | x :: r, k => if min k x.units = 0 then F else after (ddo F x (min k x.units)) r (k - min k x.units)
def units (q : List Dd) : Nat := (q.map Dd.units).sum
def crK (d : Dm) (k : Int) : Nat := (k % ((units d.queue : Int) + 1)).toNat
def crD (d : Dm) (k : Int) : Dm := { safe := after d.safe d.queue (crK d k), seen := after d.safe d.queue (crK d k), queue := [], room := d.room, armed := false, left := 0, dead := false }
end Go.Proofs.YtbmhkdcmepfmbaaGreat
set_option linter.unusedVariables false
set_option linter.unusedSimpArgs false
namespace Go.Proofs.YtbmhkdcmepfmbaaGreat
open Go.RowKit
attribute [local go_sem ↓] Go.wp_at_zero Go.wp_at_succ
theorem Row.wb {sz n : Nat} {D X : Nat → Prop} {w w' : World} {v : Value} {vs : List Value} (h : Row sz D w v n vs) (hw : Wb X w w') (hX : ∀ k, X k → ¬ D k) : Row sz D w' v n vs := by
  obtain ⟨hl, a, c, rfl, hc, ha, H⟩ := h
  refine ⟨hl, a, c, rfl, hc, ha, fun j u hj => ?_⟩
  obtain ⟨b, o, ha, hB, hu⟩ := H j u hj
  refine ⟨b, o, ha, hB, ?_⟩
  have hlt := World.block_lt_of_cell? w ⟨b, o + j, none⟩ hu
  exact (World.cell?_of_block (w := w) (a := ⟨b, o + j, none⟩) (hw.block b hlt fun e => hX b e hB)).trans hu
theorem Bs.wb {D X : Nat → Prop} {w w' : World} {v : Value} {l : List UInt8} (h : Bs D w v l) (hw : Wb X w w') (hX : ∀ k, X k → ¬ D k) : Bs D w' v l := ⟨h.1.wb hw hX, h.2⟩
/-- a map of files at block k -/
def FI (D : Nat → Prop) (w : World) (k : Nat) (F : Fl) : Prop :=
  Srt F ∧ ∃ g, MapF Tryz.prog 9 w k g F.length ∧ ∀ s, (g s = none ∧ fget F s = none) ∨ ∃ v l, g s = some v ∧ fget F s = some l ∧ Bs D w v l
def FilesIs (M D : Nat → Prop) (w : World) (m : Option Nat) (F : Fl) : Prop := (m = none ∧ F = []) ∨ ∃ k, m = some k ∧ M k ∧ FI D w k F
def DdIs (D : Nat → Prop) (w : World) (v : Value) (x : Dd) : Prop :=
  match x with
  | .write n i l => ∃ u, v = .iface 152 (.agg #[.string ⟨n.toArray⟩, .int .i64 (i : Int), u]) ∧ Bs D w u l ∧ n.length ≤ maxLen
  | .trim _ _ => False
  | .ren a b => v = .iface 169 (.agg #[.string ⟨a.toArray⟩, .string ⟨b.toArray⟩]) ∧ a.length ≤ maxLen ∧ b.length ≤ maxLen
  | .rem n => v = .iface 167 (.agg #[.string ⟨n.toArray⟩]) ∧ n.length ≤ maxLen
def QueueIs (D : Nat → Prop) (w : World) (q : Value) (Q : List Dd) : Prop :=
  ∃ vs, Row 1 D w q Q.length vs ∧ ∀ i (h : i < Q.length) (h' : i < vs.length), DdIs D w vs[i] Q[i]
structure DrIs (M D : Nat → Prop) (w : World) (b : Nat) (d : Dm) : Prop where
  ex : ∃ ms mv q, w.heap[b]? = some (.cells #[.map ms, .map mv, q, .int .i64 d.room, .bool d.armed, .int .i64 d.left, .bool d.dead] 74 (0, 0)) ∧ FilesIs M D w ms d.safe ∧ FilesIs M D w mv d.seen ∧ QueueIs D w q d.queue ∧ ∀ k, ms = some k → mv ≠ some k
  hD : ∀ k, D k → k < w.heap.size ∧ ¬ M k ∧ k ≠ b
  hM : ∀ k, M k → k < w.heap.size ∧ k ≠ b
  left : d.armed = true → 0 ≤ d.left ∧ d.left ≤ 9223372036854775807
theorem FI.wb {D X : Nat → Prop} {w w' : World} {k : Nat} {F : Fl} (h : FI D w k F) (hw : Wb X w w') (hX : ∀ i, X i → ¬ D i) (hk : ¬ X k) : FI D w' k F := by
  obtain ⟨h0, g, h1, h2⟩ := h
  refine ⟨h0, g, h1.block (hw.block k h1.lt hk), fun s => ?_⟩
  rcases h2 s with h | ⟨v, l, a, b, c⟩
  · exact .inl h
  · exact .inr ⟨v, l, a, b, c.wb hw hX⟩
theorem FI.mono {D D' : Nat → Prop} {w : World} {k : Nat} {F : Fl} (h : FI D w k F) (hD : ∀ i, D i → D' i) : FI D' w k F := by
  obtain ⟨h0, g, h1, h2⟩ := h
  refine ⟨h0, g, h1, fun s => ?_⟩
  rcases h2 s with h | ⟨v, l, a, b, c⟩
  · exact .inl h
  · exact .inr ⟨v, l, a, b, c.monoS hD⟩
theorem FI.lt {D : Nat → Prop} {w : World} {k : Nat} {F : Fl} (h : FI D w k F) : k < w.heap.size := by obtain ⟨_, g, h, _⟩ := h; exact h.lt
theorem FI.ismap {D : Nat → Prop} {w : World} {k : Nat} {F : Fl} (h : FI D w k F) : ∃ es c, w.heap[k]? = some (.map es c) := by obtain ⟨_, g, h, _⟩ := h; exact h.is
theorem FilesIs.wb {M D X : Nat → Prop} {w w' : World} {m : Option Nat} {F : Fl} (h : FilesIs M D w m F) (hw : Wb X w w') (hX : ∀ i, X i → ¬ D i) (hM : ∀ k, m = some k → ¬ X k) : FilesIs M D w' m F := by
  rcases h with h | ⟨k, h1, h2, h3⟩
  · exact .inl h
  · exact .inr ⟨k, h1, h2, h3.wb hw hX (hM k h1)⟩
theorem FilesIs.mono {M M' D D' : Nat → Prop} {w : World} {m : Option Nat} {F : Fl} (h : FilesIs M D w m F) (hM : ∀ i, M i → M' i) (hD : ∀ i, D i → D' i) : FilesIs M' D' w m F := by
  rcases h with h | ⟨k, h1, h2, h3⟩
  · exact .inl h
  · exact .inr ⟨k, h1, hM k h2, h3.mono hD⟩
theorem FilesIs.srt {M D : Nat → Prop} {w : World} {m : Option Nat} {F : Fl} (h : FilesIs M D w m F) : Srt F := by
  rcases h with ⟨_, rfl⟩ | ⟨k, h1, h2, h3⟩
  · exact Srt.nil
  · exact h3.1
theorem DdIs.wb {D X : Nat → Prop} {w w' : World} {v : Value} {x : Dd} (h : DdIs D w v x) (hw : Wb X w w') (hX : ∀ i, X i → ¬ D i) : DdIs D w' v x := by
  cases x with
  | write n i l => obtain ⟨u, a, b, c⟩ := h; exact ⟨u, a, b.wb hw hX, c⟩
  | trim => exact h
  | ren => exact h
  | rem => exact h
theorem DdIs.mono {D D' : Nat → Prop} {w : World} {v : Value} {x : Dd} (h : DdIs D w v x) (hD : ∀ i, D i → D' i) : DdIs D' w v x := by
  cases x with
  | write n i l => obtain ⟨u, a, b, c⟩ := h; exact ⟨u, a, b.monoS hD, c⟩
  | trim => exact h
  | ren => exact h
  | rem => exact h
theorem DdIs.one {D : Nat → Prop} {w : World} {v : Value} {x : Dd} (h : DdIs D w v x) : v.oneCell' = true := by
  cases x with
  | write n i l => obtain ⟨u, rfl, b, c⟩ := h; rfl
  | trim => exact h.elim
  | ren => obtain ⟨rfl, _⟩ := h; rfl
  | rem => obtain ⟨rfl, _⟩ := h; rfl
theorem QueueIs.wb {D X : Nat → Prop} {w w' : World} {q : Value} {Q : List Dd} (h : QueueIs D w q Q) (hw : Wb X w w') (hX : ∀ i, X i → ¬ D i) : QueueIs D w' q Q := by
  obtain ⟨vs, h1, h2⟩ := h
  exact ⟨vs, h1.wb hw hX, fun i a b => (h2 i a b).wb hw hX⟩
theorem QueueIs.mono {D D' : Nat → Prop} {w : World} {q : Value} {Q : List Dd} (h : QueueIs D w q Q) (hD : ∀ i, D i → D' i) : QueueIs D' w q Q := by
  obtain ⟨vs, h1, h2⟩ := h
  exact ⟨vs, h1.monoS hD, fun i a b => (h2 i a b).mono hD⟩
theorem QueueIs.nil (D : Nat → Prop) (w : World) : QueueIs D w (.slice none 0 0) [] := ⟨[], ⟨rfl, none, 0, rfl, Nat.le_refl _, fun _ => rfl, fun j u hj => by simp at hj⟩, fun i h => by simp at h⟩
/-- what the drive's own world does not touch -/
theorem DrIs.keep {M D X : Nat → Prop} {w w' : World} {b : Nat} {d : Dm} (h : DrIs M D w b d) (hw : Wb X w w') (hX : ∀ k, X k → ¬ M k ∧ ¬ D k ∧ k ≠ b) : DrIs M D w' b d := by
  obtain ⟨⟨ms, mv, q, hb, h1, h2, h3, h4⟩, hD, hM, hl⟩ := h
  have hXD : ∀ k, X k → ¬ D k := fun k hk => (hX k hk).2.1
  have hm : ∀ {m : Option Nat} {F : Fl}, FilesIs M D w m F → ∀ k, m = some k → ¬ X k := by
    intro m F hf k hk hx
    rcases hf with ⟨rfl, _⟩ | ⟨k', rfl, hk', _⟩
    · cases hk
    · cases hk; exact (hX _ hx).1 hk'
  refine ⟨⟨ms, mv, q, ?_, h1.wb hw hXD (hm h1), h2.wb hw hXD (hm h2), h3.wb hw hXD, h4⟩, fun k hk => ⟨Nat.lt_of_lt_of_le (hD k hk).1 hw.size, (hD k hk).2⟩, fun k hk => ⟨Nat.lt_of_lt_of_le (hM k hk).1 hw.size, (hM k hk).2⟩, hl⟩
  rw [hw.block b (Array.getElem?_eq_some_iff.1 hb).1 fun e => (hX b e).2.2 rfl]; exact hb
/-- a box of seven cells -/
theorem box7 {w : World} {b : Nat} {x0 x1 x2 x3 x4 x5 x6 : Value} {e : TypeId} (h : w.heap[b]? = some (.cells #[x0, x1, x2, x3, x4, x5, x6] e (0, 0))) :
    (w.cell? ⟨b, 0, none⟩ = some x0 ∧ w.cell? ⟨b, 1, none⟩ = some x1 ∧ w.cell? ⟨b, 2, none⟩ = some x2 ∧ w.cell? ⟨b, 3, none⟩ = some x3 ∧ w.cell? ⟨b, 4, none⟩ = some x4 ∧ w.cell? ⟨b, 5, none⟩ = some x5 ∧ w.cell? ⟨b, 6, none⟩ = some x6) ∧ ∀ i, w.frozen? ⟨b, i, none⟩ = false := by
  refine ⟨⟨?_, ?_, ?_, ?_, ?_, ?_, ?_⟩, fun i => ?_⟩
  all_goals first | (simp only [World.cell?, h]; rfl) | (simp only [World.frozen?, h]; simp)
theorem box7_set {w : World} {b o : Nat} {c : Array Value} {e : TypeId} (h : w.heap[b]? = some (.cells c e (0, 0))) (u : Value) : (w.setCell ⟨b, o, none⟩ u).heap[b]? = some (.cells (c.setIfInBounds o u) e (0, 0)) := by
  rw [heap_setCell_same w b o _ e u h]
/-- drive.New -/
theorem new_any (w : World) (r : Int) : Calls Tryz.prog 8 #[.int .i64 r] w fun e w' => e = .returned (.pointer (some ⟨w.heap.size, 0, none⟩)) ∧ Below w.heap.size w w' ∧ DrIs (fun _ => False) (fun _ => False) w' w.heap.size ⟨[], [], [], max 0 r, false, 0, false⟩ := by
  go_enter Tryz.func8, Tryz.ntmps8
  go_wp2
  all_goals
    go_ret
    refine ⟨rfl, up_alloc _ _, ⟨⟨none, none, .slice none 0 0, ?_, .inl ⟨rfl, rfl⟩, .inl ⟨rfl, rfl⟩, QueueIs.nil _ _, fun _ h => by cases h⟩, fun _ h => h.elim, fun _ h => h.elim, fun h => by cases h⟩⟩
    rw [heap_alloc_new]
    simp
    omega
/-- what may answers, and what it makes of the drive's box -/
theorem may_any {w : World} {b : Nat} {ms mv : Option Nat} {q : Value} {d : Dm} (e : Int) (hl : d.armed = true → 0 ≤ d.left ∧ d.left ≤ 9223372036854775807)
    (h : w.heap[b]? = some (.cells #[.map ms, .map mv, q, .int .i64 d.room, .bool d.armed, .int .i64 d.left, .bool d.dead] 74 (0, 0))) :
    Calls Tryz.prog 100 #[.pointer (some ⟨b, 0, none⟩), .int .i64 e] w fun E w' => E = .returned (.tuple #[.bool (mayR d e).1, .bool (mayR d e).2.1, .int .i64 (mayR d e).2.2]) ∧ Wb (fun k => k = b) w w' ∧ w'.heap.size = w.heap.size ∧
      w'.heap[b]? = some (.cells #[.map ms, .map mv, q, .int .i64 (mayD d e).room, .bool (mayD d e).armed, .int .i64 (mayD d e).left, .bool (mayD d e).dead] 74 (0, 0)) := by
  obtain ⟨⟨c0, c1, c2, c3, c4, c5, c6⟩, c7⟩ := box7 h
  have H := Hid.mk' h
  clear h
  obtain ⟨sf, sn, qu, room, armed, left, dead⟩ := d
  simp only at *
  cases dead
  · by_cases he : e = 0
    · subst he
      cases armed
      · clear hl
        go_enter Tryz.func100, Tryz.ntmps100
        go_wp2
        go_ret3
        exact ⟨rfl, Wb.refl _ _, rfl, H.out⟩
      · obtain ⟨hl1, hl2⟩ := hl rfl
        by_cases h0 : left = 0
        · subst h0
          clear hl hl1 hl2
          have HS := Hid.mk' (box7_set (o := 6) H.out (.bool true))
          go_enter Tryz.func100, Tryz.ntmps100
          go_wp2
          go_ret3
          exact ⟨rfl, Wb.set _ _ _ _ rfl, size_setCell _ _ _, HS.out⟩
        · have HS := Hid.mk' (box7_set (o := 5) H.out (.int .i64 (left - 1)))
          have HN := Hid.mk' h0
          have hr : (left == 0) = false := by simpa using h0
          clear hl h0
          go_enter Tryz.func100, Tryz.ntmps100
          go_wp2
          go_ret3
          refine ⟨?_, Wb.set _ _ _ _ rfl, size_setCell _ _ _, ?_⟩
          · simp [mayR, HN.out]
          · simp [mayD, HN.out]; exact HS.out
    · have HN := Hid.mk' he
      have hr : (e == 0) = false := by simpa using he
      clear hl he
      go_enter Tryz.func100, Tryz.ntmps100
      go_wp2
      go_ret3
      refine ⟨?_, Wb.refl _ _, rfl, ?_⟩
      · simp [mayR, HN.out]
      · simp [mayD, HN.out]; exact H.out
  · clear hl
    go_enter Tryz.func100, Tryz.ntmps100
    go_wp2
    go_ret3
    exact ⟨rfl, Wb.refl _ _, rfl, H.out⟩
theorem zero22 (w : World) : (zeroValue 22).run Tryz.prog w = .ok (.slice none 0 0) w := by kernel_rfl
theorem MapF.look0 {P : Program} {k t e : TypeId} {w : World} {b n : Nat} {f : By → Option Value} (h : MapF P k w b f n) (hk : P.underlying k = some .string) (ht : P.underlying t = some (.map k e)) {z : Value} (hz : (zeroValue e).run P w = .ok z w)
    (s : By) (hs : s.length ≤ maxLen) : (Instr.lookup t (.map (some b)) (.string ⟨s.toArray⟩) false).run P w = .ok ((f s).getD z) w := by
  obtain ⟨D, h, hn, hT, hf⟩ := h
  obtain ⟨v, ps, hr, hv⟩ := h.lookup (Maps.string_keyed hk) ht hz (zd := .held z) (zp := []) rfl (WideMaps.keyOf_string_mk hk (s := ⟨s.toArray⟩) hs)
  rw [hr]
  have h2 := (hf s).2 z
  simp only [hR, Option.some.injEq, Prod.mk.injEq] at hv
  have h3 := hv.1
  rw [h2] at h3
  cases h3
  rfl
/-- a file looked up -/
theorem FilesIs.look {M D : Nat → Prop} {w : World} {m : Option Nat} {F : Fl} (h : FilesIs M D w m F) (s : By) (hs : s.length ≤ maxLen) :
    ∃ v, (Instr.lookup 71 (.map m) (.string ⟨s.toArray⟩) true).run Tryz.prog w = .ok (.tuple #[v, .bool (fget F s).isSome]) w ∧ (Instr.lookup 71 (.map m) (.string ⟨s.toArray⟩) false).run Tryz.prog w = .ok v w ∧ Bs D w v (foz F s) ∧ ((fget F s).isSome = false → v = .slice none 0 0) := by
  have hn : Bs D w (.slice none 0 0) [] := ⟨⟨rfl, none, 0, rfl, Nat.le_refl _, fun _ => rfl, fun j u hj => by simp [bv] at hj⟩, by unfold lim; simp⟩
  rcases h with ⟨rfl, rfl⟩ | ⟨k, rfl, h1, hS, g, h2, h3⟩
  · exact ⟨_, Maps.look_nil (w := w) true (Maps.string_keyed Tryz.underlying9) Tryz.underlying71 (zero22 w) (WideMaps.keyOf_string_mk Tryz.underlying9 (s := ⟨s.toArray⟩) hs), Maps.look_nil (w := w) false (Maps.string_keyed Tryz.underlying9) Tryz.underlying71 (zero22 w) (WideMaps.keyOf_string_mk Tryz.underlying9 (s := ⟨s.toArray⟩) hs), hn, fun _ => rfl⟩
  · have hl := h2.look Tryz.underlying9 Tryz.underlying71 (zero22 w) s hs
    have hl0 := h2.look0 Tryz.underlying9 Tryz.underlying71 (zero22 w) s hs
    rcases h3 s with ⟨a, b⟩ | ⟨v, l, a, b, c⟩
    · rw [a] at hl hl0
      unfold foz
      rw [b]
      exact ⟨_, hl, hl0, hn, fun _ => rfl⟩
    · rw [a] at hl hl0
      unfold foz
      rw [b]
      exact ⟨_, hl, hl0, c, fun h => by cases h⟩
/-- drive.there -/
theorem there_any {M D : Nat → Prop} {w : World} {b : Nat} {ms mv : Option Nat} {q : Value} {d : Dm} (n : By)
    (h : w.heap[b]? = some (.cells #[.map ms, .map mv, q, .int .i64 d.room, .bool d.armed, .int .i64 d.left, .bool d.dead] 74 (0, 0))) (hF : FilesIs M D w mv d.seen) (hn : n.length ≤ maxLen) :
    Calls Tryz.prog 55 #[.pointer (some ⟨b, 0, none⟩), .string ⟨n.toArray⟩] w fun e w' => e = .returned (.int .i64 (thE d n)) ∧ w = w' := by
  obtain ⟨⟨c0, c1, c2, c3, c4, c5, c6⟩, c7⟩ := box7 h
  obtain ⟨v, hl, _, _, _⟩ := hF.look n hn
  clear h hF c0 c2 c3 c4 c5 c6
  have HT : Hid (thE d n = if (fget d.seen n).isSome then 0 else 6) := rfl
  generalize thE d n = t at *
  generalize (fget d.seen n).isSome = x at *
  cases x
  · go_enter Tryz.func55, Tryz.ntmps55
    go_wp2
    go_ret
    exact ⟨by rw [HT.out]; rfl, rfl⟩
  · go_enter Tryz.func55, Tryz.ntmps55
    go_wp2
    go_ret
    exact ⟨by rw [HT.out]; rfl, rfl⟩
/-- units of the deeds -/
theorem un_write (n : By) (i : Int) (u : Value) (l : By) {D : Nat → Prop} (w : World) (hu : Bs D w u l) : Calls Tryz.prog 172 #[.agg #[.string ⟨n.toArray⟩, .int .i64 i, u]] w fun e w' => e = .returned (.int .i64 (l.length + 1)) ∧ Below w.heap.size w w' := by
  obtain ⟨a, c, rfl, _⟩ := hu.at
  have hl := hu.2
  unfold lim at hl
  clear hu
  go_enter Tryz.func172, Tryz.ntmps172
  go_wp2
  go_ret
  exact ⟨rfl, up_alloc _ _⟩
theorem un_ren (n m : By) (w : World) : Calls Tryz.prog 177 #[.agg #[.string ⟨n.toArray⟩, .string ⟨m.toArray⟩]] w fun e w' => e = .returned (.int .i64 1) ∧ Below w.heap.size w w' := by
  go_enter Tryz.func177, Tryz.ntmps177
  go_wp2
  go_ret
  exact ⟨rfl, up_alloc _ _⟩
theorem un_rem (n : By) (w : World) : Calls Tryz.prog 175 #[.agg #[.string ⟨n.toArray⟩]] w fun e w' => e = .returned (.int .i64 1) ∧ Below w.heap.size w w' := by
  go_enter Tryz.func175, Tryz.ntmps175
  go_wp2
  go_ret
  exact ⟨rfl, up_alloc _ _⟩
end Go.Proofs.YtbmhkdcmepfmbaaGreat
set_option linter.unusedVariables false
set_option linter.unusedSimpArgs false
namespace Go.Proofs.YtbmhkdcmepfmbaaGreat
open Go.RowKit
attribute [local go_sem ↓] Go.wp_at_zero Go.wp_at_succ
/-- what is made of the files at block k -/
def DoPost (D : Nat → Prop) (w : World) (k : Nat) (F' : Fl) (e : Ending) (w' : World) : Prop :=
  e = .returned (.tuple #[]) ∧ Wb (fun i => i = k) w w' ∧ ∃ D' : Nat → Prop, (∀ i, D i → D' i) ∧ (∀ i, D' i → D i ∨ w.heap.size ≤ i ∧ i < w'.heap.size) ∧ FI D' w' k F'
theorem size5 : (Tryz.prog.info? 5).map (·.size) = some 1 := by kernel_rfl
theorem sz22 (w : World) : (sizeOf (Tryz.prog.elem 22)).run Tryz.prog w = .ok 1 w := by kernel_rfl
theorem un22 : Tryz.prog.underlying 22 = some (.slice (Tryz.prog.elem 22)) := by kernel_rfl
theorem lo_of (g n i : Nat) (h : i ≤ n) : ∃ dp, (∀ w, (Instr.slice 22 (.slice (some ⟨g, 0, none⟩) n n) (some (.int .i64 (i : Int))) none none).run Tryz.prog w = .ok (.slice dp (n - i) (n - i)) w) ∧ (i < n → dp = some ⟨g, i, none⟩) := by
  by_cases h1 : n = i
  · refine ⟨some ⟨g, 0, none⟩, fun w => ?_, fun h2 => by omega⟩
    rw [run_slice_l w 22 _ n n un22 .i64 (i : Int) (by omega) (by omega)]
    rw [sz22]
    simp only [Result.andThen, Int.toNat_natCast, Go.sliced, if_pos h1]
  · refine ⟨some ⟨g, i, none⟩, fun w => ?_, fun h2 => rfl⟩
    rw [run_slice_l w 22 _ n n un22 .i64 (i : Int) (by omega) (by omega)]
    have e := addr_add g 0 i
    rw [sz22]
    simp only [Result.andThen, Int.toNat_natCast, Go.sliced, if_neg h1, Option.map_some, Nat.mul_one, e, Nat.zero_add]
theorem spl_zero (Z X : List Value) (h : X.length ≤ Z.length) : splice Z 0 X = X ++ Z.drop X.length := by simp [splice]
theorem spl_wrt (o x : By) (i n : Nat) (hi : i ≤ o.length) (hn : n = max o.length (i + x.length)) :
    splice (splice (bv (List.replicate n 0)) 0 (bv o)) i (bv x) = bv (wrt o i x) := by
  have h1 : splice (bv (List.replicate n 0)) 0 (bv o) = bv (o ++ List.replicate (n - o.length) 0) := by
    rw [spl_zero _ _ (by simp; omega)]
    simp [bv, List.drop_replicate]
  rw [h1]
  subst hn
  simp only [splice, wrt, bv, List.map_append, List.map_take, List.map_drop, List.length_map, List.append_assoc]
theorem Bs.cellsAt {D : Nat → Prop} {w : World} {a : Option Addr} {n c : Nat} {l : By} (h : Bs D w (.slice a n c) l) (hl : 0 < (bv l).length) : ∃ ad, a = some ad ∧ ∀ j v, (bv l)[j]? = some v → w.cell? (ad.add j) = some v := by
  obtain ⟨_, a', c', hv, _, _, H⟩ := h.1
  cases hv
  obtain ⟨b, o, ha, _, _⟩ := H 0 ((bv l)[0]'hl) (by simp)
  refine ⟨_, ha, fun j v hj => ?_⟩
  obtain ⟨b', o', ha', _, hu⟩ := H j v hj
  rw [ha] at ha'
  cases ha'
  rw [addr_add]; exact hu
theorem FI.stored {D : Nat → Prop} {w w1 w2 : World} {k : Nat} {F : Fl} (n l : By) (v : Value) (hF : FI D w1 k F) (hn : n.length ≤ maxLen) (hl : F.length < maxLen) (hv : Bs D w1 v l) (hk : ¬ D k) :
    ∃ w2, (Instr.mapUpdate 71 (.map (some k)) (.string ⟨n.toArray⟩) v).run Tryz.prog w1 = .ok () w2 ∧ FI D w2 k (fput F n l) ∧ Wb (fun i => i = k) w1 w2 := by
  obtain ⟨hS, g, hm, hg⟩ := hF
  obtain ⟨w2, hr, hm2, hgr⟩ := hm.store Tryz.underlying9 Tryz.underlying71 n hn v hl
  have hW : Wb (fun i => i = k) w1 w2 := (Wb.of_grown hgr).mono fun i hi => by cases hi; rfl
  refine ⟨w2, hr, ⟨hS.put _ _, (fun x => if x = n then some v else g x), ?_, fun s => ?_⟩, hW⟩
  · rw [len_put F hS]
    have : (g n).isSome = (fget F n).isSome := by
      rcases hg n with ⟨a, b⟩ | ⟨v, l, a, b, _⟩
      · rw [a, b]; rfl
      · rw [a, b]; rfl
    rw [← this]; exact hm2
  · rw [fget_put hS]
    by_cases hs : s = n
    · subst hs
      exact .inr ⟨v, l, by simp, by simp, hv.wb hW fun i hi => by subst hi; exact hk⟩
    · simp only [if_neg hs]
      rcases hg s with h | ⟨v, l, a, b, c⟩
      · exact .inl h
      · exact .inr ⟨v, l, a, b, c.wb hW fun i hi => by subst hi; exact hk⟩
theorem FI.dropped {D : Nat → Prop} {w1 : World} {k : Nat} {F : Fl} (n : By) (ty : TypeId) (hF : FI D w1 k F) (hn : n.length ≤ maxLen) (hk : ¬ D k) :
    ∃ w2, (Builtin.delete_ #[71, 9] ty #[.map (some k), .string ⟨n.toArray⟩]).run Tryz.prog w1 = .ok (.tuple #[]) w2 ∧ FI D w2 k (fdel F n) ∧ Wb (fun i => i = k) w1 w2 := by
  obtain ⟨hS, g, hm, hg⟩ := hF
  obtain ⟨w2, hr, hm2, hgr⟩ := hm.drop Tryz.underlying9 Tryz.underlying71 n hn ty
  have hW : Wb (fun i => i = k) w1 w2 := (Wb.of_grown hgr).mono fun i hi => by cases hi; rfl
  refine ⟨w2, hr, ⟨hS.del _, (fun x => if x = n then none else g x), ?_, fun s => ?_⟩, hW⟩
  · rw [len_del F]
    have : (g n).isSome = (fget F n).isSome := by
      rcases hg n with ⟨a, b⟩ | ⟨v, l, a, b, _⟩
      · rw [a, b]; rfl
      · rw [a, b]; rfl
    rw [← this]; exact hm2
  · rw [fget_del hS]
    by_cases hs : s = n
    · subst hs
      exact .inl ⟨by simp, by simp⟩
    · simp only [if_neg hs]
      rcases hg s with h | ⟨v, l, a, b, c⟩
      · exact .inl h
      · exact .inr ⟨v, l, a, b, c.wb hW fun i hi => by subst hi; exact hk⟩
theorem FI.looks {D : Nat → Prop} {w : World} {k : Nat} {F : Fl} (h : FI D w k F) (s : By) (hs : s.length ≤ maxLen) :
    ∃ v, (Instr.lookup 71 (.map (some k)) (.string ⟨s.toArray⟩) false).run Tryz.prog w = .ok v w ∧ Bs D w v (foz F s) := by
  obtain ⟨v, _, h1, h2, _⟩ := (FilesIs.look (M := fun _ => True) (.inr ⟨k, rfl, trivial, h⟩) s hs)
  exact ⟨v, h1, h2⟩
/-- remove -/
theorem do_rem {D : Nat → Prop} {w : World} {k : Nat} {F : Fl} (n : By) (u : Int) (hF : FI D w k F) (hn : n.length ≤ maxLen) (hk : ¬ D k) :
    Calls Tryz.prog 174 #[.agg #[.string ⟨n.toArray⟩], .map (some k), .int .i64 u] w (DoPost D w k (fdel F n)) := by
  have hX : ∀ i, (fun _ : Nat => False) i → ¬ D i := fun i hi => hi.elim
  have h1 : FI D (w.alloc (.cells #[.string ⟨n.toArray⟩] 167)) k F := hF.wb (Wb.of_below (fun _ => False) (up_alloc _ _)) hX id
  obtain ⟨w2, hr, h2, h3⟩ := h1.dropped n 0 hn hk
  have H2 := Hid.mk' h2
  have H3 := Hid.mk' h3
  clear h1 h2 h3 hF
  go_enter Tryz.func174, Tryz.ntmps174
  go_wp2
  go_end0
  exact ⟨rfl, (Wb.of_below _ (up_alloc _ _)).trans H3.out, D, fun _ h => h, fun _ h => .inl h, H2.out⟩
theorem hi_of {D : Nat → Prop} {w0 : World} {u : Value} {l : By} (hu : Bs D w0 u l) (p : Nat) (hp : p ≤ l.length) (x : Int) (hx : x = p) : ∃ a c, (∀ w, (Instr.slice 22 u none (some (.int .i64 x)) none).run Tryz.prog w = .ok (.slice a p c) w) ∧ Bs D w0 (.slice a p c) (l.take p) := by
  subst hx
  obtain ⟨a, c, rfl, hc, ha, _⟩ := hu.at
  obtain ⟨a', c', h1, h2⟩ := row_hi un22 sz22 hu.1 p hp
  refine ⟨a', c', h1, ?_, ?_⟩
  · have e : (l.take p).length = p := by rw [List.length_take]; omega
    rw [e]
    have e2 : bv (l.take p) = (bv l).take p := by simp [bv, List.map_take]
    rw [e2]; exact h2
  · have := hu.2; rw [List.length_take]; omega
theorem bs_own {D : Nat → Prop} {w : World} {g n : Nat} {l : By} (h : w.heap[g]? = some (.cells (bv l).toArray 5 (0, 0))) (hn : n = l.length) (hl : l.length ≤ lim) (hD : D g) : Bs D w (.slice (some ⟨g, 0, none⟩) n n) l := by
  subst hn
  refine ⟨⟨by simp, _, _, rfl, Nat.le_refl _, (fun h => by cases h), fun j u hj => ⟨g, 0, rfl, hD, ?_⟩⟩, hl⟩
  simp only [World.cell?, h, Nat.zero_add]
  simpa using hj
theorem Bs.toLt {A : Nat → Prop} {w : World} {v : Value} {l : By} (h : Bs A w v l) : Bs (Lt w.heap.size) w v l := ⟨h.1.toLtN, h.2⟩
theorem run_cp {w : World} {dp sp : Option Addr} {dLen dCap sLen sCap g off : Nat} {cur : List Value} (ty : TypeId) (hg : w.heap[g]? = some (.cells cur.toArray 5 (0, 0))) (cs : List Value) (hn : cs.length = Nat.min sLen dLen)
    (hpos : 0 < cs.length → dp = some ⟨g, off, none⟩ ∧ ∃ ad, sp = some ad ∧ ∀ j v, cs[j]? = some v → w.cell? (ad.add j) = some v)
    (hfit : off + cs.length ≤ cur.length) (h1 : ∀ v ∈ cs, v.oneCell' = true) {B : Nat} {w0 : World} (hb : Below B w0 w) (hBg : B ≤ g) :
    ∃ w', (Builtin.copy_ #[22, 22] ty #[.slice dp dLen dCap, .slice sp sLen sCap]).run Tryz.prog w = .ok (goInt cs.length) w' ∧ w'.heap[g]? = some (.cells (splice cur off cs).toArray 5 (0, 0)) ∧ Below B w0 w' := by
  by_cases h0 : cs.length = 0
  · obtain rfl : cs = [] := List.eq_nil_of_length_eq_zero h0
    exact ⟨w, run_copy_none (P := Tryz.prog) w 22 22 ty 5 dp sp dLen dCap sLen sCap Tryz.underlying22 size5 (by simpa using hn.symm), by simpa [splice] using hg, hb⟩
  · obtain ⟨rfl, ad, rfl, hsrc⟩ := hpos (by omega)
    exact ⟨_, run_copy_row (P := Tryz.prog) w 22 22 ty 5 g off dLen dCap ad sLen sCap cur.toArray 5 cs Tryz.underlying22 size5 hg hn hsrc (by simpa using hfit) h1, by simpa [splice] using setRow_heap w g _ _ 5 _ hg, below_setRow hb hBg _⟩
set_option maxRecDepth 100000 in
set_option maxHeartbeats 1000000 in
/-- write -/
theorem do_write {D : Nat → Prop} {w : World} {k : Nat} {F : Fl} (n l : By) (i p : Nat) (u : Value) (y : Int) (hF : FI D w k F) (hn : n.length ≤ maxLen) (hk : ¬ D k) (hu : Bs D w u l) (hp : p ≤ l.length) (hy : y = p + 1)
    (hi : i ≤ (foz F n).length) (h1 : i + p ≤ lim) (hl : F.length < maxLen) :
    Calls Tryz.prog 171 #[.agg #[.string ⟨n.toArray⟩, .int .i64 (i : Int), u], .map (some k), .int .i64 y] w (DoPost D w k (fput F n (wrt (foz F n) i (l.take p)))) := by
  have hlim : lim = 140737488351232 := rfl
  have hul := hu.2
  have b1 : 1 ≤ y := by omega
  have b2 : y ≤ 140737488351233 := by omega
  have b3 : (i : Int) ≤ 140737488351232 := by omega
  have b4 : (i : Int) + (p : Int) ≤ 140737488351232 := by omega
  have b5 : (0 : Int) ≤ (i : Int) + (p : Int) := by omega
  obtain ⟨w0, hw0⟩ : ∃ w0, w0 = w.alloc (.cells #[.string ⟨n.toArray⟩, .int .i64 (i : Int), u] 152) := ⟨_, rfl⟩
  have hb0 : Below w.heap.size w w0 := by rw [hw0]; exact up_alloc _ _
  have hk0 := hF.lt
  have hs0 : w0.heap.size = w.heap.size + 1 := by rw [hw0]; simp
  have hX : ∀ i, (fun _ : Nat => False) i → ¬ D i := fun i hi => hi.elim
  have h0 : FI D w0 k F := hF.wb (Wb.of_below (fun _ => False) hb0) hX id
  have hu0 : Bs D w0 u l := hu.up hb0
  obtain ⟨v, hlk, hv⟩ := h0.looks n hn
  obtain ⟨xa, xc, hsl, hx⟩ := hi_of hu0 p hp (y - 1) (by omega)
  have hol := hv.2
  have hv1 := hv.toLt
  obtain ⟨va, vc, rfl, hvc, hvn, _⟩ := hv.at
  generalize hO : foz F n = o at *
  have hxl : (l.take p).length = p := by rw [List.length_take]; omega
  generalize l.take p = x at *
  obtain ⟨N, hN⟩ : ∃ N : Nat, N = max o.length (i + p) := ⟨_, rfl⟩
  have hNl : N ≤ lim := by omega
  have hmk := run_mk (P := Tryz.prog) 22 Tryz.underlying22 Tryz.info5 N hNl w0
  obtain ⟨dp, hlo, hdp⟩ := lo_of (w.heap.size + 1) N i (by omega)
  rw [hs0] at hmk
  have hx1 := hx.toLt
  have hal : Below (w.heap.size + 1) w0 (w0.alloc (.cells (zeros N) 5)) := by rw [← hs0]; exact up_alloc _ _
  rw [hs0] at hv1 hx1
  have HV1 := Hid.mk' (hv1.keep hal)
  have HX1 := Hid.mk' (hx1.keep hal)
  have HG : Hid ((w0.alloc (.cells (zeros N) 5)).heap[w.heap.size + 1]? = some (.cells (bv (List.replicate N 0)).toArray 5 (0, 0))) := by
    show _ = _
    rw [← hs0, heap_alloc_new, ← zeros_list]
  obtain ⟨w1, hc1, hg1, hb1⟩ := run_cp (dp := some ⟨w.heap.size + 1, 0, none⟩) (dLen := N) (dCap := N) (sp := va) (sLen := o.length) (sCap := vc) 3 HG.out (bv o) (by rw [bv_length]; exact (Nat.min_eq_left (by omega)).symm) (fun h => ⟨rfl, HV1.out.cellsAt h⟩) (by simp; omega) (bv_one o) (Below.refl (w.heap.size + 1) _) (Nat.le_refl _)
  obtain ⟨w2, hc2, hg, hb⟩ := run_cp (dp := dp) (dLen := N - i) (dCap := N - i) (sp := xa) (sLen := p) (sCap := xc) 3 hg1 (bv x) (by rw [bv_length, hxl]; exact (Nat.min_eq_left (by omega)).symm) (fun h => ⟨hdp (by simp [hxl] at h; omega), (HX1.out.keep hb1).cellsAt h⟩) (by rw [length_splice _ _ _ (by simp; omega)]; simp; omega) (bv_one x) hb1 (Nat.le_refl _)
  have hF2 : FI (fun j => D j ∨ j = w.heap.size + 1) w2 k F := (h0.wb (Wb.of_below (fun _ => False) (by rw [hs0]; exact hal.trans hb)) hX id).mono fun i h => .inl h
  rw [spl_wrt o x i N hi (by rw [hxl]; exact hN)] at hg
  have hwl : (wrt o i x).length = N := by rw [wrt_len, hxl, hN]
  obtain ⟨w3, hst, hF3, hW⟩ := hF2.stored (w := w) (w2 := w) n (wrt o i x) _ hn hl (bs_own hg hwl.symm (by rw [hwl]; exact hNl) (.inr rfl)) fun h => h.elim hk (by omega)
  have HQ : Hid (DoPost D w k (fput F n (wrt o i x)) (.returned (.tuple #[])) w3) := by
    have hs2 : w.heap.size + 1 < w2.heap.size := Nat.lt_of_lt_of_le (by simp [hs0]) hb.size
    refine ⟨rfl, (Wb.of_below _ (hb0.trans ((hal.trans hb).mono (by omega)))).trans hW, _, fun i h => .inl h, fun i h => h.imp id fun h => ⟨by omega, ?_⟩, hF3⟩
    have := hW.size; omega
  have hcl : ∀ (w' : World) (j : Nat), Below (w.heap.size + 1) (w0.alloc (.cells (zeros N) 5)) w' → w'.cell? ⟨w.heap.size, j, none⟩ = w0.cell? ⟨w.heap.size, j, none⟩ := fun w' j h => ((hal.trans h).cell (p := ⟨w.heap.size, j, none⟩) (Nat.lt_succ_self _))
  have hcA : w1.cell? ⟨w.heap.size, 1, none⟩ = some (.int .i64 (i : Int)) := by rw [hcl w1 1 hb1, hw0]; simp
  have hcB : w2.cell? ⟨w.heap.size, 0, none⟩ = some (.string ⟨n.toArray⟩) := by rw [hcl w2 0 hb, hw0]; simp
  subst hw0
  clear hcl hF hk hn hi hl h0 hu0 hv hx hb0 hdp hk0 hu hs0 hv1 hx1 hal hxl hX hul hlim h1 hp hy hNl hb hg hF2 hF3 hW hg1 hb1 hwl
  rcases Nat.lt_or_ge o.length (i + p) with hm | hm
  · have hm1 : ((o.length : Nat) : Int) < (i : Int) + (p : Int) := by omega
    have e : ((N : Nat) : Int) = (i : Int) + (p : Int) := by omega
    rw [e] at hmk
    clear e hN hm
    go_enter Tryz.func171, Tryz.ntmps171
    go_wp2
    go_end0
    exact HQ.out
  · have hm1 : (i : Int) + (p : Int) ≤ ((o.length : Nat) : Int) := by omega
    have e : ((N : Nat) : Int) = (o.length : Nat) := by omega
    rw [e] at hmk
    clear e hN hm
    go_enter Tryz.func171, Tryz.ntmps171
    go_wp2
    go_end0
    exact HQ.out
end Go.Proofs.YtbmhkdcmepfmbaaGreat
set_option linter.unusedVariables false
set_option linter.unusedSimpArgs false
namespace Go.Proofs.YtbmhkdcmepfmbaaGreat
open Go.RowKit
attribute [local go_sem ↓] Go.wp_at_zero Go.wp_at_succ
theorem Row.capped {A : Nat → Prop} {w : World} {a : Option Addr} {n c h : Nat} {vs : List Value} (hr : Row 1 A w (.slice a n c) n vs) (hh : h ≤ n) : Row 1 A w (.slice a h h) h (vs.take h) := by
  obtain ⟨hl, a', c', hv, hc, ha, H⟩ := hr.cutTo hh
  cases hv
  refine ⟨hl, _, _, rfl, Nat.le_refl _, fun e => ?_, H⟩
  have := ha e; omega
theorem row_hm {P : Program} {t : TypeId} {A : Nat → Prop} {w : World} {a : Option Addr} {n c : Nat} {vs : List Value} (ht : P.underlying t = some (.slice (P.elem t))) (hz : ∀ w, (sizeOf (P.elem t)).run P w = .ok 1 w) (hr : Row 1 A w (.slice a n c) n vs) (h : Nat) (hh : h ≤ n) :
    ∃ a', (∀ w, (Instr.slice t (.slice a n c) none (some (.int .i64 (h : Int))) (some (.int .i64 (h : Int)))).run P w = .ok (.slice a' h h) w) ∧ Row 1 A w (.slice a' h h) h (vs.take h) := by
  have hc : n ≤ c := by obtain ⟨_, _, _, hv, hc, _⟩ := hr; cases hv; exact hc
  obtain ⟨a', c', h1, h2⟩ := (hr.capped hh).sliced (l := 0) (h := h) (Nat.zero_le _) (Nat.le_refl _)
  have e : c' = h := by
    simp only [Go.sliced, Value.slice.injEq] at h1
    omega
  subst e
  simp only [Nat.sub_zero, List.take_take, Nat.min_self, List.drop_zero] at h2
  refine ⟨a', fun w => ?_, h2⟩
  rw [run_slice_hm w t a n c ht .i64 .i64 (c' : Int) (c' : Int) (by omega) (by omega) (by omega), hz]
  simp only [Result.andThen, Int.toNat_natCast, h1, Nat.sub_zero]
theorem hm_of {D : Nat → Prop} {w0 : World} {u : Value} {l : By} (hu : Bs D w0 u l) (p : Nat) (hp : p ≤ l.length) : ∃ a, (∀ w, (Instr.slice 22 u none (some (.int .i64 (p : Int))) (some (.int .i64 (p : Int)))).run Tryz.prog w = .ok (.slice a p p) w) ∧ Bs D w0 (.slice a p p) (l.take p) := by
  obtain ⟨a, c, rfl, hc, ha, _⟩ := hu.at
  obtain ⟨a', h1, h2⟩ := row_hm un22 sz22 hu.1 p hp
  refine ⟨a', h1, ?_, ?_⟩
  · have e : (l.take p).length = p := by rw [List.length_take]; omega
    rw [e]
    have e2 : bv (l.take p) = (bv l).take p := by simp [bv, List.map_take]
    rw [e2]; exact h2
  · have := hu.2; rw [List.length_take]; omega
set_option maxRecDepth 100000 in
set_option maxHeartbeats 1000000 in
/-- rename -/
theorem do_ren {D : Nat → Prop} {w : World} {k : Nat} {F : Fl} (n m : By) (y : Int) (hF : FI D w k F) (hn : n.length ≤ maxLen) (hm : m.length ≤ maxLen) (hk : ¬ D k) (hl : F.length < maxLen) :
    Calls Tryz.prog 176 #[.agg #[.string ⟨n.toArray⟩, .string ⟨m.toArray⟩], .map (some k), .int .i64 y] w (DoPost D w k (fput (fdel F n) m (foz F n))) := by
  obtain ⟨w0, hw0⟩ : ∃ w0, w0 = w.alloc (.cells #[.string ⟨n.toArray⟩, .string ⟨m.toArray⟩] 169) := ⟨_, rfl⟩
  have hb0 : Below w.heap.size w w0 := by rw [hw0]; exact up_alloc _ _
  have hk0 := hF.lt
  have hX : ∀ i, (fun _ : Nat => False) i → ¬ D i := fun i hi => hi.elim
  have h0 : FI D w0 k F := hF.wb (Wb.of_below (fun _ => False) hb0) hX id
  obtain ⟨v, hlk, hv⟩ := h0.looks n hn
  obtain ⟨w1, hd1, hF1, hW1⟩ := h0.dropped n 0 hn hk
  have hv1 : Bs D w1 v (foz F n) := hv.wb hW1 fun i hi => by subst hi; exact hk
  have hlen : (fdel F n).length < maxLen := by rw [len_del]; split <;> omega
  obtain ⟨w2, hs2, hF2, hW2⟩ := hF1.stored (w := w) (w2 := w) m (foz F n) v hm hlen hv1 hk
  have hlt : w.heap.size < w0.heap.size := by rw [hw0]; simp
  have hc0 : w1.cell? ⟨w.heap.size, 1, none⟩ = some (.string ⟨m.toArray⟩) := by
    rw [World.cell?_of_block (w := w0) (a := ⟨w.heap.size, 1, none⟩) (hW1.block _ hlt (by intro e; simp at e; omega)), hw0]; simp
  have HQ : Hid (DoPost D w k (fput (fdel F n) m (foz F n)) (.returned (.tuple #[])) w2) :=
    ⟨rfl, ((Wb.of_below _ hb0).trans hW1).trans hW2, D, fun _ h => h, fun _ h => .inl h, hF2⟩
  subst hw0
  clear hF hb0 hk0 hX h0 hv hF1 hW1 hv1 hlen hF2 hW2 hlt hn hm hk hl
  go_enter Tryz.func176, Tryz.ntmps176
  go_wp2
  go_end0
  exact HQ.out
theorem FI.lookK {D : Nat → Prop} {w : World} {k : Nat} {F : Fl} (h : FI D w k F) (s : By) (hs : s.length ≤ maxLen) :
    ∃ v, (∀ w' : World, (∀ b, b < w.heap.size → w'.heap[b]? = w.heap[b]?) → (Instr.lookup 71 (.map (some k)) (.string ⟨s.toArray⟩) false).run Tryz.prog w' = .ok v w') ∧ Bs D w v (foz F s) := by
  obtain ⟨hS, g, h2, h3⟩ := h
  have hn : Bs D w (.slice none 0 0) [] := ⟨⟨rfl, none, 0, rfl, Nat.le_refl _, fun _ => rfl, fun j u hj => by simp [bv] at hj⟩, by unfold lim; simp⟩
  refine ⟨(g s).getD (.slice none 0 0), fun w' hw => (h2.block (hw k h2.lt)).look0 Tryz.underlying9 Tryz.underlying71 (zero22 w') s hs, ?_⟩
  unfold foz
  rcases h3 s with ⟨a, b⟩ | ⟨v, l, a, b, c⟩
  · rw [a, b]; exact hn
  · rw [a, b]; exact c
end Go.Proofs.YtbmhkdcmepfmbaaGreat
