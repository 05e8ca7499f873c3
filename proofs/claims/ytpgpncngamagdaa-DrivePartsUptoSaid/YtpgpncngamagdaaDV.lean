/- The reference's drive in plain words, and that it goes as the drive goes. No program is named here. -/
import Derived.Test.YtpgpncngamagdaaDC
set_option linter.unusedVariables false
set_option linter.unusedSimpArgs false
namespace Go.Proofs.Ytpgpncngamagdaa
open Go.RowKit
/-- all deeds done -/
def all : Fl → List Dd → Fl
  | F, [] => F
  | F, x :: r => all (ddo F x x.units) r
theorem all_snoc (F : Fl) (Q : List Dd) (x : Dd) : all F (Q ++ [x]) = ddo (all F Q) x x.units := by
  induction Q generalizing F with
  | nil => rfl
  | cons y Q ih => exact ih _
theorem units_cons (x : Dd) (Q : List Dd) : units (x :: Q) = x.units + units Q := by simp [units]
theorem after_all (F : Fl) (Q : List Dd) (k : Nat) (h : units Q ≤ k) : after F Q k = all F Q := by
  induction Q generalizing F k with
  | nil => rfl
  | cons x Q ih =>
    rw [units_cons] at h
    have hp := x.pos
    have h1 : min k x.units = x.units := by omega
    rw [after, h1, if_neg (by omega)]
    exact ih _ _ (by omega)
structure Rd where
  safe : Fl
  queue : List Dd
  room : Int
  armed : Int
  dead : Bool
def cur (r : Rd) : Fl := all r.safe r.queue
def trE (F : Fl) (n : By) (k : Int) : Int := if k < 0 ∨ ((fget F n).isSome = true ∧ ((foz F n).length : Int) < k) then 1 else if (fget F n).isSome then 0 else 6
def wrF (F : Fl) (room : Int) (n : By) (i : Int) (l : Nat) : Int := if i < 0 ∨ ((foz F n).length : Int) < i then 1 else if 0 < (l : Int) - ((foz F n).length - i) ∧ room - (tot F : Int) < (l : Int) - ((foz F n).length - i) then 8 else 0
def thF (F : Fl) (n : By) : Int := if (fget F n).isSome then 0 else 6
def rfE (r : Rd) (e : Int) : Int := if r.dead then 9 else if e ≠ 0 then e else if r.armed = 0 then 9 else 0
def arm1 (r : Rd) : Rd := if r.armed = 0 then { r with dead := true } else if 0 < r.armed then { r with armed := r.armed - 1 } else r
def rfQ (r : Rd) (e : Int) (x : Dd) : Rd := if r.dead = true ∨ e ≠ 0 then r else { arm1 r with queue := r.queue ++ [x] }
def rfF (r : Rd) : Rd := if r.dead then r else if r.armed = 0 then arm1 r else { arm1 r with safe := cur r, queue := [] }
def rfA (r : Rd) (n : Int) : Rd := if r.dead then r else { r with armed := if n < 0 then -1 else n }
def rfC (r : Rd) (k : Int) : Rd := ⟨after r.safe r.queue (k % ((units r.queue : Int) + 1)).toNat, [], r.room, -1, false⟩
def rfW (r : Rd) : Rd := ⟨[], [], r.room, -1, false⟩
def arD (d : Dm) (n : Int) : Dm := { d with armed := decide (0 ≤ n), left := n }
def wpD (d : Dm) : Dm := ⟨[], [], [], d.room, false, 0, false⟩
/-- the two are one -/
structure Eqv (d : Dm) (r : Rd) : Prop where
  safe : d.safe = r.safe
  seen : d.seen = cur r
  queue : d.queue = r.queue
  room : d.room = r.room
  dead : d.dead = r.dead
  arm : r.dead = false → (d.armed = true ∧ d.left = r.armed ∧ 0 ≤ r.armed) ∨ (d.armed = false ∧ r.armed < 0)
theorem Eqv.code {d : Dm} {r : Rd} (h : Eqv d r) (e : Int) : rawE d e = rfE r e := by
  unfold rawE mayR rfE
  rw [h.dead]
  cases hd : r.dead
  · by_cases he : e = 0
    · subst he
      rcases h.arm hd with ⟨h1, h2, h3⟩ | ⟨h1, h2⟩
      · rw [h1, h2]; by_cases h0 : r.armed = 0 <;> simp [h0]
      · rw [h1]; have : r.armed ≠ 0 := by omega
        simp [this]
    · simp [he]
  · simp
theorem Eqv.raw {d : Dm} {r : Rd} (h : Eqv d r) (e : Int) (x : Dd) : Eqv (rawD d x e) (rfQ r e x) := by
  unfold rawD rfQ
  by_cases hn : d.dead = false ∧ e = 0
  · obtain ⟨h1, rfl⟩ := hn
    have h2 : r.dead = false := by rw [← h.dead]; exact h1
    rw [if_pos ⟨h1, rfl⟩, if_neg (by simp [h2])]
    have hc : ddo d.seen x x.units = all r.safe (r.queue ++ [x]) := by rw [all_snoc, h.seen]; rfl
    unfold mayD arm1
    rw [if_neg (by simp [h1]), if_neg (by simp)]
    rcases h.arm h2 with ⟨k1, k2, k3⟩ | ⟨k1, k2⟩
    · rw [if_pos k1, k2]
      by_cases h0 : r.armed = 0
      · rw [if_pos h0, if_pos h0]
        exact ⟨h.safe, hc, by simp [h.queue], h.room, rfl, fun hh => by cases hh⟩
      · rw [if_neg h0, if_neg h0, if_pos (by omega)]
        exact ⟨h.safe, hc, by simp [h.queue], h.room, h.dead, fun _ => .inl ⟨k1, rfl, by show 0 ≤ r.armed - 1; omega⟩⟩
    · rw [if_neg (by simp [k1]), if_neg (by omega), if_neg (by omega)]
      exact ⟨h.safe, hc, by simp [h.queue], h.room, h.dead, fun _ => .inr ⟨k1, k2⟩⟩
  · rw [if_neg hn, if_pos]
    · exact h
    · rw [← h.dead]; by_cases h1 : d.dead = false
      · exact .inr fun h2 => hn ⟨h1, h2⟩
      · exact .inl (by simpa using h1)
theorem Eqv.flush {d : Dm} {r : Rd} (h : Eqv d r) : Eqv (flD d) (rfF r) := by
  unfold flD rfF
  rw [h.dead]
  cases hd : r.dead
  · have hd' : d.dead = false := by rw [h.dead, hd]
    unfold mayD arm1
    rcases h.arm hd with ⟨k1, k2, k3⟩ | ⟨k1, k2⟩
    · by_cases h0 : r.armed = 0
      · simp only [k1, k2, h0, hd', if_true, Bool.false_eq_true, if_false, and_self]
        exact ⟨h.safe, h.seen, h.queue, h.room, rfl, fun hh => by cases hh⟩
      · have h1 : 0 < r.armed := by omega
        simp only [k1, k2, h0, hd', h1, if_true, Bool.false_eq_true, if_false, and_false, ne_eq, not_true_eq_false]
        exact ⟨h.seen, h.seen, rfl, h.room, hd.symm, fun _ => .inl ⟨rfl, rfl, by show 0 ≤ r.armed - 1; omega⟩⟩
    · have h0 : ¬ r.armed = 0 := by omega
      have h1 : ¬ 0 < r.armed := by omega
      simp only [k1, h0, hd', h1, Bool.false_eq_true, if_false, false_and, ne_eq, not_true_eq_false]
      exact ⟨h.seen, h.seen, rfl, h.room, hd.symm, fun _ => .inr ⟨rfl, k2⟩⟩
  · simp only [if_true]; exact h
theorem Eqv.armd {d : Dm} {r : Rd} (h : Eqv d r) (n : Int) : Eqv (arD d n) (rfA r n) := by
  unfold arD rfA
  cases hd : r.dead
  · rw [if_neg (by simp)]
    refine ⟨h.safe, h.seen, h.queue, h.room, by show d.dead = false; rw [h.dead, hd], fun _ => ?_⟩
    by_cases hn : n < 0
    · exact .inr ⟨by simp; omega, by simp [hn]⟩
    · refine .inl ⟨by simp; omega, by simp [hn], by simp [hn]; omega⟩
  · rw [if_pos rfl]
    exact ⟨h.safe, h.seen, h.queue, h.room, h.dead, fun hh => by rw [hd] at hh; cases hh⟩
theorem Eqv.crash {d : Dm} {r : Rd} (h : Eqv d r) (k : Int) : Eqv (crD d k) (rfC r k) := by
  unfold crD rfC crK
  rw [h.safe, h.queue]
  exact ⟨rfl, rfl, rfl, h.room, rfl, fun _ => .inr ⟨rfl, by show (-1 : Int) < 0; decide⟩⟩
theorem Eqv.wipe {d : Dm} {r : Rd} (h : Eqv d r) : Eqv (wpD d) (rfW r) := ⟨rfl, rfl, rfl, h.room, rfl, fun _ => .inr ⟨rfl, by show (-1 : Int) < 0; decide⟩⟩
theorem Eqv.new (room : Int) : Eqv ⟨[], [], [], max 0 room, false, 0, false⟩ ⟨[], [], max 0 room, -1, false⟩ := ⟨rfl, rfl, rfl, rfl, rfl, fun _ => .inr ⟨rfl, by show (-1 : Int) < 0; decide⟩⟩
/-- the deeds can be done one behind the other, and no files among them have more than T bytes, nor do the names go beyond the most -/
def Dn1 : Dd → Prop
  | .write n _ l => n.length ≤ maxLen ∧ l.length ≤ lim
  | .trim n _ => n.length ≤ maxLen
  | .ren a b => a.length ≤ maxLen ∧ b.length ≤ maxLen
  | .rem n => n.length ≤ maxLen
def Fg (T : Nat) (F : Fl) : Prop := Srt F ∧ tot F ≤ T ∧ ∀ t ∈ F, t.1.length ≤ maxLen
def Qg (T : Nat) : Fl → List Dd → Prop
  | F, [] => Fg T F
  | F, x :: r => Fg T F ∧ Dok F x ∧ Dn1 x ∧ Qg T (ddo F x x.units) r
theorem Fg.mono {T T' : Nat} {F : Fl} (h : Fg T F) (hT : T ≤ T') : Fg T' F := ⟨h.1, Nat.le_trans h.2.1 hT, h.2.2⟩
theorem Qg.mono {T T' : Nat} (hT : T ≤ T') {F : Fl} {Q : List Dd} (h : Qg T F Q) : Qg T' F Q := by
  induction Q generalizing F with
  | nil => exact Fg.mono h hT
  | cons x r ih => exact ⟨h.1.mono hT, h.2.1, h.2.2.1, ih h.2.2.2⟩
theorem Qg.first {T : Nat} {F : Fl} {Q : List Dd} (h : Qg T F Q) : Fg T F := by
  cases Q with
  | nil => exact h
  | cons x r => exact h.1
theorem Qg.last {T : Nat} {F : Fl} {Q : List Dd} (h : Qg T F Q) : Fg T (all F Q) := by
  induction Q generalizing F with
  | nil => exact h
  | cons x r ih => exact ih h.2.2.2
theorem Qg.ok {T : Nat} {F : Fl} {Q : List Dd} (h : Qg T F Q) : Qok F Q := by
  induction Q generalizing F with
  | nil => trivial
  | cons x r ih => exact ⟨h.2.1, ih h.2.2.2⟩
theorem Qg.snoc {T T' : Nat} (hT : T ≤ T') {x : Dd} {F : Fl} {Q : List Dd} (h : Qg T F Q) (h1 : Dok (all F Q) x) (h2 : Dn1 x) (h3 : Fg T' (ddo (all F Q) x x.units)) : Qg T' F (Q ++ [x]) := by
  induction Q generalizing F with
  | nil => exact ⟨Fg.mono h hT, h1, h2, h3⟩
  | cons y r ih => exact ⟨h.1.mono hT, h.2.1, h.2.2.1, ih h.2.2.2 h1 h3⟩
theorem mem_nm_put {F : Fl} {n l : By} (h : ∀ t ∈ F, t.1.length ≤ maxLen) (hn : n.length ≤ maxLen) : ∀ t ∈ fput F n l, t.1.length ≤ maxLen := fun t ht => by
  rcases mem_put ht with rfl | ht
  · exact hn
  · exact h t ht
theorem mem_nm_del {F : Fl} {n : By} (h : ∀ t ∈ F, t.1.length ≤ maxLen) : ∀ t ∈ fdel F n, t.1.length ≤ maxLen := fun t ht => h t (mem_del ht)
theorem foz_del_le (F : Fl) (a b : By) : tot (fput (fdel F a) b (foz F a)) ≤ tot F ∨ True := .inr trivial
theorem ddo_nm {F : Fl} {x : Dd} (k : Nat) (h : ∀ t ∈ F, t.1.length ≤ maxLen) (hx : Dn1 x) : ∀ t ∈ ddo F x k, t.1.length ≤ maxLen := by
  cases x with
  | write n i l => exact mem_nm_put h hx.1
  | trim n sz => exact mem_nm_put h hx
  | ren a b => exact mem_nm_put (mem_nm_del h) hx.2
  | rem n => exact mem_nm_del h
/-- how many bytes a deed makes of them -/
theorem tot_ddo {F : Fl} (hF : Srt F) (x : Dd) (k : Nat) : tot (ddo F x k) ≤ match x with | .write n i l => tot F + (max (foz F n).length (i + l.length) - (foz F n).length) | _ => tot F := by
  cases x with
  | write n i l =>
    have := tot_put F hF n (wrt (foz F n) i (l.take (k - 1)))
    rw [wrt_len, List.length_take] at this
    simp only [ddo]
    omega
  | trim n sz =>
    have := tot_put F hF n ((foz F n).take sz)
    rw [List.length_take] at this
    simp only [ddo]
    omega
  | ren a b =>
    have h1 := tot_put (fdel F a) (hF.del a) b (foz F a)
    have h2 := tot_del F a
    simp only [ddo]
    omega
  | rem n => have := tot_del F n; simp only [ddo]; omega
theorem tot_ddo_mono {F : Fl} (hF : Srt F) (x : Dd) (k T : Nat) (h : tot F ≤ T) (h' : tot (ddo F x x.units) ≤ T) : tot (ddo F x k) ≤ T := by
  cases x with
  | write n i l =>
    have h1 := tot_put F hF n (wrt (foz F n) i (l.take (k - 1)))
    have h2 := tot_put F hF n (wrt (foz F n) i (l.take (l.length + 1 - 1)))
    rw [wrt_len, List.length_take] at h1 h2
    simp only [ddo, Dd.units] at h' ⊢
    omega
  | trim n sz => have := tot_ddo hF (.trim n sz) k; simp only at this; omega
  | ren a b => have := tot_ddo hF (.ren a b) k; simp only at this; omega
  | rem n => have := tot_ddo hF (.rem n) k; simp only at this; omega
theorem Qg.after {T : Nat} {F : Fl} {Q : List Dd} (k : Nat) (h : Qg T F Q) : Fg T (after F Q k) := by
  induction Q generalizing F k with
  | nil => exact h
  | cons x r ih =>
    rw [Go.Proofs.Ytpgpncngamagdaa.after]
    split
    · exact h.1
    · by_cases hk : x.units ≤ k
      · rw [Nat.min_eq_right hk]; exact ih _ h.2.2.2
      · have e : k - min k x.units = 0 := by omega
        rw [e, after_zero]
        exact ⟨h.1.1.ddo _ _, tot_ddo_mono h.1.1 x _ T h.1.2.1 h.2.2.2.first.2.1, ddo_nm _ h.1.2.2 h.2.2.1⟩
theorem ddo_len' (F : Fl) (hF : Srt F) (x : Dd) (k : Nat) : (ddo F x k).length ≤ F.length + 1 := ddo_len F hF x k
theorem after_len {T : Nat} {F : Fl} {Q : List Dd} (k : Nat) (h : Qg T F Q) : (after F Q k).length ≤ F.length + Q.length := by
  induction Q generalizing F k with
  | nil => simp [Go.Proofs.Ytpgpncngamagdaa.after]
  | cons x r ih =>
    rw [Go.Proofs.Ytpgpncngamagdaa.after]
    split
    · omega
    · by_cases hk : x.units ≤ k
      · rw [Nat.min_eq_right hk]
        have h1 := ih (k - x.units) h.2.2.2
        have h2 := ddo_len F h.1.1 x x.units
        simp only [List.length_cons]; omega
      · have e : k - min k x.units = 0 := by omega
        rw [e, after_zero]
        have h2 := ddo_len F h.1.1 x (min k x.units)
        simp only [List.length_cons]; omega
theorem all_len {T : Nat} {F : Fl} {Q : List Dd} (h : Qg T F Q) : (all F Q).length ≤ F.length + Q.length := by
  rw [← after_all F Q _ (Nat.le_refl _)]; exact after_len _ h
end Go.Proofs.Ytpgpncngamagdaa
