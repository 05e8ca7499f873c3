/- What Clear makes of a drive, in plain words. -/
import Derived.Test.YtpgpncngamagdaaRPl
set_option linter.unusedVariables false
set_option linter.unusedSimpArgs false
namespace Go.Proofs.Ytpgpncngamagdaa
open Go.RowKit
/-- the loop of Clear, and its Flush -/
def clL : Dm → List By → Int × Dm
  | d, [] => (rawE d 0, flD d)
  | d, n :: r => if rawE d (thE d n) ≠ 0 then (rawE d (thE d n), rawD d (.rem n) (thE d n)) else clL (rawD d (.rem n) (thE d n)) r
/-- the order in which Clear removes -/
def ordC (F : Fl) (first : List By) : List By := (nms F []).filter (hasB first) ++ (nms F []).filter fun s => !hasB first s
def clD (d : Dm) (first : List By) : Int × Dm := if d.dead then (9, d) else clL d (ordC d.seen first)
/-- the files without some -/
def delL (F : Fl) : List By → Fl
  | [] => F
  | n :: r => delL (fdel F n) r
theorem delL_app (F : Fl) (P Q : List By) : delL F (P ++ Q) = delL (delL F P) Q := by
  induction P generalizing F with
  | nil => rfl
  | cons n P ih => exact ih _
theorem after_rems (L : List By) : ∀ (F : Fl) (K : Nat), after F (L.map Dd.rem) K = delL F (L.take K) := by
  induction L with
  | nil => intro F K; simp [after, delL]
  | cons n L ih =>
    intro F K
    cases K with
    | zero => simp [after, delL]
    | succ K =>
      have h1 : min (K + 1) (Dd.rem n).units = 1 := by simp [Dd.units]
      rw [List.map_cons, after, h1, if_neg (by decide), ih]
      simp [delL, ddo]
/-- amid the loop: P is removed, behind which comes the rest -/
structure Cin (F : Fl) (P : List By) (d : Dm) : Prop where
  live : d.dead = false
  safe : d.safe = F
  queue : d.queue = P.map Dd.rem
  seen : d.seen = delL F P
theorem thE_of {d : Dm} {n : By} (h : (fget d.seen n).isSome = true) : thE d n = 0 := by unfold thE; rw [if_pos h]
theorem rawE_cases {d : Dm} (h : d.dead = false) : (rawE d 0 = 0 ∧ ¬ (d.armed = true ∧ d.left = 0)) ∨ (rawE d 0 = 9 ∧ d.armed = true ∧ d.left = 0) := by
  by_cases hc : d.armed = true ∧ d.left = 0
  · exact .inr ⟨by simp [rawE, mayR, h, hc], hc⟩
  · exact .inl ⟨by simp [rawE, mayR, h, hc], hc⟩
theorem rawD_rem {d : Dm} (h : d.dead = false) (n : By) : (rawD d (.rem n) 0).safe = d.safe ∧ (rawD d (.rem n) 0).seen = fdel d.seen n ∧ (rawD d (.rem n) 0).queue = d.queue ++ [.rem n] ∧ (rawD d (.rem n) 0).room = d.room ∧ (rawD d (.rem n) 0).armed = d.armed ∧ (¬ (d.armed = true ∧ d.left = 0) → (rawD d (.rem n) 0).dead = false) := by
  by_cases hc : d.armed = true
  · by_cases hl : d.left = 0
    · simp [rawD, h, mayD, hc, hl, ddo, Dd.units]
    · simp [rawD, h, mayD, hc, hl, ddo, Dd.units]
  · simp [rawD, h, mayD, hc, ddo, Dd.units]
theorem clL_ok (F : Fl) (L : List By) : ∀ (P : List By) (d : Dm), Cin F P d → Srt d.seen → (∀ n ∈ L, (fget d.seen n).isSome = true) → L.Nodup →
    ((clL d L).1 = 0 ∧ (clL d L).2.safe = delL F (P ++ L) ∧ (clL d L).2.queue = [] ∧ (clL d L).2.room = d.room) ∨ ((clL d L).1 = 9 ∧ d.armed = true ∧ ∃ j, (clL d L).2.safe = F ∧ (clL d L).2.queue = (P ++ L.take j).map Dd.rem ∧ (clL d L).2.room = d.room) := by
  induction L with
  | nil =>
    intro P d h hS hL hN
    rcases rawE_cases h.live with ⟨h1, h2⟩ | ⟨h1, h2, h3⟩
    · left
      refine ⟨h1, ?_⟩
      by_cases hc : d.armed = true
      · have hl : ¬ d.left = 0 := fun hl => h2 ⟨hc, hl⟩
        simp [clL, flD, h.live, hc, hl, mayD, h.seen]
      · simp [clL, flD, h.live, hc, mayD, h.seen]
    · right
      exact ⟨h1, h2, 0, by simp [clL, flD, h.live, h2, h3, h.safe], by simp [clL, flD, h.live, h2, h3, h.queue], by simp [clL, flD, h.live, h2, h3]⟩
  | cons n L ih =>
    intro P d h hS hL hN
    have ht := thE_of (hL n (List.mem_cons_self ..))
    obtain ⟨e1, e2, e3, e4, e5, e6⟩ := rawD_rem h.live n
    rcases rawE_cases h.live with ⟨h1, h2⟩ | ⟨h1, h2, h3⟩
    · have hs : clL d (n :: L) = clL (rawD d (.rem n) 0) L := by simp only [clL, ht, h1]; simp
      have hc : Cin F (P ++ [n]) (rawD d (.rem n) 0) := ⟨e6 h2, e1.trans h.safe, by rw [e3, h.queue]; simp, by rw [e2, h.seen, delL_app]; rfl⟩
      have hn := List.nodup_cons.1 hN
      have := ih _ _ hc (by rw [e2]; exact hS.del n) (fun m hm => by
        rw [e2, fget_del hS, if_neg (by rintro rfl; exact hn.1 hm)]
        exact hL m (List.mem_cons_of_mem _ hm)) hn.2
      rw [hs]
      rcases this with ⟨k1, k2, k3, k4⟩ | ⟨k1, k2, j, k3, k4, k5⟩
      · exact .inl ⟨k1, by rw [k2]; simp, k3, k4.trans e4⟩
      · exact .inr ⟨k1, e5 ▸ k2, j + 1, k3, by rw [k4]; simp, k5.trans e4⟩
    · have hs : clL d (n :: L) = (9, rawD d (.rem n) 0) := by simp only [clL, ht, h1]; simp
      rw [hs]
      exact .inr ⟨rfl, h2, 1, e1.trans h.safe, by rw [e3, h.queue]; simp, e4⟩
theorem has_nms0 (F : Fl) (hF : Srt F) (t : By) : hasB (nms F []) t = (fget F t).isSome := by
  unfold hasB nms
  rw [Bool.eq_iff_iff, List.contains_iff_mem, List.mem_filter, List.mem_map]
  constructor
  · rintro ⟨⟨x, hx, rfl⟩, _⟩
    rw [fget_of_mem hF (s := x.1) (l := x.2) hx]; rfl
  · intro h
    obtain ⟨l, hl⟩ := Option.isSome_iff_exists.1 h
    exact ⟨⟨_, fget_mem hl, rfl⟩, by simp [pfx]⟩
theorem Srt.delL {F : Fl} (h : Srt F) (L : List By) : Srt (delL F L) := by
  induction L generalizing F with
  | nil => exact h
  | cons n L ih => exact ih (h.del n)
theorem fget_delL {F : Fl} (h : Srt F) (L : List By) (s : By) : fget (delL F L) s = if s ∈ L then none else fget F s := by
  induction L generalizing F with
  | nil => simp [delL]
  | cons n L ih =>
    show fget (Go.Proofs.Ytpgpncngamagdaa.delL (fdel F n) L) s = _
    rw [ih (h.del n), fget_del h]
    by_cases h1 : s ∈ L <;> by_cases h2 : s = n <;> simp [h1, h2]
theorem mem_nms {F : Fl} (hF : Srt F) (s : By) : s ∈ nms F [] ↔ (fget F s).isSome = true := by
  have h := has_nms0 F hF s
  rw [← h]
  unfold hasB
  rw [List.contains_iff_mem]
theorem mem_ordC {F : Fl} (hF : Srt F) (first : List By) (s : By) : s ∈ ordC F first ↔ (fget F s).isSome = true := by
  rw [← mem_nms hF]
  unfold ordC
  rw [List.mem_append, List.mem_filter, List.mem_filter]
  cases hasB first s <;> simp
theorem fl_nil {F : Fl} (h : ∀ s, fget F s = none) : F = [] := by
  cases F with
  | nil => rfl
  | cons x r => have := h x.1; simp [fget] at this
theorem delL_all {F : Fl} (hF : Srt F) (first : List By) : delL F (ordC F first) = [] := by
  apply fl_nil
  intro s
  rw [fget_delL hF]
  split
  · rfl
  · rename_i h
    rw [mem_ordC hF] at h
    simpa using h
theorem nms_srt {F : Fl} (hF : Srt F) : (nms F []).Pairwise (· < ·) := by
  unfold nms
  exact List.Pairwise.filter _ (List.pairwise_map.2 hF)
theorem ordC_nodup {F : Fl} (hF : Srt F) (first : List By) : (ordC F first).Nodup := by
  have h := (nms_srt hF).imp (fun {a b} (h : a < b) => (show a ≠ b from fun e => by subst e; exact absurd h (List.lt_irrefl _)))
  unfold ordC
  rw [List.nodup_append]
  refine ⟨h.filter _, h.filter _, ?_⟩
  intro a ha b hb e
  subst e
  have h1 := (List.mem_filter.1 ha).2
  have h2 := (List.mem_filter.1 hb).2
  rw [h1] at h2
  simp at h2
/-- key comes first -/
theorem ordC_key {F : Fl} (hF : Srt F) (k n : By) (hkn : k < n) (hk : (fget F k).isSome = true) : ∃ R, ordC F [k, n] = k :: R := by
  have hs := (nms_srt hF).filter (hasB [k, n])
  have hm : k ∈ (nms F []).filter (hasB [k, n]) := List.mem_filter.2 ⟨(mem_nms hF k).2 hk, by simp [hasB]⟩
  have hall : ∀ x ∈ (nms F []).filter (hasB [k, n]), x = k ∨ x = n := fun x hx => by
    have := (List.mem_filter.1 hx).2
    unfold hasB at this
    simpa using this
  unfold ordC
  generalize (nms F []).filter (hasB [k, n]) = Z at *
  cases Z with
  | nil => cases hm
  | cons z Z =>
    rcases hall z (List.mem_cons_self ..) with rfl | rfl
    · exact ⟨_, rfl⟩
    · rcases List.mem_cons.1 hm with rfl | h
      · exact ⟨_, rfl⟩
      · have h1 := (List.pairwise_cons.1 hs).1 k h
        exact absurd (List.lt_trans h1 hkn) (List.lt_irrefl _)
end Go.Proofs.Ytpgpncngamagdaa
