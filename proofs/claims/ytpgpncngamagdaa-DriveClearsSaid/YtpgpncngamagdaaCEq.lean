/- The drive of DriveClears, in plain words. -/
import Derived.Test.YtpgpncngamagdaaCEp
set_option linter.unusedVariables false
set_option linter.unusedSimpArgs false
namespace Go.Proofs.Ytpgpncngamagdaa
open Go.RowKit
/-- nothing is armed: all goes -/
theorem clL_un (L : List By) : ∀ (d : Dm), d.dead = false → d.armed = false → Srt d.seen → (∀ n ∈ L, (fget d.seen n).isSome = true) → L.Nodup → clL d L = (0, { d with safe := delL d.seen L, seen := delL d.seen L, queue := [] }) := by
  induction L with
  | nil =>
    intro d h1 h2 hS hL hN
    simp [clL, rawE, mayR, flD, mayD, h1, h2, delL]
  | cons n L ih =>
    intro d h1 h2 hS hL hN
    have ht := thE_of (hL n (List.mem_cons_self ..))
    have hn := List.nodup_cons.1 hN
    have e1 : rawE d 0 = 0 := by simp [rawE, mayR, h1, h2]
    have e2 : rawD d (.rem n) 0 = { d with seen := fdel d.seen n, queue := d.queue ++ [.rem n] } := by simp [rawD, mayD, h1, h2, ddo]
    have hs : clL d (n :: L) = clL (rawD d (.rem n) 0) L := by simp only [clL, ht, e1]; simp
    rw [hs, e2, ih { d with seen := fdel d.seen n, queue := d.queue ++ [.rem n] } h1 h2 (hS.del n) (fun m hm => by
        show (fget (fdel d.seen n) m).isSome = true
        rw [fget_del hS, if_neg (by rintro rfl; exact hn.1 hm)]
        exact hL m (List.mem_cons_of_mem _ hm)) hn.2]
    rfl
theorem clD_un (S : Fl) (hS : Srt S) (first : List By) : clD (rq S false 0) first = (0, rq [] false 0) := by
  unfold clD
  rw [if_neg (by simp [rq])]
  show clL (rq S false 0) (ordC S first) = _
  rw [clL_un _ _ rfl rfl hS (fun n hn => (mem_ordC hS first n).1 hn) (ordC_nodup hS first)]
  have : delL (rq S false 0).seen (ordC S first) = [] := delL_all hS first
  rw [this]; rfl
theorem len_delL (F : Fl) (L : List By) : (delL F L).length ≤ F.length := by
  induction L generalizing F with
  | nil => exact Nat.le_refl _
  | cons n L ih =>
    refine Nat.le_trans (ih (fdel F n)) ?_
    rw [len_del]; split <;> omega
theorem mem_delL {F : Fl} {L : List By} {a : By × By} (h : a ∈ delL F L) : a ∈ F := by
  induction L generalizing F with
  | nil => exact h
  | cons n L ih => exact mem_del (ih (F := fdel F n) h)
theorem qok_rems (L : List By) : ∀ F, Qok F (L.map Dd.rem) := by
  induction L with
  | nil => intro F; trivial
  | cons n L ih => intro F; exact ⟨trivial, ih _⟩
theorem units_rems (L : List By) : units (L.map Dd.rem) = L.length := by
  induction L with
  | nil => rfl
  | cons n L ih => simp only [units, List.map_cons, List.sum_cons, List.length_cons] at ih ⊢; simp only [Dd.units]; omega
theorem len_ordC (F : Fl) (first : List By) : (ordC F first).length ≤ F.length := by
  have h : (ordC F first).length = (nms F []).length := by
    unfold ordC
    rw [List.length_append]
    induction nms F [] with
    | nil => rfl
    | cons x r ih => simp only [List.filter_cons]; cases hasB first x <;> simp <;> omega
  rw [h]
  unfold nms
  exact Nat.le_trans (List.length_filter_le _ _) (by simp)
def keyB : By := [107, 101, 121]
def noneB : By := [110, 111, 110, 101]
/-- what the armed drive is behind Clear, and what a crash makes of it -/
structure Cok (F : Fl) (a : Bool) (keep : Int) (p : Int × Dm) : Prop where
  code : p.1 = 0 ∨ (p.1 = 9 ∧ a = true)
  qok : Qok p.2.safe p.2.queue
  len : p.2.safe.length ≤ F.length ∧ p.2.queue.length ≤ F.length
  unit : units p.2.queue ≤ F.length
  crash : ∃ S, crD p.2 keep = rq S false 0 ∧ Srt S ∧ S.length ≤ F.length ∧ (∀ x ∈ S, x ∈ F) ∧ (p.1 = 0 → S = []) ∧ ((fget S keyB).isSome = true → S = F)
theorem clear_ok (F : Fl) (hF : Srt F) (hk : (fget F keyB).isSome = true) (a : Bool) (m : Int) (keep : Int) : Cok F a keep (clD (rq F a m) [keyB, noneB]) := by
  obtain ⟨R, hR⟩ := ordC_key hF keyB noneB (by decide) hk
  have hl := len_ordC F [keyB, noneB]
  have hc : clD (rq F a m) [keyB, noneB] = clL (rq F a m) (ordC F [keyB, noneB]) := by unfold clD; rw [if_neg (by simp [rq])]; rfl
  have hall := delL_all hF [keyB, noneB]
  have h := clL_ok F (ordC F [keyB, noneB]) [] (rq F a m) ⟨rfl, rfl, rfl, rfl⟩ hF (fun n hn => (mem_ordC hF _ n).1 hn) (ordC_nodup hF _)
  rw [← hc] at h
  simp only [List.nil_append] at h
  rw [hall] at h
  generalize clD (rq F a m) [keyB, noneB] = p at *
  obtain ⟨e, d⟩ := p
  simp only at h
  rcases h with ⟨h1, h2, h3, h4⟩ | ⟨h1, h2, j, h3, h4, h5⟩
  · refine ⟨.inl h1, ?_, ?_, ?_, [], ?_, List.Pairwise.nil, Nat.zero_le _, (fun x hx => (List.not_mem_nil hx).elim), (fun _ => rfl), (fun h => by simp [fget] at h)⟩
    · show Qok d.safe d.queue; rw [h3]; trivial
    · show d.safe.length ≤ _ ∧ d.queue.length ≤ _; rw [h2, h3]; exact ⟨Nat.zero_le _, Nat.zero_le _⟩
    · show units d.queue ≤ _; rw [h3]; exact Nat.zero_le _
    · refine crd_rq _ _ _ ?_ h4
      show after d.safe d.queue _ = []
      rw [h2, h3, after_nil]
  · have hjl : ((ordC F [keyB, noneB]).take j).length ≤ F.length := by rw [List.length_take]; omega
    refine ⟨.inr ⟨h1, h2⟩, ?_, ?_, ?_, delL F (((ordC F [keyB, noneB]).take j).take (crK d keep)), ?_, hF.delL _, len_delL _ _, fun x hx => mem_delL hx, fun h => ?_, fun h => ?_⟩
    · show Qok d.safe d.queue; rw [h4]; exact qok_rems _ _
    · show d.safe.length ≤ _ ∧ d.queue.length ≤ _; rw [h3, h4, List.length_map]; exact ⟨Nat.le_refl _, hjl⟩
    · show units d.queue ≤ _; rw [h4, units_rems]; exact hjl
    · refine crd_rq _ _ _ ?_ h5
      rw [h3, h4, after_rems]
    · simp only at h; omega
    · rw [fget_delL hF] at h
      split at h
      · cases h
      · rename_i hm
        rw [hR, List.take_take] at hm ⊢
        cases hi : min (crK d keep) j with
        | zero => rfl
        | succ i => rw [hi] at hm; simp at hm
/-- files laid one by one -/
def apD (d : Dm) (n l : By) : Dm := rawD d (.write n (foz d.seen n).length l) (wrE d n ((foz d.seen n).length : Int) l.length)
structure Cs0 (k : Nat) (d : Dm) : Prop where
  bd : Bd k k k 1048576 d
  live : d.dead = false
  armed : d.armed = false
  left : d.left = 0
  nm : ∀ x ∈ d.seen, x.1.length ≤ maxLen
theorem Cs0.new : Cs0 0 (rq [] false 0) := ⟨⟨List.Pairwise.nil, Nat.le_refl _, Nat.le_refl _, Nat.le_refl _, rfl⟩, rfl, rfl, rfl, (fun x hx => (List.not_mem_nil hx).elim)⟩
theorem Cs0.wr {k : Nat} {d : Dm} (h : Cs0 k d) (hk : k ≤ 1000) (n : By) (l : By) (hl : l.length = 1) : wrE d n ((foz d.seen n).length : Int) l.length = 0 := by
  have h1 := h.bd.tot
  have h2 := h.bd.room
  unfold wrE
  rw [h2, hl, if_neg (by omega), if_neg (by omega)]
theorem Cs0.app {k : Nat} {d : Dm} (h : Cs0 k d) (hk : k ≤ 1000) (n : By) (l : By) (hl : l.length = 1) (hn : n.length ≤ maxLen) : Cs0 (k + 1) (apD d n l) ∧ (fget (apD d n l).seen n).isSome = true := by
  have hw := h.wr hk n l hl
  have hb : Bd (k + l.length) (k + 1) (k + 1) 1048576 (apD d n l) := h.bd.app n l _
  rw [hl] at hb
  have e : apD d n l = { d with seen := fput d.seen n (wrt (foz d.seen n) (foz d.seen n).length (l.take (l.length + 1 - 1))), queue := d.queue ++ [.write n (foz d.seen n).length l] } := by
    unfold apD
    rw [hw]
    simp [rawD, mayD, h.live, h.armed, ddo, Dd.units]
  refine ⟨⟨hb, ?_, ?_, ?_, ?_⟩, ?_⟩
  · rw [e]; exact h.live
  · rw [e]; exact h.armed
  · rw [e]; exact h.left
  · rw [e]
    intro x hx
    rcases mem_put hx with rfl | hx
    · exact hn
    · exact h.nm x hx
  · rw [e]
    show (fget (fput _ _ _) _).isSome = true
    rw [fget_put h.bd.srt, if_pos rfl]; rfl
theorem Cs0.flush {k : Nat} {d : Dm} (h : Cs0 k d) : flD d = rq d.seen false 0 := by
  have h1 := h.bd.room
  have h2 := h.live
  have h3 := h.armed
  have h4 := h.left
  obtain ⟨a, b, c, r, ar, le, de⟩ := d
  simp only at h1 h2 h3 h4
  subst h1; subst h2; subst h3; subst h4
  rfl
theorem Cs0.err {k : Nat} {d : Dm} (h : Cs0 k d) : rawE d 0 = 0 := by simp [rawE, mayR, h.live, h.armed]
theorem nms_all (F : Fl) : nms F [] = F.map (·.1) := by
  unfold nms
  exact List.filter_eq_self.2 fun s _ => by simp [pfx]
theorem nms_nm {F : Fl} (h : ∀ x ∈ F, x.1.length ≤ maxLen) : ∀ s ∈ nms F [], s.length ≤ maxLen := by
  intro s hs
  rw [nms_all] at hs
  obtain ⟨x, hx, rfl⟩ := List.mem_map.1 hs
  exact h x hx
end Go.Proofs.Ytpgpncngamagdaa
