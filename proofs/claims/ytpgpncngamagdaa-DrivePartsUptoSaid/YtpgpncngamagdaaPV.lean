/- One act of the drive and of the reference, in plain words: they go alike, and stay in form. No program is named here. -/
import Derived.Test.YtpgpncngamagdaaDV
import Derived.Test.YtpgpncngamagdaaRM
set_option linter.unusedVariables false
set_option linter.unusedSimpArgs false
namespace Go.Proofs.Ytpgpncngamagdaa
open Go.RowKit
structure Ac where
  kind : Int
  nm : By
  tn : By
  n : Int
  da : By
def plD (d : Dm) (a : Ac) : Dm :=
  if a.kind = 1 then rawD d (.write a.nm (foz d.seen a.nm).length a.da) (wrE d a.nm ((foz d.seen a.nm).length : Int) a.da.length)
  else if a.kind = 2 then rawD d (.write a.nm a.n.toNat a.da) (wrE d a.nm a.n a.da.length)
  else if a.kind = 3 then rawD d (.trim a.nm a.n.toNat) (trE d.seen a.nm a.n)
  else if a.kind = 4 then rawD d (.ren a.nm a.tn) (thE d a.nm)
  else if a.kind = 5 then rawD d (.rem a.nm) (thE d a.nm)
  else if a.kind = 6 then flD d
  else if a.kind = 7 then arD d a.n
  else if a.kind = 8 then crD d a.n
  else if a.kind = 9 then wpD d
  else d
def plE (d : Dm) (a : Ac) : Int :=
  if a.kind = 1 then rawE d (wrE d a.nm ((foz d.seen a.nm).length : Int) a.da.length)
  else if a.kind = 2 then rawE d (wrE d a.nm a.n a.da.length)
  else if a.kind = 3 then rawE d (trE d.seen a.nm a.n)
  else if a.kind = 4 then rawE d (thE d a.nm)
  else if a.kind = 5 then rawE d (thE d a.nm)
  else if a.kind = 6 then rawE d 0
  else 0
def plR (r : Rd) (a : Ac) : Rd :=
  if a.kind = 1 then rfQ r (wrF (cur r) r.room a.nm ((foz (cur r) a.nm).length : Int) a.da.length) (.write a.nm (foz (cur r) a.nm).length a.da)
  else if a.kind = 2 then rfQ r (wrF (cur r) r.room a.nm a.n a.da.length) (.write a.nm a.n.toNat a.da)
  else if a.kind = 3 then rfQ r (trE (cur r) a.nm a.n) (.trim a.nm a.n.toNat)
  else if a.kind = 4 then rfQ r (thF (cur r) a.nm) (.ren a.nm a.tn)
  else if a.kind = 5 then rfQ r (thF (cur r) a.nm) (.rem a.nm)
  else if a.kind = 6 then rfF r
  else if a.kind = 7 then rfA r a.n
  else if a.kind = 8 then rfC r a.n
  else if a.kind = 9 then rfW r
  else r
def plF (r : Rd) (a : Ac) : Int :=
  if a.kind = 1 then rfE r (wrF (cur r) r.room a.nm ((foz (cur r) a.nm).length : Int) a.da.length)
  else if a.kind = 2 then rfE r (wrF (cur r) r.room a.nm a.n a.da.length)
  else if a.kind = 3 then rfE r (trE (cur r) a.nm a.n)
  else if a.kind = 4 then rfE r (thF (cur r) a.nm)
  else if a.kind = 5 then rfE r (thF (cur r) a.nm)
  else if a.kind = 6 then rfE r 0
  else 0
theorem wr_same {d : Dm} {r : Rd} (h : Eqv d r) (hr : (tot (cur r) : Int) ≤ r.room) (n : By) (i : Int) (l : Nat) : wrE d n i l = wrF (cur r) r.room n i l := by
  unfold wrE wrF
  rw [h.seen, h.room]
  split
  · rfl
  · by_cases h1 : r.room - (tot (cur r) : Int) < (l : Int) - ((foz (cur r) n).length - i)
    · rw [if_pos h1, if_pos ⟨by omega, h1⟩]
    · rw [if_neg h1, if_neg (fun h2 => h1 h2.2)]
theorem th_same {d : Dm} {r : Rd} (h : Eqv d r) (n : By) : thE d n = thF (cur r) n := by unfold thE thF; rw [h.seen]
/-- the two go alike -/
theorem Eqv.play {d : Dm} {r : Rd} (h : Eqv d r) (hr : (tot (cur r) : Int) ≤ r.room) (a : Ac) : plE d a = plF r a ∧ Eqv (plD d a) (plR r a) := by
  have hw := wr_same h hr
  have ht := th_same h
  unfold plE plF plD plR
  split
  · rw [h.seen, hw]; exact ⟨h.code _, h.raw _ _⟩
  · split
    · rw [hw]; exact ⟨h.code _, h.raw _ _⟩
    · split
      · rw [h.seen]; exact ⟨h.code _, h.raw _ _⟩
      · split
        · rw [ht]; exact ⟨h.code _, h.raw _ _⟩
        · split
          · rw [ht]; exact ⟨h.code _, h.raw _ _⟩
          · split
            · exact ⟨h.code _, h.flush⟩
            · split
              · exact ⟨rfl, h.armd _⟩
              · split
                · exact ⟨rfl, h.crash _⟩
                · split
                  · exact ⟨rfl, h.wipe⟩
                  · exact ⟨rfl, h⟩
/-- the reference's drive is in form -/
structure Gd (T N : Nat) (r : Rd) : Prop where
  qg : Qg T r.safe r.queue
  room : (T : Int) ≤ r.room ∧ r.room ≤ 9223372036854775807
  armed : -1 ≤ r.armed ∧ r.armed ≤ 9223372036854775807
  len : r.safe.length + r.queue.length ≤ N
  unit : units r.queue ≤ N * 140737488351233
theorem Gd.mono {T N N' : Nat} {r : Rd} (h : Gd T N r) (hN : N ≤ N') : Gd T N' r := ⟨h.qg, h.room, h.armed, Nat.le_trans h.len hN, Nat.le_trans h.unit (Nat.mul_le_mul_right _ hN)⟩
theorem Gd.rok {T N : Nat} {r : Rd} (h : Gd T N r) (hN : N ≤ 900000) : Rok T r := ⟨h.qg, Nat.le_trans h.len hN⟩
theorem Gd.tle {T N : Nat} {r : Rd} (h : Gd T N r) : (tot (cur r) : Int) ≤ r.room := by have := (Qg.last h.qg).2.1; have := h.room.1; unfold cur; omega
theorem units_snoc (Q : List Dd) (x : Dd) : units (Q ++ [x]) = units Q + x.units := by simp [units]
theorem arm1_armed {r : Rd} (h : -1 ≤ r.armed ∧ r.armed ≤ 9223372036854775807) : -1 ≤ (arm1 r).armed ∧ (arm1 r).armed ≤ 9223372036854775807 := by
  unfold arm1
  split
  · exact h
  · split
    · show -1 ≤ r.armed - 1 ∧ r.armed - 1 ≤ _; omega
    · exact h
theorem arm1_room (r : Rd) : (arm1 r).room = r.room ∧ (arm1 r).safe = r.safe ∧ (arm1 r).queue = r.queue := by
  unfold arm1
  split
  · exact ⟨rfl, rfl, rfl⟩
  · split
    · exact ⟨rfl, rfl, rfl⟩
    · exact ⟨rfl, rfl, rfl⟩
theorem Gd.queued {T T' N : Nat} {r : Rd} (h : Gd T N r) (hT : T ≤ T') (hT' : (T' : Int) ≤ r.room) (e : Int) (x : Dd) (h1 : e = 0 → Dok (cur r) x) (h2 : Dn1 x) (h3 : e = 0 → Fg T' (ddo (cur r) x x.units)) (h4 : x.units ≤ 140737488351233) : Gd T' (N + 1) (rfQ r e x) := by
  unfold rfQ
  split
  · exact ⟨h.qg.mono hT, ⟨hT', h.room.2⟩, h.armed, Nat.le_succ_of_le h.len, Nat.le_trans h.unit (Nat.mul_le_mul_right _ (Nat.le_succ _))⟩
  · rename_i hn
    have he : e = 0 := by refine Classical.byContradiction fun h5 => hn (.inr h5)
    obtain ⟨e1, e2, e3⟩ := arm1_room r
    refine ⟨?_, ?_, arm1_armed h.armed, ?_, ?_⟩
    · show Qg T' (arm1 r).safe (r.queue ++ [x])
      rw [e2]; exact h.qg.snoc hT (h1 he) h2 (h3 he)
    · show _ ≤ (arm1 r).room ∧ (arm1 r).room ≤ _
      rw [e1]; exact ⟨hT', h.room.2⟩
    · show (arm1 r).safe.length + (r.queue ++ [x]).length ≤ _
      rw [e2]; have := h.len; simp; omega
    · show units (r.queue ++ [x]) ≤ _
      rw [units_snoc]; have := h.unit; rw [Nat.add_mul]; omega
theorem Gd.write {T N : Nat} {r : Rd} (h : Gd T N r) (n l : By) (i : Int) (hn : n.length ≤ maxLen) (hl : l.length ≤ lim) (hfit : r.room ≤ lim ∨ T + l.length ≤ lim) : ∃ T', T ≤ T' ∧ T' ≤ T + l.length ∧ Gd T' (N + 1) (rfQ r (wrF (cur r) r.room n i l.length) (.write n i.toNat l)) := by
  have hF := Qg.last h.qg
  have hFc : Fg T (cur r) := hF
  by_cases he : wrF (cur r) r.room n i l.length = 0
  · have h0 : 0 ≤ i ∧ i ≤ ((foz (cur r) n).length : Int) ∧ ¬ (0 < (l.length : Int) - ((foz (cur r) n).length - i) ∧ r.room - (tot (cur r) : Int) < (l.length : Int) - ((foz (cur r) n).length - i)) := by
      unfold wrF at he
      split at he
      · cases he
      · rename_i h1
        split at he
        · cases he
        · rename_i h2
          exact ⟨by omega, by omega, h2⟩
    have h3 := tot_ddo hFc.1 (.write n i.toNat l) (l.length + 1)
    simp only at h3
    have hfz := foz_le (cur r) n
    have ht := hFc.2.1
    have hr := h.room.1
    obtain ⟨h1, h2, h4⟩ := h0
    have hlr : tot (ddo (cur r) (.write n i.toNat l) (l.length + 1)) ≤ r.room ∨ tot (ddo (cur r) (.write n i.toNat l) (l.length + 1)) ≤ tot (cur r) := by
      by_cases h5 : 0 < (l.length : Int) - ((foz (cur r) n).length - i)
      · left
        have h6 : ¬ r.room - (tot (cur r) : Int) < (l.length : Int) - ((foz (cur r) n).length - i) := fun h6 => h4 ⟨h5, h6⟩
        omega
      · right; omega
    refine ⟨max T (tot (ddo (cur r) (.write n i.toNat l) (l.length + 1))), Nat.le_max_left _ _, ?_, ?_⟩
    · omega
    · refine h.queued (Nat.le_max_left _ _) (by omega) _ _ (fun _ => ?_) ⟨hn, hl⟩ (fun _ => ⟨hFc.1.ddo _ _, Nat.le_max_right _ _, ddo_nm (x := .write n i.toNat l) _ hFc.2.2 ⟨hn, hl⟩⟩) (by show l.length + 1 ≤ _; unfold lim at hl; omega)
      refine ⟨by omega, ?_, ?_⟩
      · rcases hfit with h7 | h7
        · omega
        · omega
      · rcases hfit with h7 | h7
        · by_cases h5 : 0 < (l.length : Int) - ((foz (cur r) n).length - i)
          · have h6 : ¬ r.room - (tot (cur r) : Int) < (l.length : Int) - ((foz (cur r) n).length - i) := fun h6 => h4 ⟨h5, h6⟩
            omega
          · omega
        · omega
  · refine ⟨T, Nat.le_refl _, Nat.le_add_right _ _, h.queued (Nat.le_refl _) h.room.1 _ _ (fun h1 => absurd h1 he) ⟨hn, hl⟩ (fun h1 => absurd h1 he) (by show l.length + 1 ≤ _; unfold lim at hl; omega)⟩
/-- behind an act it is in form -/
theorem Gd.play {T N : Nat} {r : Rd} (h : Gd T N r) (a : Ac) (hn : a.nm.length ≤ maxLen) (hm : a.tn.length ≤ maxLen) (hl : a.da.length ≤ lim) (hi : a.n ≤ 9223372036854775807) (hfit : r.room ≤ lim ∨ T + a.da.length ≤ lim) : ∃ T', T ≤ T' ∧ T' ≤ T + a.da.length ∧ Gd T' (N + 1) (plR r a) := by
  have hF : Fg T (cur r) := Qg.last h.qg
  have same : ∀ {r' : Rd}, Gd T (N + 1) r' → ∃ T', T ≤ T' ∧ T' ≤ T + a.da.length ∧ Gd T' (N + 1) r' := fun h' => ⟨T, Nat.le_refl _, Nat.le_add_right _ _, h'⟩
  unfold plR
  split
  · have := h.write a.nm a.da ((foz (cur r) a.nm).length : Int) hn hl hfit
    rw [Int.toNat_natCast] at this; exact this
  · split
    · exact h.write a.nm a.da a.n hn hl hfit
    · split
      · refine same (h.queued (Nat.le_refl _) h.room.1 _ _ (fun he => ?_) hn (fun _ => ?_) (by show 1 ≤ _; decide))
        · unfold trE at he
          split at he
          · cases he
          · rename_i h1
            split at he
            · rename_i h2
              show a.n.toNat ≤ _
              have : ¬ ((fget (cur r) a.nm).isSome = true ∧ ((foz (cur r) a.nm).length : Int) < a.n) := fun h3 => h1 (.inr h3)
              have : ¬ ((foz (cur r) a.nm).length : Int) < a.n := fun h3 => this ⟨h2, h3⟩
              omega
            · cases he
        · have := tot_ddo hF.1 (.trim a.nm a.n.toNat) 1
          exact ⟨hF.1.ddo _ _, Nat.le_trans this hF.2.1, ddo_nm (x := .trim a.nm a.n.toNat) _ hF.2.2 hn⟩
      · split
        · refine same (h.queued (Nat.le_refl _) h.room.1 _ _ (fun _ => trivial) ⟨hn, hm⟩ (fun _ => ?_) (by show 1 ≤ _; decide))
          have := tot_ddo hF.1 (.ren a.nm a.tn) 1
          exact ⟨hF.1.ddo _ _, Nat.le_trans this hF.2.1, ddo_nm (x := .ren a.nm a.tn) _ hF.2.2 ⟨hn, hm⟩⟩
        · split
          · refine same (h.queued (Nat.le_refl _) h.room.1 _ _ (fun _ => trivial) hn (fun _ => ?_) (by show 1 ≤ _; decide))
            have := tot_ddo hF.1 (.rem a.nm) 1
            exact ⟨hF.1.ddo _ _, Nat.le_trans this hF.2.1, ddo_nm (x := .rem a.nm) _ hF.2.2 hn⟩
          · split
            · refine same ?_
              unfold rfF
              split
              · exact h.mono (Nat.le_succ _)
              · obtain ⟨e1, e2, e3⟩ := arm1_room r
                split
                · exact ⟨by rw [e2, e3]; exact h.qg, by rw [e1]; exact h.room, arm1_armed h.armed, by rw [e2, e3]; exact Nat.le_succ_of_le h.len, by rw [e3]; exact Nat.le_trans h.unit (Nat.mul_le_mul_right _ (Nat.le_succ _))⟩
                · refine ⟨hF, by show _ ≤ (arm1 r).room ∧ _; rw [e1]; exact h.room, arm1_armed h.armed, ?_, Nat.zero_le _⟩
                  have := all_len h.qg
                  have := h.len
                  show (cur r).length + 0 ≤ _
                  unfold cur; omega
            · split
              · refine same ?_
                unfold rfA
                split
                · exact h.mono (Nat.le_succ _)
                · refine ⟨h.qg, h.room, ?_, Nat.le_succ_of_le h.len, Nat.le_trans h.unit (Nat.mul_le_mul_right _ (Nat.le_succ _))⟩
                  show -1 ≤ (if a.n < 0 then -1 else a.n) ∧ (if a.n < 0 then -1 else a.n) ≤ _
                  split <;> omega
              · split
                · refine same ⟨Qg.after _ h.qg, h.room, ⟨by show (-1 : Int) ≤ -1; decide, by show (-1 : Int) ≤ _; decide⟩, ?_, Nat.zero_le _⟩
                  have := after_len (a.n % ((units r.queue : Int) + 1)).toNat h.qg
                  have := h.len
                  show (after r.safe r.queue _).length + 0 ≤ _
                  omega
                · split
                  · refine same ⟨⟨Srt.nil, Nat.zero_le _, by simp [rfW]⟩, h.room, ⟨by show (-1 : Int) ≤ -1; decide, by show (-1 : Int) ≤ _; decide⟩, Nat.zero_le _, Nat.zero_le _⟩
                  · exact same (h.mono (Nat.le_succ _))
theorem Gd.new (room : Int) (h : room ≤ 9223372036854775807) : Gd 0 0 ⟨[], [], max 0 room, -1, false⟩ := ⟨⟨Srt.nil, Nat.le_refl _, by simp⟩, ⟨by show ((0 : Nat) : Int) ≤ max 0 room; omega, by show max 0 room ≤ _; omega⟩, ⟨by show (-1 : Int) ≤ -1; decide, by show (-1 : Int) ≤ _; decide⟩, Nat.le_refl _, Nat.zero_le _⟩
end Go.Proofs.Ytpgpncngamagdaa
