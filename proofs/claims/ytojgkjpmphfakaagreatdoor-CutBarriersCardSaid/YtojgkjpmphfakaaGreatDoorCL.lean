/- Barriers that lie in a catalogue, plain. -/
import Derived.Test.YtojgkjpmphfakaaGreatDoorCK
set_option linter.unusedVariables false
set_option linter.unusedSimpArgs false
namespace Go.Proofs.YtojgkjpmphfakaaGreatDoor
open Go.RowKit
open PL
/-- a barrier of an incarnation -/
abbrev Bi := Nat × Br
def cats (inc : Nat) (W : List Bi) : List Br := (W.filter fun y => y.1 == inc).map (·.2)
theorem mem_cats {inc : Nat} {W : List Bi} {x : Br} : x ∈ cats inc W ↔ (inc, x) ∈ W := by
  unfold cats
  rw [List.mem_map]
  constructor
  · rintro ⟨y, hy, rfl⟩
    rw [List.mem_filter, beq_iff_eq] at hy
    obtain ⟨h1, rfl⟩ := hy
    exact h1
  · intro h
    exact ⟨(inc, x), by rw [List.mem_filter]; exact ⟨h, by simp⟩, rfl⟩
structure Bar (l : List Th) (p : List UInt8) (W : List Bi) : Prop where
  asc : Asc l
  mem : ∀ t, t ∈ l ↔ ∃ y ∈ W, t = (bkey (p ++ catp y.1) y.2, bval y.2)
  rise : W.Pairwise fun a b => a.2.1 ≤ b.2.1
  uniq : W.Pairwise fun a b => a.1 = b.1 → a.2.1 ≠ b.2.1 ∧ a.2.2.1 ≠ b.2.2.1
  bnd : ∀ y ∈ W, y.1 < 18446744073709551616 ∧ y.2.1 < 18446744073709551616 ∧ y.2.2.1.length ≤ 16 ∧ y.2.2.2.length ≤ 1000 ∧ ∀ n ∈ y.2.2.2, n < 18446744073709551616
  few : W.length ≤ 1000
theorem Bar.nil (p : List UInt8) : Bar [] p [] := ⟨List.Pairwise.nil, fun t => by simp, List.Pairwise.nil, List.Pairwise.nil, fun y h => by simp at h, by simp⟩
theorem catp_inj {a c : Nat} {x y : List UInt8} (ha : a < 18446744073709551616) (hc : c < 18446744073709551616) (h : catp a ++ x = catp c ++ y) : a = c ∧ x = y := by
  have h1 := List.append_inj h (by simp [catp, hex_len])
  refine ⟨?_, h1.2⟩
  have h2 := List.append_cancel_left (show [99, 97, 116, 46] ++ (hex a ++ [46]) = [99, 97, 116, 46] ++ (hex c ++ [46]) from h1.1)
  exact hex_inj ha hc (List.append_cancel_right h2)
theorem bkey_eq {p : List UInt8} {a c : Nat} {x y : Br} (ha : a < 18446744073709551616) (hc : c < 18446744073709551616) (hx : x.1 < 18446744073709551616) (hy : y.1 < 18446744073709551616) (h : bkey (p ++ catp a) x = bkey (p ++ catp c) y) : a = c ∧ x.1 = y.1 := by
  unfold bkey at h
  rw [List.append_assoc, List.append_assoc] at h
  obtain ⟨h1, h2⟩ := catp_inj ha hc (List.append_cancel_left h)
  exact ⟨h1, hex_inj hx hy h2⟩
theorem uniq_get {W : List Bi} (hu : W.Pairwise fun a b => a.1 = b.1 → a.2.1 ≠ b.2.1 ∧ a.2.2.1 ≠ b.2.2.1) : ∀ {x y : Bi}, x ∈ W → y ∈ W → x.1 = y.1 → (x.2.1 = y.2.1 ∨ x.2.2.1 = y.2.2.1) → x = y := by
  induction W with
  | nil => intro x y hx; cases hx
  | cons z W ih =>
    intro x y hx hy he hc
    rw [List.pairwise_cons] at hu
    rcases List.mem_cons.1 hx with e1 | hx1
    · rcases List.mem_cons.1 hy with e2 | hy1
      · rw [e1, e2]
      · subst e1
        have := hu.1 y hy1 he
        rcases hc with hc | hc
        · exact absurd hc this.1
        · exact absurd hc this.2
    · rcases List.mem_cons.1 hy with e2 | hy1
      · subst e2
        have := hu.1 x hx1 he.symm
        rcases hc with hc | hc
        · exact absurd hc.symm this.1
        · exact absurd hc.symm this.2
      · exact ih hu.2 hx1 hy1 he hc
theorem Bar.names {l : List Th} {p : List UInt8} {W : List Bi} (h : Bar l p W) (hp : p.length ≤ 100) : ∀ t ∈ l, t.1.length ≤ maxLen := by
  intro t ht
  obtain ⟨y, hy, rfl⟩ := (h.mem t).1 ht
  simp [bkey, catp, hex_len]; unfold maxLen; omega
theorem Bar.cat {l : List Th} {p : List UInt8} {W : List Bi} (h : Bar l p W) {inc : Nat} (hi : inc < 18446744073709551616) : Cat l (p ++ catp inc) (cats inc W) := by
  have hc : (cats inc W).Pairwise fun a b => a.1 < b.1 := by
    unfold cats
    refine List.pairwise_map.2 ?_
    have h1 := (h.rise.and h.uniq).filter (fun y : Bi => y.1 == inc)
    refine h1.imp_of_mem fun {a b} ha hb ⟨h2, h3⟩ => ?_
    rw [List.mem_filter, beq_iff_eq] at ha hb
    have := (h3 (ha.2.trans hb.2.symm)).1
    omega
  refine ⟨?_, fun x hx => ?_, fun x hx => ?_, fun x hx => ?_, fun x hx => ?_, ?_⟩
  · refine allN_of h.asc (List.pairwise_map.2 hc) (fun n hn => ?_) fun x => ?_
    · obtain ⟨y, hy, rfl⟩ := List.mem_map.1 hn
      exact (h.bnd _ (mem_cats.1 hy)).2.1
    · constructor
      · rintro ⟨t, ht, e⟩
        obtain ⟨y, hy, rfl⟩ := (h.mem t).1 ht
        have e2 : p ++ catp y.1 ++ hex y.2.1 = p ++ catp inc ++ x := e
        rw [List.append_assoc, List.append_assoc] at e2
        obtain ⟨h1, h2⟩ := catp_inj (h.bnd y hy).1 hi (List.append_cancel_left e2)
        exact ⟨y.2.1, List.mem_map.2 ⟨y.2, mem_cats.2 (by rw [← h1]; exact hy), rfl⟩, h2.symm⟩
      · rintro ⟨n, hn, rfl⟩
        obtain ⟨y, hy, rfl⟩ := List.mem_map.1 hn
        exact ⟨_, (h.mem _).2 ⟨(inc, y), mem_cats.1 hy, rfl⟩, rfl⟩
  · exact (tget_iff h.asc _ _).2 ((h.mem _).2 ⟨(inc, x), mem_cats.1 hx, rfl⟩)
  · exact (h.bnd _ (mem_cats.1 hx)).2.1
  · have := (h.bnd _ (mem_cats.1 hx)).2.2.1; exact Nat.le_trans this (by omega)
  · exact (h.bnd _ (mem_cats.1 hx)).2.2.2
  · unfold cats
    rw [List.length_map]
    exact Nat.le_trans (List.length_filter_le _ _) h.few
theorem hit_mem {b : Br} : ∀ {es : List Br}, es.Pairwise (fun a b => a.1 ≠ b.1 ∧ a.2.1 ≠ b.2.1) → b ∈ es → hit b es = some 0
  | [], _, h => by cases h
  | x :: r, hu, h => by
    rw [List.pairwise_cons] at hu
    unfold hit
    by_cases e : x = b
    · rw [if_pos e]
    · rw [if_neg e]
      have hm : b ∈ r := by rcases List.mem_cons.1 h with h | h; exact absurd h.symm e; exact h
      have := hu.1 b hm
      rw [if_neg (by intro hc; rcases hc with hc | hc; exact this.1 hc; exact this.2 hc)]
      exact hit_mem hu.2 hm
theorem hit_clash {b : Br} : ∀ {es : List Br}, b ∉ es → (∃ x ∈ es, x.1 = b.1 ∨ x.2.1 = b.2.1) → hit b es = some 7
  | [], _, ⟨x, hx, _⟩ => by cases hx
  | x :: r, hn, ⟨y, hy, hc⟩ => by
    unfold hit
    rw [if_neg (fun e => hn (by rw [e]; exact List.mem_cons_self ..))]
    by_cases hx : x.1 = b.1 ∨ x.2.1 = b.2.1
    · rw [if_pos hx]
    · rw [if_neg hx]
      refine hit_clash (fun h => hn (List.mem_cons_of_mem _ h)) ⟨y, ?_, hc⟩
      rcases List.mem_cons.1 hy with rfl | hy
      · exact absurd hc hx
      · exact hy
theorem hit_no {b : Br} : ∀ {es : List Br}, (∀ x ∈ es, ¬ (x.1 = b.1 ∨ x.2.1 = b.2.1)) → hit b es = none
  | [], _ => rfl
  | x :: r, h => by
    have hx := h x (List.mem_cons_self ..)
    unfold hit
    rw [if_neg (fun e => hx (.inl (by rw [e]))), if_neg hx]
    exact hit_no fun y hy => h y (List.mem_cons_of_mem _ hy)
/-- in the list, behind what has no greater number -/
def insN (W : List Bi) (id : Nat) : Nat := W.findIdx fun z => decide (id < z.2.1)
def ins (W : List Bi) (y : Bi) : List Bi := W.take (insN W y.2.1) ++ y :: W.drop (insN W y.2.1)
def clash (W : List Bi) (y : Bi) : Bool := W.any fun z => z.1 == y.1 && (z.2.1 == y.2.1 || z.2.2.1 == y.2.2.1)
/-- the reference's Enter -/
def rEnter (W : List Bi) (y : Bi) : List Bi × Int := if validB y.2.2.1 then (if y ∈ W then (W, 0) else if clash W y then (W, 7) else (ins W y, 0)) else (W, 3)
theorem mem_ins {W : List Bi} {y z : Bi} : z ∈ ins W y ↔ z ∈ W ∨ z = y := by
  unfold ins
  have h := List.take_append_drop (insN W y.2.1) W
  constructor
  · intro hz
    rcases List.mem_append.1 hz with hz | hz
    · exact .inl (List.mem_of_mem_take hz)
    · rcases List.mem_cons.1 hz with hz | hz
      · exact .inr hz
      · exact .inl (List.mem_of_mem_drop hz)
  · rintro (hz | rfl)
    · rw [← h, List.mem_append] at hz
      rw [List.mem_append, List.mem_cons]
      rcases hz with hz | hz
      · exact .inl hz
      · exact .inr (.inr hz)
    · simp
theorem pw_ins {W : List Bi} {R : Bi → Bi → Prop} {y : Bi} {n : Nat} (h : W.Pairwise R) (h1 : ∀ z ∈ W.take n, R z y) (h2 : ∀ z ∈ W.drop n, R y z) : (W.take n ++ y :: W.drop n).Pairwise R := by
  have h0 := h
  rw [← List.take_append_drop n W, List.pairwise_append] at h0
  rw [List.pairwise_append, List.pairwise_cons]
  refine ⟨h0.1, ⟨h2, h0.2.1⟩, fun a ha b hb => ?_⟩
  rcases List.mem_cons.1 hb with rfl | hb
  · exact h1 a ha
  · exact h0.2.2 a ha b hb
theorem ins_lo {W : List Bi} {id : Nat} : ∀ z ∈ W.take (insN W id), z.2.1 ≤ id := by
  intro z hz
  obtain ⟨i, hi, rfl⟩ := List.mem_iff_getElem.1 hz
  rw [List.length_take] at hi
  have h := List.not_of_lt_findIdx (p := fun z : Bi => decide (id < z.2.1)) (xs := W) (i := i) (by unfold insN at hi; omega)
  rw [List.getElem_take]
  simpa using h
theorem ins_hi {W : List Bi} {id : Nat} (hr : W.Pairwise fun a b => a.2.1 ≤ b.2.1) : ∀ z ∈ W.drop (insN W id), id < z.2.1 := by
  intro z hz
  have hn : insN W id < W.length := by
    refine Classical.byContradiction fun h => ?_
    rw [List.drop_eq_nil_of_le (by omega)] at hz
    cases hz
  rw [List.drop_eq_getElem_cons hn] at hz
  have h0 : id < (W[insN W id]).2.1 := by
    have := List.findIdx_getElem (p := fun z : Bi => decide (id < z.2.1)) (xs := W) (w := hn)
    exact of_decide_eq_true this
  rcases List.mem_cons.1 hz with rfl | hz
  · exact h0
  · have h1 : W.drop (insN W id) = W[insN W id] :: W.drop (insN W id + 1) := List.drop_eq_getElem_cons hn
    have h2 := hr.drop (i := insN W id)
    rw [h1, List.pairwise_cons] at h2
    have := h2.1 z hz
    omega
theorem cats_uniq {W : List Bi} (hu : W.Pairwise fun a b => a.1 = b.1 → a.2.1 ≠ b.2.1 ∧ a.2.2.1 ≠ b.2.2.1) (inc : Nat) : (cats inc W).Pairwise fun a b => a.1 ≠ b.1 ∧ a.2.1 ≠ b.2.1 := by
  unfold cats
  refine List.pairwise_map.2 ((hu.filter (fun y : Bi => y.1 == inc)).imp_of_mem fun {a b} ha hb h => ?_)
  rw [List.mem_filter, beq_iff_eq] at ha hb
  exact h (ha.2.trans hb.2.symm)
theorem clash_iff {W : List Bi} {y : Bi} : clash W y = true ↔ ∃ x ∈ cats y.1 W, x.1 = y.2.1 ∨ x.2.1 = y.2.2.1 := by
  unfold clash
  rw [List.any_eq_true]
  constructor
  · rintro ⟨z, hz, h⟩
    simp only [Bool.and_eq_true, beq_iff_eq, Bool.or_eq_true] at h
    exact ⟨z.2, mem_cats.2 (by rw [← h.1]; exact hz), h.2⟩
  · rintro ⟨x, hx, h⟩
    exact ⟨(y.1, x), mem_cats.1 hx, by simpa using h⟩
/-- Enter does what the reference says -/
theorem Bar.enter {l : List Th} {p : List UInt8} {W : List Bi} (h : Bar l p W) (y : Bi) (h1 : y.1 < 18446744073709551616) (h2 : y.2.1 < 18446744073709551616) (h3 : y.2.2.2.length ≤ 1000) (h4 : ∀ n ∈ y.2.2.2, n < 18446744073709551616) (h5 : W.length < 1000) :
    entC l (p ++ catp y.1) (cats y.1 W) y.2 = (rEnter W y).2 ∧ Bar (entL l (p ++ catp y.1) (cats y.1 W) y.2) p (rEnter W y).1 ∧ (entL l (p ++ catp y.1) (cats y.1 W) y.2).length ≤ l.length + 1 := by
  unfold entC entL rEnter
  by_cases hv : validB y.2.2.1 = true
  · simp only [if_pos hv]
    have hu := cats_uniq h.uniq y.1
    by_cases hm : y ∈ W
    · rw [hit_mem hu (mem_cats.2 hm), if_pos hm]
      exact ⟨rfl, h, Nat.le_succ _⟩
    · rw [if_neg hm]
      have hn : y.2 ∉ cats y.1 W := fun hx => hm (mem_cats.1 hx)
      by_cases hc : clash W y = true
      · rw [hit_clash hn (clash_iff.1 hc), if_pos hc]
        exact ⟨rfl, h, Nat.le_succ _⟩
      · have hno : ∀ x ∈ cats y.1 W, ¬ (x.1 = y.2.1 ∨ x.2.1 = y.2.2.1) := fun x hx hh => hc (clash_iff.2 ⟨x, hx, hh⟩)
        rw [hit_no hno, if_neg hc]
        have hfree : tget l (bkey (p ++ catp y.1) y.2) = none := by
          refine (tget_none_iff h.asc _).2 fun x hx => ?_
          obtain ⟨z, hz, e⟩ := (h.mem _).1 hx
          have hb := h.bnd z hz
          obtain ⟨e1, e2⟩ := bkey_eq h1 hb.1 h2 hb.2.1 (Prod.mk.inj e).1
          exact hno z.2 (mem_cats.2 (by rw [e1]; exact hz)) (.inl e2.symm)
        refine ⟨by unfold putC; rw [hfree], ⟨tput_asc h.asc _ _, fun t => ?_, pw_ins h.rise ins_lo fun z hz => Nat.le_of_lt (ins_hi h.rise z hz), pw_ins h.uniq (fun z hz e => ?_) (fun z hz e => ?_), fun z hz => ?_, ?_⟩, ?_⟩
        · rw [tput_mem_free hfree, h.mem]
          constructor
          · rintro (⟨z, hz, rfl⟩ | rfl)
            · exact ⟨z, mem_ins.2 (.inl hz), rfl⟩
            · exact ⟨y, mem_ins.2 (.inr rfl), rfl⟩
          · rintro ⟨z, hz, rfl⟩
            rcases mem_ins.1 hz with hz | rfl
            · exact .inl ⟨z, hz, rfl⟩
            · exact .inr rfl
        · have := hno z.2 (mem_cats.2 (by rw [← e]; exact List.mem_of_mem_take hz))
          exact ⟨fun h => this (.inl h), fun h => this (.inr h)⟩
        · have := hno z.2 (mem_cats.2 (by rw [e]; exact List.mem_of_mem_drop hz))
          exact ⟨fun h => this (.inl h.symm), fun h => this (.inr h.symm)⟩
        · rcases mem_ins.1 hz with hz | rfl
          · exact h.bnd z hz
          · exact ⟨h1, h2, valid_len hv, h3, h4⟩
        · show (ins W y).length ≤ 1000
          unfold ins
          rw [List.length_append, List.length_cons, List.length_take, List.length_drop]; omega
        · rw [tput_len]; unfold putN; rw [hfree]; exact Nat.le_refl _
  · simp only [if_neg hv]
    exact ⟨trivial, h, Nat.le_succ _⟩
end Go.Proofs.YtojgkjpmphfakaaGreatDoor
