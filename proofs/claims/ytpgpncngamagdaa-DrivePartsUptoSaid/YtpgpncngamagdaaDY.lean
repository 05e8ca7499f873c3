/- drive.Append, drive.Read, drive.Flush, clones of files. -/
import Derived.Test.YtpgpncngamagdaaDX
import Derived.Test.YtpgpncngamagdaaIT
set_option linter.unusedVariables false
set_option linter.unusedSimpArgs false
namespace Go.Proofs.Ytpgpncngamagdaa
open Go.RowKit
attribute [local go_sem ↓] Go.wp_at_zero Go.wp_at_succ
set_option maxRecDepth 100000 in
set_option maxHeartbeats 4000000 in
/-- drive.Append -/
theorem append_any {M D A : Nat → Prop} {w : World} {b : Nat} {d : Dm} (n l : By) (v : Value) (h : DrIs M D w b d) (hn : n.length ≤ maxLen) (hv : Bs A w v l) (ht : tot d.seen ≤ lim) (hr : 0 ≤ d.room ∧ d.room ≤ 9223372036854775807)
    (hfit : wrE d n (foz d.seen n).length l.length = 0 → (foz d.seen n).length + l.length ≤ lim) (hl : d.seen.length + 1 < maxLen) (hq : (d.queue.length + 1) * 16 ≤ 140737488355328) :
    Calls Try.prog 13 #[.pointer (some ⟨b, 0, none⟩), .string ⟨n.toArray⟩, v] w (WritePost M D w b d n (foz d.seen n).length l) := by
  have HW := Hid.mk' (write_any n l ((foz d.seen n).length : Int) v h hn hv ht hr (by simpa using hfit) hl hq)
  obtain ⟨ms, mv, q, hb, h1, h2, h3, h4⟩ := h.ex
  obtain ⟨⟨c0, c1, c2, c3, c4, c5, c6⟩, c7⟩ := box7 hb
  obtain ⟨v0, _, hlk, hv0, _⟩ := h2.look n hn
  have hol := hv0.2
  unfold lim at hol
  obtain ⟨va, vc, rfl, hva0⟩ := hv0.at
  clear hva0 hv0 hb h1 h2 h3 h4 h hn hv ht hr hfit hl hq c0 c2 c3 c4 c5 c6
  go_enter Try.func13, Try.ntmps13
  go_wp2_with fail
  refine HW.out.mono ?_
  rintro E w3 ⟨rfl, hT⟩
  have HT := Hid.mk' hT
  clear hT HW
  go_wp2_with fail
  go_ret
  exact ⟨rfl, HT.out⟩
def rdE (d : Dm) (n : By) : Int := if d.dead then 9 else thE d n
def rdB (d : Dm) (n : By) : By := if d.dead then [] else foz d.seen n
def ReadPost (w : World) (d : Dm) (n : By) (E : Ending) (w' : World) : Prop := ∃ v', E = .returned (.tuple #[v', .int .i64 (rdE d n)]) ∧ Below w.heap.size w w' ∧ Ob 5 w.heap.size w' v' (rdB d n)
set_option maxRecDepth 100000 in
set_option maxHeartbeats 4000000 in
/-- drive.Read -/
theorem read_any {M D : Nat → Prop} {w : World} {b : Nat} {d : Dm} (n : By) (h : DrIs M D w b d) (hn : n.length ≤ maxLen) : Calls Try.prog 19 #[.pointer (some ⟨b, 0, none⟩), .string ⟨n.toArray⟩] w (ReadPost w d n) := by
  obtain ⟨ms, mv, q, hb, h1, h2, h3, h4⟩ := h.ex
  obtain ⟨⟨c0, c1, c2, c3, c4, c5, c6⟩, c7⟩ := box7 hb
  obtain ⟨v0, _, hlk, hv0, _⟩ := h2.look n hn
  have HTH := Hid.mk' (there_any n hb h2 hn)
  have HV := Hid.mk' hv0
  have HR : Hid (rdE d n = if d.dead then 9 else thE d n) := rfl
  have HB : Hid (rdB d n = if d.dead then [] else foz d.seen n) := rfl
  have HE : Hid (thE d n = if (fget d.seen n).isSome then 0 else 6) := rfl
  have HO : Hid ((fget d.seen n).isSome = false → foz d.seen n = []) := fun he => by unfold foz; cases hx : fget d.seen n with
    | none => rfl
    | some y => rw [hx] at he; cases he
  unfold ReadPost
  generalize rdE d n = r at *
  generalize rdB d n = rb at *
  generalize thE d n = t at *
  generalize (fget d.seen n).isSome = s at *
  clear hb h1 h2 h3 h4 h hn hv0 c0 c2 c3 c4 c5
  generalize d.dead = dd at *
  cases dd
  · cases s
    · have ht : t = 6 := by rw [HE.out]; rfl
      subst ht
      go_enter Try.func19, Try.ntmps19
      go_wp2_with (go_at_call 49; go_must (refine HTH.out.mono ?_; rintro E w1 ⟨rfl, rfl⟩))
      go_ret2
      refine ⟨.slice none 0 0, by rw [HR.out]; rfl, Below.refl _ _, ?_⟩
      rw [HB.out]
      simp only [Bool.false_eq_true, if_false]
      rw [HO.out trivial]; exact ob_nil
    · have ht : t = 0 := by rw [HE.out]; rfl
      subst ht
      go_enter Try.func19, Try.ntmps19
      go_wp2_with (first | (go_at_call 49; refine HTH.out.mono ?_; rintro E w1 ⟨rfl, rfl⟩) | (go_at_call 48; refine (clone_any v0 _ _ HV.out).mono ?_; rintro E w2 ⟨v', rfl, hb2, ho2⟩))
      go_ret2
      refine ⟨v', by rw [HR.out]; rfl, hb2, ?_⟩
      rw [HB.out]; exact ho2
  · go_enter Try.func19, Try.ntmps19
    go_wp2
    go_ret2
    refine ⟨.slice none 0 0, by rw [HR.out]; rfl, Below.refl _ _, ?_⟩
    rw [HB.out]; exact ob_nil
theorem FI.cloned {D : Nat → Prop} {w : World} {k : Nat} {F : Fl} (h : FI D w k F) : Calls Try.prog 45 #[.map (some k)] w fun e w' => e = .returned (.map (some w.heap.size)) ∧ Below w.heap.size w w' ∧ FI D w' w.heap.size F := by
  obtain ⟨hS, g, ⟨DD, hown, hsz, hT, hf⟩, h2⟩ := h
  refine (AnyW.maps_Clone_owns Try.clone45 9 hR k F.length DD w hown).mono ?_
  rintro e w' ⟨rfl, o1, o2, hb⟩
  refine ⟨rfl, hb, hS, g, ⟨DD, o1, hsz, hT, hf⟩, fun s => ?_⟩
  rcases h2 s with h | ⟨v, l, a, b, c⟩
  · exact .inl h
  · exact .inr ⟨v, l, a, b, c.up hb⟩
/-- maps.Clone of files -/
theorem FilesIs.cloned {M D : Nat → Prop} {w : World} {m : Option Nat} {F : Fl} (h : FilesIs M D w m F) : Calls Try.prog 45 #[.map m] w fun e w' => ∃ m', e = .returned (.map m') ∧ Below w.heap.size w w' ∧ FilesIs (fun k => k = w.heap.size) D w' m' F ∧ ∀ k, m' = some k → k = w.heap.size := by
  rcases h with ⟨rfl, rfl⟩ | ⟨k, rfl, _, hF⟩
  · refine (AnyW.maps_Clone_nil Try.clone45 w).mono ?_
    rintro e w' ⟨rfl, rfl⟩
    exact ⟨none, rfl, Below.refl _ _, .inl ⟨rfl, rfl⟩, fun _ h => by cases h⟩
  · refine hF.cloned.mono ?_
    rintro e w' ⟨rfl, hb, hF2⟩
    exact ⟨_, rfl, hb, .inr ⟨_, rfl, rfl, hF2⟩, fun k h => by cases h; rfl⟩
theorem FilesIs.self {M D : Nat → Prop} {w : World} {m : Option Nat} {F : Fl} (h : FilesIs M D w m F) : FilesIs (fun k => m = some k) D w m F := by
  rcases h with h | ⟨k, e, _, hF⟩
  · exact .inl h
  · exact .inr ⟨k, e, e, hF⟩
theorem FilesIs.lt {M D : Nat → Prop} {w : World} {m : Option Nat} {F : Fl} (h : FilesIs M D w m F) : ∀ k, m = some k → M k ∧ k < w.heap.size := by
  intro k hk
  rcases h with ⟨e, _⟩ | ⟨k', e, hm, hF⟩
  · rw [e] at hk; cases hk
  · rw [e] at hk; cases hk; exact ⟨hm, hF.lt⟩
theorem DrIs.boxed {M D : Nat → Prop} {w2 w3 : World} {b : Nat} {d' : Dm} {ms mv : Option Nat} {q : Value} (hw : Wb (fun k => k = b) w2 w3) (hb : w3.heap[b]? = some (.cells #[.map ms, .map mv, q, .int .i64 d'.room, .bool d'.armed, .int .i64 d'.left, .bool d'.dead] 46 (0, 0)))
    (h1 : FilesIs M D w2 ms d'.safe) (h2 : FilesIs M D w2 mv d'.seen) (h3 : QueueIs D w2 q d'.queue) (h4 : ∀ k, ms = some k → mv ≠ some k) (hD : ∀ k, D k → k < w2.heap.size ∧ ¬ M k ∧ k ≠ b) (hM : ∀ k, M k → k < w2.heap.size ∧ k ≠ b)
    (hl : d'.armed = true → 0 ≤ d'.left ∧ d'.left ≤ 9223372036854775807) : DrIs M D w3 b d' := by
  have hX : ∀ k, k = b → ¬ D k := fun k hk hd => (hD k hd).2.2 hk
  exact ⟨⟨ms, mv, q, hb, h1.wb hw hX (fun k hk e => (hM k (h1.lt k hk).1).2 e), h2.wb hw hX (fun k hk e => (hM k (h2.lt k hk).1).2 e), h3.wb hw hX, h4⟩, fun k hk => ⟨Nat.lt_of_lt_of_le (hD k hk).1 hw.size, (hD k hk).2⟩, fun k hk => ⟨Nat.lt_of_lt_of_le (hM k hk).1 hw.size, (hM k hk).2⟩, hl⟩
set_option maxRecDepth 100000 in
set_option maxHeartbeats 4000000 in
/-- drive.Flush -/
theorem flush_any {M D : Nat → Prop} {w : World} {b : Nat} {d : Dm} (h : DrIs M D w b d) : Calls Try.prog 22 #[.pointer (some ⟨b, 0, none⟩)] w fun E w' => E = .returned (.int .i64 (rawE d 0)) ∧ Turned M D w b (flD d) w' := by
  obtain ⟨ms, mv, q, hb, h1, h2, h3, h4⟩ := h.ex
  have hm := may_any 0 h.left hb
  obtain ⟨e1, e2, e3⟩ := mayD_safe d 0
  have hml := mayD_left d 0 h.left
  obtain ⟨k2, hR⟩ : ∃ k2, mayR d 0 = ((mayR d 0).1, k2, rawE d 0) := ⟨(mayR d 0).2.1, rfl⟩
  have hF : flD d = if (mayR d 0).1 then { mayD d 0 with safe := d.seen, queue := [] } else mayD d 0 := by
    unfold flD mayR mayD
    cases hd : d.dead
    · by_cases hk : d.armed ∧ d.left = 0
      · simp [hk]
      · simp [hk]
    · simp
  generalize (mayR d 0).1 = ok at *
  rw [hR] at hm
  simp only at hm
  generalize rawE d 0 = re at *
  have hbl : b < w.heap.size := (Array.getElem?_eq_some_iff.1 hb).1
  generalize mayD d 0 = d1 at *
  have HM := Hid.mk' hm
  have HF := Hid.mk' hF
  have HP := Hid.mk' (fun w1 (hW : Wb (fun k => k = b) w w1) hbx => h.may (w1 := w1) (d1 := d1) h1 h2 h3 h4 hW hbx e1 e2 e3 hml)
  have HML := Hid.mk' hml
  have HES := Hid.mk' (⟨e1, e2, e3⟩ : d1.safe = d.safe ∧ d1.seen = d.seen ∧ d1.queue = d.queue)
  have HMM := Hid.mk' (⟨h.hM, fun k hk => (h2.lt k hk).1, h.hD⟩ : (∀ k, M k → k < w.heap.size ∧ k ≠ b) ∧ (∀ k, mv = some k → M k) ∧ ∀ k, D k → k < w.heap.size ∧ ¬ M k ∧ k ≠ b)
  have H2 := Hid.mk' (⟨h2, h3⟩ : FilesIs M D w mv d.seen ∧ QueueIs D w q d.queue)
  clear hm hR hF h h1 h2 h3 h4 hb e1 e2 e3 hml
  cases ok
  · go_enter Try.func22, Try.ntmps22
    go_wp2_with (go_at_call 52; go_must (refine HM.out.mono ?_; rintro E w1 ⟨rfl, hW, hsz, hbx⟩))
    go_ret
    refine ⟨rfl, ?_⟩
    rw [HF.out]
    exact (HP.out w1 hW hbx).turned hW
  · go_enter Try.func22, Try.ntmps22
    go_wp2_with fail
    refine HM.out.mono ?_
    rintro E w1 ⟨rfl, hW, hsz, hbx⟩
    obtain ⟨⟨c0, c1, c2, c3, c4, c5, c6⟩, c7⟩ := box7 hbx
    have HD1 := Hid.mk' (HP.out w1 hW hbx)
    have hX : ∀ k, k = b → ¬ D k := fun k hk hd => (HMM.out.2.2 k hd).2.2 hk
    have HV := Hid.mk' (H2.out.1.wb hW hX (fun k hk e => (HMM.out.1 k (HMM.out.2.1 k hk)).2 e))
    have HW := Hid.mk' hW
    have HB := Hid.mk' hbx
    clear hX hW hbx c0 c2 c3 c4 c5 c6
    have hb1 : b < w1.heap.size := by omega
    go_wp2_with fail
    refine HV.out.cloned.mono ?_
    rintro E w2 ⟨m', rfl, hb2, hm', hk'⟩
    have hbx2 : w2.heap[b]? = w1.heap[b]? := hb2.block b hb1
    rw [HB.out] at hbx2
    obtain ⟨⟨c0, c1, c2, c3, c4, c5, c6⟩, c7⟩ := box7 hbx2
    have HT : Hid (Turned M D w b (flD d) ((w2.setCell ⟨b, 0, none⟩ (.map m')).setCell ⟨b, 2, none⟩ (.slice none 0 0))) := by
      have hw3 : Wb (fun k => k = b) w2 ((w2.setCell ⟨b, 0, none⟩ (.map m')).setCell ⟨b, 2, none⟩ (.slice none 0 0)) := (Wb.set (X := fun k => k = b) _ _ _ _ rfl).trans (Wb.set _ _ _ _ rfl)
      refine ⟨((HW.out.trans (Wb.of_below _ hb2)).trans hw3).mono fun k hk => .inl hk, fun k => M k ∨ m' = some k, D, fun k hk => hk.imp id fun h => by rw [hk' k h, hsz]; exact Nat.le_refl _, fun k hk => .inl hk, ?_⟩
      rw [HF.out, if_pos trivial]
      refine DrIs.boxed (ms := m') (mv := mv) (q := .slice none 0 0) hw3 (by rw [box7_set (box7_set hbx2 _)]; rfl) (hm'.self.mono (fun k h => .inr h) fun _ h => h) ?_ (QueueIs.nil _ _) (fun k hk e => ?_) (fun k hk => ⟨Nat.lt_of_lt_of_le (HMM.out.2.2 k hk).1 (by rw [← hsz]; exact hb2.size), fun hm => ?_, (HMM.out.2.2 k hk).2.2⟩) (fun k hk => ?_) HML.out
      · show FilesIs _ _ _ _ d1.seen
        rw [HES.out.2.1]
        exact (HV.out.wb (Wb.of_below (fun _ => False) hb2) (fun _ h => h.elim) (fun _ _ h => h)).mono (fun k h => .inl h) fun _ h => h
      · have a1 := hk' k hk
        have a2 := (HMM.out.1 k (HMM.out.2.1 k e)).1
        omega
      · rcases hm with hm | hm
        · exact (HMM.out.2.2 k hk).2.1 hm
        · have a1 := hk' k hm
          have a2 := (HMM.out.2.2 k hk).1
          omega
      · rcases hk with hk | hk
        · exact ⟨Nat.lt_of_lt_of_le (HMM.out.1 k hk).1 (by rw [← hsz]; exact hb2.size), (HMM.out.1 k hk).2⟩
        · exact ⟨(hm'.lt k hk).2, by have := hk' k hk; omega⟩
    clear hm' hk' hb2 hbx2 HV
    go_wp2_with fail
    go_ret
    exact ⟨rfl, HT.out⟩
end Go.Proofs.Ytpgpncngamagdaa
