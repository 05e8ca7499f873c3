/- Alloc, Free and Save, in plain words. Save, a crash and Open, in plain words. The calls of a pool, by what it is in plain words. groynelaw07: awake. groynelaw07: page. Rows of acts on pools; what a list of acts that was handed in reads as. groynelaw07.small. Looks at a pool, by what it is in plain words. -/
import Derived.Test.YtbmhkdcmepfmbaaGreatB17
import Derived.Test.YtbmhkdcmepfmbaaGreatB19
import Derived.Deep.CutBlock
set_option linter.unusedVariables false
set_option linter.unusedSimpArgs false
namespace Go.Proofs.YtbmhkdcmepfmbaaGreat
open Go.RowKit
theorem aput_ins {α : Type} {F : Al α} {s : Int} {l : α} {k : Nat} (hk : k ≤ F.length) (h1 : ∀ j (h : j < F.length), j < k → F[j].1 < s) (h2 : ∀ h : k < F.length, s < F[k].1) : aput F s l = F.take k ++ [(s, l)] ++ F.drop k := by
  induction F generalizing k with
  | nil => simp at hk; subst hk; rfl
  | cons x r ih =>
    obtain ⟨n, m⟩ := x
    rw [aput]
    cases k with
    | zero =>
      have h3 : s < n := h2 (by simp)
      rw [if_neg (by omega), if_pos h3]; rfl
    | succ k =>
      have h3 : n < s := h1 0 (by simp) (by omega)
      rw [if_neg (by omega), if_neg (by omega), ih (by simpa using hk) (fun j h hj => h1 (j + 1) (by simpa using h) (by omega)) (fun h => h2 (by simpa using h))]
      rfl
theorem aget_ins {α : Type} {F : Al α} (hF : ASrt F) {s : Int} {k : Nat} (hk : k ≤ F.length) (h1 : ∀ j (h : j < F.length), j < k → F[j].1 < s) (h2 : ∀ h : k < F.length, s < F[k].1) : aget F s = none := by
  cases hg : aget F s with
  | none => rfl
  | some l =>
    obtain ⟨j, hj, e⟩ := List.getElem_of_mem (aget_mem hg)
    have e1 : F[j].1 = s := by rw [e]
    rcases Nat.lt_or_ge j k with h | h
    · have := h1 j hj h; omega
    · have hk' : k < F.length := by omega
      have h3 := h2 hk'
      rcases Nat.lt_or_ge k j with h4 | h4
      · have h5 : F[k].1 < F[j].1 := List.pairwise_iff_getElem.1 hF k j hk' hj h4
        omega
      · obtain rfl : j = k := by omega
        omega
/-- the least free number, told twice -/
theorem fre_aput {R : Al By} (hR : ASrt R) (h0 : ∀ x ∈ R, 0 ≤ x.1) {n : Nat} (h : Fre R n) : R.take n ++ [((n : Int), zer)] ++ R.drop n = aput R n zer ∧ aget R n = none ∧ ∀ m : Nat, m < n → (aget R m).isSome := by
  obtain ⟨h1, h2, h3⟩ := h
  have hlt : ∀ j (h : j < R.length), j < n → R[j].1 < (n : Int) := fun j h hj => by rw [h2 j h hj]; omega
  have hgt : ∀ h : n < R.length, (n : Int) < R[n].1 := fun h => by
    have hne := h3 h
    have hge : (n : Int) ≤ R[n].1 := by
      cases n with
      | zero => exact h0 _ (List.getElem_mem h)
      | succ m =>
        have h5 : R[m].1 < R[m + 1].1 := List.pairwise_iff_getElem.1 hR m (m + 1) (by omega) h (by omega)
        have := h2 m (by omega) (by omega)
        omega
    omega
  refine ⟨(aput_ins h1 hlt hgt).symm, aget_ins hR h1 hlt hgt, fun m hm => ?_⟩
  have hm' : m < R.length := by omega
  have : aget R m = some R[m].2 := aget_of_mem hR (by rw [← h2 m hm' hm]; exact List.getElem_mem hm')
  rw [this]; rfl
theorem fre_one {α : Type} {S : Al α} {a b : Nat} (ha : aget S a = none) (ha2 : ∀ m : Nat, m < a → (aget S m).isSome) (hb : aget S b = none) (hb2 : ∀ m : Nat, m < b → (aget S m).isSome) : a = b := by
  rcases Nat.lt_trichotomy a b with h | h | h
  · have := hb2 a h; rw [ha] at this; cases this
  · exact h
  · have := ha2 b h; rw [hb] at this; cases this
theorem aput_keys2 {α β : Type} {F : Al α} {G : Al β} (h : F.map (·.1) = G.map (·.1)) (s : Int) (a : α) (b : β) : (aput F s a).map (·.1) = (aput G s b).map (·.1) := by
  induction F generalizing G with
  | nil =>
    cases G with
    | nil => rfl
    | cons y r => simp at h
  | cons x r ih =>
    cases G with
    | nil => simp at h
    | cons y q =>
      obtain ⟨n, m⟩ := x
      obtain ⟨c, e⟩ := y
      simp only [List.map_cons, List.cons.injEq] at h
      obtain ⟨rfl, h2⟩ := h
      rw [aput, aput]
      split
      · simp [h2]
      · split
        · simp [h2]
        · simp [ih h2]
theorem adel_keys2 {α β : Type} {F : Al α} {G : Al β} (h : F.map (·.1) = G.map (·.1)) (s : Int) : (adel F s).map (·.1) = (adel G s).map (·.1) := by
  induction F generalizing G with
  | nil =>
    cases G with
    | nil => rfl
    | cons y r => simp at h
  | cons x r ih =>
    cases G with
    | nil => simp at h
    | cons y q =>
      obtain ⟨n, m⟩ := x
      obtain ⟨c, e⟩ := y
      simp only [List.map_cons, List.cons.injEq] at h
      obtain ⟨rfl, h2⟩ := h
      rw [adel, adel]
      split
      · exact h2
      · simp [ih h2]
theorem adel_sub {α : Type} {F : Al α} {s : Int} {x : Int × α} (h : x ∈ adel F s) : x ∈ F := by
  induction F with
  | nil => cases h
  | cons a r ih =>
    obtain ⟨n, m⟩ := a
    rw [adel] at h
    split at h
    · exact List.mem_cons_of_mem _ h
    · rcases List.mem_cons.1 h with rfl | h
      · exact List.mem_cons_self ..
      · exact List.mem_cons_of_mem _ (ih h)
section
variable {C : Cx} {E : Int} {Q : Nat} {R : Al By} {s : Ps} {d : Dm}
theorem Iv.nneg (h : Iv C E Q R s d) : ∀ x ∈ R, 0 ≤ x.1 := fun x hx => by
  have h1 : x.1 ∈ R.map (·.1) := List.mem_map.2 ⟨x, hx, rfl⟩
  rw [h.keys] at h1
  obtain ⟨y, hy, e⟩ := List.mem_map.1 h1
  have := (h.sb y hy).1
  omega
theorem Iv.rlen (h : Iv C E Q R s d) : R.length = s.S.length := by have := congrArg List.length h.keys; simpa using this
theorem Iv.alloc (h : Iv C E Q R s d) {n : Nat} (hn : aget s.S n = none) (hn2 : n ≤ s.S.length) (hl : s.S.length + 1 ≤ 60) : Iv C E Q (aput R n zer) { s with S := aput s.S n (-1) } d := by
  have hgS : ∀ i, aget (aput s.S n (-1)) i = if i = n then some (-1) else aget s.S i := fun i => aget_put h.sS n _ i
  have hgR : ∀ i, aget (aput R n zer) i = if i = n then some zer else aget R i := fun i => aget_put h.sR n _ i
  have hH : aget s.H n = none := by
    cases hg : aget s.H n with
    | none => rfl
    | some f => have := h.ids n (by rw [hg]; rfl); rw [hn] at this; cases this
  refine { h with sb := fun x hx => ?_, len := ?_, sS := h.sS.put n _, inj := fun i j a ha hi hj => ?_, ids := fun i hi => ?_, keys := aput_keys2 h.keys _ _ _, dat := fun i l hi => ?_, hot := fun i g hi => ?_, cold := fun i s' hi hno => ?_, cln := fun i g s' hi hg hs' => ?_ }
  · have hx2 := aget_of_mem (h.sS.put n (-1)) (s := x.1) (l := x.2) (by cases x; exact hx)
    rw [hgS] at hx2
    split at hx2
    · rename_i e
      have hx2 := Option.some.inj hx2
      refine ⟨by omega, by omega, by omega, by omega⟩
    · have := h.sb _ (aget_mem hx2)
      exact this
  · show (aput s.S n (-1)).length ≤ 60
    rw [len_aput _ h.sS, hn]; simpa using hl
  · have hi : aget (aput s.S n (-1)) i = some a := hi
    have hj : aget (aput s.S n (-1)) j = some a := hj
    rw [hgS] at hi hj
    split at hi
    · have := Option.some.inj hi; omega
    · split at hj
      · have := Option.some.inj hj; omega
      · exact h.inj i j a ha hi hj
  · show (aget (aput s.S n (-1)) i).isSome
    rw [hgS]
    split
    · rfl
    · exact h.ids i hi
  · rw [hgR] at hi
    split at hi
    · cases hi; exact zer_len
    · exact h.dat i l hi
  · rw [hgR]
    split
    · rename_i e
      subst e
      have hi : aget s.H (n : Int) = some g := hi
      rw [hH] at hi; cases hi
    · exact h.hot i g hi
  · have hi : aget (aput s.S n (-1)) i = some s' := hi
    rw [hgS] at hi
    rw [hgR]
    split at hi
    · rename_i e
      have hi := Option.some.inj hi
      rw [if_pos e, dsk_neg _ (by omega)]
    · rename_i e
      rw [if_neg e]
      exact h.cold i s' hi hno
  · have hs' : aget (aput s.S n (-1)) i = some s' := hs'
    rw [hgS] at hs'
    split at hs'
    · rename_i e
      subst e
      have hi : aget s.H (n : Int) = some g := hi
      rw [hH] at hi; cases hi
    · exact h.cln i g s' hi hg hs'
theorem Iv.free (h : Iv C E Q R s d) (id : Int) : Iv C E Q (adel R id) { s with S := adel s.S id, H := adel s.H id } d := by
  have hgS : ∀ i, aget (adel s.S id) i = if i = id then none else aget s.S i := fun i => aget_del h.sS id i
  have hgH : ∀ i, aget (adel s.H id) i = if i = id then none else aget s.H i := fun i => aget_del h.sH id i
  have hgR : ∀ i, aget (adel R id) i = if i = id then none else aget R i := fun i => aget_del h.sR id i
  have hnd := nd_adel s.H id
  have hq := h.que; have hs := h.siz; have hev := h.ev; have hln := h.hln
  have hlS : (adel s.S id).length ≤ s.S.length := by rw [len_adel]; split <;> omega
  have hlH : (adel s.H id).length ≤ s.H.length := by rw [len_adel]; split <;> omega
  refine { h with que := ?_, siz := ?_, sb := fun x hx => h.sb x (adel_sub hx), len := Nat.le_trans hlS h.len, sS := h.sS.del id, sH := h.sH.del id, inj := fun i j a ha hi hj => ?_, ids := fun i hi => ?_, keys := adel_keys2 h.keys _, dat := fun i l hi => ?_, hot := fun i g hi => ?_, cold := fun i s' hi hno => ?_, cln := fun i g s' hi hg hs' => ?_, ev := ?_, hln := ?_ }
  · show d.queue.length + nd (adel s.H id) ≤ Q; omega
  · show (foz d.seen nmP).length + 512 * nd (adel s.H id) ≤ 512 * Q; omega
  · have hi : aget (adel s.S id) i = some a := hi
    have hj : aget (adel s.S id) j = some a := hj
    rw [hgS] at hi hj
    split at hi
    · cases hi
    · split at hj
      · cases hj
      · exact h.inj i j a ha hi hj
  · have hi : (aget (adel s.H id) i).isSome := hi
    show (aget (adel s.S id) i).isSome
    rw [hgH] at hi
    rw [hgS]
    split at hi
    · cases hi
    · rename_i e
      rw [if_neg e]; exact h.ids i hi
  · rw [hgR] at hi
    split at hi
    · cases hi
    · exact h.dat i l hi
  · have hi : aget (adel s.H id) i = some g := hi
    rw [hgH] at hi
    rw [hgR]
    split at hi
    · cases hi
    · rename_i e
      rw [if_neg e]; exact h.hot i g hi
  · have hi : aget (adel s.S id) i = some s' := hi
    have hno : aget (adel s.H id) i = none := hno
    rw [hgS] at hi
    rw [hgH] at hno
    rw [hgR]
    split at hi
    · cases hi
    · rename_i e
      rw [if_neg e] at hno ⊢
      exact h.cold i s' hi hno
  · have hi : aget (adel s.H id) i = some g := hi
    have hs' : aget (adel s.S id) i = some s' := hs'
    rw [hgH] at hi
    rw [hgS] at hs'
    split at hi
    · cases hi
    · rename_i e
      rw [if_neg e] at hs'
      exact h.cln i g s' hi hg hs'
  · show 0 ≤ s.ev ∧ s.ev + ((adel s.H id).length : Int) ≤ E; omega
  · show ((adel s.H id).length : Int) ≤ C.hand; omega
end
end Go.Proofs.YtbmhkdcmepfmbaaGreat
set_option linter.unusedVariables false
set_option linter.unusedSimpArgs false
namespace Go.Proofs.YtbmhkdcmepfmbaaGreat
open Go.RowKit
/-- a drive amid Replace -/
structure Md (C : Cx) (Q k : Nat) (P : By) (d : Dm) : Prop where
  dead : d.dead = false
  arm : C.cal = true → d.armed = false
  room : d.room = C.rm
  que : d.queue.length ≤ k
  dq : Dqu (Gfl C Q) d
  pg : foz d.seen nmP = P
/-- a drive that died -/
def Kd (G : Fl → Prop) (C : Cx) (d : Dm) : Prop := d.dead = true ∧ C.cal = false ∧ d.room = C.rm ∧ d.queue.length ≤ 1000 ∧ Dqu G d
theorem Kd.mono {G G' : Fl → Prop} {C : Cx} {d : Dm} (h : Kd G C d) (hG : ∀ F, G F → G' F) : Kd G' C d := ⟨h.1, h.2.1, h.2.2.1, h.2.2.2.1, h.2.2.2.2.mono hG⟩
theorem Md.step {C : Cx} {Q k : Nat} {P : By} {d : Dm} (h : Md C Q k P d) (hk : k < 1000) {x : Dd} (hx : Dok d.seen x) (hu : x.units ≤ 1000000) {G : Fl → Prop} (hC : ∀ F, Gfl C Q F → G F) (hG : ∀ j, j ≤ x.units → G (ddo d.seen x j)) :
    (rawE d 0 = 0 ∧ (rawD d x 0).dead = false ∧ (C.cal = true → (rawD d x 0).armed = false) ∧ (rawD d x 0).room = C.rm ∧ (rawD d x 0).queue.length ≤ k + 1 ∧ Dqu G (rawD d x 0) ∧ (rawD d x 0).seen = ddo d.seen x x.units) ∨ (rawE d 0 = 9 ∧ Kd G C (rawD d x 0)) := by
  obtain ⟨r1, r2⟩ := rawD_f d x 0
  obtain ⟨r3, r4⟩ := rawD_ok h.dead x
  have hql : (rawD d x 0).queue.length = d.queue.length + 1 := by rw [r3, List.length_append]; rfl
  have hq := h.que
  have hdq := (h.dq.mono hC).deed h.dead hx hu hG
  rcases raw_end h.dead x with ⟨e1, e2, e3⟩ | ⟨e1, e2, e3⟩
  · exact .inl ⟨e1, e2, fun hc => by rw [e3]; exact h.arm hc, by rw [r2]; exact h.room, by omega, hdq, r4⟩
  · refine .inr ⟨e1, e3, ?_, by rw [r2]; exact h.room, by omega, hdq⟩
    cases hc : C.cal
    · rfl
    · have := h.arm hc; rw [this] at e2; cases e2
def Cx.save (C : Cx) (S : Al Int) (R : Al By) (note : By) : Cx := { C with me := some (metaB S note), L := S, RL := R, nt := note }
theorem metaB_70 {S : Al Int} {note : By} (hS : Sbd S) (hl : S.length ≤ 60) (hn : note.length ≤ 10000) : (metaB S note).length ≤ 70000 := by
  have HTL := tabB_len S hS
  have htl : (tabB S).length ≤ 1080 := by omega
  have hjl : (jn [tabB S, note]).length ≤ 11107 := by
    have h3 := nm_len (n := (tabB S).length) (by omega)
    have h4 := nm_len (n := note.length) (by omega)
    have h5 := nm_len (n := 2) (by omega)
    show (nm 2 ++ txt [tabB S, note]).length ≤ _
    simp only [txt, List.map_cons, List.map_nil, List.flatten_cons, List.flatten_nil, List.length_append, List.append_nil]
    omega
  have := wrp_len _ (jn [tabB S, note]) (Nat.le_refl _)
  unfold metaB
  omega
theorem foz_put {F : Fl} (hF : Srt F) (s l x : By) : foz (fput F s l) x = if x = s then l else foz F x := by
  unfold foz
  rw [fget_put hF]
  split <;> rfl
theorem foz_del {F : Fl} (hF : Srt F) (s x : By) : foz (fdel F s) x = if x = s then [] else foz F x := by
  unfold foz
  rw [fget_del hF]
  split <;> rfl
theorem fput_nm {F : Fl} (hF : Srt F) {s l : By} {x : By × By} (h : x ∈ fput F s l) : x.1 = s ∨ (x.1, x.2) ∈ F := by
  have h4 : fget (fput F s l) x.1 = some x.2 := fget_of_mem (hF.put s l) (by cases x; exact h)
  rw [fget_put hF] at h4
  split at h4
  · rename_i e; exact .inl e
  · exact .inr (fget_mem h4)
/-- other files than the pages' -/
theorem Gfl.tmp {C : Cx} {Q : Nat} {F : Fl} (h : Gfl C Q F) (l : By) (hl : l.length ≤ 70000) : Gfl C Q (fput F (frs nmM) l) := by
  have n1 : nmP ≠ frs nmM := by decide
  have n2 : nmM ≠ frs nmM := by decide
  have e1 : foz (fput F (frs nmM) l) nmP = foz F nmP := by rw [foz_put h.srt, if_neg n1]
  exact { srt := h.srt.put _ _
          nm := fun x hx => (fput_nm h.srt hx).elim (fun e => .inr (.inr e)) fun hx => h.nm _ hx
          lp := by rw [e1]; exact h.lp
          lm := by rw [foz_put h.srt, if_neg n2]; exact h.lm
          lt := by rw [foz_put h.srt, if_pos rfl]; exact hl
          me := by rw [fget_put h.srt, if_neg n2]; exact h.me
          sl := fun x hx => by rw [e1]; exact h.sl x hx
          da := fun i s hi => by rw [h.da i s hi, dsk_eq e1] }
theorem Gfl.rem {C : Cx} {Q : Nat} {F : Fl} (h : Gfl C Q F) : Gfl C Q (fdel F (frs nmM)) := by
  have n1 : nmP ≠ frs nmM := by decide
  have n2 : nmM ≠ frs nmM := by decide
  have e1 : foz (fdel F (frs nmM)) nmP = foz F nmP := by rw [foz_del h.srt, if_neg n1]
  exact { srt := h.srt.del _
          nm := fun x hx => h.nm _ (fdel_sub hx)
          lp := by rw [e1]; exact h.lp
          lm := by rw [foz_del h.srt, if_neg n2]; exact h.lm
          lt := by rw [foz_del h.srt, if_pos rfl]; exact Nat.zero_le _
          me := by rw [fget_del h.srt, if_neg n2]; exact h.me
          sl := fun x hx => by rw [e1]; exact h.sl x hx
          da := fun i s hi => by rw [h.da i s hi, dsk_eq e1] }
section
variable {C : Cx} {E : Int} {Q : Nat} {R : Al By} {s : Ps} {d : Dm}
theorem Iv.new_ok (h : Iv C E Q R s d) {note : By} (hn : note.length ≤ 10000) : (C.save s.S R note).Ok where
  m := .inr rfl
  S := fun x hx => by have := h.sb x hx; exact ⟨this.1, this.2.1, this.2.2.1⟩
  srt := h.sS
  len := h.len
  ntl := hn
  keys := h.keys
  dat := h.dat
  inj := h.inj
  rm := h.ok.rm
  hand := h.ok.hand
theorem Iv.rep (h : Iv C E Q R s d) (hcl : ∀ i f, aget s.H i = some f → f.dirty = false) {note : By} (hn : note.length ≤ 10000) :
    ((saR s d note).1 = 0 ∧ Iv (C.save s.S R note) E Q R (saS s) (saR s d note).2) ∨ ((saR s d note).1 = 9 ∧ Kd (fun F => Gfl C Q F ∨ Gfl (C.save s.S R note) Q F) C (saR s d note).2) := by
  have hQ := h.hQ
  have hrm := h.ok.rm
  have hmb := metaB_70 h.pb.1.S h.len hn
  have n1 : nmP ≠ frs nmM := by decide
  have n2 : nmM ≠ frs nmM := by decide
  have n3 : nmP ≠ nmM := by decide
  obtain ⟨mb, hmbe⟩ : ∃ mb, mb = metaB s.S note := ⟨_, rfl⟩
  obtain ⟨C', hC'⟩ : ∃ C', C' = C.save s.S R note := ⟨_, rfl⟩
  rw [← hmbe] at hmb
  have hm0 : Md C Q 200 (foz d.seen nmP) d := ⟨h.dead, h.arm, h.room, by have := h.que; omega, h.dq, rfl⟩
  have hnew : ∀ F, Gfl C Q F → foz F nmP = foz d.seen nmP → foz F (frs nmM) = mb → Gfl C' Q (fput (fdel F (frs nmM)) nmM (foz F (frs nmM))) := fun F hF hp ht => by
    have hs := hF.srt.del (frs nmM)
    have e1 : foz (fput (fdel F (frs nmM)) nmM (foz F (frs nmM))) nmP = foz d.seen nmP := by rw [foz_put hs, if_neg n3, foz_del hF.srt, if_neg n1, hp]
    rw [hC']
    exact { srt := hs.put _ _
            nm := fun x hx => (fput_nm hs hx).elim (fun e => .inr (.inl e)) fun hx => hF.nm _ (fdel_sub hx)
            lp := by rw [e1, ← hp]; exact hF.lp
            lm := by rw [foz_put hs, if_pos rfl, ht]; exact hmb
            lt := by rw [foz_put hs, if_neg n2.symm, foz_del hF.srt, if_pos rfl]; exact Nat.zero_le _
            me := by rw [fget_put hs, if_pos rfl, ht, hmbe]; rfl
            sl := fun x hx => by rw [e1]; exact (h.sb x hx).2.2.2
            da := fun i s' hi => by
              rw [dsk_eq e1]
              have hi : aget s.S i = some s' := hi
              show aget R i = _
              cases hg : aget s.H i with
              | none => exact h.cold i s' hi hg
              | some f => rw [h.hot i f hg, h.cln i f s' hg (hcl i f hg) hi] }
  have hfail : ∀ d', Kd (Gfl C Q) C d' → Kd (fun F => Gfl C Q F ∨ Gfl C' Q F) C d' := fun d' hd => hd.mono fun F hF => .inl hF
  rw [← hC']
  have e0 : saR s d note = repD d nmM mb := by unfold saR; rw [hmbe]
  rw [e0]
  unfold repD
  rw [if_neg (by rw [h.dead]; decide)]
  -- the old half-written file goes
  have h1 : ((rp1 d nmM).1 = 0 ∧ Md C Q 201 (foz d.seen nmP) (rp1 d nmM).2 ∧ fget (rp1 d nmM).2.seen (frs nmM) = none) ∨ ((rp1 d nmM).1 = 9 ∧ Kd (Gfl C Q) C (rp1 d nmM).2) := by
    unfold rp1
    split
    · rename_i ht
      have e : thE d (frs nmM) = 0 := by unfold thE; rw [if_pos ht]
      rw [e]
      rcases hm0.step (by omega) (x := .rem (frs nmM)) trivial (by simp [Dd.units]) (G := Gfl C Q) (fun F hF => hF) (fun j _ => h.gs.rem) with ⟨a1, a2, a3, a4, a5, a6, a7⟩ | a
      · refine .inl ⟨a1, ⟨a2, a3, a4, a5, a6, ?_⟩, ?_⟩
        · show foz (rawD d (.rem (frs nmM)) 0).seen nmP = _
          rw [a7]
          show foz (fdel _ _) _ = _
          rw [foz_del h.gs.srt, if_neg n1]
        · show fget (rawD d (.rem (frs nmM)) 0).seen _ = _
          rw [a7]
          show fget (fdel _ _) _ = _
          rw [fget_del h.gs.srt, if_pos rfl]
      · exact .inr a
    · rename_i ht
      exact .inl ⟨rfl, { hm0 with que := Nat.le_succ_of_le hm0.que }, by simpa using ht⟩
  generalize rp1 d nmM = p1 at *
  obtain ⟨x1, d1⟩ := p1
  simp only at h1 ⊢
  rcases h1 with ⟨rfl, m1, t1⟩ | ⟨rfl, k1⟩
  case inr => rw [if_pos (by decide)]; exact .inr ⟨rfl, hfail _ k1⟩
  rw [if_neg (by decide)]
  have hz1 : foz d1.seen (frs nmM) = [] := by unfold foz; rw [t1]; rfl
  have g1 := m1.dq.seen
  have h2 : ((rp2 d1 nmM mb).1 = 0 ∧ Md C Q 202 (foz d.seen nmP) (rp2 d1 nmM mb).2 ∧ fget (rp2 d1 nmM mb).2.seen (frs nmM) = some mb) ∨ ((rp2 d1 nmM mb).1 = 9 ∧ Kd (Gfl C Q) C (rp2 d1 nmM mb).2) := by
    have e : wrE d1 (frs nmM) ((foz d1.seen (frs nmM)).length : Int) mb.length = 0 := by
      unfold wrE
      have ht := g1.tot
      rw [hz1, if_neg (by simp), if_neg (by rw [m1.room]; simp only [List.length_nil]; omega)]
    unfold rp2
    rw [e, hz1]
    have hdd : ∀ j, ddo d1.seen (.write (frs nmM) 0 mb) j = fput d1.seen (frs nmM) (mb.take (j - 1)) := fun j => by
      show fput _ _ (wrt (foz _ _) 0 _) = _
      have hw := wrt_end [] (mb.take (j - 1))
      rw [hz1]
      simpa using congrArg (fput d1.seen (frs nmM)) hw
    have hl : mb.length ≤ lim := Nat.le_trans hmb (by decide)
    rcases m1.step (by omega) (x := .write (frs nmM) 0 mb) ⟨Nat.zero_le _, by rw [hz1]; exact Nat.zero_le _, by rw [Nat.zero_add]; exact hl⟩ (by show mb.length + 1 ≤ 1000000; omega) (G := Gfl C Q) (fun F hF => hF) (fun j _ => by rw [hdd]; exact g1.tmp _ (by rw [List.length_take]; omega)) with ⟨a1, a2, a3, a4, a5, a6, a7⟩ | a
    · have hu : ddo d1.seen (.write (frs nmM) 0 mb) (Dd.write (frs nmM) 0 mb).units = fput d1.seen (frs nmM) mb := by
        rw [hdd]
        congr 1
        show mb.take (mb.length + 1 - 1) = mb
        rw [Nat.add_sub_cancel, List.take_length]
      refine .inl ⟨a1, ⟨a2, a3, a4, a5, a6, ?_⟩, ?_⟩
      · show foz (rawD d1 (.write (frs nmM) 0 mb) 0).seen nmP = _
        rw [a7, hu, foz_put g1.srt, if_neg n1, m1.pg]
      · show fget (rawD d1 (.write (frs nmM) 0 mb) 0).seen _ = _
        rw [a7, hu, fget_put g1.srt, if_pos rfl]
    · exact .inr a
  generalize rp2 d1 nmM mb = p2 at *
  obtain ⟨x2, d2⟩ := p2
  simp only at h2 ⊢
  rcases h2 with ⟨rfl, m2, t2⟩ | ⟨rfl, k2⟩
  case inr => rw [if_pos (by decide)]; exact .inr ⟨rfl, hfail _ k2⟩
  rw [if_neg (by decide)]
  have g2 := m2.dq.seen
  have hz2 : foz d2.seen (frs nmM) = mb := by unfold foz; rw [t2]; rfl
  have h3 : ((rp3 d2 nmM).1 = 0 ∧ (rp3 d2 nmM).2.dead = false ∧ (C.cal = true → (rp3 d2 nmM).2.armed = false) ∧ (rp3 d2 nmM).2.room = C.rm ∧ (rp3 d2 nmM).2.queue.length ≤ 203 ∧ Dqu (fun F => Gfl C Q F ∨ Gfl C' Q F) (rp3 d2 nmM).2 ∧ Gfl C' Q (rp3 d2 nmM).2.seen ∧ foz (rp3 d2 nmM).2.seen nmP = foz d.seen nmP) ∨ ((rp3 d2 nmM).1 = 9 ∧ Kd (fun F => Gfl C Q F ∨ Gfl C' Q F) C (rp3 d2 nmM).2) := by
    have e : thE d2 (frs nmM) = 0 := by unfold thE; rw [t2]; rfl
    unfold rp3
    rw [e]
    have hg := hnew _ g2 m2.pg hz2
    rcases m2.step (by omega) (x := .ren (frs nmM) nmM) trivial (by simp [Dd.units]) (G := fun F => Gfl C Q F ∨ Gfl C' Q F) (fun F hF => .inl hF) (fun j _ => .inr hg) with ⟨a1, a2, a3, a4, a5, a6, a7⟩ | a
    · refine .inl ⟨a1, a2, a3, a4, a5, a6, ?_, ?_⟩
      · show Gfl C' Q (rawD d2 (.ren (frs nmM) nmM) 0).seen
        rw [a7]; exact hg
      · show foz (rawD d2 (.ren (frs nmM) nmM) 0).seen nmP = _
        rw [a7]
        show foz (fput (fdel _ _) _ _) _ = _
        rw [foz_put (g2.srt.del _), if_neg n3, foz_del g2.srt, if_neg n1, m2.pg]
    · exact .inr a
  generalize rp3 d2 nmM = p3 at *
  obtain ⟨x3, d3⟩ := p3
  simp only at h3 ⊢
  rcases h3 with ⟨rfl, b1, b2, b3, b4, b5, b6, b7⟩ | ⟨rfl, k3⟩
  case inr => rw [if_pos (by decide)]; exact .inr ⟨rfl, k3⟩
  rw [if_neg (by decide)]
  by_cases hdie : d3.armed = true ∧ d3.left = 0
  · refine .inr ⟨?_, ?_⟩
    · show rawE d3 0 = 9
      unfold rawE mayR
      rw [b1, if_neg (by decide), if_neg (by decide), if_pos hdie]
    · show Kd _ C (flD d3)
      have e : flD d3 = { d3 with dead := true } := by unfold flD; rw [b1, if_neg (by decide), if_pos hdie]
      rw [e]
      refine ⟨rfl, ?_, b3, by show d3.queue.length ≤ 1000; omega, ⟨b5.al, b5.sn, b5.qo, b5.un⟩⟩
      cases hc : C.cal
      · rfl
      · have := b2 hc; rw [this] at hdie; cases hdie.1
  · refine .inl ⟨?_, ?_⟩
    · show rawE d3 0 = 0
      unfold rawE mayR
      rw [b1, if_neg (by decide), if_neg (by decide), if_neg hdie]
    · show Iv C' E Q R (saS s) (flD d3)
      have e : flD d3 = { mayD d3 0 with safe := d3.seen, queue := [] } := by unfold flD; rw [b1, if_neg (by decide), if_neg hdie]
      have em : (mayD d3 0).seen = d3.seen ∧ (mayD d3 0).dead = false ∧ (mayD d3 0).armed = d3.armed ∧ (mayD d3 0).room = d3.room := by
        unfold mayD
        rw [b1, if_neg (by decide), if_neg (by decide)]
        split
        · rename_i ha
          rw [if_neg (fun h => hdie ⟨ha, h⟩)]; exact ⟨rfl, rfl, rfl, rfl⟩
        · exact ⟨rfl, b1, rfl, rfl⟩
      have hse : (flD d3).seen = d3.seen := by rw [e]; exact em.1
      have hnd0 : nd s.H ≤ nd s.H := Nat.le_refl _
      have hdk : ∀ sl, dsk (flD d3).seen sl = dsk d.seen sl := fun sl => dsk_eq (by rw [hse, b7]) sl
      have hok : C'.Ok := by rw [hC']; exact h.new_ok hn
      have hcc : C'.cal = C.cal ∧ C'.rm = C.rm ∧ C'.hand = C.hand ∧ C'.L = s.S := by rw [hC']; exact ⟨rfl, rfl, rfl, rfl⟩
      refine { ok := hok, dead := by rw [e]; exact em.2.1, arm := fun hc => by rw [e]; show (mayD d3 0).armed = false; rw [em.2.2.1]; exact b2 (by rw [← hcc.1]; exact hc), room := by rw [e]; show (mayD d3 0).room = C'.rm; rw [em.2.2.2, b3, hcc.2.1], hQ := h.hQ, hE := h.hE, que := ?_, siz := ?_, dq := ?_, sb := fun x hx => by rw [hse, b7]; exact h.sb x hx, len := h.len, sS := h.sS, sH := h.sH, inj := h.inj, c := fun i => by rw [hcc.2.2.2]; rfl, ids := h.ids, keys := h.keys, dat := h.dat, hot := h.hot, cold := fun i s' hi hno => by rw [hdk]; exact h.cold i s' hi hno, cln := fun i f s' hi hf hs' => by rw [hdk]; exact h.cln i f s' hi hf hs', ev := h.ev, clock := h.clock, hit := h.hit, mis := h.mis, hand := by rw [hcc.2.2.1]; exact h.hand, hln := by rw [hcc.2.2.1]; exact h.hln }
      · rw [e]; show (([] : List Dd)).length + nd s.H ≤ Q
        have := h.que
        simp only [List.length_nil]; omega
      · rw [hse, b7]; exact h.siz
      · rw [e]
        refine ⟨fun k => ?_, ?_, trivial, Nat.zero_le _⟩
        · show Gfl C' Q (after d3.seen [] k)
          rw [after_nil]; exact b6
        · show (mayD d3 0).seen = after d3.seen [] _
          rw [after_nil]; exact em.1
/-- a drive on which a pool can be opened -/
structure Dv (C : Cx) (Q : Nat) (d : Dm) : Prop where
  ok : C.Ok
  dead : d.dead = false
  arm : C.cal = true → d.armed = false
  room : d.room = C.rm
  hQ : Q ≤ 200
  que : d.queue.length ≤ Q
  dq : Dqu (Gfl C Q) d
theorem Iv.dv (h : Iv C E Q R s d) : Dv C Q d := ⟨h.ok, h.dead, h.arm, h.room, h.hQ, by have := h.que; omega, h.dq⟩
theorem Dv.opis (h : Dv C Q d) : OpIs d C.L C.nt := by
  have g := h.dq.seen
  rcases h.ok.m with ⟨h1, h2, h3⟩ | h1
  · exact .inl ⟨by rw [g.me, h1], h2, h3⟩
  · refine .inr ⟨by rw [g.me, h1], fun x hx => ?_, h.ok.srt, by have := h.ok.len; omega, by have := h.ok.ntl; omega, g.sl⟩
    have h2 := h.ok.S x hx
    have h3 := g.sl x hx
    have h4 := g.lp
    have h5 := h.hQ
    exact ⟨h2.1, by omega, h2.2.2, by omega⟩
theorem Dv.iv (h : Dv C Q d) : Iv C 0 Q C.RL (s0k C.hand C.L) d := by
  have g := h.dq.seen
  have hh := h.ok.hand
  have hz : ∀ i, aget (s0k C.hand C.L).H i = none := fun i => rfl
  exact { ok := h.ok, dead := h.dead, arm := h.arm, room := h.room, hQ := h.hQ, hE := by omega, que := h.que, siz := g.lp, dq := h.dq
          sb := fun x hx => by have h2 := h.ok.S x hx; exact ⟨h2.1, h2.2.1, h2.2.2, g.sl x hx⟩
          len := h.ok.len, sS := h.ok.srt, sH := List.Pairwise.nil, inj := h.ok.inj, c := fun i => rfl
          ids := fun i hi => by rw [hz] at hi; cases hi
          keys := h.ok.keys, dat := h.ok.dat
          hot := fun i f hi => by rw [hz] at hi; cases hi
          cold := fun i sl hi _ => g.da i sl hi
          cln := fun i f sl hi => by rw [hz] at hi; cases hi
          ev := ⟨Int.le_refl 0, Int.le_refl 0⟩, clock := ⟨Int.le_refl 0, Int.le_refl 0⟩, hit := ⟨Int.le_refl 0, Int.le_refl 0⟩, mis := ⟨Int.le_refl 0, Int.le_refl 0⟩
          hand := rfl, hln := by show (([] : Al Fr).length : Int) ≤ C.hand; simp; omega }
/-- behind a crash -/
theorem crD_dv {G : Fl → Prop} {d : Dm} (h : Dqu G d) (keep : Int) : ∃ F, G F ∧ crD d keep = ⟨F, F, [], d.room, false, 0, false⟩ := ⟨_, h.al _, rfl⟩
theorem dv_files {C : Cx} {Q : Nat} {F : Fl} (hC : C.Ok) (hQ : Q ≤ 200) (hF : Gfl C Q F) : Dv C Q ⟨F, F, [], C.rm, false, 0, false⟩ :=
  ⟨hC, rfl, fun _ => rfl, rfl, hQ, Nat.zero_le _, ⟨fun k => hF, rfl, trivial, Nat.zero_le _⟩⟩
end
end Go.Proofs.YtbmhkdcmepfmbaaGreat
set_option linter.unusedVariables false
set_option linter.unusedSimpArgs false
namespace Go.Proofs.YtbmhkdcmepfmbaaGreat
open Go.RowKit
section
variable {C : Cx} {E : Int} {Q : Nat} {R : Al By} {s : Ps} {d : Dm} {T M : Nat → Prop} {w : World} {p b : Nat}
theorem Iv.some (h : Iv C E Q R s d) (id : Int) : (aget s.S id).isSome = (aget R id).isSome := (aget_keys h.keys id).symm
theorem St.refl (s : Ps) : St s s := ⟨rfl, rfl, Int.le_refl _⟩
theorem vput [Xcl] (h : Jn T M w p b s d) (hI : Iv C E Q R s d) (hE : E + 1 ≤ 100000) (hQ : Q + 1 ≤ 200) (id : Int) (hid : Wi id) {A : Nat → Prop} {v : Value} {l : By} (hv : Bs A w v l) :
    Calls Tryz.prog 13 #[.pointer (some ⟨p, 0, none⟩), .int .i64 id, v] w fun e w' =>
      (∃ (x : Int) (s1 : Ps) (d1 : Dm), x ≠ 0 ∧ e = .returned (.int .i64 x) ∧ Jv C Q d1 ∧ Jp T M w p b s1 d1 w') ∨
      (e = .returned (.int .i64 (pE R id l)) ∧ ∃ s' d', Iv C (E + 1) (Q + 1) (pR R id l) s' d' ∧ St s s' ∧ (pE R id l = 0 → (aget s'.H id).isSome) ∧ Jp T M w p b s' d' w') := by
  refine (put_any (hv_iv C E hI.hE Q R s) hI.ok.hand (by omega) h ⟨hI, St.refl s⟩ id hid hv).mono ?_
  rintro e w' ⟨h1, h2, h3⟩
  have hs := hI.some id
  cases hg : aget R id with
  | none =>
    rw [hg] at hs
    obtain ⟨rfl, rfl⟩ := h1 (by simpa using hs)
    have e1 : pE R id l = 1 := by unfold pE; rw [hg]; rfl
    have e2 : pR R id l = R := by unfold pR; rw [hg]; rfl
    rw [e1, e2]
    exact .inr ⟨rfl, s, d, hI.more (by omega) (by omega) hE hQ, St.refl s, fun h => absurd h (by decide), Jp.refl h (Below.refl _ _)⟩
  | some l0 =>
    rw [hg] at hs
    by_cases hl : l.length = 512
    · have e1 : pE R id l = 0 := by unfold pE; rw [hg]; simp [hl]
      have e2 : pR R id l = aput R id l := by unfold pR; rw [if_pos ⟨by rw [hg]; rfl, hl⟩]
      rw [e1, e2]
      rcases h3 (by simpa using hs) hl with h3 | ⟨h4, s1, d1, ⟨hI1, hS1⟩, k1, k2, k3⟩
      · exact .inl h3
      · refine .inr ⟨h4, _, d1, hI1.hold (by rw [hg]; rfl) hl ?_ hE hQ, hS1, fun _ => by show (aget (aput s1.H id _) id).isSome; rw [aget_put hI1.sH, if_pos rfl]; rfl, k3⟩
        cases hh : (aget s.H id).isSome with
        | true =>
          obtain ⟨rfl, rfl⟩ := k1 hh
          exact .inl hh
        | false =>
          have := (k2 hh).2
          rw [hI1.hand] at this
          exact .inr this
    · have e1 : pE R id l = 2 := by unfold pE; rw [hg]; simp [hl]
      have e2 : pR R id l = R := by unfold pR; rw [if_neg fun h => hl h.2]
      obtain ⟨rfl, rfl⟩ := h2 (by simpa using hs) hl
      rw [e1, e2]
      exact .inr ⟨rfl, s, d, hI.more (by omega) (by omega) hE hQ, St.refl s, fun h => absurd h (by decide), Jp.refl h (Below.refl _ _)⟩
/-- what a Get leaves -/
def GetV [Xcl] (C : Cx) (E : Int) (Q : Nat) (R : Al By) (T M : Nat → Prop) (w : World) (p b : Nat) (s : Ps) (id : Int) (e : Ending) (w' : World) : Prop :=
  ∃ s' d' v' w5, e = .returned (.tuple #[v', .int .i64 (gE R id)]) ∧ Iv C (E + 1) Q R s' d' ∧ ((aget R id).isSome → s'.hit + s'.mis = s.hit + s.mis + 1 ∧ (aget s'.H id).isSome) ∧ s.hit ≤ s'.hit ∧ s.mis ≤ s'.mis ∧ s.ev ≤ s'.ev ∧ Jp T M w p b s' d' w5 ∧ Below w5.heap.size w5 w' ∧ Ob 5 w5.heap.size w' v' ((aget R id).getD [])
theorem vget [Xcl] (h : Jn T M w p b s d) (hI : Iv C E Q R s d) (hE : E + 1 ≤ 100000) (id : Int) (hid : Wi id) :
    Calls Tryz.prog 18 #[.pointer (some ⟨p, 0, none⟩), .int .i64 id] w fun e w' =>
      (∃ (x : Int) (s1 : Ps) (d1 : Dm), x ≠ 0 ∧ e = .returned (.tuple #[.slice none 0 0, .int .i64 x]) ∧ Jv C Q d1 ∧ Jp T M w p b s1 d1 w') ∨ GetV C E Q R T M w p b s id e w' := by
  have hin : ∀ sl, aget s.S id = some sl → sl ≤ 1000000 ∧ (0 ≤ sl → sl.toNat * 512 + 512 ≤ (foz d.seen nmP).length) := fun sl hsl => by
    have h1 := (hI.sb _ (aget_mem hsl)).2.2.2
    have h2 := hI.gs.lp
    have h3 := hI.hQ
    simp only at h1
    exact ⟨by omega, fun h0 => by omega⟩
  refine (get_any (hv_iv C E hI.hE Q R s) hI.ok.hand (by omega) h ⟨hI, St.refl s⟩ id hid hin).mono ?_
  rintro e w' ⟨h1, h2, h3⟩
  have hs := hI.some id
  cases hg : aget R id with
  | none =>
    rw [hg] at hs
    obtain ⟨rfl, rfl⟩ := h1 (by simpa using hs)
    refine .inr ⟨s, d, .slice none 0 0, w', by rw [gE_none hg], hI.more (by omega) (Nat.le_refl _) hE hI.hQ, fun h => (by rw [hg] at h; cases h), Int.le_refl _, Int.le_refl _, Int.le_refl _, Jp.refl h (Below.refl _ _), Below.refl _ _, ?_⟩
    rw [hg]; exact ob_nil
  | some l =>
    rw [hg] at hs
    obtain ⟨sl, hsl⟩ := Option.isSome_iff_exists.1 (by simpa using hs : (aget s.S id).isSome)
    cases hH : aget s.H id with
    | some f =>
      obtain ⟨v', w5, he, hj, hb, ho⟩ := h2 sl f hsl hH
      have hl : f.data = l := by have := hI.hot id f hH; rw [hg] at this; exact (Option.some.inj this).symm
      rw [hl] at ho
      refine .inr ⟨_, d, v', w5, by rw [gE_some hg]; exact he, hI.touch hH hE, fun _ => ?_, ?_, Int.le_refl _, Int.le_refl _, hj, hb, by rw [hg]; exact ho⟩
      · refine ⟨by show s.hit + 1 + s.mis = s.hit + s.mis + 1; omega, ?_⟩
        show (aget (aput s.H id _) id).isSome
        rw [aget_put hI.sH, if_pos rfl]; rfl
      · show s.hit ≤ s.hit + 1; omega
    | none =>
      obtain ⟨_, k2⟩ := h3 sl hsl hH
      have hl : dsk d.seen sl = l := by have := hI.cold id sl hsl hH; rw [hg] at this; exact (Option.some.inj this).symm
      rw [hl] at k2
      rcases k2 (.inr hI.dead) with k | ⟨s1, d1, ⟨hI1, hS1⟩, hn, hlt, v', w5, he, hj, hb, ho⟩
      · exact .inl k
      · rw [hI1.hand] at hlt
        refine .inr ⟨_, d1, v', w5, by rw [gE_some hg]; exact he, hI1.fetch hg hn hlt hE, fun _ => ?_, ?_, ?_, ?_, hj, hb, by rw [hg]; exact ho⟩
        · refine ⟨by show s1.hit + (s1.mis + 1) = s.hit + s.mis + 1; rw [hS1.1, hS1.2.1]; omega, ?_⟩
          show (aget (aput s1.H id _) id).isSome
          rw [aget_put hI1.sH, if_pos rfl]; rfl
        · show s.hit ≤ s1.hit; rw [hS1.1]; exact Int.le_refl _
        · show s.mis ≤ s1.mis + 1; rw [hS1.2.1]; omega
        · exact hS1.2.2
/-- a page at hand -/
theorem vhit [Xcl] (h : Jn T M w p b s d) (hI : Iv C E Q R s d) (hE : E + 1 ≤ 100000) (id : Int) (hid : Wi id) (hh : (aget s.H id).isSome) :
    Calls Tryz.prog 18 #[.pointer (some ⟨p, 0, none⟩), .int .i64 id] w fun e w' => ∃ s' v' w5 l, aget R id = some l ∧ e = .returned (.tuple #[v', .int .i64 0]) ∧ Iv C (E + 1) Q R s' d ∧ Jp T M w p b s' d w5 ∧ Below w5.heap.size w5 w' ∧ Ob 5 w5.heap.size w' v' l := by
  have hin : ∀ sl, aget s.S id = some sl → sl ≤ 1000000 ∧ (0 ≤ sl → sl.toNat * 512 + 512 ≤ (foz d.seen nmP).length) := fun sl hsl => by
    have h1 := (hI.sb _ (aget_mem hsl)).2.2.2
    have h2 := hI.gs.lp
    have h3 := hI.hQ
    simp only at h1
    exact ⟨by omega, fun h0 => by omega⟩
  refine (get_any (hv_iv C E hI.hE Q R s) hI.ok.hand (by omega) h ⟨hI, St.refl s⟩ id hid hin).mono ?_
  rintro e w' ⟨h1, h2, h3⟩
  obtain ⟨f, hf⟩ := Option.isSome_iff_exists.1 hh
  obtain ⟨sl, hsl⟩ := Option.isSome_iff_exists.1 (hI.ids id hh)
  obtain ⟨v', w5, he, hj, hb, ho⟩ := h2 sl f hsl hf
  exact ⟨_, v', w5, f.data, hI.hot id f hf, he, hI.touch hf hE, hj, hb, ho⟩
theorem valloc [Xcl] (h : Jn T M w p b s d) (hI : Iv C E Q R s d) (hl : R.length + 1 ≤ 60) :
    Calls Tryz.prog 10 #[.pointer (some ⟨p, 0, none⟩)] w fun e w' => ∃ (n : Nat) (s' : Ps), e = .returned (.tuple #[.int .i64 n, .int .i64 0]) ∧ aget R n = none ∧ (∀ m : Nat, m < n → (aget R m).isSome) ∧ n ≤ R.length ∧ Iv C E Q (aput R n zer) s' d ∧ St s s' ∧ Jp T M w p b s' d w' := by
  obtain ⟨D, Dd, ms, mf, ma, ff, nf, g, hJ⟩ := h.jx
  have hrl := hI.rlen
  refine (alloc_any hJ.P (by omega)).mono ?_
  rintro e w' ⟨n, rfl, h1, h2, h3, h4, h5⟩
  have hw : Wb T w w' := h5.mono fun k hk => by subst hk; exact hJ.P.tS.1
  refine ⟨n, _, rfl, ?_, fun m hm => by rw [← hI.some]; exact h2 m hm, by omega, hI.alloc h1 h3 (by omega), St.refl s, ?_⟩
  · have := hI.some n
    rw [h1] at this
    simpa using this.symm
  · exact ⟨hw.mono fun k hk => .inl hk, T, M, fun k hk => .inl hk, fun k hk => .inl hk, (hJ.pool hw h4).jn⟩
theorem vfree [Xcl] (h : Jn T M w p b s d) (hI : Iv C E Q R s d) (id : Int) (hid : Wi id) :
    Calls Tryz.prog 49 #[.pointer (some ⟨p, 0, none⟩), .int .i64 id] w fun e w' => ∃ (s' : Ps), e = .returned (.int .i64 (gE R id)) ∧ Iv C E Q (adel R id) s' d ∧ St s s' ∧ Jp T M w p b s' d w' := by
  obtain ⟨D, Dd, ms, mf, ma, ff, nf, g, hJ⟩ := h.jx
  refine (pfree_any hJ.P id hid).mono ?_
  rintro e w' ⟨h1, h2⟩
  have hs := hI.some id
  cases hg : aget R id with
  | none =>
    rw [hg] at hs
    obtain ⟨rfl, rfl⟩ := h1 (by simpa using hs)
    exact ⟨s, by rw [gE_none hg], by rw [adel_none hg]; exact hI, St.refl s, Jp.refl h (Below.refl _ _)⟩
  | some l =>
    rw [hg] at hs
    obtain ⟨rfl, h4, h5⟩ := h2 (by simpa using hs)
    have hw : Wb T w w' := h5.mono fun k hk => hk.elim (fun e => by rw [e]; exact hJ.P.tS.1) fun e => by rw [e]; exact hJ.P.tH.1
    exact ⟨_, by rw [gE_some hg], hI.free id, St.refl s, ⟨hw.mono fun k hk => .inl hk, T, M, fun k hk => .inl hk, fun k hk => .inl hk, (hJ.pool hw h4).jn⟩⟩
theorem vsave [Xcl] (h : Jn T M w p b s d) (hI : Iv C E Q R s d) {A : Nat → Prop} {v : Value} {note : By} (hv : Bs A w v note) (hA : ∀ k, A k → k < w.heap.size ∧ ¬ T k ∧ ¬ M k ∧ k ≠ b) (hnl : note.length ≤ 10000) :
    Calls Tryz.prog 14 #[.pointer (some ⟨p, 0, none⟩), v] w fun e w' =>
      (e = .returned (.int .i64 9) ∧ ∃ S s1 d1, (C.save S R note).Ok ∧ Kd (fun F => Gfl C Q F ∨ Gfl (C.save S R note) Q F) C d1 ∧ Jp T M w p b s1 d1 w') ∨
      (e = .returned (.int .i64 0) ∧ ∃ S s' d', Iv (C.save S R note) E Q R s' d' ∧ (s'.hit = s.hit ∧ s'.mis = s.mis ∧ s'.ev = s.ev ∧ s'.H.map (·.1) = s.H.map (·.1)) ∧ Jp T M w p b s' d' w') := by
  refine (save_any (hs_iv C E hI.hE Q R s) h ⟨hI, rfl, rfl, rfl, rfl⟩ hv hA (by omega)).mono ?_
  rintro e w' ⟨_, h2⟩
  rcases h2 hI.dead with ⟨x, s1, d1, rfl, he, hj, hp⟩ | ⟨s1, d1, ⟨hI1, hs1⟩, hcl, he, k1, k2⟩
  · exact .inl ⟨he, s.S, s1, d1, hI.new_ok hnl, ⟨hj.1, hj.2.1, hj.2.2.1, hj.2.2.2.1, hj.2.2.2.2.mono fun F hF => .inl hF⟩, hp⟩
  · rcases hI1.rep hcl hnl with ⟨r1, r2⟩ | ⟨r1, r2⟩
    · exact .inr ⟨by rw [he, r1], s1.S, _, _, r2, ⟨hs1.1, hs1.2.1, hs1.2.2.1, hs1.2.2.2⟩, k2 r1⟩
    · exact .inl ⟨by rw [he, r1], s1.S, _, _, hI1.new_ok hnl, r2, k1 (by rw [r1]; decide)⟩
/-- what Open leaves -/
def OpenV [Xcl] (C : Cx) (M Dd : Nat → Prop) (w : World) (b : Nat) (Q : Nat) (d : Dm) (e : Ending) (w' : World) : Prop :=
  ∃ (p c : Nat) (v : Value) (T : Nat → Prop) (ms mf ma : Nat) (ff : Int → Option Value) (nf : Nat) (g : Int → Nat), e = .returned (.tuple #[.pointer (some ⟨p, 0, none⟩), v, .int .i64 0]) ∧
    Jx T (fun _ => False) M Dd w' p b (s0k C.hand C.L) d ms mf ma ff nf g ∧ Iv C 0 Q C.RL (s0k C.hand C.L) d ∧ Below w.heap.size w w' ∧ (∀ k, T k → w.heap.size ≤ k ∧ k < c) ∧ w.heap.size ≤ c ∧ Ob 5 c w' v C.nt
theorem vopen [Xcl] {Dd : Nat → Prop} (h : DrIs M Dd w b d) (hX : Xo (fun _ => False) Dd w.heap.size) (hD : Dv C Q d) (hand : Int) (hh : C.hand = max 1 hand) :
    Calls Tryz.prog 9 #[.pointer (some ⟨b, 0, none⟩), .string ⟨pfx_.toArray⟩, .int .i64 hand] w (OpenV C M Dd w b Q d) := by
  have ht := hD.dq.seen.tot
  have hq := hD.hQ
  refine (popen_any h hX hand C.hand hh hD.dead (by omega) hD.opis).mono ?_
  rintro e w' ⟨p, c, v, T, ms, mf, ma, ff, nf, g, he, hJ, hb, hT, hc, ho⟩
  exact ⟨p, c, v, T, ms, mf, ma, ff, nf, g, he, hJ, hD.iv, hb, hT, hc, ho⟩
end
end Go.Proofs.YtbmhkdcmepfmbaaGreat
set_option linter.unusedVariables false
set_option linter.unusedSimpArgs false
namespace Go.Proofs.YtbmhkdcmepfmbaaGreat
open Go.RowKit
attribute [local go_sem ↓] Go.wp_at_zero Go.wp_at_succ
def s02 : Ps := { s00 2 with S := [(0, -1), (1, -1)] }
def d16 : Dm := ⟨[], [], [], 65536, false, 0, false⟩
theorem hv02 : Hv (fun s d => s = s02 ∧ d = d16) (fun _ => True) 2 10 where
  pb := fun s d ⟨h1, h2⟩ => by
    subst h1; subst h2
    refine ⟨{ S := ?_, len := by decide, c := fun i => Nat.zero_le _, dat := fun i f h => (by cases h), ids := fun i h => (by cases h) }, { tot := by decide, room := by decide, len := by decide, que := by decide }, by decide, by decide, rfl, by decide, by decide, by decide⟩
    intro x hx
    have hx : x ∈ ([(0, -1), (1, -1)] : Al Int) := hx
    simp only [List.mem_cons, List.not_mem_nil, or_false] at hx
    rcases hx with rfl | rfl <;> decide
  z := fun s d ⟨h1, h2⟩ => by
    subst h1; subst h2
    exact ⟨0, by decide, rfl, by decide, fun id f sl h => by cases h⟩
set_option maxRecDepth 100000 in
set_option maxHeartbeats 4000000 in
theorem awake_any (w : World) : Calls Tryz.prog 7 #[] w fun e w' => e = .returned (.bool true) ∧ Below w.heap.size w w' := by
  letI : Xcl := ⟨fun _ => False⟩
  have HN := Hid.mk' (new_any w 65536)
  go_enter Tryz.func7, Tryz.ntmps7
  go_wp2_with fail
  refine HN.out.mono ?_
  rintro E w1 ⟨rfl, hb1, hd1⟩
  have HB1 := Hid.mk' hb1
  have hd1 : DrIs (fun _ => False) (fun _ => False) w1 w.heap.size d16 := hd1
  have HOP := Hid.mk' (popen_any hd1 ⟨fun _ h => False.elim h, fun _ h => False.elim h, fun _ h => False.elim h⟩ 2 2 (by decide) rfl (by decide) (S := []) (note := []) (.inl ⟨rfl, rfl, rfl⟩))
  clear hd1 hb1 HN
  go_wp2_with fail
  refine HOP.out.mono ?_
  rintro E w2 ⟨p, c, v, T, ms, mf, ma, ff, nf, g, rfl, hj2, hb2, hT, hc, ho2⟩
  obtain ⟨va, vc, rfl⟩ := own_sliceN ho2
  have HB2 := Hid.mk' (HB1.out.trans (hb2.mono HB1.out.size))
  have HTW : Hid (∀ k, T k → w.heap.size ≤ k) := fun k hk => Nat.le_trans HB1.out.size (hT k hk).1
  have HA := Hid.mk' (alloc_any hj2.P (by decide))
  have HJ2 := Hid.mk' hj2
  clear hj2 hb2 hT hc ho2 HOP HB1
  go_wp2_with fail
  refine HA.out.mono ?_
  rintro E w3 ⟨n, rfl, h1, h2, h3, h4, h5⟩
  have hn : n = 0 := Nat.le_zero.1 h3
  subst hn
  have hj3 := HJ2.out.pool (h5.mono fun k hk => by subst hk; exact HJ2.out.P.tS.1) h4
  have HB3 := Hid.mk' (HB2.out.trans (h5.below HB2.out.size fun k hk => by subst hk; exact HTW.out _ HJ2.out.P.tS.1))
  have HA2 := Hid.mk' (alloc_any hj3.P (by decide))
  have HJ3 := Hid.mk' hj3
  clear h1 h2 h3 h4 h5 hj3 HA HJ2 HB2
  go_wp2_with fail
  refine HA2.out.mono ?_
  rintro E w4 ⟨n, rfl, h1, h2, h3, h4, h5⟩
  have hn : n = 1 := by
    have h3 : n ≤ 1 := h3
    rcases Nat.lt_or_ge n 1 with h | h
    · obtain rfl : n = 0 := by omega
      cases h1
    · omega
  subst hn
  have hj4 := HJ3.out.pool (h5.mono fun k hk => by subst hk; exact HJ3.out.P.tS.1) h4
  have hj4 : Jx T (fun _ => False) (fun _ => False) (fun _ => False) w4 p w.heap.size s02 d16 ms mf ma ff nf g := hj4
  have HB4 := Hid.mk' (HB3.out.trans (h5.below HB3.out.size fun k hk => by subst hk; exact HTW.out _ HJ3.out.P.tS.1))
  have HP1 := Hid.mk' (put_any hv02 (by decide) (by decide) hj4.jn ⟨rfl, rfl⟩ 5 (Wi.of (by decide) (by decide)) (bs_nil (A := fun _ => False)))
  have HP2 := Hid.mk' (put_any hv02 (by decide) (by decide) hj4.jn ⟨rfl, rfl⟩ 0 (Wi.of (by decide) (by decide)) (bs_nil (A := fun _ => False)))
  clear h1 h2 h3 h4 h5 hj4 HA2 HJ3 HB3
  go_wp2_with fail
  refine HP1.out.mono ?_
  rintro E w5 ⟨k1, _, _⟩
  obtain ⟨rfl, hw⟩ := k1 rfl
  obtain rfl : w4 = w5 := hw.symm
  clear k1
  go_wp2_with fail
  refine HP2.out.mono ?_
  rintro E w5 ⟨_, k2, _⟩
  obtain ⟨rfl, hw⟩ := k2 rfl (by decide)
  obtain rfl : w4 = w5 := hw.symm
  clear k2
  go_wp2_with fail
  go_ret
  exact ⟨rfl, HB4.out⟩
end Go.Proofs.YtbmhkdcmepfmbaaGreat
set_option linter.unusedVariables false
set_option linter.unusedSimpArgs false
namespace Go.Proofs.YtbmhkdcmepfmbaaGreat
open Go.RowKit
attribute [local go_sem ↓] Go.wp_at_zero Go.wp_at_succ
def fil (n k : Nat) (f : UInt8) : By := List.replicate k f ++ List.replicate (n - k) 0
theorem fil_len {n k : Nat} (f : UInt8) (h : k ≤ n) : (fil n k f).length = n := by simp [fil]; omega
theorem fil_set {n k : Nat} (f : UInt8) (h : k < n) : (fil n k f).set k f = fil n (k + 1) f := by
  unfold fil
  rw [List.set_append_right _ _ (by simp), List.length_replicate, Nat.sub_self, show n - k = (n - (k + 1)) + 1 by omega, List.replicate_succ, List.set_cons_zero, List.replicate_succ', List.append_assoc]
  rfl
/-- an act's cells -/
def actV (kd id ln : Int) (f : UInt8) (nv : Value) (ar kp : Int) : Array Value := #[.int .i64 kd, .int .i64 id, .int .i64 ln, .int .u8 (f.toNat : Int), nv, .int .i64 ar, .int .i64 kp]
set_option maxRecDepth 100000 in
set_option maxHeartbeats 2000000 in
/-- groynelaw07.page -/
theorem page_any (kd id ln : Int) (f : UInt8) (nv : Value) (ar kp : Int) {n : Nat} (hn : 512 + ln = (n : Int)) (hn2 : n ≤ 1024) (w : World) :
    Calls Tryz.prog 12 #[.agg (actV kd id ln f nv ar kp)] w fun e w' => ∃ v', e = .returned v' ∧ Ob 5 w.heap.size w' v' (List.replicate n f) ∧ Below w.heap.size w w' := by
  obtain ⟨W, hW⟩ : ∃ W, W = w.alloc (.cells (actV kd id ln f nv ar kp) 36) := ⟨_, rfl⟩
  have hb : Below w.heap.size w W := by rw [hW]; exact up_alloc _ _
  have hbx : W.heap[w.heap.size]? = some (.cells (actV kd id ln f nv ar kp) 36 (0, 0)) := by rw [hW]; exact heap_alloc_new _ _
  have c2 : W.cell? ⟨w.heap.size, 2, none⟩ = some (.int .i64 ln) := by simp only [World.cell?, hbx]; rfl
  have c3 : W.cell? ⟨w.heap.size, 3, none⟩ = some (.int .u8 (f.toNat : Int)) := by simp only [World.cell?, hbx]; rfl
  obtain ⟨gz, hgz⟩ : ∃ gz, gz = W.heap.size := ⟨_, rfl⟩
  obtain ⟨W2, hW2⟩ : ∃ W2, W2 = W.alloc (.cells (zeros n) 5) := ⟨_, rfl⟩
  have hmk0 : (Instr.makeSlice 22 (.int .i64 (n : Int)) (.int .i64 (n : Int))).run Tryz.prog W = .ok (.slice (some ⟨gz, 0, none⟩) n n) W2 := by rw [hW2, hgz]; exact run_mk 22 Tryz.underlying22 Tryz.info5 n (by unfold lim; omega) W
  have hu2 : Below W.heap.size W W2 := by rw [hW2]; exact up_alloc _ _
  have HO : Hid (Ob 5 W.heap.size W2 (.slice (some ⟨gz, 0, none⟩) n n) (fil n 0 f)) := by rw [hW2, hgz]; exact ob_zeros n (by unfold lim; omega) W 5
  have HB2 := Hid.mk' (bt hb hu2)
  have HSZ : Hid (w.heap.size < W.heap.size ∧ gz = W.heap.size ∧ W.heap.size ≤ W2.heap.size) := ⟨by rw [hW]; show _ < _; simp, hgz, hu2.size⟩
  have HC3 : Hid (W2.cell? ⟨w.heap.size, 3, none⟩ = some (.int .u8 (f.toNat : Int))) := cell_up c3 hu2
  have HW : Hid (W = w.alloc (.cells #[.int .i64 kd, .int .i64 id, .int .i64 ln, .int .u8 (f.toNat : Int), nv, .int .i64 ar, .int .i64 kp] 36)) := hW
  have hnn : (n : Int) ≤ 1024 := by omega
  have hl1 : -9223372036854775808 ≤ 512 + ln := by omega
  have hl2 : 512 + ln ≤ 9223372036854775807 := by omega
  unfold actV
  have hmk := hmk0
  rw [HW.out] at hmk
  clear hmk0
  clear hb hbx hW hgz hW2 hu2 c3
  go_enter Tryz.func12, Tryz.ntmps12
  go_wp2_with fail
  clear hmk
  go_loopw [11] (fun i wr => ∃ k : Nat, k ≤ n ∧ i = .int .i64 k ∧ Hid (Ob 5 W.heap.size wr (.slice (some ⟨gz, 0, none⟩) n n) (fil n k f)) ∧ Hid (Wb (fun k => k = gz) W2 wr)) (fun i _ => n - (intOf i).toNat)
  case atStart => exact ⟨0, by omega, rfl, HO, Wb.refl _ _⟩
  case round =>
    clear HO
    obtain ⟨k, hk, rfl, HO, HWW⟩ := hrel
    by_cases hlt : k < n
    · have hlt' : (k : Int) < (n : Int) := by omega
      have hO : Ob 5 W.heap.size wr (.slice (some ⟨gz, 0, none⟩) (fil n k f).length n) (fil n k f) := by rw [fil_len f hk]; exact HO.out
      have hc := hO.cell k (by rw [fil_len f hk]; exact hlt)
      have hf := hO.frozen k
      have HO2 : Hid (Ob 5 W.heap.size (wr.setCell ⟨gz, k, none⟩ (.int .u8 (f.toNat : Int))) (.slice (some ⟨gz, 0, none⟩) n n) (fil n (k + 1) f)) := by
        have h1 := hO.set k f
        rw [fil_set f hlt] at h1
        rw [fil_len f hk] at h1
        exact h1
      have HW2 := Hid.mk' (HWW.out.trans (Wb.set (X := fun k => k = gz) wr gz k (.int .u8 (f.toNat : Int)) rfl))
      have hc3 : wr.cell? ⟨w.heap.size, 3, none⟩ = some (.int .u8 (f.toNat : Int)) := by
        have hb := HWW.out.below (D := W.heap.size) HSZ.out.2.2 (fun k hk => by have h1 : k = gz := hk; have := HSZ.out.2.1; omega)
        rw [hb.cell HSZ.out.1]; exact HC3.out
      clear hO
      generalize (fil n k f)[k]'(by rw [fil_len f hk]; exact hlt) = x0 at *
      go_wp2_with fail
      go_roundw
      case rel => exact ⟨k + 1, by omega, by go_num, HO2, HW2⟩
      case measure => simp [intOf]; omega
    · obtain rfl : k = n := by omega
      go_wp2_with fail
      go_ret
      refine ⟨_, rfl, ?_, HB2.out.trans (HWW.out.below (Nat.le_trans (Nat.le_of_lt HSZ.out.1) HSZ.out.2.2) fun j hj => by have h1 : j = gz := hj; have := HSZ.out; omega)⟩
      have h1 := HO.out
      unfold fil at h1
      rw [Nat.sub_self, List.replicate_zero, List.append_nil] at h1
      unfold Ob at h1 ⊢
      rw [List.length_replicate] at h1 ⊢
      exact own_mono h1 (Nat.le_of_lt HSZ.out.1)
end Go.Proofs.YtbmhkdcmepfmbaaGreat
set_option linter.unusedVariables false
set_option linter.unusedSimpArgs false
namespace Go.Proofs.YtbmhkdcmepfmbaaGreat
open Go.RowKit
open Go.WideShapes
structure Ac where
  kd : Int
  id : Int
  ln : Int
  fi : UInt8
  nt : By
  ar : Int
  kp : Int
abbrev Aq := Ac × Value
def ac (q : Aq) : List Value := [.int .i64 q.1.kd, .int .i64 q.1.id, .int .i64 q.1.ln, .int .u8 (q.1.fi.toNat : Int), q.2, .int .i64 q.1.ar, .int .i64 q.1.kp]
def acs (L : List Aq) : List Value := (L.map ac).flatten
theorem acs_seven (L : List Aq) : ∀ c ∈ L.map ac, c.length = 7 := by
  intro c hc; obtain ⟨q, _, rfl⟩ := List.mem_map.1 hc; rfl
theorem acs_len (L : List Aq) : (acs L).length = L.length * 7 := by
  unfold acs; rw [flatten_len _ (acs_seven L), List.length_map]
theorem acs_app (L M : List Aq) : acs (L ++ M) = acs L ++ acs M := by simp [acs]
theorem acs_get (L : List Aq) (i : Nat) (h : i < L.length) (j : Nat) (hj : j < 7) : (acs L)[i * 7 + j]? = (ac L[i])[j]? := by
  unfold acs
  rw [flatten_get (by decide) _ (acs_seven L)]
  rw [show (i * 7 + j) / 7 = i by omega, show (i * 7 + j) % 7 = j by omega]
  simp [h]
/-- an act in form -/
def Ain (x : Ac) : Prop := Wi x.id ∧ (-9223372036854775808 ≤ x.ar ∧ x.ar ≤ 9223372036854775807) ∧ (-9223372036854775808 ≤ x.kp ∧ x.kp ≤ 9223372036854775807)
/-- v reads as the acts l -/
def As (A : Nat → Prop) (w : World) (v : Value) (l : List Ac) : Prop := ∃ L : List Aq, L.map (·.1) = l ∧ Row 7 A w v L.length (acs L) ∧ (∀ q ∈ L, Bs A w q.2 q.1.nt ∧ Ain q.1) ∧ L.length * 72 ≤ lim
theorem As.up {A : Nat → Prop} {w w' : World} {v : Value} {l : List Ac} (h : As A w v l) (hb : Below w.heap.size w w') : As A w' v l := by
  obtain ⟨L, h1, h2, h3, h4⟩ := h
  exact ⟨L, h1, h2.up hb, fun q hq => ⟨(h3 q hq).1.up hb, (h3 q hq).2⟩, h4⟩
theorem As.wb {A X : Nat → Prop} {w w' : World} {v : Value} {l : List Ac} (h : As A w v l) (hb : Wb X w w') (hX : ∀ k, X k → ¬ A k) : As A w' v l := by
  obtain ⟨L, h1, h2, h3, h4⟩ := h
  exact ⟨L, h1, h2.wb hb hX, fun q hq => ⟨(h3 q hq).1.wb hb hX, (h3 q hq).2⟩, h4⟩
theorem As.monoS {A A' : Nat → Prop} {w : World} {v : Value} {l : List Ac} (h : As A w v l) (hA : ∀ k, A k → A' k) : As A' w v l := by
  obtain ⟨L, h1, h2, h3, h4⟩ := h
  exact ⟨L, h1, h2.monoS hA, fun q hq => ⟨(h3 q hq).1.monoS hA, (h3 q hq).2⟩, h4⟩
theorem As.at {A : Nat → Prop} {w : World} {v : Value} {l : List Ac} (h : As A w v l) : ∃ (a : Option Addr) (c : Nat), v = .slice a l.length c ∧ l.length ≤ c ∧ (a = none → c = 0) ∧ l.length * 72 ≤ lim ∧
    ∀ j (hj : j < l.length), ∃ b o u, a = some ⟨b, o, none⟩ ∧ (w.cell? ⟨b, o + j * 7, none⟩ = some (.int .i64 l[j].kd) ∧ w.cell? ⟨b, o + j * 7 + 1, none⟩ = some (.int .i64 l[j].id) ∧ w.cell? ⟨b, o + j * 7 + 2, none⟩ = some (.int .i64 l[j].ln) ∧ w.cell? ⟨b, o + j * 7 + 3, none⟩ = some (.int .u8 (l[j].fi.toNat : Int)) ∧ w.cell? ⟨b, o + j * 7 + 4, none⟩ = some u ∧ w.cell? ⟨b, o + j * 7 + 5, none⟩ = some (.int .i64 l[j].ar) ∧ w.cell? ⟨b, o + j * 7 + 6, none⟩ = some (.int .i64 l[j].kp)) ∧ Bs A w u l[j].nt ∧ Ain l[j] := by
  obtain ⟨L, rfl, ⟨hl, a, c, hv, hc, ha, H⟩, h3, h4⟩ := h
  refine ⟨a, c, by rw [hv, List.length_map], by rw [List.length_map]; exact hc, ha, by rw [List.length_map]; exact h4, fun j hj => ?_⟩
  have hj' : j < L.length := by simpa using hj
  have g := acs_get L j hj'
  have g0 := g 0 (by decide)
  have g1 := g 1 (by decide)
  have g2 := g 2 (by decide)
  have g3 := g 3 (by decide)
  have g4 := g 4 (by decide)
  have g5 := g 5 (by decide)
  have g6 := g 6 (by decide)
  unfold ac at g0 g1 g2 g3 g4 g5 g6
  obtain ⟨b, o, rfl, hA, e0⟩ := H _ _ g0
  obtain ⟨_, _, k, _, e1⟩ := H _ _ g1; cases k
  obtain ⟨_, _, k, _, e2⟩ := H _ _ g2; cases k
  obtain ⟨_, _, k, _, e3⟩ := H _ _ g3; cases k
  obtain ⟨_, _, k, _, e4⟩ := H _ _ g4; cases k
  obtain ⟨_, _, k, _, e5⟩ := H _ _ g5; cases k
  obtain ⟨_, _, k, _, e6⟩ := H _ _ g6; cases k
  have := h3 L[j] (List.getElem_mem hj')
  simp only [List.getElem_map]
  exact ⟨b, o, L[j].2, rfl, ⟨e0, e1, e2, e3, e4, e5, e6⟩, this.1, this.2⟩
def numOf {H : Type} (d : DataW H) : Int := match d with | .lit (.int _ n) => n | _ => 0
def actOf {H : Type} (d : DataW H) : Ac := match d with | .agg [d0, d1, d2, d3, d4, d5, d6] => ⟨numOf d0, numOf d1, numOf d2, byteOf d3, bytesOf d4, numOf d5, numOf d6⟩ | _ => ⟨0, 0, 0, 0, [], 0, 0⟩
def actsOf {H : Type} (d : DataW H) : List Ac := match d with | .slice elems _ => elems.map actOf | _ => []
theorem byte_int {n : Int} (h : (Lit.int .u8 n).wf = true) : (((UInt8.ofNat n.toNat).toNat : Nat) : Int) = n := by
  have h2 := h
  simp only [Lit.wf, Bool.and_eq_true, decide_eq_true_eq] at h2
  have h3 : 0 ≤ n := h2.1
  have h4 : n ≤ 255 := h2.2
  rw [UInt8.toNat_ofNat_of_lt' (by show n.toNat < 256; omega)]
  omega
set_option maxRecDepth 100000 in
/-- an act -/
theorem open_act {H : Type} {enc : TypeId × Value → H} {W : World} {base : Nat} {spare : Nat → Bool} {held : Bool} {fuel : Nat} {cs : List Value} {x : DataW H × List MemPlace} (h7 : cs.length = 7)
    (h : DataW.trod enc Tryz.prog W base spare held fuel 36 cs = some x) (hz : Sz Tryz.prog 36 x.1) : ∃ u, cs = ac (actOf x.1, u) ∧ Bs (Lt W.heap.size) W u (actOf x.1).nt ∧ Ain (actOf x.1) := by
  obtain ⟨xs, n, _, hx, hl, hlen, hf⟩ := DataW.trod_struct Tryz.underlying36 h
  have f0 := hf 0 _ rfl
  have f1 := hf 1 _ rfl
  have f2 := hf 2 _ rfl
  have f3 := hf 3 _ rfl
  have f4 := hf 4 _ rfl
  have f5 := hf 5 _ rfl
  have f6 := hf 6 _ rfl
  obtain ⟨y0, y1, y2, y3, y4, y5, y6, rfl⟩ : ∃ y0 y1 y2 y3 y4 y5 y6, xs = [y0, y1, y2, y3, y4, y5, y6] := by
    match xs, hlen with
    | [y0, y1, y2, y3, y4, y5, y6], _ => exact ⟨y0, y1, y2, y3, y4, y5, y6, rfl⟩
  obtain ⟨q0, q1, q2, q3, q4, q5, q6, rfl⟩ : ∃ q0 q1 q2 q3 q4 q5 q6, cs = [q0, q1, q2, q3, q4, q5, q6] := by
    match cs, h7 with
    | [q0, q1, q2, q3, q4, q5, q6], _ => exact ⟨q0, q1, q2, q3, q4, q5, q6, rfl⟩
  have k3 : Tryz.prog.cellsOf 3 = 1 := by kernel_rfl
  have k5 : Tryz.prog.cellsOf 5 = 1 := by kernel_rfl
  have k22 : Tryz.prog.cellsOf 22 = 1 := by kernel_rfl
  simp only [k3, k5, k22, List.drop_zero, List.drop_succ_cons, List.take_succ_cons, List.take_zero, List.getElem?_cons_zero, List.getElem?_cons_succ] at f0 f1 f2 f3 f4 f5 f6
  subst hx
  have hz' : Sz Tryz.prog 22 y4.1 := by
    unfold Sz at hz ⊢
    rw [List.all_eq_true] at hz ⊢
    intro m hm
    refine hz m ?_
    simp only [List.map_cons, List.map_nil, DataW.weights, Tryz.underlying36, DataW.weightsEach, List.mem_append]
    simp [hm]
  obtain ⟨m0, a1, a2, a3⟩ := DataW.trod_int Tryz.underlying3 f0
  obtain ⟨m1, b1, b2, b3⟩ := DataW.trod_int Tryz.underlying3 f1
  obtain ⟨m2, c1, c2, c3⟩ := DataW.trod_int Tryz.underlying3 f2
  obtain ⟨m3, d1, d2, d3⟩ := DataW.trod_int Tryz.underlying5 f3
  obtain ⟨v4, g4, r4⟩ := open_bs Tryz.underlying22 Tryz.underlying5 (by kernel_rfl) (by kernel_rfl) f4 hz'
  obtain ⟨m5, i1, i2, i3⟩ := DataW.trod_int Tryz.underlying3 f5
  obtain ⟨m6, j1, j2, j3⟩ := DataW.trod_int Tryz.underlying3 f6
  obtain rfl : q0 = .int .i64 m0 := (List.cons.inj (show [q0] = [Value.int .i64 m0] from a1)).1
  obtain rfl : q1 = .int .i64 m1 := (List.cons.inj (show [q1] = [Value.int .i64 m1] from b1)).1
  obtain rfl : q2 = .int .i64 m2 := (List.cons.inj (show [q2] = [Value.int .i64 m2] from c1)).1
  obtain rfl : q3 = .int .u8 m3 := (List.cons.inj (show [q3] = [Value.int .u8 m3] from d1)).1
  obtain rfl : q4 = v4 := (List.cons.inj (show [q4] = [v4] from g4)).1
  obtain rfl : q5 = .int .i64 m5 := (List.cons.inj (show [q5] = [Value.int .i64 m5] from i1)).1
  obtain rfl : q6 = .int .i64 m6 := (List.cons.inj (show [q6] = [Value.int .i64 m6] from j1)).1
  have x0 : numOf y0.1 = m0 := by rw [a2]; rfl
  have x1 : numOf y1.1 = m1 := by rw [b2]; rfl
  have x2 : numOf y2.1 = m2 := by rw [c2]; rfl
  have x3 : ((byteOf y3.1).toNat : Int) = m3 := by rw [d2]; exact byte_int d3
  have x5 : numOf y5.1 = m5 := by rw [i2]; rfl
  have x6 : numOf y6.1 = m6 := by rw [j2]; rfl
  refine ⟨q4, ?_, r4, ?_, ?_, ?_⟩
  · simp [ac, actOf, x0, x1, x2, x3, x5, x6]
  · simp only [actOf, List.map_cons, List.map_nil, x1]; exact b3
  · simp only [actOf, List.map_cons, List.map_nil, x5]
    have e4 := i3
    simp only [Lit.wf, Bool.and_eq_true, decide_eq_true_eq] at e4
    exact e4
  · simp only [actOf, List.map_cons, List.map_nil, x6]
    have e4 := j3
    simp only [Lit.wf, Bool.and_eq_true, decide_eq_true_eq] at e4
    exact e4
/-- []Act -/
theorem open_acts {H : Type} {enc : TypeId × Value → H} {W : World} {base : Nat} {spare : Nat → Bool} {held : Bool} {fuel : Nat} {cs : List Value} {x : DataW H × List MemPlace}
    (h : DataW.trod enc Tryz.prog W base spare held fuel 47 cs = some x) (hz : Sz Tryz.prog 47 x.1) : ∃ v, cs = [v] ∧ As (Lt W.heap.size) W v (actsOf x.1) := by
  obtain ⟨v, css, ds, h1, h2, h3, h4, h5, h6, h7⟩ := open_rows (k := 7) Tryz.underlying47 (by kernel_rfl) (by decide) h hz
  have h9 : actsOf x.1 = ds.map actOf := by
    rcases h7 with ⟨h7, rfl⟩ | ⟨sp, h7⟩ <;> rw [h7] <;> rfl
  have hex : ∀ i (hi : i < css.length), ∃ u, css[i] = ac (actOf (ds[i]'(by omega)), u) ∧ Bs (Lt W.heap.size) W u (actOf (ds[i]'(by omega))).nt ∧ Ain (actOf (ds[i]'(by omega))) := by
    intro i hi
    obtain ⟨n, ps, h10, hz'⟩ := h6 i hi (by omega)
    exact open_act (h3 _ (List.getElem_mem hi)) h10 hz'
  refine ⟨v, h1, (List.range css.length).attach.map fun i => (actOf (ds[i.1]'(by have := List.mem_range.1 i.2; omega)), Classical.choose (hex i.1 (List.mem_range.1 i.2))), ?_, ?_, ?_, ?_⟩
  · rw [h9]
    apply List.ext_getElem
    · simp [h4]
    · intro i a b; simp
  · have e : acs ((List.range css.length).attach.map fun i => (actOf (ds[i.1]'(by have := List.mem_range.1 i.2; omega)), Classical.choose (hex i.1 (List.mem_range.1 i.2)))) = css.flatten := by
      unfold acs
      congr 1
      apply List.ext_getElem
      · simp
      · intro i a b
        simp only [List.getElem_map, List.getElem_attach, List.getElem_range]
        exact (Classical.choose_spec (hex i b)).1.symm
    rw [e]
    simpa using h2
  · intro q hq
    obtain ⟨i, hi, rfl⟩ := List.mem_map.1 hq
    exact (Classical.choose_spec (hex i.1 (List.mem_range.1 i.2))).2
  · simp only [List.length_map, List.length_attach, List.length_range]
    have hb : Tryz.prog.bytesOf 36 = 72 := by kernel_rfl
    rw [hb] at h5
    have : reachBytes = lim := by decide
    omega
theorem acs_one {A : Nat → Prop} {w : World} {L : List Aq} (h : ∀ q ∈ L, ∃ A w, Bs A w q.2 q.1.nt) : ∀ u ∈ acs L, u.oneCell' = true := by
  intro u hu
  unfold acs at hu
  obtain ⟨c, hc, hu⟩ := List.mem_flatten.1 hu
  obtain ⟨q, hq, rfl⟩ := List.mem_map.1 hc
  simp only [ac, List.mem_cons, List.not_mem_nil, or_false] at hu
  obtain ⟨_, _, hb⟩ := h q hq
  obtain ⟨a, cc, e, _⟩ := hb.at
  rcases hu with rfl | rfl | rfl | rfl | rfl | rfl | rfl <;> first | rfl | (rw [e]; rfl)
theorem Tryz.info36 : (Tryz.prog.info? 36).map (fun i => (i.zero, i.size, i.bytes)) = some (some (.agg #[.int .i64 0, .int .i64 0, .int .i64 0, .int .u8 0, .slice none 0 0, .int .i64 0, .int .i64 0]), 7, 72) := by kernel_rfl
theorem Tryz.size47 (w : World) : (sizeOf (Tryz.prog.elem 47)).run Tryz.prog w = .ok 7 w := by kernel_rfl
set_option maxRecDepth 100000 in
/-- append of acts -/
theorem app47 {w : World} {ops : Array Oper} {rest : List Oper} {o : Oper} {a : Act} {Q : Exit → Act → World → Prop} (hgd : o.guard = none) (s x : Operand)
    (ho : o.op = .call { callee := .builtin .append, args := #[s, x], argTypes := #[47, 47] }) {B : Nat} {v : Value} {L : List Aq} (hs : a.eval s = v) (hown : w.ownsRow B 36 7 v L.length (acs L))
    {A : Nat → Prop} {u : Value} {M : List Aq} (hx : a.eval x = u) (hsrc : Row 7 A w u M.length (acs M)) (hM : ∀ q ∈ M, ∃ A w, Bs A w q.2 q.1.nt) (hlen : L.length + M.length ≤ 1000000) (hB : B ≤ w.heap.size)
    (h : ∀ v' w', w'.ownsRow B 36 7 v' (L ++ M).length (acs (L ++ M)) → w.grownBy w' v.ownBlock → (v'.ownBlock = v.ownBlock ∨ v'.ownBlock = some w.heap.size) → wpList Tryz.prog ops Q rest (a.put o.dst v') w') :
    wpList Tryz.prog ops Q (o :: rest) a w := by
  refine wpl_app hgd s x 47 ho Tryz.underlying47 Tryz.info36 rfl (by decide) hs hown hx hsrc (acs_one (A := A) (w := w) hM) (by unfold maxLen; omega) (by omega) hB fun v' w' h1 h2 h3 h4 => h v' w' ?_ h2 h4
  rw [List.length_append, acs_app]
  exact h1
theorem one_row7 {w : World} (q : Aq) : Row 7 (Lt (w.heap.size + 1)) (w.alloc (.cells #[.int .i64 q.1.kd, .int .i64 q.1.id, .int .i64 q.1.ln, .int .u8 (q.1.fi.toNat : Int), q.2, .int .i64 q.1.ar, .int .i64 q.1.kp] 36)) (.slice (some ⟨w.heap.size, 0, none⟩) 1 1) 1 (acs [q]) := by
  refine ⟨rfl, _, _, rfl, Nat.le_refl _, by simp, fun j u hj => ⟨_, _, rfl, Nat.lt_succ_self _, ?_⟩⟩
  have hb := heap_alloc_new w (.cells #[.int .i64 q.1.kd, .int .i64 q.1.id, .int .i64 q.1.ln, .int .u8 (q.1.fi.toNat : Int), q.2, .int .i64 q.1.ar, .int .i64 q.1.kp] 36)
  simp only [World.cell?, hb]
  simp only [acs, List.map_cons, List.map_nil, List.flatten_cons, List.flatten_nil, List.append_nil, ac] at hj
  simpa using hj
/-- no more than is played -/
def cutA (a : Ac) : Ac := { a with nt := a.nt.take 1000, ln := if a.ln < -512 ∨ 512 < a.ln then 0 else a.ln }
def smallL (l : List Ac) (n : Nat) : List Ac := (l.take n).map cutA
end Go.Proofs.YtbmhkdcmepfmbaaGreat
set_option linter.unusedVariables false
set_option linter.unusedSimpArgs false
namespace Go.Proofs.YtbmhkdcmepfmbaaGreat
open Go.RowKit Go.Maps
attribute [local go_sem ↓] Go.wp_at_zero Go.wp_at_succ
theorem bx7 {w : World} {b : Nat} {c0 c1 c2 c3 c4 c5 c6 : Value} {e : TypeId} (h : w.heap[b]? = some (.cells #[c0, c1, c2, c3, c4, c5, c6] e (0, 0))) : w.cell? ⟨b, 0, none⟩ = some c0 ∧ w.cell? ⟨b, 1, none⟩ = some c1 ∧ w.cell? ⟨b, 2, none⟩ = some c2 ∧ w.cell? ⟨b, 3, none⟩ = some c3 ∧
    w.cell? ⟨b, 4, none⟩ = some c4 ∧ w.cell? ⟨b, 5, none⟩ = some c5 ∧ w.cell? ⟨b, 6, none⟩ = some c6 := by
  refine ⟨?_, ?_, ?_, ?_, ?_, ?_, ?_⟩ <;> simp [World.cell?, h]
theorem bx7_fr {w : World} {b : Nat} {c0 c1 c2 c3 c4 c5 c6 : Value} {e : TypeId} (h : w.heap[b]? = some (.cells #[c0, c1, c2, c3, c4, c5, c6] e (0, 0))) (j : Nat) : w.frozen? ⟨b, j, none⟩ = false := by simp [World.frozen?, h]
theorem bx7_set4 {w : World} {b : Nat} {c0 c1 c2 c3 c4 c5 c6 : Value} {e : TypeId} (h : w.heap[b]? = some (.cells #[c0, c1, c2, c3, c4, c5, c6] e (0, 0))) (u : Value) : (w.setCell ⟨b, 4, none⟩ u).heap[b]? = some (.cells #[c0, c1, c2, c3, u, c5, c6] e (0, 0)) := heap_setCell_same w b 4 _ e u h
theorem bx7_set2 {w : World} {b : Nat} {c0 c1 c2 c3 c4 c5 c6 : Value} {e : TypeId} (h : w.heap[b]? = some (.cells #[c0, c1, c2, c3, c4, c5, c6] e (0, 0))) (u : Value) : (w.setCell ⟨b, 2, none⟩ u).heap[b]? = some (.cells #[c0, c1, u, c3, c4, c5, c6] e (0, 0)) := heap_setCell_same w b 2 _ e u h
/-- acts in a row of the call's own, their notes where they were -/
def Fw (A : Nat → Prop) (S0 : Nat) (w wz : World) (v : Value) (L : List Aq) : Prop := wz.ownsRow S0 36 7 v L.length (acs L) ∧ ∀ q ∈ L, Bs A w q.2 q.1.nt ∧ Ain q.1
def FwP (A : Nat → Prop) (n : Nat) (w : World) (l : List Ac) (e : Ending) (w' : World) : Prop := ∃ v L, e = .returned v ∧ L.map (·.1) = smallL l n ∧ Fw A w.heap.size w w' v L ∧ Below w.heap.size w w'
theorem small_take {l : List Ac} {k : Nat} (h : k < l.length) : (l.take k).map cutA ++ [cutA l[k]] = (l.take (k + 1)).map cutA := by
  rw [List.take_succ_eq_append_getElem h, List.map_append]; rfl
def cln (x : Int) : Int := if x < -512 ∨ 512 < x then 0 else x
set_option maxRecDepth 100000 in
set_option maxHeartbeats 4000000 in
/-- small -/
theorem small_any {A : Nat → Prop} {w : World} {v : Value} {l : List Ac} (h : As A w v l) (N : Nat) (hN : N ≤ 1000) : Calls Tryz.prog 21 #[v, .int .i64 (N : Int)] w (FwP A N w l) := by
  obtain ⟨va, vc, rfl, hvc, _, hz, hat⟩ := h.at
  have HAT := Hid.mk' hat
  have hl' : (l.length : Int) ≤ 140737488351232 := by unfold lim at hz; omega
  have HZ : Hid (Below w.heap.size w w) := Below.refl _ _
  have HO0 : Hid (w.ownsRow w.heap.size 36 7 (.slice none 0 0) 0 (acs [])) := World.ownsRow_nil w w.heap.size 36 7
  have HR0 : Hid (∀ q ∈ ([] : List Aq), Bs A w q.2 q.1.nt ∧ Ain q.1) := fun q hq => by cases hq
  have HM0 : Hid (([] : List Aq).map (·.1) = (l.take 0).map cutA) := rfl
  clear h hat hz
  go_enter Tryz.func21, Tryz.ntmps21
  go_wp2_with fail
  go_loopw [5, 6] (fun y i wr => ∃ (k : Nat) (L : List Aq) (oa : Option Addr) (oc : Nat), k ≤ l.length ∧ k ≤ N ∧ i = .int .i64 k ∧ y = .slice oa k oc ∧ Hid (L.length = k) ∧ Hid (L.map (·.1) = (l.take k).map cutA) ∧ Hid (wr.ownsRow w.heap.size 36 7 (.slice oa k oc) L.length (acs L)) ∧ Hid (∀ q ∈ L, Bs A w q.2 q.1.nt ∧ Ain q.1) ∧ Hid (Below w.heap.size w wr)) (fun _ i _ => l.length - (intOf i).toNat)
  case atStart => exact ⟨0, [], none, 0, by omega, by omega, rfl, rfl, rfl, HM0, HO0, HR0, HZ⟩
  case round =>
    clear HO0 HZ HR0 HM0
    obtain ⟨k, L, oa, oc, hk, hkN, rfl, rfl, HLk, HM, HO, HR, HB3⟩ := hrel
    by_cases hlt : k < l.length
    case neg =>
      obtain rfl : k = l.length := by omega
      have HF : Hid (L.map (·.1) = smallL l N) := by show _ = _; rw [HM.out]; unfold smallL; rw [List.take_of_length_le (by omega), List.take_of_length_le (by omega)]
      go_wp2_with fail
      go_ret
      exact ⟨_, L, rfl, HF.out, ⟨HO.out, HR.out⟩, HB3.out⟩
    have hlt' : (k : Int) < (l.length : Int) := by omega
    by_cases h30 : k < N
    case neg =>
      have h30' : ¬ (k : Int) < (N : Int) := by omega
      have HF : Hid (L.map (·.1) = smallL l N) := by show _ = _; rw [HM.out]; unfold smallL; rw [show k = N by omega]
      go_wp2_with fail
      go_ret
      exact ⟨_, L, rfl, HF.out, ⟨HO.out, HR.out⟩, HB3.out⟩
    have h30' : (k : Int) < (N : Int) := by omega
    obtain ⟨bb, of, u, rfl, ⟨c0, c1, c2, c3, c4, c5, c6⟩, hrs, hain⟩ := HAT.out k hlt
    have c0 := cell_up c0 HB3.out
    have c1 := cell_up c1 HB3.out
    have c2 := cell_up c2 HB3.out
    have c3 := cell_up c3 HB3.out
    have c4 := cell_up c4 HB3.out
    have c5 := cell_up c5 HB3.out
    have c6 := cell_up c6 HB3.out
    have HTK := Hid.mk' (small_take hlt)
    have HAIN := Hid.mk' hain
    generalize l[k] = ak at *
    obtain ⟨ua, uc, rfl, huc, _, _⟩ := hrs.at
    have hrl : (ak.nt.length : Int) ≤ 140737488351232 := by have := hrs.2; unfold lim at this; omega
    have HRS := Hid.mk' hrs
    obtain ⟨W3, hW3⟩ : ∃ W, W = wr.alloc (.cells #[.int .i64 ak.kd, .int .i64 ak.id, .int .i64 ak.ln, .int .u8 (ak.fi.toNat : Int), .slice ua ak.nt.length uc, .int .i64 ak.ar, .int .i64 ak.kp] 36) := ⟨_, rfl⟩
    have HE3 : Hid (W3.heap[wr.heap.size]? = some (.cells #[.int .i64 ak.kd, .int .i64 ak.id, .int .i64 ak.ln, .int .u8 (ak.fi.toNat : Int), .slice ua ak.nt.length uc, .int .i64 ak.ar, .int .i64 ak.kp] 36 (0, 0))) := by rw [hW3]; exact heap_alloc_new _ _
    have HW3 : Hid (Below wr.heap.size wr W3) := by rw [hW3]; exact up_alloc _ _
    have HCUT : Hid (cutA ak = ⟨ak.kd, ak.id, cln ak.ln, ak.fi, ak.nt.take 1000, ak.ar, ak.kp⟩) := rfl
    clear hrs hain
    obtain ⟨kd, id, ln, fi, nt, ar, kp⟩ := ak
    simp only at *
    generalize hfi : (fi.toNat : Int) = fn at *
    have HFI := Hid.mk' hfi
    clear hfi
    go_upto_if 26 with fail
    rw [← hW3]
    clear hW3 c0 c1 c2 c3 c4 c5 c6
    go_cut [5] (fun y wx => y = .slice oa k oc ∧ ∃ (ua' : Option Addr) (uc' : Nat), Hid (wx.heap[wr.heap.size]? = some (.cells #[.int .i64 kd, .int .i64 id, .int .i64 ln, .int .u8 fn, .slice ua' (nt.take 1000).length uc', .int .i64 ar, .int .i64 kp] 36 (0, 0))) ∧ Hid (Bs A w (.slice ua' (nt.take 1000).length uc') (nt.take 1000)) ∧ Hid (Below wr.heap.size wr wx))
    case first =>
      obtain ⟨x0, x1, x2, x3, x4, x5, x6⟩ := bx7 HE3.out
      have f7 := bx7_fr HE3.out 4
      by_cases h70 : 1000 < nt.length
      · have h70' : (1000 : Int) < (nt.length : Int) := by omega
        obtain ⟨a1, k1, S1, hb1⟩ := hi_of HRS.out 1000 (by omega) 1000 rfl
        have hl70 : (nt.take 1000).length = 1000 := by rw [List.length_take]; omega
        have HX : Hid (Bs A w (.slice a1 (nt.take 1000).length k1) (nt.take 1000)) := by rw [hl70]; exact hb1
        have HY : Hid ((W3.setCell ⟨wr.heap.size, 4, none⟩ (.slice a1 1000 k1)).heap[wr.heap.size]? = some (.cells #[.int .i64 kd, .int .i64 id, .int .i64 ln, .int .u8 fn, .slice a1 (nt.take 1000).length k1, .int .i64 ar, .int .i64 kp] 36 (0, 0))) := by rw [hl70]; exact bx7_set4 HE3.out _
        have HBX : Hid (Below wr.heap.size wr (W3.setCell ⟨wr.heap.size, 4, none⟩ (.slice a1 1000 k1))) := HW3.out.trans ((Wb.set (X := fun k => k = wr.heap.size) W3 wr.heap.size 4 (.slice a1 1000 k1) rfl).below HW3.out.size fun k hk => by subst hk; exact Nat.le_refl _)
        clear hl70 hb1
        go_wp2_with fail
        go_meet
        exact ⟨rfl, _, _, HY, HX, HBX⟩
      · have h70' : ¬ (1000 : Int) < (nt.length : Int) := by omega
        have HE : Hid (nt.take 1000 = nt) := List.take_of_length_le (by omega)
        have HX : Hid (Bs A w (.slice ua (nt.take 1000).length uc) (nt.take 1000)) := by rw [HE.out]; exact HRS.out
        have HY : Hid (W3.heap[wr.heap.size]? = some (.cells #[.int .i64 kd, .int .i64 id, .int .i64 ln, .int .u8 fn, .slice ua (nt.take 1000).length uc, .int .i64 ar, .int .i64 kp] 36 (0, 0))) := by rw [HE.out]; exact HE3.out
        go_wp2_with fail
        go_meet
        exact ⟨rfl, _, _, HY, HX, HW3⟩
    case rest =>
    obtain ⟨rfl, u2, k2, HE4, HX, HW4⟩ := hcut
    clear HE3 HW3 HRS
    rename World => w4
    obtain ⟨x0, x1, x2, x3, x4, x5, x6⟩ := bx7 HE4.out
    generalize hr70 : nt.take 1000 = r70 at *
    have HR70 := Hid.mk' hr70
    clear hr70
    by_cases h1 : ln < -512
    · have hc : Hid (cln ln = 0) := by show _ = _; unfold cln; rw [if_pos (.inl h1)]
      have h1' : decide (ln < -512) = true := by simpa using h1
      clear h1
      have HW5 : Hid (Below wr.heap.size wr (w4.setCell ⟨wr.heap.size, 2, none⟩ (.int .i64 0))) := HW4.out.trans ((Wb.set (X := fun k => k = wr.heap.size) w4 wr.heap.size 2 (.int .i64 0) rfl).below HW4.out.size fun k hk => by subst hk; exact Nat.le_refl _)
      have f2 := bx7_fr HE4.out 2
      obtain ⟨y0, y1, y2, y3, y4, y5, y6⟩ := bx7 (bx7_set2 HE4.out (.int .i64 0))
      have HB4 := Hid.mk' (bt HB3.out HW5.out)
      have HO5 := Hid.mk' (own_keep (own_keep HO.out HW5.out (Nat.le_refl _)) (up_alloc (w4.setCell ⟨wr.heap.size, 2, none⟩ (.int .i64 0)) (.cells #[.int .i64 kd, .int .i64 id, .int .i64 0, .int .u8 fn, .slice u2 r70.length k2, .int .i64 ar, .int .i64 kp] 36)) (Nat.le_refl _))
      have e5 : cutA ⟨kd, id, ln, fi, nt, ar, kp⟩ = ⟨kd, id, 0, fi, r70, ar, kp⟩ := by rw [HCUT.out]; simp only [hc.out, HR70.out]
      have HR1 : Hid (Row 7 (Lt (w4.heap.size + 1)) ((w4.setCell ⟨wr.heap.size, 2, none⟩ (.int .i64 0)).alloc (.cells #[.int .i64 kd, .int .i64 id, .int .i64 0, .int .u8 fn, .slice u2 r70.length k2, .int .i64 ar, .int .i64 kp] 36)) (.slice (some ⟨w4.heap.size, 0, none⟩) 1 1) [((cutA ⟨kd, id, ln, fi, nt, ar, kp⟩, .slice u2 r70.length k2) : Aq)].length (acs [((cutA ⟨kd, id, ln, fi, nt, ar, kp⟩, .slice u2 r70.length k2) : Aq)])) := by
        have h := one_row7 (w := (w4.setCell ⟨wr.heap.size, 2, none⟩ (.int .i64 0))) ((cutA ⟨kd, id, ln, fi, nt, ar, kp⟩, .slice u2 r70.length k2) : Aq)
        rw [e5] at h ⊢
        simp only [HFI.out, size_setCell] at h
        exact h
      have HQM : Hid (∀ q ∈ [((cutA ⟨kd, id, ln, fi, nt, ar, kp⟩, .slice u2 r70.length k2) : Aq)], Bs A w q.2 q.1.nt ∧ Ain q.1) := fun q hq => by
        rw [List.mem_singleton] at hq
        subst hq
        rw [e5]
        exact ⟨HX.out, HAIN.out⟩
      clear e5
      go_wp2_with (at_builtin; go_must (refine app47 rfl (.tmp 40) (.tmp 42) rfl rfl HO5.out rfl HR1.out (fun q hq => ⟨_, _, (HQM.out q hq).1⟩) (by have := HLk.out; rw [this]; simp; omega) (Nat.le_trans HB4.out.size (up_alloc (w4.setCell ⟨wr.heap.size, 2, none⟩ (.int .i64 0)) _).size) ?_); intro v6 w6 ho hg hbb)
      have hup := up_alloc (w4.setCell ⟨wr.heap.size, 2, none⟩ (.int .i64 0)) (.cells #[.int .i64 kd, .int .i64 id, .int .i64 0, .int .u8 fn, .slice u2 r70.length k2, .int .i64 ar, .int .i64 kp] 36)
      have e4 := HB4.out.size
      have HB6 : Hid (Below w.heap.size w w6) := below_app (HB4.out.trans (hup.mono e4)) HO5.out hg (Nat.le_refl _) (Nat.le_trans e4 hup.size)
      have HO6 := Hid.mk' ho
      have HR6 : Hid (∀ q ∈ L ++ [((cutA ⟨kd, id, ln, fi, nt, ar, kp⟩, .slice u2 r70.length k2) : Aq)], Bs A w q.2 q.1.nt ∧ Ain q.1) := fun q hq => by
        rw [List.mem_append] at hq
        exact hq.elim (HR.out q) (HQM.out q)
      have HM6 : Hid ((L ++ [((cutA ⟨kd, id, ln, fi, nt, ar, kp⟩, .slice u2 r70.length k2) : Aq)]).map (·.1) = (l.take (k + 1)).map cutA) := by
        show _ = _
        rw [List.map_append, HM.out, ← HTK.out]; rfl
      have HL6 : Hid ((L ++ [((cutA ⟨kd, id, ln, fi, nt, ar, kp⟩, .slice u2 r70.length k2) : Aq)]).length = k + 1) := by show _ = _; rw [List.length_append, HLk.out]; rfl
      obtain ⟨a6, c6, e6⟩ := own_sliceN ho
      have E6 : Hid (v6 = .slice a6 (k + 1) c6) := by show _ = _; rw [e6, HL6.out]
      rw [E6.out] at HO6
      clear ho hg hbb hup e4 e6 x0 x1 x2 x3 x4 x5 x6
      go_wp2_with fail
      go_roundw
      case rel => exact ⟨k + 1, _, a6, c6, by omega, by omega, by go_num, E6.out, HL6, HM6, HO6, HR6, HB6⟩
      case measure => simp [intOf]; omega
    · have h1' : decide (ln < -512) = false := by simpa using h1
      by_cases h2 : 512 < ln
      · have hc : Hid (cln ln = 0) := by show _ = _; unfold cln; rw [if_pos (.inr h2)]
        have h2' : decide (512 < ln) = true := by simpa using h2
        clear h2
        have HW5 : Hid (Below wr.heap.size wr (w4.setCell ⟨wr.heap.size, 2, none⟩ (.int .i64 0))) := HW4.out.trans ((Wb.set (X := fun k => k = wr.heap.size) w4 wr.heap.size 2 (.int .i64 0) rfl).below HW4.out.size fun k hk => by subst hk; exact Nat.le_refl _)
        have f2 := bx7_fr HE4.out 2
        obtain ⟨y0, y1, y2, y3, y4, y5, y6⟩ := bx7 (bx7_set2 HE4.out (.int .i64 0))
        have HB4 := Hid.mk' (bt HB3.out HW5.out)
        have HO5 := Hid.mk' (own_keep (own_keep HO.out HW5.out (Nat.le_refl _)) (up_alloc (w4.setCell ⟨wr.heap.size, 2, none⟩ (.int .i64 0)) (.cells #[.int .i64 kd, .int .i64 id, .int .i64 0, .int .u8 fn, .slice u2 r70.length k2, .int .i64 ar, .int .i64 kp] 36)) (Nat.le_refl _))
        have e5 : cutA ⟨kd, id, ln, fi, nt, ar, kp⟩ = ⟨kd, id, 0, fi, r70, ar, kp⟩ := by rw [HCUT.out]; simp only [hc.out, HR70.out]
        have HR1 : Hid (Row 7 (Lt (w4.heap.size + 1)) ((w4.setCell ⟨wr.heap.size, 2, none⟩ (.int .i64 0)).alloc (.cells #[.int .i64 kd, .int .i64 id, .int .i64 0, .int .u8 fn, .slice u2 r70.length k2, .int .i64 ar, .int .i64 kp] 36)) (.slice (some ⟨w4.heap.size, 0, none⟩) 1 1) [((cutA ⟨kd, id, ln, fi, nt, ar, kp⟩, .slice u2 r70.length k2) : Aq)].length (acs [((cutA ⟨kd, id, ln, fi, nt, ar, kp⟩, .slice u2 r70.length k2) : Aq)])) := by
          have h := one_row7 (w := (w4.setCell ⟨wr.heap.size, 2, none⟩ (.int .i64 0))) ((cutA ⟨kd, id, ln, fi, nt, ar, kp⟩, .slice u2 r70.length k2) : Aq)
          rw [e5] at h ⊢
          simp only [HFI.out, size_setCell] at h
          exact h
        have HQM : Hid (∀ q ∈ [((cutA ⟨kd, id, ln, fi, nt, ar, kp⟩, .slice u2 r70.length k2) : Aq)], Bs A w q.2 q.1.nt ∧ Ain q.1) := fun q hq => by
          rw [List.mem_singleton] at hq
          subst hq
          rw [e5]
          exact ⟨HX.out, HAIN.out⟩
        clear e5
        go_wp2_with (at_builtin; go_must (refine app47 rfl (.tmp 40) (.tmp 42) rfl rfl HO5.out rfl HR1.out (fun q hq => ⟨_, _, (HQM.out q hq).1⟩) (by have := HLk.out; rw [this]; simp; omega) (Nat.le_trans HB4.out.size (up_alloc (w4.setCell ⟨wr.heap.size, 2, none⟩ (.int .i64 0)) _).size) ?_); intro v6 w6 ho hg hbb)
        have hup := up_alloc (w4.setCell ⟨wr.heap.size, 2, none⟩ (.int .i64 0)) (.cells #[.int .i64 kd, .int .i64 id, .int .i64 0, .int .u8 fn, .slice u2 r70.length k2, .int .i64 ar, .int .i64 kp] 36)
        have e4 := HB4.out.size
        have HB6 : Hid (Below w.heap.size w w6) := below_app (HB4.out.trans (hup.mono e4)) HO5.out hg (Nat.le_refl _) (Nat.le_trans e4 hup.size)
        have HO6 := Hid.mk' ho
        have HR6 : Hid (∀ q ∈ L ++ [((cutA ⟨kd, id, ln, fi, nt, ar, kp⟩, .slice u2 r70.length k2) : Aq)], Bs A w q.2 q.1.nt ∧ Ain q.1) := fun q hq => by
          rw [List.mem_append] at hq
          exact hq.elim (HR.out q) (HQM.out q)
        have HM6 : Hid ((L ++ [((cutA ⟨kd, id, ln, fi, nt, ar, kp⟩, .slice u2 r70.length k2) : Aq)]).map (·.1) = (l.take (k + 1)).map cutA) := by
          show _ = _
          rw [List.map_append, HM.out, ← HTK.out]; rfl
        have HL6 : Hid ((L ++ [((cutA ⟨kd, id, ln, fi, nt, ar, kp⟩, .slice u2 r70.length k2) : Aq)]).length = k + 1) := by show _ = _; rw [List.length_append, HLk.out]; rfl
        obtain ⟨a6, c6, e6⟩ := own_sliceN ho
        have E6 : Hid (v6 = .slice a6 (k + 1) c6) := by show _ = _; rw [e6, HL6.out]
        rw [E6.out] at HO6
        clear ho hg hbb hup e4 e6 x0 x1 x2 x3 x4 x5 x6
        go_wp2_with fail
        go_roundw
        case rel => exact ⟨k + 1, _, a6, c6, by omega, by omega, by go_num, E6.out, HL6, HM6, HO6, HR6, HB6⟩
        case measure => simp [intOf]; omega
      · have hc : Hid (cln ln = ln) := by show _ = _; unfold cln; rw [if_neg (by omega)]
        have h2' : decide (512 < ln) = false := by simpa using h2
        have HW5 : Hid (Below wr.heap.size wr w4) := HW4.out
        have HB4 := Hid.mk' (bt HB3.out HW5.out)
        have HO5 := Hid.mk' (own_keep (own_keep HO.out HW5.out (Nat.le_refl _)) (up_alloc w4 (.cells #[.int .i64 kd, .int .i64 id, .int .i64 ln, .int .u8 fn, .slice u2 r70.length k2, .int .i64 ar, .int .i64 kp] 36)) (Nat.le_refl _))
        have e5 : cutA ⟨kd, id, ln, fi, nt, ar, kp⟩ = ⟨kd, id, ln, fi, r70, ar, kp⟩ := by rw [HCUT.out]; simp only [hc.out, HR70.out]
        have HR1 : Hid (Row 7 (Lt (w4.heap.size + 1)) (w4.alloc (.cells #[.int .i64 kd, .int .i64 id, .int .i64 ln, .int .u8 fn, .slice u2 r70.length k2, .int .i64 ar, .int .i64 kp] 36)) (.slice (some ⟨w4.heap.size, 0, none⟩) 1 1) [((cutA ⟨kd, id, ln, fi, nt, ar, kp⟩, .slice u2 r70.length k2) : Aq)].length (acs [((cutA ⟨kd, id, ln, fi, nt, ar, kp⟩, .slice u2 r70.length k2) : Aq)])) := by
          have h := one_row7 (w := w4) ((cutA ⟨kd, id, ln, fi, nt, ar, kp⟩, .slice u2 r70.length k2) : Aq)
          rw [e5] at h ⊢
          simp only [HFI.out, size_setCell] at h
          exact h
        have HQM : Hid (∀ q ∈ [((cutA ⟨kd, id, ln, fi, nt, ar, kp⟩, .slice u2 r70.length k2) : Aq)], Bs A w q.2 q.1.nt ∧ Ain q.1) := fun q hq => by
          rw [List.mem_singleton] at hq
          subst hq
          rw [e5]
          exact ⟨HX.out, HAIN.out⟩
        clear e5
        go_wp2_with (at_builtin; go_must (refine app47 rfl (.tmp 40) (.tmp 42) rfl rfl HO5.out rfl HR1.out (fun q hq => ⟨_, _, (HQM.out q hq).1⟩) (by have := HLk.out; rw [this]; simp; omega) (Nat.le_trans HB4.out.size (up_alloc w4 _).size) ?_); intro v6 w6 ho hg hbb)
        have hup := up_alloc w4 (.cells #[.int .i64 kd, .int .i64 id, .int .i64 ln, .int .u8 fn, .slice u2 r70.length k2, .int .i64 ar, .int .i64 kp] 36)
        have e4 := HB4.out.size
        have HB6 : Hid (Below w.heap.size w w6) := below_app (HB4.out.trans (hup.mono e4)) HO5.out hg (Nat.le_refl _) (Nat.le_trans e4 hup.size)
        have HO6 := Hid.mk' ho
        have HR6 : Hid (∀ q ∈ L ++ [((cutA ⟨kd, id, ln, fi, nt, ar, kp⟩, .slice u2 r70.length k2) : Aq)], Bs A w q.2 q.1.nt ∧ Ain q.1) := fun q hq => by
          rw [List.mem_append] at hq
          exact hq.elim (HR.out q) (HQM.out q)
        have HM6 : Hid ((L ++ [((cutA ⟨kd, id, ln, fi, nt, ar, kp⟩, .slice u2 r70.length k2) : Aq)]).map (·.1) = (l.take (k + 1)).map cutA) := by
          show _ = _
          rw [List.map_append, HM.out, ← HTK.out]; rfl
        have HL6 : Hid ((L ++ [((cutA ⟨kd, id, ln, fi, nt, ar, kp⟩, .slice u2 r70.length k2) : Aq)]).length = k + 1) := by show _ = _; rw [List.length_append, HLk.out]; rfl
        obtain ⟨a6, c6, e6⟩ := own_sliceN ho
        have E6 : Hid (v6 = .slice a6 (k + 1) c6) := by show _ = _; rw [e6, HL6.out]
        rw [E6.out] at HO6
        clear ho hg hbb hup e4 e6 x0 x1 x2 x3 x4 x5 x6
        go_wp2_with fail
        go_roundw
        case rel => exact ⟨k + 1, _, a6, c6, by omega, by omega, by go_num, E6.out, HL6, HM6, HO6, HR6, HB6⟩
        case measure => simp [intOf]; omega
/-- what small leaves, as acts -/
theorem Fw.as {A : Nat → Prop} {S0 : Nat} {w wz : World} {v : Value} {L : List Aq} (h : Fw A S0 w wz v L) (hb : Below w.heap.size w wz) (hL : L.length ≤ 1000) : As (fun k => (A k ∧ k < w.heap.size) ∨ S0 ≤ k) wz v (L.map (·.1)) :=
  ⟨L, rfl, (Row.of_ownB h.1).monoS fun _ hk => .inr hk, fun q hq => ⟨(Bs.up (⟨Row.andLt (h.2 q hq).1.1, (h.2 q hq).1.2⟩ : Bs (fun k => A k ∧ k < w.heap.size) w q.2 q.1.nt) hb).monoS fun _ hk => .inl hk, (h.2 q hq).2⟩, by unfold lim; omega⟩
end Go.Proofs.YtbmhkdcmepfmbaaGreat
set_option linter.unusedVariables false
set_option linter.unusedSimpArgs false
namespace Go.Proofs.YtbmhkdcmepfmbaaGreat
open Go.RowKit
theorem wb_cell {X : Nat → Prop} {w w' : World} (hw : Wb X w w') {b o : Nat} {v : Value} (hX : ¬ X b) (h : w.cell? ⟨b, o, none⟩ = some v) : w'.cell? ⟨b, o, none⟩ = some v := by
  rw [World.cell?_of_block (w := w) (a := ⟨b, o, none⟩) (hw.block b (World.block_lt_of_cell? w ⟨b, o, none⟩ h) hX)]; exact h
section
variable {C : Cx} {E : Int} {Q : Nat} {R : Al By} {s : Ps} {d : Dm} {T M : Nat → Prop} {w : World} {p b : Nat}
theorem vids [Xcl] (h : Jn T M w p b s d) (hI : Iv C E Q R s d) : Calls Tryz.prog 52 #[.pointer (some ⟨p, 0, none⟩)] w fun e w' => ∃ v, e = .returned v ∧ Io w.heap.size w' v (R.map (·.1)) ∧ Below w.heap.size w w' := by
  obtain ⟨D, Dd, ms, mf, ma, ff, nf, g, hJ⟩ := h.jx
  have hl := hI.len
  have h2 := ids_any hJ.P (by omega)
  rw [← hI.keys] at h2
  exact h2
theorem vcount [Xcl] (h : Jn T M w p b s d) (hI : Iv C E Q R s d) : Calls Tryz.prog 53 #[.pointer (some ⟨p, 0, none⟩)] w fun e w' => e = .returned (.int .i64 R.length) ∧ w' = w := by
  obtain ⟨D, Dd, ms, mf, ma, ff, nf, g, hJ⟩ := h.jx
  have h2 := count_any hJ.P
  rw [← hI.rlen] at h2
  exact h2
theorem vhand [Xcl] (h : Jn T M w p b s d) (hI : Iv C E Q R s d) : Calls Tryz.prog 24 #[.pointer (some ⟨p, 0, none⟩)] w fun e w' => ∃ n : Nat, e = .returned (.int .i64 n) ∧ (n : Int) ≤ C.hand ∧ w' = w := by
  obtain ⟨D, Dd, ms, mf, ma, ff, nf, g, hJ⟩ := h.jx
  exact (hand_any hJ.P).mono fun e w' ⟨h1, h2⟩ => ⟨_, h1, hI.hln, h2⟩
theorem vstats [Xcl] (h : Jn T M w p b s d) : Calls Tryz.prog 25 #[.pointer (some ⟨p, 7, none⟩)] w fun e w' => e = .returned (.agg #[.int .i64 s.hit, .int .i64 s.mis, .int .i64 s.ev]) ∧ Below w.heap.size w w' := by
  obtain ⟨D, Dd, ms, mf, ma, ff, nf, g, hJ⟩ := h.jx
  exact stats_any hJ.P
/-- a Get where nothing is armed -/
theorem cget [Xcl] (h : Jn T M w p b s d) (hI : Iv C E Q R s d) (hc : C.cal = true) (hE : E + 1 ≤ 100000) (id : Int) (hid : Wi id) :
    Calls Tryz.prog 18 #[.pointer (some ⟨p, 0, none⟩), .int .i64 id] w (GetV C E Q R T M w p b s id) :=
  (vget h hI hE id hid).mono fun e w' h => h.elim (fun ⟨x, s1, d1, _, _, hj, _⟩ => by have := hj.2.1; rw [hc] at this; cases this) (fun h => h)
end
/-- do two lists begin alike? -/
def Pre (R R' : Al By) (k : Nat) : Prop := ∀ j (h : j < R.length) (h' : j < R'.length), j < k → R[j] = R'[j]
theorem pre_eq {R R' : Al By} (hl : R.length = R'.length) (h : Pre R R' R.length) : R = R' := by
  refine List.ext_getElem hl fun j a b => ?_
  exact h j a b a
end Go.Proofs.YtbmhkdcmepfmbaaGreat
