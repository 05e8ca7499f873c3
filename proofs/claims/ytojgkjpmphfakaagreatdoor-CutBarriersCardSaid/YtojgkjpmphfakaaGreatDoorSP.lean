/- pack.Split of what was joined. -/
import Derived.Test.YtojgkjpmphfakaaGreatDoorRT
set_option linter.unusedVariables false
set_option linter.unusedSimpArgs false
namespace Go.Proofs.YtojgkjpmphfakaaGreatDoor
open Go.RowKit
attribute [local go_sem ↓] Go.wp_at_zero Go.wp_at_succ
/-- values that are each the bytes of a list's element, in memory of the call's own -/
def Eo (B : Nat) (w : World) (vs : List Value) (l : List (List UInt8)) : Prop := vs.length = l.length ∧ ∀ i (h : i < l.length) (h' : i < vs.length), Ob 5 B w vs[i] l[i]
theorem eo_nil (B : Nat) (w : World) : Eo B w [] [] := ⟨rfl, fun i h => by simp at h⟩
theorem Eo.up {B : Nat} {w w' : World} {vs : List Value} {l : List (List UInt8)} (h : Eo B w vs l) (hb : Below w.heap.size w w') : Eo B w' vs l := ⟨h.1, fun i a b => own_keep (h.2 i a b) hb (Nat.le_refl _)⟩
theorem Eo.snoc {B : Nat} {w : World} {vs : List Value} {l : List (List UInt8)} {v : Value} {x : List UInt8} (h : Eo B w vs l) (hx : Ob 5 B w v x) : Eo B w (vs ++ [v]) (l ++ [x]) := by
  refine ⟨by simp [h.1], fun i hi hi' => ?_⟩
  by_cases hlt : i < l.length
  · rw [List.getElem_append_left (by rw [h.1]; exact hlt), List.getElem_append_left hlt]
    exact h.2 i hlt _
  · have hil : i = l.length := by simp at hi; omega
    subst hil
    rw [List.getElem_append_right (Nat.le_of_eq h.1), List.getElem_append_right (Nat.le_refl _)]
    simpa [h.1] using hx
theorem Eo.grown {B B' n sz : Nat} {w w' : World} {vs xs : List Value} {l : List (List UInt8)} {u : Value} (h : Eo B w vs l) (ho : w.ownsRow B' 69 sz u n xs) (hg : w.grownBy w' u.ownBlock) : Eo B w' vs l :=
  ⟨h.1, fun i a b => own_grown_ne (h.2 i a b) ho hg (by decide)⟩
theorem Eo.one {B : Nat} {w : World} {vs : List Value} {l : List (List UInt8)} (h : Eo B w vs l) : ∀ u ∈ vs, u.oneCell' = true := by
  intro u hu
  obtain ⟨i, hi, rfl⟩ := List.mem_iff_getElem.1 hu
  obtain ⟨a, c, e⟩ := own_slice (h.2 i (by rw [← h.1]; exact hi) hi)
  rw [e]; rfl
theorem Eo.each {B : Nat} {w : World} {vs : List Value} {l : List (List UInt8)} (h : Eo B w vs l) (hl : ∀ x ∈ l, x.length ≤ lim) : Each (Lt w.heap.size) w vs l :=
  ⟨h.1, fun i a b => (h.2 i a b).bs (hl _ (List.getElem_mem a))⟩
theorem own_off {B n sz g : Nat} {e e' : TypeId} {w : World} {v : Value} {xs : List Value} {cs : Array Value} {fr : Nat × Nat} (h : w.ownsRow B e sz v n xs) (hg : w.heap[g]? = some (.cells cs e' fr)) (hne : e ≠ e') : some g ≠ v.ownBlock := by
  intro e1
  obtain ⟨_, cur, fr', h2⟩ := own_typed h g e1.symm
  rw [hg] at h2
  cases h2
  exact hne rfl
theorem Eo.wb113 {B g : Nat} {w w' : World} {vs : List Value} {l : List (List UInt8)} {cs : Array Value} {fr : Nat × Nat} (h : Eo B w vs l) (hb : Wb (fun k => k = g) w w') (hg : w.heap[g]? = some (.cells cs 113 fr)) : Eo B w' vs l :=
  ⟨h.1, fun i a b => own_wb (h.2 i a b) hb fun j hj => by subst hj; exact own_off (h.2 i a b) hg (by decide)⟩
theorem Rdr.grown {g at' B n sz : Nat} {e : TypeId} {w w' : World} {l : List UInt8} {er : Int} {u : Value} {xs : List Value} (h : Rdr w g l at' er) (ho : w.ownsRow B e sz u n xs) (hg : w.grownBy w' u.ownBlock) (hne : e ≠ 113) (hB : ∀ k, u.ownBlock = some k → g ≤ k) : Rdr w' g l at' er := by
  obtain ⟨a, c, h1, h2, h3⟩ := h
  have hs := (Array.getElem?_eq_some_iff.1 h1).1
  exact ⟨a, c, (hg.block g hs fun e1 => own_off ho h1 hne e1).trans h1, h2.keepS fun b hb => hg.block b (Nat.lt_trans hb hs) fun e1 => absurd (hB b e1.symm) (Nat.not_le.2 hb), h3⟩
theorem Tryz.info69 : (Tryz.prog.info? 69).map (fun i => (i.zero, i.size, i.bytes)) = some (some (.slice none 0 0), 1, 24) := by kernel_rfl
theorem txt_app (a b : List (List UInt8)) : txt (a ++ b) = txt a ++ txt b := by unfold txt; rw [List.map_append, List.flatten_append]
theorem txt_cons (p : List UInt8) (b : List (List UInt8)) : txt (p :: b) = nm p.length ++ (p ++ txt b) := by unfold txt; simp
theorem jn_at {ls : List (List UInt8)} {k : Nat} (h : k < ls.length) : jn ls = (nm ls.length ++ txt (ls.take k)) ++ (nm ls[k].length ++ (ls[k] ++ txt (ls.drop (k + 1)))) := by
  have e0 : ls.take k ++ ls[k] :: ls.drop (k + 1) = ls := by rw [← List.drop_eq_getElem_cons h, List.take_append_drop]
  have e := congrArg txt e0
  rw [txt_app, txt_cons] at e
  unfold jn
  rw [← e, List.append_assoc]
theorem jn_len {ls : List (List UInt8)} {k : Nat} (h : k < ls.length) : (nm ls.length ++ txt (ls.take (k + 1))).length = (nm ls.length ++ txt (ls.take k)).length + (nm ls[k].length).length + ls[k].length := by
  rw [txt_take h]; simp; omega
theorem jn_cl (ls : List (List UInt8)) : clE (jn ls) (nm ls.length ++ txt (ls.take ls.length)).length 0 = 0 := by
  unfold clE
  rw [if_neg]
  rw [List.take_length]; unfold jn; omega
theorem jn_rn {ls : List (List UInt8)} (h : ls.length < 18446744073709551616) : rnP (jn ls) 0 0 = (ls.length, (nm ls.length ++ txt (ls.take 0)).length, 0) := by
  unfold rnP
  rw [if_neg (by simp)]
  have := tk_nm [] (txt ls) h
  simp only [List.nil_append, List.length_nil, Nat.zero_add] at this
  rw [show jn ls = nm ls.length ++ txt ls from rfl, this, if_neg (by simp)]
  simp [txt]
set_option maxRecDepth 100000 in
set_option maxHeartbeats 4000000 in
/-- Split -/
theorem split_any {A : Nat → Prop} {w : World} {v : Value} {ls : List (List UInt8)} (h : Bs A w v (jn ls)) (hn : ls.length ≤ 1000) (hp : ∀ x ∈ ls, x.length ≤ lim) : Calls Tryz.prog 49 #[v] w fun e w' => ∃ v', e = .returned (.tuple #[v', .int .i64 0]) ∧ Bss (Lt w'.heap.size) w' v' ls ∧ Below w.heap.size w w' := by
  have HRD := Hid.mk' (pread_any h)
  have HP := Hid.mk' hp
  have hni : (ls.length : Int) ≤ 1000 := by omega
  obtain ⟨a, c, rfl, _, _, _⟩ := h.at
  have HRN := Hid.mk' (jn_rn (show ls.length < 18446744073709551616 by omega))
  clear h hp
  go_enter Tryz.func49, Tryz.ntmps49
  go_wp2_with fail
  refine HRD.out.mono ?_
  rintro e w1 ⟨g, rfl, hg1, hr1, hb1⟩
  have HB1 := Hid.mk' hb1
  have HG : Hid (w.heap.size ≤ g) := hg1
  have HN := Hid.mk' (rnum_any hr1)
  rw [HRN.out] at HN
  clear hg1 hr1 hb1 HRD
  go_wp2_with fail
  refine HN.out.mono ?_
  rintro e w2 ⟨rfl, hr2, hb2⟩
  have HR0 := Hid.mk' hr2
  have HB0 := Hid.mk' (HB1.out.trans (hb2.below HB1.out.size fun k hk => by subst hk; exact HG.out))
  obtain ⟨S2, hS2⟩ : ∃ n, n = w2.heap.size := ⟨_, rfl⟩
  have HS2 : Hid (g < S2 ∧ w.heap.size ≤ S2 ∧ S2 ≤ w2.heap.size) := by
    obtain ⟨_, _, h1, _⟩ := hr2
    have := (Array.getElem?_eq_some_iff.1 h1).1
    have := HB0.out.size
    show _ ∧ _; omega
  have HO0 : Hid (w2.ownsRow S2 69 1 (.slice none 0 0) 0 []) := World.ownsRow_nil _ _ _ _
  have HE0 : Hid (Eo w.heap.size w2 [] (ls.take 0)) := eo_nil _ _
  have HSK : Hid (S2 ≤ w2.heap.size) := HS2.out.2.2
  clear hr2 hb2 HN HB1 HRN hS2
  go_wp2_with fail
  go_loopw [5, 6] (fun y i wr => ∃ (k : Nat) (vs : List Value), k ≤ ls.length ∧ i = .int .u64 ((ls.length - k : Nat) : Int) ∧ Hid (wr.ownsRow S2 69 1 y k vs) ∧ Hid (Eo w.heap.size wr vs (ls.take k)) ∧ Hid (Rdr wr g (jn ls) (nm ls.length ++ txt (ls.take k)).length 0) ∧ Hid (Below w.heap.size w wr) ∧ Hid (S2 ≤ wr.heap.size)) (fun _ i _ => (intOf i).toNat)
  case atStart => exact ⟨0, [], by omega, by simp, HO0, HE0, HR0, HB0, HSK⟩
  case round =>
    clear HO0 HE0 HR0 HB0 HSK
    obtain ⟨k, vs, hk, rfl, HO, HE, HR, HB, HSK⟩ := hrel
    rename World => wk
    obtain ⟨y1, y2, rfl⟩ := own_slice HO.out
    by_cases hlt : k < ls.length
    case neg =>
      obtain rfl : k = ls.length := by omega
      have HC := Hid.mk' (rclose_any HR.out)
      rw [jn_cl] at HC
      rw [Nat.sub_self]
      clear hlt
      go_wp2_with fail
      refine HC.out.mono ?_
      rintro e w5 ⟨rfl, hd⟩
      have HB5 := Hid.mk' (HB.out.trans (hd.below w.heap.size))
      have HE5 := HE.out.up (hd.below wk.heap.size)
      have HO5 := own_keep HO.out (hd.below wk.heap.size) (Nat.le_refl _)
      rw [List.take_length] at HE5
      have HBS : Hid (Bss (Lt w5.heap.size) w5 (.slice y1 ls.length y2) ls) := ⟨vs, Row.of_own HO5, HE5.each HP.out, by unfold lim; omega⟩
      clear hd HE5 HO5 HC
      go_wp2_with fail
      refine bodyPost_ret (v := .tuple #[.slice y1 ls.length y2, .int .i64 0]) (by simp [results, Tryz.results49, go_sem]) rfl ?_
      exact ⟨_, rfl, HBS.out, HB5.out⟩
    have hlt' : ((ls.length - (k + 1) : Nat) : Int) + 1 ≤ 1000 := by omega
    rw [show ((ls.length - k : Nat) : Int) = ((ls.length - (k + 1) : Nat) : Int) + 1 by omega]
    have HJ := Hid.mk' (jn_at hlt)
    have HJL := Hid.mk' (jn_len hlt)
    have HTK := Hid.mk' (List.take_succ_eq_append_getElem hlt)
    have HT := HR.out
    rw [HJ.out] at HT
    replace HT := rtext_any HT
    rw [← HJ.out, ← HJL.out] at HT
    have HT := Hid.mk' HT
    have hr := HR.out
    obtain ⟨a1, d1, h1, h2, h3⟩ := hr
    obtain ⟨c0, c1, c2⟩ := bx3 h1
    have hpos : (0 : Int) < ((ls.length - (k + 1) : Nat) : Int) + 1 := by omega
    have hkz : k + 1 ≤ ls.length := by omega
    obtain ⟨z, hz⟩ : ∃ z, z = ls.length - (k + 1) := ⟨_, rfl⟩
    have HZ : Hid (z = ls.length - (k + 1)) := hz
    rw [← hz] at hlt' hpos ⊢
    clear hz
    have HT5 := Hid.mk' h1
    clear h1 h2 h3
    go_wp2_with fail
    refine HT.out.mono ?_
    rintro e w5 ⟨v5, rfl, ho5, hr5, hb5⟩
    obtain ⟨b1, b2, e5⟩ := own_slice ho5
    have HV5 : Hid (Ob 5 w.heap.size w5 v5 ls[k]) := Ob.mono ho5 HB.out.size
    rw [e5] at HV5
    have HB5 : Hid (Below w.heap.size w w5) := HB.out.trans (hb5.below HB.out.size fun k hk => by subst hk; exact HG.out)
    have HO5 : Hid (w5.ownsRow S2 69 1 (.slice y1 k y2) k vs) := own_wb HO.out hb5 fun j hj => by subst hj; exact own_off HO.out HT5.out (by decide)
    have HE5 : Hid (Eo w.heap.size w5 vs (ls.take k)) := HE.out.wb113 hb5 HT5.out
    have hup := up_alloc w5 (.cells #[.slice b1 ls[k].length b2] 69)
    have HSA : Hid (S2 ≤ (w5.alloc (.cells #[.slice b1 ls[k].length b2] 69)).heap.size) := Nat.le_trans HSK.out (Nat.le_trans hb5.size hup.size)
    have HBA := Hid.mk' (HB5.out.trans (hup.mono HB5.out.size))
    have HOA := Hid.mk' (own_keep HO5.out hup (Nat.le_refl _))
    have HEA := Hid.mk' ((HE5.out.up hup).snoc (HV5.out.keep hup (Nat.le_refl _)))
    rw [← HTK.out] at HEA
    have HRA := Hid.mk' (hr5.up hup)
    clear ho5 hr5 hb5 hup HT c0 c1 c2 HR
    go_wp2_with (at_builtin; go_must (refine wpl_app rfl (.tmp 23) (.tmp 26) 88 rfl Tryz.underlying88 Tryz.info69 rfl (by decide) rfl HOA.out rfl row_one (by intro u hu; simp only [List.mem_cons, List.not_mem_nil, or_false] at hu; subst hu; rfl) (by unfold maxLen; omega) (by omega) HSA.out ?_); intro v6 w6 ho hg hn2 hbb)
    have HB6 : Hid (Below w.heap.size w w6) := below_app HBA.out HOA.out hg HS2.out.2.1 HBA.out.size
    have HE6 : Hid (Eo w.heap.size w6 _ _) := HEA.out.grown HOA.out hg
    have HR6 : Hid (Rdr w6 g (jn ls) (nm ls.length ++ txt (ls.take (k + 1))).length 0) := HRA.out.grown HOA.out hg (by decide) fun j hj => Nat.le_of_lt (Nat.lt_of_lt_of_le HS2.out.1 (World.ownsRow.lt HOA.out j hj).1)
    have HS6 : Hid (S2 ≤ w6.heap.size) := Nat.le_trans HSA.out hg.size
    have HO6 := Hid.mk' ho
    clear ho hg hn2 hbb
    go_roundw
    case rel => exact ⟨k + 1, _, hkz, by rw [HZ.out], HO6, HE6, HR6, HB6, HS6⟩
    case measure => simp [intOf]
end Go.Proofs.YtojgkjpmphfakaaGreatDoor
