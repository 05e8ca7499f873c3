/- drive.Used: the sum over a map, in whatever order it comes. drive.Write, drive.Append, drive.Read. -/
import Derived.Test.YtbmhkdcmepfmbaaGreatB08
import Derived.Maps.RangeWalk
import Derived.Sort.KeysCollected
import Derived.Laws.IdiomRangeMap
import Derived.LoopN
import Derived.Test.YtbmhkdcmepfmbaaGreatB09
set_option linter.unusedVariables false
set_option linter.unusedSimpArgs false
namespace Go.Proofs.YtbmhkdcmepfmbaaGreat
open Go.RowKit
attribute [local go_sem ↓] Go.wp_at_zero Go.wp_at_succ
def remn (F : Fl) (left : Lit → Bool) : Nat := ((F.filter (fun a => left (.string a.1))).map (fun a => a.2.length)).sum
theorem remn_all {F : Fl} {left : Lit → Bool} (h : ∀ a ∈ F, left (.string a.1) = true) : remn F left = tot F := by
  unfold remn tot; rw [List.filter_eq_self.2 h]
theorem remn_none {F : Fl} {left : Lit → Bool} (h : ∀ kl, left kl = false) : remn F left = 0 := by
  unfold remn; rw [List.filter_eq_nil_iff.2 (fun a _ => by simp [h])]; rfl
theorem remn_cons (a : By × By) (r : Fl) (left : Lit → Bool) : remn (a :: r) left = (if left (.string a.1) then a.2.length else 0) + remn r left := by
  unfold remn
  rw [List.filter_cons]
  split <;> simp
theorem remn_le (F : Fl) (left : Lit → Bool) : remn F left ≤ tot F := by
  induction F with
  | nil => simp [remn, tot]
  | cons a r ih =>
    rw [remn_cons]
    simp only [tot, List.map_cons, List.sum_cons] at ih ⊢
    split <;> omega
theorem remn_step {F : Fl} (hF : Srt F) {s l : By} {left : Lit → Bool} (h : fget F s = some l) (hl : left (.string s) = true) : remn F (fun z => left z && !z.sameKey (.string s)) + l.length = remn F left := by
  induction F with
  | nil => cases h
  | cons a r ih =>
    obtain ⟨x, y⟩ := a
    have h2 := (List.pairwise_cons.1 hF).1
    rw [remn_cons, remn_cons]
    rw [fget] at h
    by_cases e : s = x
    · subst e
      rw [if_pos rfl] at h
      cases h
      have e1 : ((Lit.string s).sameKey (.string s)) = true := by simp [Lit.sameKey]
      have e2 : remn r (fun z => left z && !z.sameKey (.string s)) = remn r left := by
        unfold remn
        congr 2
        refine List.filter_congr fun a ha => ?_
        have : a.1 ≠ s := fun e => by have := h2 a ha; simp only at this; rw [e] at this; exact by_irr _ this
        have e3 : ((Lit.string a.1).sameKey (.string s)) = false := by simp [Lit.sameKey, this]
        simp [e3]
      simp only [e1, hl, e2]
      simp
      omega
    · rw [if_neg e] at h
      have e1 : ((Lit.string x).sameKey (.string s)) = false := by simp [Lit.sameKey]; exact fun h => e h.symm
      have := ih hF.tail h
      simp only [e1, Bool.not_false, Bool.and_true]
      omega
set_option maxRecDepth 100000 in
set_option maxHeartbeats 2000000 in
/-- drive.Used -/
theorem used_any {M D : Nat → Prop} {w : World} {b : Nat} {ms mv : Option Nat} {q : Value} {d : Dm} (h : w.heap[b]? = some (.cells #[.map ms, .map mv, q, .int .i64 d.room, .bool d.armed, .int .i64 d.left, .bool d.dead] 74 (0, 0))) (hF : FilesIs M D w mv d.seen) (ht : tot d.seen ≤ lim) :
    Calls Tryz.prog 90 #[.pointer (some ⟨b, 0, none⟩)] w fun e w' => e = .returned (.int .i64 (tot d.seen)) ∧ Below w.heap.size w w' := by
  obtain ⟨⟨c0, c1, c2, c3, c4, c5, c6⟩, c7⟩ := box7 h
  have hb : b < w.heap.size := (Array.getElem?_eq_some_iff.1 h).1
  unfold lim at ht
  clear h c0 c2 c3 c4 c5 c6
  rcases hF with ⟨rfl, hs⟩ | ⟨k, rfl, _, hS, g, hm, hg⟩
  · rw [hs]
    have hrg := run_range_nilMap (P := Tryz.prog) w 71 9 22 Tryz.underlying71
    have hnx : ∀ ty, (Instr.next (.pointer (some ⟨w.heap.size, 0, none⟩)) false ty).run Tryz.prog (w.alloc (.mapIter none 0 #[] 0)) = _ := fun ty => run_next_nilMap w ty 0 0 #[]
    clear hs ht
    go_enter Tryz.func90, Tryz.ntmps90
    go_wp2
    refine wp_loop_rounds 1 ?_
    rw [rounds_succ]
    go_wp2
    go_ret
    exact ⟨rfl, up_alloc _ _⟩
  · generalize d.seen = F at *
    obtain ⟨Dd, hown, hsz, hT, hf⟩ := hm
    have hstart : remn F (Maps.has Dd) = tot F := remn_all fun a ha => by
      have h1 := fget_of_mem hS (s := a.1) (l := a.2) ha
      rw [(hf a.1).1]
      rcases hg a.1 with ⟨_, e⟩ | ⟨v, l, e, _⟩
      · rw [h1] at e; cases e
      · rw [e]; rfl
    have HG := Hid.mk' hg
    have HF := Hid.mk' hf
    have HS := Hid.mk' hS
    have HT := Hid.mk' hstart
    clear hg hf hS hstart hT
    go_enter Tryz.func90, Tryz.ntmps90
    go_wp2_with (first | (at_range; refine wpList_range_own _ rfl (.tmp 9) 71 rfl 9 22 (Maps.string_keyed Tryz.underlying9) Tryz.underlying71 hR k F.length Dd rfl hown ?_; intro w0 hrg0 hg0 hs0) | go_in)
    go_frame
    go_loopw [3] (fun s wr => ∃ (left : Lit → Bool) (cnt t : Nat), wr.ranges Tryz.prog 9 hR k w.heap.size F.length Dd left cnt ∧ s = .int .i64 t ∧ Hid (t + remn F left = tot F) ∧ Hid (Below w.heap.size w wr) ∧ w.heap.size < wr.heap.size) (fun _ wr => wr.rangeLeft k w.heap.size)
    case atStart =>
      exact ⟨_, _, 0, hrg0, rfl, (show _ = _ by rw [HT.out]; omega), ⟨hg0.os, hg0.tape, hg0.output, hg0.size, fun i hi => hg0.block i hi (by simp)⟩, by omega⟩
    case round =>
      obtain ⟨left, cnt, t, hrg, rfl, HE, HB, hlt⟩ := hrel
      go_wp2_with (first
        | (at_next; refine wpList_next_ranges _ rfl (.tmp 10) rfl 9 (Maps.string_keyed Tryz.underlying9) hR id id (fun key _ _ => ⟨key, rfl⟩) (fun v _ _ => ⟨v, rfl⟩) k w.heap.size F.length _ _ _ rfl hrg ?_ ?_)
        | go_in)
      · intro hc0 hl0
        have e : t = tot F := by have := HE.out; rw [remn_none hl0] at this; omega
        subst e
        go_wp2
        go_ret
        exact ⟨rfl, HB.out⟩
      · intro x c kl yd yp w1 cnt1 hkey hlk hv hat hrg1 hlt1 hg1 hs1 hen
        obtain ⟨s, rfl, rfl, hsl⟩ := Maps.keyOf_str Tryz.underlying9 hkey
        simp only [hR, Option.some.injEq, Prod.mk.injEq] at hv
        obtain ⟨rfl, rfl⟩ := hv
        have f1 := (HF.out s).2 (.bool true)
        have f2 := (HF.out s).2 (.bool false)
        rw [hat] at f1 f2
        obtain ⟨l, hl, hc⟩ : ∃ l, fget F s = some l ∧ Bs D w c l := by
          rcases HG.out s with ⟨e, _⟩ | ⟨v, l, e1, e2, e3⟩
          · rw [e] at f1 f2
            simp only [Option.getD_none, DataW.held.injEq] at f1 f2
            rw [f1] at f2; cases f2
          · rw [e1] at f1
            simp only [Option.getD_some, DataW.held.injEq] at f1
            subst f1
            exact ⟨l, e2, e3⟩
        obtain ⟨a, cc, rfl, _⟩ := hc.at
        have hrs := remn_step HS.out hl hlk
        have hle := remn_le F left
        have hte := HE.out
        have b1 : (0 : Int) ≤ (t : Int) + (l.length : Int) := by omega
        have b2 : (t : Int) + (l.length : Int) ≤ 140737488351232 := by omega
        have HE2 : Hid (t + l.length + remn F (fun z => left z && !z.sameKey (.string s)) = tot F) := by show _ = _; omega
        have HB2 : Hid (Below w.heap.size w w1) := HB.out.grown hg1 HB.out.size (fun k hk => by cases hk; exact Nat.le_refl _)
        clear f1 f2 hl hc hrs hle hte HE HB hat hkey hlk hg1
        go_wp2
        go_roundw
        case rel => exact ⟨_, cnt1, t + l.length, hrg1, by go_num, HE2, HB2, by omega⟩
        case measure => rw [hrg1.left_eq, hrg.left_eq]; exact hlt1
end Go.Proofs.YtbmhkdcmepfmbaaGreat
set_option linter.unusedVariables false
set_option linter.unusedSimpArgs false
namespace Go.Proofs.YtbmhkdcmepfmbaaGreat
open Go.RowKit
attribute [local go_sem ↓] Go.wp_at_zero Go.wp_at_succ
theorem bs_new {B : Nat} {w : World} {v : Value} {l : By} (h : Ob 5 B w v l) (hl : l.length ≤ lim) : Bs (fun k => B ≤ k ∧ k < w.heap.size) w v l := by
  refine ⟨?_, hl⟩
  have h1 := Row.of_ownB h
  have h2 := h1.toLtN
  obtain ⟨e0, a, c, e, hc, ha, H⟩ := h1
  obtain ⟨_, a', c', e', _, _, H'⟩ := h2
  rw [e] at e'; cases e'
  refine ⟨e0, a, c, e, hc, ha, fun j u hj => ?_⟩
  obtain ⟨b1, o1, k1, k2, k3⟩ := H j u hj
  obtain ⟨b2, o2, k4, k5, _⟩ := H' j u hj
  rw [k1] at k4; cases k4
  exact ⟨b1, o1, k1, ⟨k2, k5⟩, k3⟩
theorem DrIs.below {M D : Nat → Prop} {w w' : World} {b : Nat} {d : Dm} (h : DrIs M D w b d) (hb : Below w.heap.size w w') : DrIs M D w' b d := h.keep (Wb.of_below (fun _ => False) hb) fun k hk => hk.elim
theorem DrIs.grow {M D : Nat → Prop} {w w' : World} {b : Nat} {d : Dm} (h : DrIs M D w b d) (hb : Below w.heap.size w w') : DrIs M (fun k => D k ∨ w.heap.size ≤ k ∧ k < w'.heap.size) w' b d := by
  obtain ⟨⟨ms, mv, q, hbx, h1, h2, h3, h4⟩, hD, hM, hl⟩ := h.below hb
  have hbl : b < w.heap.size := by obtain ⟨_, _, _, hx, _⟩ := h.ex; exact (Array.getElem?_eq_some_iff.1 hx).1
  refine ⟨⟨ms, mv, q, hbx, h1.mono (fun _ h => h) fun _ h => .inl h, h2.mono (fun _ h => h) fun _ h => .inl h, h3.mono fun _ h => .inl h, h4⟩, fun k hk => ?_, hM, hl⟩
  rcases hk with hk | ⟨hk1, hk2⟩
  · exact hD k hk
  · exact ⟨hk2, fun hm => by have := (h.hM k hm).1; omega, by omega⟩
theorem Turned.of {M D D1 : Nat → Prop} {w w2 w' : World} {b : Nat} {d' : Dm} (h : Turned M D1 w2 b d' w') (hb : Below w.heap.size w w2) (hD : ∀ k, D1 k → D k ∨ w.heap.size ≤ k) (hM : ∀ k, M k → k < w.heap.size) : Turned M D w b d' w' := by
  obtain ⟨hw, M', D', h1, h2, h3⟩ := h
  refine ⟨(Wb.of_below _ hb).trans hw, M', D', fun k hk => (h1 k hk).imp id fun h => Nat.le_trans hb.size h, fun k hk => ?_, h3⟩
  rcases h2 k hk with h | h
  · exact hD k h
  · exact .inr (Nat.le_trans hb.size h)
def WritePost (M D : Nat → Prop) (w : World) (b : Nat) (d : Dm) (n : By) (i : Int) (l : By) (E : Ending) (w' : World) : Prop :=
  E = .returned (.int .i64 (rawE d (wrE d n i l.length))) ∧ Turned M D w b (rawD d (.write n i.toNat l) (wrE d n i l.length)) w'
set_option maxRecDepth 100000 in
set_option maxHeartbeats 4000000 in
/-- drive.Write -/
theorem write_any {M D A : Nat → Prop} {w : World} {b : Nat} {d : Dm} (n l : By) (i : Int) (v : Value) (h : DrIs M D w b d) (hn : n.length ≤ maxLen) (hv : Bs A w v l) (ht : tot d.seen ≤ lim) (hr : 0 ≤ d.room ∧ d.room ≤ 9223372036854775807)
    (hfit : wrE d n i l.length = 0 → i.toNat + l.length ≤ lim) (hl : d.seen.length + 1 < maxLen) (hq : (d.queue.length + 1) * 16 ≤ 140737488355328) :
    Calls Tryz.prog 66 #[.pointer (some ⟨b, 0, none⟩), .string ⟨n.toArray⟩, .int .i64 i, v] w (WritePost M D w b d n i l) := by
  obtain ⟨ms, mv, q, hb, h1, h2, h3, h4⟩ := h.ex
  obtain ⟨⟨c0, c1, c2, c3, c4, c5, c6⟩, c7⟩ := box7 hb
  have hus := fun w1 (hbl : Below w.heap.size w w1) => used_any (w := w1) (by rw [hbl.block b (Array.getElem?_eq_some_iff.1 hb).1]; exact hb) (h2.wb (Wb.of_below (fun _ => False) hbl) (fun _ h => h.elim) (fun _ _ h => h)) ht
  obtain ⟨v0, _, hlk, hv0, _⟩ := h2.look n hn
  have hol := hv0.2
  have hll := hv.2
  obtain ⟨va, vc, rfl, hva0⟩ := hv0.at
  obtain ⟨xa, xc, rfl, hxa0⟩ := hv.at
  clear hva0 hxa0
  have HE : Hid (wrE d n i l.length = if i < 0 ∨ ((foz d.seen n).length : Int) < i then 1 else if d.room - (tot d.seen : Int) < (l.length : Int) - ((foz d.seen n).length - i) then 8 else 0) := rfl
  have hfz := foz_le d.seen n
  unfold lim at hol hll ht
  unfold WritePost
  have HI := Hid.mk' hfit
  generalize wrE d n i l.length = e at *
  have hdk : Dok d.seen (.write n i.toNat l) ∨ e ≠ 0 := by
    by_cases he : e = 0
    · refine .inl ⟨?_, by unfold lim; exact hol, HI.out he⟩
      have h5 := HE.out
      rw [he] at h5
      split at h5
      · cases h5
      · rename_i h6; omega
    · exact .inr he
  have HDK := Hid.mk' hdk
  have HH := Hid.mk' h
  have HV := Hid.mk' hv
  have HN := Hid.mk' hn
  have HL := Hid.mk' hl
  have HQ := Hid.mk' hq
  have HU := Hid.mk' hus
  have HBX := Hid.mk' hb
  have hc1 : (0 : Int) ≤ (tot d.seen : Int) := by omega
  have hc2 : (tot d.seen : Int) ≤ 140737488351232 := by omega
  obtain ⟨hr1, hr2⟩ := hr
  generalize hO : ((foz d.seen n).length) = o at *
  generalize hT : ((tot d.seen : Nat) : Int) = tt at *
  clear hO hT
  clear hfit h h1 h2 h3 h4 hv0 hv hn hl hq c0 c2 c4 c5 c6 hdk hus hb hfz
  have hoi : (0 : Int) ≤ (o : Int) ∧ (o : Int) ≤ 140737488351232 := by omega
  have hli : (0 : Int) ≤ (l.length : Int) ∧ (l.length : Int) ≤ 140737488351232 := by omega
  by_cases hi : i < 0
  · have HEV : Hid (e = 1) := by show _ = _; rw [HE.out, if_pos (.inl hi)]
    have HEN : Hid (e ≠ 0) := by have := HEV.out; show _ ≠ _; omega
    have hd : decide (i < 0) = true := decide_eq_true hi
    go_enter Tryz.func66, Tryz.ntmps66
    go_wp2_with fail
    refine (clone_any _ l _ (HV.out.up (Below.refl w.heap.size w))).mono ?_
    rintro E w2 ⟨v', rfl, hb2, ho2⟩
    obtain ⟨va2, vc2, rfl⟩ := own_sliceN ho2
    have HB2 := Hid.mk' (bt (Below.refl w.heap.size w) hb2)
    have HW := fun u => Hid.mk' (raw_not (.write n i.toNat l) u e (HH.out.below HB2.out) (fun hx => by have := HEN.out; omega))
    clear ho2 hb2
    go_wp2_with fail
    rw [← HEV.out]
    refine (HW _).out.mono ?_
    rintro E w3 ⟨rfl, hT⟩
    have HT := Hid.mk' (hT.of HB2.out (D := D) (fun k hk => .inl hk) fun k hk => (HH.out.hM k hk).1)
    clear hT HW
    go_wp2_with fail
    go_ret
    exact ⟨rfl, HT.out⟩
  by_cases hj : (o : Int) < i
  · have HEV : Hid (e = 1) := by show _ = _; rw [HE.out, if_pos (.inr hj)]
    have HEN : Hid (e ≠ 0) := by have := HEV.out; show _ ≠ _; omega
    have hd : decide (i < 0) = false := decide_eq_false hi
    have hd2 : decide ((o : Int) < i) = true := decide_eq_true hj
    go_enter Tryz.func66, Tryz.ntmps66
    go_wp2_with fail
    refine (clone_any _ l _ (HV.out.up (Below.refl w.heap.size w))).mono ?_
    rintro E w2 ⟨v', rfl, hb2, ho2⟩
    obtain ⟨va2, vc2, rfl⟩ := own_sliceN ho2
    have HB2 := Hid.mk' (bt (Below.refl w.heap.size w) hb2)
    have HW := fun u => Hid.mk' (raw_not (.write n i.toNat l) u e (HH.out.below HB2.out) (fun hx => by have := HEN.out; omega))
    clear ho2 hb2
    go_wp2_with fail
    rw [← HEV.out]
    refine (HW _).out.mono ?_
    rintro E w3 ⟨rfl, hT⟩
    have HT := Hid.mk' (hT.of HB2.out (D := D) (fun k hk => .inl hk) fun k hk => (HH.out.hM k hk).1)
    clear hT HW
    go_wp2_with fail
    go_ret
    exact ⟨rfl, HT.out⟩
  have HIN : Hid (((i.toNat : Nat) : Int) = i) := by show _ = _; omega
  have hd : decide (i < 0) = false := decide_eq_false hi
  have hd2 : decide ((o : Int) < i) = false := decide_eq_false hj
  have r3 : ∀ q : Ups w, q.nx.cell? ⟨b, 3, none⟩ = some (.int .i64 d.room) := fun p => (box7 (by rw [p.ok.block b (Array.getElem?_eq_some_iff.1 HBX.out).1]; exact HBX.out)).1.2.2.2.1
  go_enter Tryz.func66, Tryz.ntmps66
  go_upto_region 5 with fail
  refine wp_region_free 14 Up (fun w' => ∃ p : Ups w, w' = p.nx) (ul [(32, UL.is (.pointer (some ⟨b, 0, none⟩))), (36, UL.is (.int .i64 tt))]) (by kernel_rfl) (by kernel_rfl) (ul_ck _) (up_first w) ?_
  simp only [List.take_succ_cons, List.take_zero, List.drop_succ_cons, List.drop_zero]
  refine wf_take 7 rfl ?_
  simp only [List.take_succ_cons, List.take_zero, List.drop_succ_cons, List.drop_zero]
  repeat (go_big_quiet_step (fail))
  refine wpQuiet_nil ?_
  refine wf_nil rfl rfl (by kernel_rfl) rfl (fun w => Below.refl _ _) ?_
  simp only [Act.put, List.setIfInBounds_toArray, List.set_cons_succ, List.set_cons_zero]
  refine wf_take 3 rfl ?_
  simp only [List.take_succ_cons, List.take_zero, List.drop_succ_cons, List.drop_zero]
  repeat (go_big_quiet_step (fail))
  refine wpQuiet_nil ?_
  refine wf_call (V := (UL.is (.int .i64 tt)).1) (vals := [.pointer (some ⟨b, 0, none⟩)]) Tryz.func90 (by kernel_rfl) rfl rfl (by kernel_rfl) (by kernel_rfl) rfl (fun wq hC hK => ?_) (fun u1 hu1 => ?_)
  · obtain ⟨p, rfl⟩ := hC
    exact (HU.out _ p.ok).mono fun e w' ⟨h1, h2⟩ => ⟨_, h1, h2, rfl, trivial⟩
  cases hu1
  simp only [Act.put, List.setIfInBounds_toArray, List.set_cons_succ, List.set_cons_zero]
  refine wf_take 2 rfl ?_
  simp only [List.take_succ_cons, List.take_zero, List.drop_succ_cons, List.drop_zero]
  repeat (go_big_quiet_step (fail))
  refine wpQuiet_nil ?_
  intro wd hC hK
  obtain ⟨p, hp⟩ := hC
  have HBL := Hid.mk' p.ok
  rw [← hp] at HBL
  clear hK hp r3
  clear p
  by_cases hk : d.room - tt < (l.length : Int) - ((o : Int) - i)
  · have HEV : Hid (e = 8) := by show _ = _; rw [HE.out, if_neg (by omega), if_pos hk]
    have HEN : Hid (e ≠ 0) := by have := HEV.out; show _ ≠ _; omega
    have hd3 : decide (d.room - tt < (l.length : Int) - ((o : Int) - i)) = true := decide_eq_true hk
    go_wp2_with fail
    refine (clone_any _ l _ (HV.out.up HBL.out)).mono ?_
    rintro E w2 ⟨v', rfl, hb2, ho2⟩
    obtain ⟨va2, vc2, rfl⟩ := own_sliceN ho2
    have HB2 := Hid.mk' (bt HBL.out hb2)
    have HW := fun u => Hid.mk' (raw_not (.write n i.toNat l) u e (HH.out.below HB2.out) (fun hx => by have := HEN.out; omega))
    clear ho2 hb2
    go_wp2_with fail
    rw [← HEV.out]
    refine (HW _).out.mono ?_
    rintro E w3 ⟨rfl, hT⟩
    have HT := Hid.mk' (hT.of HB2.out (D := D) (fun k hk => .inl hk) fun k hk => (HH.out.hM k hk).1)
    clear hT HW
    go_wp2_with fail
    go_ret
    exact ⟨rfl, HT.out⟩
  · have HEV : Hid (e = 0) := by show _ = _; rw [HE.out, if_neg (by omega), if_neg hk]
    have hd3 : decide (d.room - tt < (l.length : Int) - ((o : Int) - i)) = false := decide_eq_false hk
    go_wp2_with fail
    refine (clone_any _ l _ (HV.out.up HBL.out)).mono ?_
    rintro E w2 ⟨v', rfl, hb2, ho2⟩
    obtain ⟨va2, vc2, rfl⟩ := own_sliceN ho2
    have HB2 := Hid.mk' (bt HBL.out hb2)
    have HW := Hid.mk' (raw_any (.write n i.toNat l) (.iface 152 (.agg #[.string ⟨n.toArray⟩, .int .i64 (i.toNat : Int), .slice va2 l.length vc2])) e (HH.out.grow HB2.out) ⟨_, rfl, (bs_new ho2 HV.out.2).monoS (fun k hk => .inr ⟨Nat.le_trans HBL.out.size hk.1, hk.2⟩), HN.out⟩ (fun _ he => HDK.out.elim id fun h => absurd he h) HL.out HQ.out)
    rw [HIN.out] at HW
    clear ho2 hb2
    go_wp2_with fail
    rw [← HEV.out]
    refine HW.out.mono ?_
    rintro E w3 ⟨rfl, hT⟩
    have HT := Hid.mk' (hT.of HB2.out (D := D) (fun k hk => hk.imp id fun h => h.1) fun k hk => (HH.out.hM k hk).1)
    clear hT HW
    go_wp2_with fail
    go_ret
    exact ⟨rfl, HT.out⟩
end Go.Proofs.YtbmhkdcmepfmbaaGreat
