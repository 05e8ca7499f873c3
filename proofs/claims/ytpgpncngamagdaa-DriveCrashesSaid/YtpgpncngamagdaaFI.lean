/- groynelaw04.files: is a drive, all of it, what the document says? -/
import Derived.Test.YtpgpncngamagdaaPX
import Derived.Test.YtpgpncngamagdaaPZ
set_option linter.unusedVariables false
set_option linter.unusedSimpArgs false
namespace Go.Proofs.Ytpgpncngamagdaa
open Go.RowKit
attribute [local go_sem ↓] Go.wp_at_zero Go.wp_at_succ
theorem nms_all (F : Fl) : nms F [] = F.map (·.1) := by
  unfold nms
  rw [List.filter_eq_self]
  intro s _
  simp [pfx]
theorem take_same {F l : Fl} {k : Nat} (h : F.take k = l.take k) (hk : k < F.length) (hl : k < l.length) (he : F[k] = l[k]) : F.take (k + 1) = l.take (k + 1) := by
  rw [List.take_succ_eq_append_getElem hk, List.take_succ_eq_append_getElem hl, h, he]
def fsB (F l : Fl) : Bool := decide (F = l)
theorem fsB_at {F l : Fl} {k : Nat} (hk : k < F.length) (hl : k < l.length) (he : F[k] ≠ l[k]) : fsB F l = false := by
  unfold fsB
  rw [decide_eq_false_iff_not]
  intro e; subst e; exact he rfl
set_option maxRecDepth 100000 in
set_option maxHeartbeats 8000000 in
theorem files_any {M D A : Nat → Prop} {w : World} {b : Nat} {v : Value} {d : Dm} {l : Fl} (h : DrIs M D w b d) (hv : Ts A w v l) (hd : d.dead = false) (hs : Srt d.seen) (hn : ∀ t ∈ d.seen, t.1.length ≤ maxLen) (hln : ∀ t ∈ l, t.1.length ≤ maxLen) (hlen : d.seen.length ≤ 1000000) (ht : tot d.seen ≤ lim) :
    Calls Try.prog 37 #[.pointer (some ⟨b, 0, none⟩), v] w fun E w' => E = .returned (.bool (fsB d.seen l)) ∧ Below w.heap.size w w' := by
  obtain ⟨la, lc, rfl, hx1, hx2, hx3, hx4⟩ := hv.at
  have HH := Hid.mk' h
  have HV := Hid.mk' hv
  have HD := Hid.mk' hd
  have HS := Hid.mk' hs
  have HN := Hid.mk' hn
  have HLN := Hid.mk' hln
  have HLE := Hid.mk' hlen
  have HT := Hid.mk' ht
  have hll : (l.length : Int) ≤ 1000000 := by omega
  have hsl : (d.seen.length : Int) ≤ 1000000 := by omega
  have HLS : Hid (lsD d [] = d.seen.map (·.1)) := by show _ = _; unfold lsD; rw [hd]; simp [nms_all]
  clear hx1 hx2 hx3 hx4 h hv hd hs hn hln hlen ht
  go_enter Try.func37, Try.ntmps37
  go_wp2_with fail
  refine (list_any [] HH.out (Nat.zero_le _) HLE.out).mono ?_
  rintro E w1 ⟨u1, rfl, o1, b1⟩
  rw [HLS.out] at o1
  have B1 := Hid.mk' b1
  obtain ⟨na, nc, rfl⟩ := o1.slice
  have SS := Hid.mk' (So.ss o1 (by rw [List.length_map]; have := HLE.out; unfold lim; omega))
  rw [List.length_map]
  clear o1 b1
  by_cases hq : d.seen.length = l.length
  case neg =>
    have hq2 : ((d.seen.length : Int) == (l.length : Int)) = false := by simp; omega
    have hq3 : (d.seen.length == l.length) = false := by simpa using hq
    have HF : Hid (fsB d.seen l = false) := by
      show _ = _
      unfold fsB
      rw [decide_eq_false_iff_not]
      intro e; rw [e] at hq; exact hq rfl
    clear hq
    go_wp2_with fail
    go_ret
    exact ⟨by rw [HF.out]; rfl, B1.out⟩
  case pos =>
  have HQ := Hid.mk' hq
  clear hq
  rw [HQ.out]
  go_wp2_with fail
  go_loopw [19] (fun i wr => ∃ k : Nat, k ≤ l.length ∧ i = .int .i64 k ∧ Hid (d.seen.take k = l.take k) ∧ Hid (Below w1.heap.size w1 wr)) (fun i _ => l.length - (intOf i).toNat)
  case atStart => exact ⟨0, by omega, rfl, rfl, Below.refl _ _⟩
  case round =>
    obtain ⟨k, hk, rfl, HE, HB⟩ := hrel
    by_cases hlt : k < l.length
    · have hlt' : (k : Int) < (l.length : Int) := by omega
      have hks : k < d.seen.length := by rw [HQ.out]; exact hlt
      obtain ⟨_, _, ev, _, _, _, HC⟩ := (HV.out.up (bt B1.out HB.out)).at
      cases ev
      obtain ⟨fb, fo, u, rfl, _, c0, c1, hu⟩ := HC k hlt
      obtain ⟨ua, uc, rfl, hxu⟩ := hu.at
      have HU := Hid.mk' hu
      have HTS : Hid (d.seen[k] = l[k] → d.seen.take (k + 1) = l.take (k + 1)) := fun he => take_same HE.out hks hlt he
      have HFB : Hid (d.seen[k] ≠ l[k] → fsB d.seen l = false) := fun he => fsB_at hks hlt he
      have HLK := Hid.mk' (HLN.out l[k] (List.getElem_mem hlt))
      have HGT : Hid (d.seen[k].1 = l[k].1 → rdE d l[k].1 = 0 ∧ rdB d l[k].1 = d.seen[k].2) := fun he => by
        have := fget_of_mem HS.out (s := d.seen[k].1) (l := d.seen[k].2) (List.getElem_mem hks)
        rw [he] at this
        unfold rdE rdB thE foz
        rw [HD.out, this]
        exact ⟨rfl, rfl⟩
      obtain ⟨_, _, en, _, _, hnc⟩ := SS.out.at
      rw [List.length_map, HQ.out] at en
      cases en
      obtain ⟨nb, no, rfl, _, hcn⟩ := hnc k (by rw [List.length_map]; exact hks)
      rw [List.getElem_map] at hcn
      have HCN := Hid.mk' hcn
      have HRL : Hid (∀ n, (rdB d n).length ≤ lim) := fun n => by unfold rdB; split; exact Nat.zero_le _; exact Nat.le_trans (foz_le _ _) HT.out
      clear HC hxu hu hnc hcn
      generalize l[k] = t at *
      generalize d.seen[k] = s at *
      go_upto_region 7 with fail
      obtain ⟨wq, hwq⟩ : ∃ wq, wq = wr.alloc (.cells #[.string ⟨t.1.toArray⟩, .slice ua t.2.length uc] 114) := ⟨_, rfl⟩
      have hbq : Below wr.heap.size wr wq := by rw [hwq]; exact up_alloc _ _
      have haq : wq.heap[wr.heap.size]? = some (.cells #[.string ⟨t.1.toArray⟩, .slice ua t.2.length uc] 114 (0, 0)) := by rw [hwq]; exact heap_alloc_new wr _
      rw [← hwq]
      clear hwq c0 c1
      have HBQ := Hid.mk' hbq
      have HAQ := Hid.mk' haq
      have q0 : wq.cell? ⟨wr.heap.size, 0, none⟩ = some (.string ⟨t.1.toArray⟩) := by simp only [World.cell?, haq]; rfl
      clear hbq haq
      have HWQ := Hid.mk' (bt B1.out (bt HB.out HBQ.out))
      go_wp2_with fail
      refine (read_any t.1 (HH.out.below HWQ.out) HLK.out).mono ?_
      rintro E w2 ⟨v2, rfl, b2, o2⟩
      obtain ⟨ra, rc, rfl⟩ := own_slice o2
      have O2 := Hid.mk' o2
      have B2 := Hid.mk' (bt HBQ.out b2)
      have hax : w2.heap[wr.heap.size]? = _ := (b2.block wr.heap.size (Array.getElem?_eq_some_iff.1 HAQ.out).1).trans HAQ.out
      have p0 : w2.cell? ⟨wr.heap.size, 0, none⟩ = some (.string ⟨t.1.toArray⟩) := by simp only [World.cell?, hax]; rfl
      have p1 : w2.cell? ⟨wr.heap.size, 1, none⟩ = some (.slice ua t.2.length uc) := by simp only [World.cell?, hax]; rfl
      have p2 := cell_later (bt HB.out B2.out) HCN.out
      have r0 : ∀ q : Kp (fun _ => False) w2, q.nx.cell? ⟨wr.heap.size, 0, none⟩ = some _ := fun q => q.cell p0 id
      have r1 : ∀ q : Kp (fun _ => False) w2, q.nx.cell? ⟨wr.heap.size, 1, none⟩ = some _ := fun q => q.cell p1 id
      have r2 : ∀ q : Kp (fun _ => False) w2, q.nx.cell? ⟨nb, no + k, none⟩ = some _ := fun q => q.cell p2 id
      clear q0 o2 b2 hax p0 p1 p2
      go_upto_region 8 with fail
      refine wp_region_mix 18 (fun w' => ∃ q : Kp (fun _ => False) w2, w' = q.nx) (by kernel_rfl) (by kernel_rfl) (kp_first _ w2) ?_
      simp only [List.take_succ_cons, List.take_zero, List.drop_succ_cons, List.drop_zero]
      by_cases hnm : s.1 = t.1
      · have hnm2 : (s.1 == t.1) = true := by simpa using hnm
        have HG := Hid.mk' (HGT.out hnm)
        have HRB := Hid.mk' HG.out.2
        rw [HG.out.1]
        have HRLt := HRL.out t.1
        rw [HRB.out] at HRLt O2 ⊢
        refine mx_take 15 rfl ?_
        simp only [List.take_succ_cons, List.take_zero, List.drop_succ_cons, List.drop_zero]
        repeat (go_big_quiet_step (fail))
        refine wpQuiet_nil ?_
        refine mx_call (vals := [.slice ra s.2.length rc, .slice ua t.2.length uc]) Try.func20 (by kernel_rfl) rfl rfl (by kernel_rfl) (by kernel_rfl) (requal_any _ _ s.2 t.2 _ ((O2.out.bs HRLt).up (drew_blx w2 _)) (HU.out.up (bt B2.out (drew_blx w2 _)))) (fun E wa ha => ?_)
        obtain ⟨rfl, hda⟩ := ha
        have hWa : Below w2.heap.size w2 wa := (drew_blx w2 _).trans (hda.below _)
        refine ⟨_, rfl, kp_mk hWa.size fun b hb hx => hWa.block b hb, ?_⟩
        simp only [Act.put, List.setIfInBounds_toArray, List.set_cons_succ, List.set_cons_zero]
        refine mx_take 2 rfl ?_
        simp only [List.take_succ_cons, List.take_zero, List.drop_succ_cons, List.drop_zero]
        repeat (go_big_quiet_step (fail))
        refine wpQuiet_nil ?_
        simp only [wpMix]
        have HWA := Hid.mk' (bt HB.out (bt B2.out hWa))
        clear r0 r1 r2 hda hWa HRLt
        cases hdt : (s.2 == t.2) with
        | true =>
          have he : s = t := Prod.ext hnm (by simpa using hdt)
          have HTK := Hid.mk' (HTS.out he)
          clear hnm he
          go_wp2_with fail
          go_roundw
          case rel => exact ⟨k + 1, by omega, by go_num, HTK.out, HWA⟩
          case measure => simp [intOf]; omega
        | false =>
          have HFK := Hid.mk' (HFB.out (fun e => by subst e; simp at hdt))
          clear hnm
          go_wp2_with fail
          go_ret
          exact ⟨by rw [HFK.out]; rfl, bt B1.out HWA.out⟩
      · have hnm2 : (s.1 == t.1) = false := by simpa using hnm
        have HFK := Hid.mk' (HFB.out (fun e => hnm (by rw [e])))
        clear hnm
        refine mx_take 8 rfl ?_
        simp only [List.take_succ_cons, List.take_zero, List.drop_succ_cons, List.drop_zero]
        repeat (go_big_quiet_step (fail))
        refine wpQuiet_nil ?_
        iterate 2
          with_reducible refine mx_skip (by kernel_rfl) ?_
          simp only [Act.put, List.setIfInBounds_toArray, List.set_cons_succ, List.set_cons_zero]
        refine mx_take 2 rfl ?_
        simp only [List.take_succ_cons, List.take_zero, List.drop_succ_cons, List.drop_zero]
        repeat (go_big_quiet_step (fail))
        refine wpQuiet_nil ?_
        iterate 5
          with_reducible refine mx_skip (by kernel_rfl) ?_
          simp only [Act.put, List.setIfInBounds_toArray, List.set_cons_succ, List.set_cons_zero]
        refine mx_take 1 rfl ?_
        simp only [List.take_succ_cons, List.take_zero, List.drop_succ_cons, List.drop_zero]
        repeat (go_big_quiet_step (fail))
        refine wpQuiet_nil ?_
        simp only [wpMix]
        have HWA := Hid.mk' (bt HB.out (bt B2.out (drew_blx w2 _)))
        clear r0 r1 r2
        go_wp2_with fail
        go_ret
        exact ⟨by rw [HFK.out]; rfl, bt B1.out HWA.out⟩
    · obtain rfl : k = l.length := by omega
      have hlt' : ¬ (l.length : Int) < (l.length : Int) := by omega
      have HF : Hid (fsB d.seen l = true) := by
        show _ = _
        unfold fsB
        rw [decide_eq_true_eq]
        have h1 := HE.out
        rw [List.take_length, ← HQ.out, List.take_length] at h1
        exact h1
      go_wp2_with fail
      go_ret
      exact ⟨by rw [HF.out]; rfl, bt B1.out HB.out⟩
end Go.Proofs.Ytpgpncngamagdaa
