/- groynelaw04.DriveRooms. -/
import Derived.Test.YtpgpncngamagdaaPZ
import Derived.Test.YtpgpncngamagdaaPY
set_option linter.unusedVariables false
set_option linter.unusedSimpArgs false
namespace Go.Proofs.Ytpgpncngamagdaa
open Go.RowKit
attribute [local go_sem ↓] Go.wp_at_zero Go.wp_at_succ
/-- the drive alone -/
structure Sd (w0 : World) (b : Nat) (d : Dm) (M D : Nat → Prop) (wr : World) : Prop where
  bl : Below w0.heap.size w0 wr
  dr : DrIs M D wr b d
  hM : ∀ k, M k → w0.heap.size ≤ k
  hb : w0.heap.size ≤ b
theorem Sd.up {w0 wr w2 : World} {b : Nat} {d : Dm} {M D : Nat → Prop} (h : Sd w0 b d M D wr) (hb : Below wr.heap.size wr w2) : Sd w0 b d M D w2 :=
  ⟨bt h.bl hb, h.dr.below hb, h.hM, h.hb⟩
def Rl (w0 : World) (b : Nat) (l : List Ac) (room : Int) (k : Nat) (wr : World) : Prop :=
  ∃ (d : Dm) (r : Rd) (M D : Nat → Prop) (T : Nat), Sd w0 b d M D wr ∧ Eqv d r ∧ Gd T k r ∧ T ≤ smd (l.take k) ∧ r.room = room
theorem plR_room (r : Rd) (a : Ac) : (plR r a).room = r.room := by
  have h := (arm1_room r).1
  unfold plR rfQ rfF rfA rfC rfW
  repeat (first | rfl | exact h | split)
theorem nms_nil (F : Fl) : nms F [] = F.map (·.1) := by
  unfold nms
  rw [List.filter_eq_self]
  intro s _
  simp [pfx]
def gfl (d : Dm) : Fl := if d.dead then [] else d.seen
theorem gfl_facts (d : Dm) (hs : Srt d.seen) (hn : ∀ t ∈ d.seen, t.1.length ≤ maxLen) : lsD d [] = (gfl d).map (·.1) ∧ (∀ k (h : k < (gfl d).length), szD d (gfl d)[k].1 = ((gfl d)[k].2.length : Int)) ∧ tot (gfl d) ≤ tot d.seen ∧ (d.dead = false → tot (gfl d) = tot d.seen) ∧ (gfl d).length ≤ d.seen.length ∧ ∀ t ∈ gfl d, t.1.length ≤ maxLen := by
  unfold lsD szD gfl
  cases hd : d.dead
  · refine ⟨by simp [nms_nil], fun k h => ?_, by simp, fun _ => by simp, by simp, by simpa using hn⟩
    simp only [Bool.false_eq_true, if_false] at h ⊢
    have := fget_of_mem hs (s := d.seen[k].1) (l := d.seen[k].2) (List.getElem_mem h)
    unfold foz; rw [this]; rfl
  · refine ⟨rfl, fun k h => ?_, by simp [tot], fun h => ?_, by simp, by simp⟩
    · simp at h
    · cases h
set_option maxRecDepth 100000 in
set_option maxHeartbeats 8000000 in
/-- groynelaw04.DriveRooms -/
theorem driveRooms_any {A0 : Nat → Prop} {w : World} {v : Value} {l : List Ac} (room : Int) (hroom : room ≤ 9223372036854775807) (hroom2 : -9223372036854775808 ≤ room) (h : As A0 w v l) (hs : smd l ≤ 2000000) : Calls Try.prog 5 #[.int .i64 room, v] w fun e w' => e = .returned (.bool true) ∧ Below w.heap.size w w' := by
  obtain ⟨va, vc, rfl, hx1⟩ := h.at
  clear hx1
  have HA := Hid.mk' h.andLt
  have HS := Hid.mk' hs
  have HRM := Hid.mk' hroom
  clear h hs
  go_enter Try.func5, Try.ntmps5
  go_wp2_with fail
  refine (awake_any w).mono ?_
  rintro E w4 ⟨rfl, b4⟩
  have B4 := Hid.mk' b4
  clear b4
  go_wp2_with fail
  refine (new_any w4 room).mono ?_
  rintro E W ⟨rfl, b5, hd5⟩
  have HBW := Hid.mk' (bt B4.out b5)
  have HSL : Hid (∀ L, Rl w w4.heap.size L (max 0 room) 0 W) := fun L => ⟨_, _, fun _ => False, fun _ => False, 0, ⟨HBW.out, hd5, fun k hk => False.elim hk, B4.out.size⟩, Eqv.new room, Gd.new room HRM.out, Nat.zero_le _, rfl⟩
  clear b5 hd5
  go_wp2_with fail
  have hcut := cut_any 60 (HA.out.up HBW.out) (by decide)
  rw [show ((60 : Nat) : Int) = 60 from rfl] at hcut
  refine hcut.mono ?_
  rintro E w7 ⟨⟨u7, rfl, hu7⟩, rfl⟩
  obtain ⟨L, hL⟩ : ∃ L, L = l.take 60 := ⟨_, rfl⟩
  rw [← hL] at hu7
  obtain ⟨a7, c7, rfl, hx7⟩ := hu7.at
  have hln : (L.length : Int) ≤ 60 := by rw [hL, List.length_take]; omega
  have HLT : Hid (As (fun k => A0 k ∧ k < w.heap.size) W (.slice a7 L.length c7) L) := hu7
  have HSM : Hid (∀ k, k ≤ L.length → smd (L.take k) ≤ 2000000 ∧ ∀ h : k < L.length, smd (L.take (k + 1)) = smd (L.take k) + L[k].da.length) := fun k hk => ⟨Nat.le_trans (smd_take_le L k) (by rw [hL]; exact Nat.le_trans (smd_take_le l 60) HS.out), fun h => smd_take L k h⟩
  clear hL
  clear hx7 hu7 hcut
  go_wp2_with fail
  go_loopw [18] (fun i wr => ∃ k : Nat, k ≤ L.length ∧ i = .int .i64 k ∧ Hid (Rl w w4.heap.size L (max 0 room) k wr)) (fun i _ => L.length - (intOf i).toNat)
  case atStart => exact ⟨0, by omega, rfl, HSL.out L⟩
  case round =>
    clear HSL
    obtain ⟨k, hk, rfl, HP⟩ := hrel
    obtain ⟨d, r, M, D, T, hsl, heq, hgd, hT, hrr⟩ := HP.out
    have HSl := Hid.mk' hsl
    have HEq := Hid.mk' heq
    have HGd := Hid.mk' hgd
    have HTk := Hid.mk' hT
    have HRR := Hid.mk' hrr
    clear hsl heq hgd hT hrr
    by_cases hlt : k < L.length
    · have hlt' : (k : Int) < (L.length : Int) := by omega
      obtain ⟨_, _, ea, _, _, _, H⟩ := (HLT.out.keepS (w' := wr) (fun j hj => (HSl.out.bl.block j hj.2).trans (HBW.out.block j hj.2).symm)).at
      cases ea
      obtain ⟨ab, ao, u, rfl, ⟨d0, d1, d2, d3, d4⟩, hu, hin⟩ := H k hlt
      obtain ⟨ua, uc, rfl, hxu⟩ := hu.at
      have HS1 := (HSM.out k (by omega)).1
      have HS2 := (HSM.out k (by omega)).2 hlt
      have HS3 := (HSM.out (k + 1) (by omega)).1
      have HFIT : Hid (smd (L.take (k + 1)) = smd (L.take k) + L[k].da.length ∧ smd (L.take k) ≤ 2000000 ∧ smd (L.take (k + 1)) ≤ 2000000) := ⟨HS2, HS1, HS3⟩
      clear H hxu HS1 HS2 HS3
      have HU := Hid.mk' hu
      have HIN := Hid.mk' hin
      clear hu hin
      generalize L[k] = a at *
      go_upto_region 7 with fail
      obtain ⟨wq, hwq⟩ : ∃ wq, wq = wr.alloc (.cells #[.int .i64 a.kind, .string ⟨a.nm.toArray⟩, .string ⟨a.tn.toArray⟩, .int .i64 a.n, .slice ua a.da.length uc] 55) := ⟨_, rfl⟩
      have hbq : Below wr.heap.size wr wq := by rw [hwq]; exact up_alloc _ _
      have haq : wq.heap[wr.heap.size]? = some (.cells #[.int .i64 a.kind, .string ⟨a.nm.toArray⟩, .string ⟨a.tn.toArray⟩, .int .i64 a.n, .slice ua a.da.length uc] 55 (0, 0)) := by rw [hwq]; exact heap_alloc_new wr _
      rw [← hwq]
      clear hwq d0 d1 d2 d3 d4
      have HBQ := Hid.mk' hbq
      have HAQ := Hid.mk' haq
      obtain ⟨d0, d1, d2, d3, d4⟩ := box5 haq
      clear hbq haq
      have r0 : ∀ q : Kp (fun _ => False) wq, q.nx.cell? ⟨wr.heap.size, 0, none⟩ = some _ := fun q => q.cell d0 id
      have r1 : ∀ q : Kp (fun _ => False) wq, q.nx.cell? ⟨wr.heap.size, 1, none⟩ = some _ := fun q => q.cell d1 id
      have r2 : ∀ q : Kp (fun _ => False) wq, q.nx.cell? ⟨wr.heap.size, 2, none⟩ = some _ := fun q => q.cell d2 id
      have r3 : ∀ q : Kp (fun _ => False) wq, q.nx.cell? ⟨wr.heap.size, 3, none⟩ = some _ := fun q => q.cell d3 id
      have r4 : ∀ q : Kp (fun _ => False) wq, q.nx.cell? ⟨wr.heap.size, 4, none⟩ = some _ := fun q => q.cell d4 id
      clear d0 d1 d2 d3 d4
      refine wp_region_mix 3 (fun w' => ∃ q : Kp (fun _ => False) wq, w' = q.nx) (by kernel_rfl) (by kernel_rfl) (kp_first _ wq) ?_
      simp only [List.take_succ_cons, List.take_zero, List.drop_succ_cons, List.drop_zero]
      refine mx_take 1 rfl ?_
      simp only [List.take_succ_cons, List.take_zero, List.drop_succ_cons, List.drop_zero]
      repeat (go_big_quiet_step (fail))
      refine wpQuiet_nil ?_
      refine mx_call (vals := [.int .i64 0]) Try.func25 (by kernel_rfl) rfl rfl (by kernel_rfl) (by kernel_rfl) (rnew_any 0) (fun E wa ha => ?_)
      obtain ⟨v6, rfl, hr6, hba⟩ := ha
      have hWa : Below wq.heap.size wq wa := (drew_blx wq _).trans hba
      refine ⟨_, rfl, kp_mk hWa.size fun b hb hx => hWa.block b hb, ?_⟩
      simp only [Act.put, List.setIfInBounds_toArray, List.set_cons_succ, List.set_cons_zero]
      refine mx_take 1 rfl ?_
      simp only [List.take_succ_cons, List.take_zero, List.drop_succ_cons, List.drop_zero]
      repeat (go_big_quiet_step (fail))
      refine wpQuiet_nil ?_
      simp only [wpMix]
      have HRN := Hid.mk' (hr6.andLt)
      have HWQ := Hid.mk' (bt HBQ.out hWa)
      have HWS : Hid (wq.heap.size ≤ wa.heap.size) := hWa.size
      obtain ⟨vs, vq, e6, hts, hos⟩ := hr6
      obtain ⟨sa, sn, sc, rfl⟩ : ∃ a n c, vs = Value.slice a n c := (let ⟨a, c, e, _⟩ := hts.at; ⟨a, _, c, e⟩)
      obtain ⟨qa, qn, qc, rfl⟩ : ∃ a n c, vq = Value.slice a n c := (let ⟨a, c, e, _⟩ := hos.at; ⟨a, _, c, e⟩)
      cases e6
      have HSq := Hid.mk' (HSl.out.up HWQ.out)
      clear hts hos hba hWa r0 r1 r2 r3 r4
      have hlim : lim = 140737488351232 := rfl
      have PL := play_any (Aa := fun j => A0 j ∧ j < w.heap.size) a HSq.out.dr HRN.out (HU.out.up HWQ.out) (fun j hj => by
          have h1 : wq.heap.size ≤ j := hj.1.resolve_left (fun h => h)
          have h2 := HBQ.out.size
          have hbr : w4.heap.size < wr.heap.size := by obtain ⟨_, _, _, hx, _⟩ := HSl.out.dr.ex; exact (Array.getElem?_eq_some_iff.1 hx).1
          exact ⟨fun hm => by have := (HSl.out.dr.hM _ hm).1; omega, by omega⟩) (fun j hj => ⟨fun hm => by have := HSq.out.hM j hm; omega, by have := HSq.out.hb; omega⟩) HEq.out HGd.out (Gd.new 0 (by decide)) ⟨by omega, by omega⟩ ⟨by have := HTk.out; have := HFIT.out.2.1; omega, by omega⟩ HIN.out.1 HIN.out.2.1 ⟨HIN.out.2.2.1, HIN.out.2.2.2⟩ (.inr (by have := HTk.out; have := HFIT.out; omega))
      have HPL := Hid.mk' PL
      clear PL hlim
      go_wp2_with fail
      refine HPL.out.mono ?_
      rintro E2 w2 ⟨v2, rfl, hw2, M2, D2, A2, hd2, hr2, iM, iD, iA, hA2⟩
      have HE9 := Hid.mk' (HEq.out.play HGd.out.tle a).2
      obtain ⟨T9, t91, t92, hg9⟩ := HGd.out.play a HIN.out.1 HIN.out.2.1 HU.out.2 HIN.out.2.2.2 (.inr (by have := HTk.out; have := HFIT.out; have hlim : lim = 140737488351232 := rfl; omega))
      have HG9 := Hid.mk' hg9
      have HT9 : Hid (T9 ≤ smd (L.take (k + 1)) ∧ T9 ≤ lim) := by
        have := HTk.out; have := HFIT.out; have hlim : lim = 140737488351232 := rfl
        exact ⟨by omega, by omega⟩
      have HS9 : Hid (Sd w w4.heap.size (plD d a) M2 D2 w2) := ⟨HSq.out.bl.trans (hw2.below HSq.out.bl.size fun j hj => hj.elim (fun h => by rw [h]; exact HSq.out.hb) fun h => HSq.out.hM j h), hd2, fun j hj => (iM j hj).elim (HSq.out.hM j) fun h => Nat.le_trans HSq.out.bl.size h, HSq.out.hb⟩
      have HR9 : Hid ((plR r a).room = max 0 room) := by show _ = _; rw [plR_room]; exact HRR.out
      clear hw2 hd2 hr2 iM iD iA hA2 hg9 t91 t92 HPL
      obtain ⟨d9, hd9⟩ : ∃ d9, d9 = plD d a := ⟨_, rfl⟩
      rw [← hd9] at HS9 HE9
      obtain ⟨r9, hr9⟩ : ∃ r9, r9 = plR r a := ⟨_, rfl⟩
      rw [← hr9] at HE9 HG9 HR9
      clear hd9 hr9
      have hFs : Fg T9 d9.seen := by rw [HE9.out.seen]; exact Qg.last HG9.out.qg
      have HTT : Hid ((tot d9.seen : Int) ≤ max 0 room) := by
        show _ ≤ _
        have h1 := HG9.out.tle
        rw [← HE9.out.seen, HR9.out] at h1; exact h1
      have HTL : Hid (tot d9.seen ≤ lim) := Nat.le_trans hFs.2.1 HT9.out.2
      have HSL9 : Hid (d9.seen.length ≤ 1000000) := by show _ ≤ _; rw [HE9.out.seen]; have := all_len HG9.out.qg; have := HG9.out.len; unfold cur; omega
      have HGF := Hid.mk' (gfl_facts d9 hFs.1 hFs.2.2)
      clear hFs
      go_wp2_with fail
      refine (used_is HS9.out.dr HTL.out).mono ?_
      rintro E3 w3 ⟨rfl, b3⟩
      have HS3 := Hid.mk' (HS9.out.up b3)
      clear b3
      have hmx : ¬ max room 0 < (tot d9.seen : Int) := by have := HTT.out; omega
      have htb : (tot d9.seen : Int) ≤ 140737488351232 := by have := HTL.out; unfold lim at this; omega
      go_wp2_with fail
      refine (list_any [] HS3.out.dr (Nat.zero_le _) HSL9.out).mono ?_
      rintro E4 w5 ⟨u5', rfl, hu5, b5⟩
      rw [HGF.out.1] at hu5
      have HS5 := Hid.mk' (HS3.out.up b5)
      have hgl : ((gfl d9).length : Int) ≤ 1000000 := by have := HGF.out.2.2.2.2.1; have := HSL9.out; omega
      have HN := Hid.mk' (So.ss hu5 (by have := HGF.out.2.2.2.2.1; have := HSL9.out; rw [List.length_map]; unfold lim; omega))
      obtain ⟨na, nc, rfl⟩ := hu5.slice
      rw [List.length_map]
      have HGT : Hid (∀ j, (tot ((gfl d9).take j) : Int) ≤ 140737488351232) := fun j => by have := tot_take_le (gfl d9) j; have := HGF.out.2.2.1; have := HTL.out; unfold lim at this; omega
      clear hu5 b5
      go_wp2_with fail
      rename World => w5
      go_loop [8, 34] (fun n i => ∃ j : Nat, j ≤ (gfl d9).length ∧ i = .int .i64 j ∧ n = .int .i64 (tot ((gfl d9).take j) : Int)) (fun _ i => (gfl d9).length - (intOf i).toNat)
      case atStart => exact ⟨0, by omega, rfl, by simp [tot]⟩
      case round =>
        obtain ⟨j, hj, rfl, rfl⟩ := hrel
        by_cases hjl : j < (gfl d9).length
        · have hjl' : (j : Int) < ((gfl d9).length : Int) := by omega
          obtain ⟨_, _, en, _, _, hnc⟩ := HN.out.at
          rw [List.length_map] at en
          cases en
          obtain ⟨nb, no, rfl, _, hc⟩ := hnc j (by rw [List.length_map]; exact hjl)
          rw [List.getElem_map] at hc
          have hq := size_any (gfl d9)[j].1 HS5.out.dr (HGF.out.2.2.2.2.2 _ (List.getElem_mem hjl))
          rw [HGF.out.2.1 j hjl] at hq
          have HQ := Hid.mk' hq
          have HTS := Hid.mk' (tot_take (gfl d9) j hjl)
          have hb1 := HGT.out (j + 1)
          rw [HTS.out] at hb1
          have hb2 : (tot ((gfl d9).take j) : Int) + ((gfl d9)[j].2.length : Int) ≤ 140737488351232 := by omega
          clear hq hnc hb1
          generalize (gfl d9)[j] = t at *
          generalize tot ((gfl d9).take j) = z at *
          go_wp2_with fail
          refine HQ.out.mono ?_
          rintro E6 w6 ⟨rfl, rfl⟩
          go_wp2_with fail
          go_round
          case rel => exact ⟨j + 1, by omega, by go_num, by rw [HTS.out]; go_num⟩
          case measure => simp [intOf]; omega
        · obtain rfl : j = (gfl d9).length := by omega
          have hjl' : ¬ ((gfl d9).length : Int) < ((gfl d9).length : Int) := by omega
          rw [List.take_length]
          have HDD := Hid.mk' (dead_any HS5.out.dr)
          have HUS := Hid.mk' (used_is HS5.out.dr HTL.out)
          have HGE := Hid.mk' HGF.out.2.2.2.1
          generalize d9.dead = dd at *
          cases dd
          · have he : (tot (gfl d9) : Int) = (tot d9.seen : Int) := by rw [HGE.out rfl]
            rw [he]
            clear he
            go_wp2_with fail
            refine HDD.out.mono ?_
            rintro E7 w7 ⟨rfl, rfl⟩
            go_wp2_with fail
            refine HUS.out.mono ?_
            rintro E8 w8 ⟨rfl, b8⟩
            have HS8 := Hid.mk' (HS5.out.up b8)
            clear b8
            go_wp2_with fail
            go_roundw
            case rel => exact ⟨k + 1, by omega, by go_num, ⟨_, _, _, _, T9, HS8.out, HE9.out, HG9.out, HT9.out.1, HR9.out⟩⟩
            case measure => simp [intOf]; omega
          · go_wp2_with fail
            refine HDD.out.mono ?_
            rintro E7 w7 ⟨rfl, rfl⟩
            go_wp2_with fail
            go_roundw
            case rel => exact ⟨k + 1, by omega, by go_num, ⟨_, _, _, _, T9, HS5.out, HE9.out, HG9.out, HT9.out.1, HR9.out⟩⟩
            case measure => simp [intOf]; omega
    · obtain rfl : k = L.length := by omega
      have hlt' : ¬ (L.length : Int) < (L.length : Int) := by omega
      go_wp2_with fail
      go_ret
      exact ⟨rfl, HSl.out.bl⟩
end Go.Proofs.Ytpgpncngamagdaa
