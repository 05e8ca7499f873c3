/- groynelaw04.DriveClears: the walk. -/
import Derived.Test.YtpgpncngamagdaaCEx
set_option linter.unusedVariables false
set_option linter.unusedSimpArgs false
namespace Go.Proofs.Ytpgpncngamagdaa
open Go.RowKit
theorem rw_clear {A : Nat → Prop} {w wx : World} {b : Nat} {d : Dm} {v : Value} (first : List By) (h : Rw w b d wx) (hv : Ss A wx v first) (hbd : Bd 1000000 1000 1000 d.room d) (hnm : ∀ s ∈ nms d.seen [], s.length ≤ maxLen) :
    Calls Try.prog 33 #[.pointer (some ⟨b, 0, none⟩), v] wx fun E w' => E = .returned (.int .i64 (clD d first).1) ∧ Rw w b (clD d first).2 w' := by
  obtain ⟨h1, M, D, h2, h3, h4⟩ := h
  refine (clear_any first h2 hv hbd hnm).mono ?_
  rintro E w' ⟨e, ht⟩
  exact ⟨e, Rw.turn h1 h3 h4 ht⟩
theorem rw_app1 {A : Nat → Prop} {w wx : World} {b k : Nat} {d : Dm} {v : Value} (n : By) (x : UInt8) (h : Rw w b d wx) (hv : Bs A wx v [x]) (hc : Cs0 k d) (hk : k ≤ 900) (hn : n.length ≤ maxLen) :
    Calls Try.prog 13 #[.pointer (some ⟨b, 0, none⟩), .string ⟨n.toArray⟩, v] wx fun E w' => E = .returned (.int .i64 0) ∧ Rw w b (apD d n [x]) w' := by
  obtain ⟨h1, M, D, h2, h3, h4⟩ := h
  have hw := hc.wr (by omega) n [x] rfl
  have hb := hc.bd
  have h5 := hb.tot
  have h6 := foz_le d.seen n
  have hlim : lim = 140737488351232 := rfl
  refine (append_any n [x] v h2 hn hv (by omega) (by rw [hb.room]; decide) (fun _ => by simp; omega) (by have := hb.len; unfold maxLen; omega) (by have := hb.que; omega)).mono ?_
  rintro E w' ⟨e, ht⟩
  rw [hw] at e
  rw [hc.err] at e
  rw [Int.toNat_natCast] at ht
  exact ⟨e, Rw.turn h1 h3 h4 ht⟩
theorem rw_listN {w wx : World} {b : Nat} {d : Dm} (h : Rw w b d wx) (hn : d.seen.length ≤ 1000) : Calls Try.prog 29 #[.pointer (some ⟨b, 0, none⟩), .string ⟨#[]⟩] wx (RlPost wx (lsD d [])) := by
  obtain ⟨h1, M, D, h2, h3, h4⟩ := h
  exact list_any [] h2 (by decide) (by omega)
theorem rw_readN {w wx : World} {b : Nat} {d : Dm} (n : By) (h : Rw w b d wx) (hn : n.length ≤ maxLen) : Calls Try.prog 19 #[.pointer (some ⟨b, 0, none⟩), .string ⟨n.toArray⟩] wx (ReadPost wx d n) := by
  obtain ⟨h1, M, D, h2, h3, h4⟩ := h
  exact read_any n h2 hn
theorem rw_que {w wx : World} {b : Nat} {d : Dm} (h : Rw w b d wx) : Calls Try.prog 34 #[.pointer (some ⟨b, 0, none⟩)] wx fun E w' => E = .returned (.int .i64 (d.queue.length : Int)) ∧ wx = w' := by
  obtain ⟨h1, M, D, h2, h3, h4⟩ := h
  exact queue_any h2
theorem rw_crashN {w wx : World} {b : Nat} {d : Dm} (keep : Int) (h : Rw w b d wx) (hQ : Qok d.safe d.queue) (hl : d.safe.length ≤ 1000 ∧ d.queue.length ≤ 1000) (hu : units d.queue ≤ 1000) (hk1 : -9223372036854775808 ≤ keep) (hk2 : keep ≤ 9223372036854775807) : Calls Try.prog 23 #[.pointer (some ⟨b, 0, none⟩), .int .i64 keep] wx fun E w' => E = .returned (.tuple #[]) ∧ Rw w b (crD d keep) w' := by
  obtain ⟨h1, M, D, h2, h3, h4⟩ := h
  refine (crash_any keep h2 hQ (by unfold maxLen; omega) (by omega) hk1 hk2 (by omega)).mono ?_
  rintro E w' ⟨e, ht⟩
  exact ⟨e, Rw.turn h1 h3 h4 ht⟩
theorem lsD_len (S : Fl) : (lsD (rq S false 0) []).length = S.length := by
  show (nms S []).length = _
  rw [nms_all, List.length_map]
theorem tot_small {F : Fl} (h : ∀ x ∈ F, x.2.length ≤ 1000) (hl : F.length ≤ 1000) : tot F ≤ 1000000 := by
  have : tot F ≤ F.length * 1000 := by
    clear hl
    unfold tot
    induction F with
    | nil => simp
    | cons a r ih =>
      have h1 := h a (List.mem_cons_self ..)
      have h2 := ih fun x hx => h x (List.mem_cons_of_mem _ hx)
      simp only [List.map_cons, List.sum_cons, List.length_cons]
      omega
  omega
theorem bd_rq {S : Fl} (h : Srt S) (hl : S.length ≤ 1000) (ht : ∀ x ∈ S, x.2.length ≤ 1000) (a : Bool) (m : Int) : Bd 1000000 1000 1000 (rq S a m).room (rq S a m) := ⟨h, tot_small ht hl, hl, Nat.zero_le _, rfl⟩
theorem two_ss {w : World} (x y : By) : Ss (Lt (w.heap.size + 1)) (w.alloc (.cells #[.string ⟨x.toArray⟩, .string ⟨y.toArray⟩] 9)) (.slice (some ⟨w.heap.size, 0, none⟩) 2 2) [x, y] := by
  refine ⟨⟨rfl, _, _, rfl, Nat.le_refl _, by simp, fun j u hj => ⟨_, _, rfl, Nat.lt_succ_self _, ?_⟩⟩, by unfold lim; simp⟩
  match j, hj with
  | 0, hj => simp [sv] at hj; subst hj; simp
  | 1, hj => simp [sv] at hj; subst hj; simp
/-- names, at most twenty -/
theorem ss_hi {A : Nat → Prop} {w : World} {a : Option Addr} {c m : Nat} {l : List By} (h : Ss A w (.slice a l.length c) l) (hm : m ≤ l.length) : Ss A w (.slice a m c) (l.take m) := by
  obtain ⟨hrow, h4⟩ := h
  have R2 := hrow.cutTo hm
  have e2 : (l.take m).length = m := by rw [List.length_take]; omega
  refine ⟨?_, by rw [e2]; omega⟩
  rw [e2]
  unfold sv at R2 ⊢
  rw [List.map_take]
  exact R2
theorem small_files {k : Nat} {d : Dm} (h : Cs0 k d) (hk : k ≤ 1000) : ∀ x ∈ d.seen, x.2.length ≤ 1000 := by
  intro x hx
  have h1 := fget_of_mem h.bd.srt (s := x.1) (l := x.2) hx
  have h2 := foz_le d.seen x.1
  have h3 := h.bd.tot
  unfold foz at h2
  rw [h1] at h2
  simp only [Option.getD_some] at h2
  omega
theorem arD_rq {F : Fl} {m : Int} (h : 0 ≤ m) : arD (rq F false 0) m = rq F true m := by unfold arD rq; rw [decide_eq_true h]
set_option maxRecDepth 100000 in
set_option maxHeartbeats 8000000 in
theorem driveClears_any {A : Nat → Prop} {w : World} {v : Value} {names : List By} (arm keep : Int) (ha1 : -9223372036854775808 ≤ arm) (ha2 : arm ≤ 9223372036854775807) (hk1 : -9223372036854775808 ≤ keep) (hk2 : keep ≤ 9223372036854775807) (h : Ss A w v names) (hn : ∀ s ∈ names, s.length ≤ maxLen) :
    Calls Try.prog 6 #[v, .int .i64 arm, .int .i64 keep] w fun e w' => e = .returned (.bool true) ∧ Below w.heap.size w w' := by
  have hlen : names.length * 16 ≤ 140737488351232 := h.2
  have hlen' : (names.length : Int) ≤ 140737488351232 := by omega
  obtain ⟨va, vc, rfl, hc, hx0, hx1⟩ := h.at
  have HV := Hid.mk' h.toLt
  have HN := Hid.mk' hn
  have HK := Hid.mk' (⟨ha1, ha2, hk1, hk2⟩ : _ ∧ _ ∧ _ ∧ _)
  clear h hn hx0 hx1 ha1 hk1 hk2
  go_enter Try.func6, Try.ntmps6
  go_wp2_with fail
  refine (awake_any w).mono ?_
  rintro E w1 ⟨rfl, b1⟩
  have B1 := Hid.mk' b1
  clear b1
  go_upto_if 19 with fail
  go_cut [0] (fun q wx => Hid (Below w.heap.size w wx) ∧ ∃ a c L, q = .slice a (List.length L) c ∧ Hid (Ss (Lt w.heap.size) w q L) ∧ L.length ≤ 20 ∧ Hid (∀ s ∈ L, s.length ≤ maxLen))
  case first =>
    by_cases hk : 20 < names.length
    · have hk' : (20 : Int) < (names.length : Int) := by omega
      have hss := ss_hi HV.out (m := 20) (by omega)
      have e20 : (names.take 20).length = 20 := by rw [List.length_take]; omega
      have HSS : Hid (Ss (Lt w.heap.size) w (.slice va (names.take 20).length vc) (names.take 20)) := by rw [e20]; exact hss
      have HNN : Hid (∀ s ∈ names.take 20, s.length ≤ maxLen) := fun s hs => HN.out s (List.mem_of_mem_take hs)
      have HE := Hid.mk' e20
      clear e20 hss hk
      go_wp2_with fail
      go_meet
      exact ⟨B1, va, vc, names.take 20, by rw [HE.out], by show Ss _ _ _ _; have := HSS.out; rw [HE.out] at this; exact this, by have := HE.out; omega, HNN⟩
    · have hk' : ¬ (20 : Int) < (names.length : Int) := by omega
      go_wp2_with fail
      go_meet
      exact ⟨B1, va, vc, names, rfl, HV, by omega, HN⟩
  case rest =>
  obtain ⟨BX, la, lc, L, rfl, HL, hL20, HLN⟩ := hcut
  rename World => w2
  clear HV HN B1 hlen hlen' hc
  have hL20' : (L.length : Int) ≤ 20 := by omega
  go_wp2_with fail
  refine (new_any w2 1048576).mono ?_
  rintro E w3 ⟨rfl, b3, hd3⟩
  obtain ⟨b, hb⟩ : ∃ b, b = w2.heap.size := ⟨_, rfl⟩
  have HX3 : Hid (Rw w b (rq [] false 0) w3) := by
    rw [hb]
    exact ⟨bt BX.out b3, _, _, hd3, fun k h => h.elim, BX.out.size⟩
  rw [← hb]
  clear hb hd3 b3 BX
  go_wp2_with fail
  go_loopw [25] (fun i wr => ∃ k : Nat, k ≤ L.length ∧ i = .int .i64 k ∧ Hid (∃ d, Rw w b d wr ∧ Cs0 k d)) (fun i _ => L.length - (intOf i).toNat)
  case atStart => exact ⟨0, by omega, rfl, ⟨_, HX3.out, Cs0.new⟩⟩
  case round =>
  clear HX3
  obtain ⟨k, hk, rfl, HP⟩ := hrel
  obtain ⟨d, hrw, hcs⟩ := HP.out
  have HRW := Hid.mk' hrw
  have HCS := Hid.mk' hcs
  clear hrw hcs HP
  by_cases hlt : k < L.length
  · have hlt' : (k : Int) < (L.length : Int) := by omega
    obtain ⟨_, _, e9, _, _, H9⟩ := (HL.out.up HRW.out.below).at
    cases e9
    obtain ⟨bb, oo, rfl, _, hu⟩ := H9 k hlt
    have HLK := Hid.mk' (HLN.out L[k] (List.getElem_mem hlt))
    clear H9
    generalize L[k] = x at *
    have HA := Hid.mk' (rw_app1 x 1 (HRW.out.up (up_alloc wr (.cells (bv [1]).toArray 5))) (bs_lit (l := [1]) (by decide)) HCS.out (by omega) HLK.out)
    have HC2 := Hid.mk' (HCS.out.app (by omega) x [1] rfl HLK.out).1
    clear HRW HCS
    go_wp2_with fail
    refine HA.out.mono ?_
    rintro E w4 ⟨rfl, x4⟩
    have X4 := Hid.mk' x4
    clear x4 HA hu
    go_wp2_with fail
    go_roundw
    case rel => exact ⟨k + 1, by omega, by go_num, ⟨_, X4.out, HC2.out⟩⟩
    case measure => simp [intOf]; omega
  · obtain rfl : k = L.length := by omega
    have HA := Hid.mk' (rw_app1 keyB 2 (HRW.out.up (up_alloc wr (.cells (bv [2]).toArray 5))) (bs_lit (l := [2]) (by decide)) HCS.out (by omega) (by decide))
    obtain ⟨hc2, hk2⟩ := HCS.out.app (by omega) keyB [2] rfl (by decide)
    have HC2 := Hid.mk' hc2
    have HKY := Hid.mk' hk2
    clear HRW HCS hc2 hk2 hlt HL HLN
    generalize apD d keyB [2] = d4 at *
    go_wp2_with fail
    refine HA.out.mono ?_
    rintro E w4 ⟨rfl, x4⟩
    have HFL := rw_flush x4
    rw [HC2.out.flush, HC2.out.err] at HFL
    have HFL := Hid.mk' HFL
    have HF : Hid (Srt d4.seen ∧ d4.seen.length ≤ 21 ∧ (∀ s ∈ nms d4.seen [], s.length ≤ maxLen) ∧ ∀ x ∈ d4.seen, x.2.length ≤ 1000) := ⟨HC2.out.bd.srt, by have := HC2.out.bd.len; omega, nms_nm HC2.out.nm, small_files HC2.out (by omega)⟩
    have HFN := Hid.mk' HC2.out.nm
    clear x4 HA HC2
    generalize d4.seen = F at *
    go_wp2_with fail
    refine HFL.out.mono ?_
    rintro E w5 ⟨rfl, x5⟩
    have X5 := Hid.mk' x5
    clear x5 HFL
    have HL5 := Hid.mk' (rw_listN X5.out (by have := HF.out.2.1; show F.length ≤ _; omega))
    go_wp2_with fail
    refine HL5.out.mono ?_
    rintro E w6 ⟨v6, rfl, o6, b6⟩
    obtain ⟨a6, c6, rfl⟩ := o6.slice
    rw [show (lsD (rq F false 0) []).length = F.length from lsD_len F] at *
    have X6 := Hid.mk' (X5.out.up b6)
    clear o6 b6 X5 HL5
    go_upto_if 43 with fail
    go_cut [10] (fun q10 wx => q10 = .int .i64 F.length ∧ ∃ a m, Hid (Rw w b (rq F a m) wx) ∧ Hid (arm < 0 → a = false))
    case first =>
      by_cases hm : 0 ≤ arm
      · have HAR := Hid.mk' (rw_arm arm X6.out HK.out.2.1)
        rw [arD_rq hm] at HAR
        go_wp2_with fail
        refine HAR.out.mono ?_
        rintro E w7 ⟨rfl, x7⟩
        have X7 := Hid.mk' x7
        clear x7 HAR
        go_wp2_with fail
        go_meet
        exact ⟨rfl, _, _, X7, fun h => absurd h (by omega)⟩
      · have hm' : arm < 0 := by omega
        go_wp2_with fail
        go_meet
        exact ⟨rfl, _, _, X6, fun _ => rfl⟩
    case rest =>
    obtain ⟨rfl, a, m, X7, HAM⟩ := hcut
    rename World => w7
    clear X6
    have HOK := Hid.mk' (clear_ok F HF.out.1 HKY.out a m keep)
    have HCL := Hid.mk' (rw_clear [keyB, noneB] (X7.out.up (up_alloc w7 (.cells #[.string ⟨keyB.toArray⟩, .string ⟨noneB.toArray⟩] 9))) (two_ss keyB noneB) (bd_rq HF.out.1 (by have := HF.out.2.1; omega) HF.out.2.2.2 a m) HF.out.2.2.1)
    have hkb : (⟨keyB.toArray⟩ : ByteArray) = ⟨#[107, 101, 121]⟩ := rfl
    have hnb : (⟨noneB.toArray⟩ : ByteArray) = ⟨#[110, 111, 110, 101]⟩ := rfl
    rw [hkb, hnb] at HCL
    clear hkb hnb
    generalize clD (rq F a m) [keyB, noneB] = p at *
    go_wp2_with fail
    refine HCL.out.mono ?_
    rintro E w8 ⟨rfl, x7⟩
    have X7 := Hid.mk' x7
    clear x7 HCL
    obtain ⟨hcode, hq1, hq2, hq3, S, hS1, hS2, hS3, hS4, hS5, hS6⟩ := HOK.out
    have hFL := HF.out.2.1
    have CR := Hid.mk' (rw_crashN keep X7.out hq1 (by omega) (by omega) HK.out.2.2.1 HK.out.2.2.2)
    rw [hS1] at CR
    have HS : Hid (Srt S ∧ S.length ≤ 1000 ∧ (∀ s ∈ nms S [], s.length ≤ maxLen) ∧ ∀ x ∈ S, x.2.length ≤ 1000) := ⟨hS2, by omega, nms_nm fun x hx => HFN.out x (hS4 x hx), fun x hx => HF.out.2.2.2 x (hS4 x hx)⟩
    have HSL : Hid (S.length ≤ 21) := by show _ ≤ _; omega
    have HCS : Hid ((p.1 = 0 ∧ S = []) ∨ (p.1 = 9 ∧ ¬ arm < 0 ∧ S = F ∧ rdE (rq S false 0) keyB = 0) ∨ (p.1 = 9 ∧ ¬ arm < 0 ∧ rdE (rq S false 0) keyB = 6)) := by
      rcases hcode with h0 | ⟨h9, h1⟩
      · exact .inl ⟨h0, hS5 h0⟩
      · have hna : ¬ arm < 0 := fun ha => by have := HAM.out ha; rw [this] at h1; cases h1
        by_cases hf : (fget S keyB).isSome = true
        · exact .inr (.inl ⟨h9, hna, hS6 hf, by unfold rdE thE; rw [if_neg (by simp [rq])]; exact if_pos hf⟩)
        · exact .inr (.inr ⟨h9, hna, by unfold rdE thE; rw [if_neg (by simp [rq])]; exact if_neg hf⟩)
    obtain ⟨e0, he0⟩ : ∃ e, e = p.1 := ⟨_, rfl⟩
    rw [← he0] at HCS ⊢
    clear he0 hcode hq1 hq2 hq3 hS1 hS2 hS3 hS4 hS5 hS6 HOK HAM hFL HKY HFN HF
    have HF : Hid True := trivial
    rcases HCS.out with ⟨rfl, hSe⟩ | ⟨rfl, hna, hSe, hf⟩ | ⟨rfl, hna, hf⟩
    case inl =>
      have HSe := Hid.mk' hSe
      clear HCS HSL hSe
      go_wp2_with fail
      refine CR.out.mono ?_
      rintro E w8 ⟨rfl, x8⟩
      have X8 := Hid.mk' x8
      clear x8 CR X7
      have HL8 := Hid.mk' (rw_listN X8.out HS.out.2.1)
      clear HF
      go_wp2_with fail
      refine HL8.out.mono ?_
      rintro E w9 ⟨v9, rfl, o9, b9⟩
      obtain ⟨a9, c9, rfl⟩ := o9.slice
      rw [show (lsD (rq S false 0) []).length = S.length from lsD_len S] at *
      have X9 := Hid.mk' (X8.out.up b9)
      have HR9 := Hid.mk' (rw_readN keyB X9.out (by decide))
      clear o9 b9 X8 HL8
      go_wp2_with fail
      refine HR9.out.mono ?_
      rintro E w10 ⟨v10, rfl, b10, o10⟩
      obtain ⟨a10, c10, rfl⟩ := own_sliceN o10
      have X10 := Hid.mk' (X9.out.up b10)
      have HC10 := Hid.mk' (rw_clear (A := fun _ => True) [] (v := .slice none 0 0) X10.out ⟨Row.void (fun _ => rfl), by decide⟩ (bd_rq HS.out.1 HS.out.2.1 HS.out.2.2.2 false 0) HS.out.2.2.1)
      rw [clD_un S HS.out.1] at HC10
      clear o10 b10 X9 HR9 HS
      rw [show rdE (rq S false 0) keyB = 6 by rw [HSe.out]; rfl]
      have hl0 : ¬ (0 : Int) < (S.length : Int) := by rw [HSe.out]; decide
      have hl1 : ¬ 0 < S.length := by rw [HSe.out]; decide
      clear HSe
      go_wp2_with fail
      refine HC10.out.mono ?_
      rintro E w11 ⟨rfl, x11⟩
      have X11 := Hid.mk' x11
      clear x11 HC10 X10
      go_wp2_with fail
      refine (rw_listN X11.out (by simp [rq])).mono ?_
      rintro E w12 ⟨v12, rfl, o12, b12⟩
      obtain ⟨a12, c12, rfl⟩ := o12.slice
      rw [show (lsD (rq [] false 0) []).length = 0 from rfl] at *
      have X12 := Hid.mk' (X11.out.up b12)
      clear o12 b12 X11
      go_wp2_with fail
      refine (rw_que X12.out).mono ?_
      rintro E w13 ⟨rfl, rfl⟩
      go_wp2_with fail
      go_ret
      exact ⟨rfl, X12.out.below⟩
  
    case inr.inl =>
      subst hSe
      have HRE := Hid.mk' hf
      clear HCS hf
      go_wp2_with fail
      refine CR.out.mono ?_
      rintro E w8 ⟨rfl, x8⟩
      have X8 := Hid.mk' x8
      clear x8 CR X7
      have HL8 := Hid.mk' (rw_listN X8.out HS.out.2.1)
      clear HF
      go_wp2_with fail
      refine HL8.out.mono ?_
      rintro E w9 ⟨v9, rfl, o9, b9⟩
      obtain ⟨a9, c9, rfl⟩ := o9.slice
      rw [show (lsD (rq S false 0) []).length = S.length from lsD_len S] at *
      have X9 := Hid.mk' (X8.out.up b9)
      have HR9 := Hid.mk' (rw_readN keyB X9.out (by decide))
      clear o9 b9 X8 HL8
      go_wp2_with fail
      refine HR9.out.mono ?_
      rintro E w10 ⟨v10, rfl, b10, o10⟩
      obtain ⟨a10, c10, rfl⟩ := own_sliceN o10
      have X10 := Hid.mk' (X9.out.up b10)
      have HC10 := Hid.mk' (rw_clear (A := fun _ => True) [] (v := .slice none 0 0) X10.out ⟨Row.void (fun _ => rfl), by decide⟩ (bd_rq HS.out.1 HS.out.2.1 HS.out.2.2.2 false 0) HS.out.2.2.1)
      rw [clD_un S HS.out.1] at HC10
      clear o10 b10 X9 HR9 HS
      rw [HRE.out]
      have hSl : (S.length : Int) ≤ 21 := by have := HSL.out; omega
      clear HRE HSL
      go_wp2_with fail
      refine HC10.out.mono ?_
      rintro E w11 ⟨rfl, x11⟩
      have X11 := Hid.mk' x11
      clear x11 HC10 X10
      go_wp2_with fail
      refine (rw_listN X11.out (by simp [rq])).mono ?_
      rintro E w12 ⟨v12, rfl, o12, b12⟩
      obtain ⟨a12, c12, rfl⟩ := o12.slice
      rw [show (lsD (rq [] false 0) []).length = 0 from rfl] at *
      have X12 := Hid.mk' (X11.out.up b12)
      clear o12 b12 X11
      go_wp2_with fail
      refine (rw_que X12.out).mono ?_
      rintro E w13 ⟨rfl, rfl⟩
      go_wp2_with fail
      go_ret
      exact ⟨rfl, X12.out.below⟩
  
    case inr.inr =>
      have HRE := Hid.mk' hf
      clear HCS hf
      go_wp2_with fail
      refine CR.out.mono ?_
      rintro E w8 ⟨rfl, x8⟩
      have X8 := Hid.mk' x8
      clear x8 CR X7
      have HL8 := Hid.mk' (rw_listN X8.out HS.out.2.1)
      clear HF
      go_wp2_with fail
      refine HL8.out.mono ?_
      rintro E w9 ⟨v9, rfl, o9, b9⟩
      obtain ⟨a9, c9, rfl⟩ := o9.slice
      rw [show (lsD (rq S false 0) []).length = S.length from lsD_len S] at *
      have X9 := Hid.mk' (X8.out.up b9)
      have HR9 := Hid.mk' (rw_readN keyB X9.out (by decide))
      clear o9 b9 X8 HL8
      go_wp2_with fail
      refine HR9.out.mono ?_
      rintro E w10 ⟨v10, rfl, b10, o10⟩
      obtain ⟨a10, c10, rfl⟩ := own_sliceN o10
      have X10 := Hid.mk' (X9.out.up b10)
      have HC10 := Hid.mk' (rw_clear (A := fun _ => True) [] (v := .slice none 0 0) X10.out ⟨Row.void (fun _ => rfl), by decide⟩ (bd_rq HS.out.1 HS.out.2.1 HS.out.2.2.2 false 0) HS.out.2.2.1)
      rw [clD_un S HS.out.1] at HC10
      clear o10 b10 X9 HR9 HS
      rw [HRE.out]
      have hSl : (S.length : Int) ≤ 21 := by have := HSL.out; omega
      clear HRE HSL
      go_wp2_with fail
      refine HC10.out.mono ?_
      rintro E w11 ⟨rfl, x11⟩
      have X11 := Hid.mk' x11
      clear x11 HC10 X10
      go_wp2_with fail
      refine (rw_listN X11.out (by simp [rq])).mono ?_
      rintro E w12 ⟨v12, rfl, o12, b12⟩
      obtain ⟨a12, c12, rfl⟩ := o12.slice
      rw [show (lsD (rq [] false 0) []).length = 0 from rfl] at *
      have X12 := Hid.mk' (X11.out.up b12)
      clear o12 b12 X11
      go_wp2_with fail
      refine (rw_que X12.out).mono ?_
      rintro E w13 ⟨rfl, rfl⟩
      go_wp2_with fail
      go_ret
      exact ⟨rfl, X12.out.below⟩
  
end Go.Proofs.Ytpgpncngamagdaa
