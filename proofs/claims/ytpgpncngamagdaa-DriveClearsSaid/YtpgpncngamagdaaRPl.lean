/- DriveReplaces: the walk. -/
import Derived.Test.YtpgpncngamagdaaRPp
set_option linter.unusedVariables false
set_option linter.unusedSimpArgs false
namespace Go.Proofs.Ytpgpncngamagdaa
open Go.RowKit
/-- a drive of the call's own, behind w -/
def Rw (w : World) (b : Nat) (d : Dm) (wx : World) : Prop := Below w.heap.size w wx ∧ ∃ M D : Nat → Prop, DrIs M D wx b d ∧ (∀ k, M k → w.heap.size ≤ k) ∧ w.heap.size ≤ b
theorem Rw.up {w wx wy : World} {b : Nat} {d : Dm} (h : Rw w b d wx) (hb : Below wx.heap.size wx wy) : Rw w b d wy := by
  obtain ⟨h1, M, D, h2, h3, h4⟩ := h
  exact ⟨bt h1 hb, M, D, h2.below hb, h3, h4⟩
theorem Rw.below {w wx : World} {b : Nat} {d : Dm} (h : Rw w b d wx) : Below w.heap.size w wx := h.1
theorem Rw.turn {w wx wy : World} {b : Nat} {d' : Dm} {M D : Nat → Prop} (h1 : Below w.heap.size w wx) (h3 : ∀ k, M k → w.heap.size ≤ k) (h4 : w.heap.size ≤ b) (ht : Turned M D wx b d' wy) : Rw w b d' wy := by
  obtain ⟨hw, M', D', i1, i2, hd⟩ := ht
  refine ⟨h1.trans (hw.below h1.size fun k hk => ?_), M', D', hd, fun k hk => ?_, h4⟩
  · rcases hk with hk | hk
    · omega
    · exact h3 k hk
  · rcases i1 k hk with h | h
    · exact h3 k h
    · exact Nat.le_trans h1.size h
theorem rw_rep {A : Nat → Prop} {w wx : World} {b : Nat} {d : Dm} {v : Value} (l : By) (h : Rw w b d wx) (hv : Bs A wx v l) (hA : ∀ k, A k → k < w.heap.size) (hl : l.length ≤ 5000) (hs : Srt d.seen) (ht : tot d.seen ≤ 100000) (hr : d.room = 1048576) (hsl : d.seen.length ≤ 10) (hql : d.queue = []) :
    Calls Try.prog 40 #[.pointer (some ⟨b, 0, none⟩), .string ⟨#[102]⟩, v] wx fun E w' => E = .returned (.int .i64 (repD d [102] l).1) ∧ Rw w b (repD d [102] l).2 w' := by
  obtain ⟨h1, M, D, h2, h3, h4⟩ := h
  refine (replace_any [102] l h2 hv (fun k hk => ⟨fun hm => ?_, fun e => ?_⟩) (by decide) hs (by omega) (by omega) (by rw [hr]; decide) (by omega) (by rw [hql]; decide)).mono ?_
  · have := hA k hk; have := h3 k hm; omega
  · have := hA k hk; omega
  · rintro E w' ⟨e, ht⟩
    exact ⟨e, Rw.turn h1 h3 h4 ht⟩
theorem rw_arm {w wx : World} {b : Nat} {d : Dm} (n : Int) (h : Rw w b d wx) (hn : n ≤ 9223372036854775807) : Calls Try.prog 32 #[.pointer (some ⟨b, 0, none⟩), .int .i64 n] wx fun E w' => E = .returned (.tuple #[]) ∧ Rw w b (arD d n) w' := by
  obtain ⟨h1, M, D, h2, h3, h4⟩ := h
  refine (arm_any n h2 hn).mono ?_
  rintro E w' ⟨e, ht⟩
  exact ⟨e, Rw.turn h1 h3 h4 ht⟩
theorem rw_crash {w wx : World} {b : Nat} {d : Dm} (keep : Int) (h : Rw w b d wx) (hQ : Qok d.safe d.queue) (hl : d.safe.length + d.queue.length ≤ 10) (hu : units d.queue ≤ 10000) (hk1 : -9223372036854775808 ≤ keep) (hk2 : keep ≤ 9223372036854775807) : Calls Try.prog 23 #[.pointer (some ⟨b, 0, none⟩), .int .i64 keep] wx fun E w' => E = .returned (.tuple #[]) ∧ Rw w b (crD d keep) w' := by
  obtain ⟨h1, M, D, h2, h3, h4⟩ := h
  refine (crash_any keep h2 hQ (by unfold maxLen; omega) (by omega) hk1 hk2 (by omega)).mono ?_
  rintro E w' ⟨e, ht⟩
  exact ⟨e, Rw.turn h1 h3 h4 ht⟩
theorem rw_read {w wx : World} {b : Nat} {d : Dm} (h : Rw w b d wx) : Calls Try.prog 19 #[.pointer (some ⟨b, 0, none⟩), .string ⟨#[102]⟩] wx (ReadPost wx d [102]) := by
  obtain ⟨h1, M, D, h2, h3, h4⟩ := h
  exact read_any [102] h2 (by decide)
theorem rw_list {w wx : World} {b : Nat} {d : Dm} (h : Rw w b d wx) (hn : d.seen.length ≤ 10) : Calls Try.prog 29 #[.pointer (some ⟨b, 0, none⟩), .string ⟨#[]⟩] wx (RlPost wx (lsD d [])) := by
  obtain ⟨h1, M, D, h2, h3, h4⟩ := h
  exact list_any [] h2 (by decide) (by omega)
theorem rw_new (w : World) : Calls Try.prog 12 #[.int .i64 1048576] w fun e w' => e = .returned (.pointer (some ⟨w.heap.size, 0, none⟩)) ∧ Rw w w.heap.size (rq [] false 0) w' := by
  refine (new_any w 1048576).mono ?_
  rintro e w' ⟨rfl, hb, hd⟩
  exact ⟨rfl, hb, _, _, hd, fun k h => h.elim, Nat.le_refl _⟩
theorem Bs.blk {A : Nat → Prop} {w : World} {g n c : Nat} {l : By} (h : Bs A w (.slice (some ⟨g, 0, none⟩) n c) l) : Bs (fun k => k = g) w (.slice (some ⟨g, 0, none⟩) n c) l := by
  obtain ⟨⟨hl, a, c', e, hc, ha, H⟩, h2⟩ := h
  refine ⟨⟨hl, a, c', e, hc, ha, fun j u hj => ?_⟩, h2⟩
  obtain ⟨b, o, k1, k2, k3⟩ := H j u hj
  refine ⟨b, o, k1, ?_, k3⟩
  cases e
  cases k1
  rfl
theorem rw_rep0 {A : Nat → Prop} {w : World} {b : Nat} {d : Dm} {v : Value} (l : By) {wx : World} {M D : Nat → Prop} (h1 : Below w.heap.size w wx) (h2 : DrIs M D wx b d) (h3 : ∀ k, M k → False) (h4 : w.heap.size ≤ b) (hv : Bs A wx v l) (hA : ∀ k, A k → k ≠ b) (hl : l.length ≤ 5000) (hd : d = rq [] false 0) :
    Calls Try.prog 40 #[.pointer (some ⟨b, 0, none⟩), .string ⟨#[102]⟩, v] wx fun E w' => E = .returned (.int .i64 0) ∧ Rw w b (rq [([102], l)] false 0) w' ∧ Wb (fun k => k = b) wx w' := by
  subst hd
  refine (replace_any [102] l h2 hv (fun k hk => ⟨fun hm => h3 k hm, hA k hk⟩) (by decide) (by exact List.Pairwise.nil) (by simp [rq, tot]) (by omega) (by decide) (by decide) (by decide)).mono ?_
  rintro E w' ⟨e, ht⟩
  rw [rep_first l hl] at e ht
  refine ⟨e, Rw.turn h1 (fun k hk => (h3 k hk).elim) h4 ht, ?_⟩
  exact ht.1.mono fun k hk => hk.resolve_right (h3 k)
theorem srt_one (s l : By) : Srt [(s, l)] := List.pairwise_singleton _ _
theorem sok_read (o l : By) (e : Int) (S : Fl) (h : Sok o l e S) (ho : o.length ≤ 5000) (hl : l.length ≤ 5000) : ∃ y : By, Hid (rdE (rq S false 0) [102] = 0 ∧ rdB (rq S false 0) [102] = y) ∧ Hid (y = l ∨ (e ≠ 0 ∧ y = o)) ∧
    Hid (repD (rq S false 0) [102] o = (0, rq [([102], o)] false 0) ∧ Srt S ∧ tot S ≤ 100000 ∧ S.length ≤ 10) := by
  rcases h with rfl | ⟨he, rfl | ⟨x, hx, rfl⟩⟩
  · exact ⟨l, show _ ∧ _ from ⟨rfl, rfl⟩, .inl rfl, show _ ∧ _ from ⟨rep_one l o ho hl, srt_one _ _, by simp [tot]; omega, by simp⟩⟩
  · exact ⟨o, show _ ∧ _ from ⟨rfl, rfl⟩, .inr ⟨he, rfl⟩, show _ ∧ _ from ⟨rep_one o o ho ho, srt_one _ _, by simp [tot]; omega, by simp⟩⟩
  · exact ⟨o, show _ ∧ _ from ⟨rfl, rfl⟩, .inr ⟨he, rfl⟩, show _ ∧ _ from ⟨rep_two o x o ho ho hx, List.pairwise_pair.2 rq_lt, by simp [tot]; omega, by simp⟩⟩
set_option maxRecDepth 100000 in
set_option maxHeartbeats 4000000 in
theorem driveReplaces_any {A : Nat → Prop} {w : World} {v : Value} {two : List By} (arm keep : Int) (ha1 : -9223372036854775808 ≤ arm) (ha2 : arm ≤ 9223372036854775807) (hk1 : -9223372036854775808 ≤ keep) (hk2 : keep ≤ 9223372036854775807) (h : Bss A w v two) :
    Calls Try.prog 8 #[v, .int .i64 arm, .int .i64 keep] w fun e w' => e = .returned (.bool true) ∧ Below w.heap.size w w' := by
  have h24 : two.length * 24 ≤ lim := by obtain ⟨_, _, _, h3⟩ := h; exact h3
  obtain ⟨va, vc, rfl, hc, hn, H⟩ := h.at
  have HH := Hid.mk' H
  have HK := Hid.mk' (⟨ha1, ha2, hk1, hk2⟩ : _ ∧ _ ∧ _ ∧ _)
  unfold lim at h24
  clear h H ha1 ha2 hk1 hk2 hc hn
  go_enter Try.func8, Try.ntmps8
  go_wp2_with fail
  refine (awake_any w).mono ?_
  rintro E w1 ⟨rfl, b1⟩
  have B1 := Hid.mk' b1
  clear b1
  by_cases hk : two.length < 2
  · have hk' : (two.length : Int) < 2 := by omega
    go_wp2_with fail
    go_ret
    exact ⟨rfl, B1.out⟩
  have hk' : ¬ (two.length : Int) < 2 := by omega
  obtain ⟨bb, oo, u0, rfl, hA0, c0, hb0⟩ := HH.out 0 (by omega)
  obtain ⟨_, _, u1, e1, hA1, c1, hb1⟩ := HH.out 1 (by omega)
  cases e1
  have c0 : w1.cell? ⟨bb, oo, none⟩ = some u0 := (B1.out.cell (p := ⟨bb, oo, none⟩) (World.block_lt_of_cell? w ⟨bb, oo, none⟩ c0)).trans c0
  have c1 : w1.cell? ⟨bb, oo + 1, none⟩ = some u1 := (B1.out.cell (p := ⟨bb, oo + 1, none⟩) (World.block_lt_of_cell? w ⟨bb, oo + 1, none⟩ c1)).trans c1
  have hb0 := Hid.mk' (hb0.toLt)
  have hb1 := Hid.mk' (hb1.toLt)
  generalize two[0] = lo at *
  generalize two[1] = lb at *
  obtain ⟨xa, xc, rfl, hx⟩ := hb0.out.at
  obtain ⟨ya, yc, rfl, hy⟩ := hb1.out.at
  clear hx hy HH
  have h2 : 2 ≤ two.length := by omega
  have h2' : (2 : Int) ≤ (two.length : Int) := by omega
  have h3' : (0 : Int) < (two.length : Int) := by omega
  have h4' : (1 : Int) < (two.length : Int) := by omega
  have h3'' : 0 < two.length := by omega
  have h4'' : 1 < two.length := by omega
  clear hk
  go_wp2_with fail
  go_big_region
  clear c0 c1 h2 h2' h3' h4' h3'' h4'' hk' hA0 hA1
  have HB0 := Hid.mk' (hb0.out.up B1.out)
  have HB1 := Hid.mk' (hb1.out.up B1.out)
  by_cases hq0 : lo.length ≤ 5000
  case neg =>
    have hq0' : (5000 : Int) < (lo.length : Int) := by omega
    clear hq0
    go_wp2_with fail
    go_ret
    exact ⟨rfl, B1.out.drew⟩
  by_cases hq1 : lb.length ≤ 5000
  case neg =>
    have hq0' : ¬ (5000 : Int) < (lo.length : Int) := by omega
    have hq1' : (5000 : Int) < (lb.length : Int) := by omega
    clear hq0 hq1
    go_wp2_with fail
    go_ret
    exact ⟨rfl, B1.out.drew⟩
  have hq0' : ¬ (5000 : Int) < (lo.length : Int) := by omega
  have hq1' : ¬ (5000 : Int) < (lb.length : Int) := by omega
  have HQ := Hid.mk' (⟨hq0, hq1⟩ : _ ∧ _)
  clear hq0 hq1
  go_wp2_with fail
  clear hq0' hq1'
  obtain ⟨wr, hwr⟩ : ∃ wr, wr = w1.drew := ⟨_, rfl⟩
  have BR : Hid (Below w.heap.size w wr) := by rw [hwr]; exact B1.out.drew
  rw [← hwr]
  clear hwr B1 HB0 HB1 c0 c1
  refine (new_any wr 1048576).mono ?_
  rintro E w2 ⟨rfl, b2, hd2⟩
  have hbl : wr.heap.size < w2.heap.size := by obtain ⟨_, _, _, hx, _⟩ := hd2.ex; exact (Array.getElem?_eq_some_iff.1 hx).1
  have B2 := Hid.mk' (bt BR.out b2)
  have HD2 := Hid.mk' hd2
  have HBL := Hid.mk' hbl
  have HBB : Hid (w.heap.size ≤ wr.heap.size) := BR.out.size
  obtain ⟨b, hb⟩ : ∃ b, b = wr.heap.size := ⟨_, rfl⟩
  rw [← hb] at HD2 HBL HBB ⊢
  clear b2 hd2 hbl BR hb
  go_wp2_with fail
  refine (spare_any (hb0.out.up B2.out) (by have := HQ.out; omega)).mono ?_
  rintro E w3 ⟨rfl, o3, b3⟩
  have G3 := Hid.mk' (o3.lt w2.heap.size rfl)
  have P3 := own_pre (m := lo.length) o3 (by omega)
  rw [sp_take] at P3
  have HP := Hid.mk' ((P3.bs (by have := HQ.out; unfold lim; omega)).blk)
  have B3 := Hid.mk' (bt B2.out b3)
  have HD3 := Hid.mk' (HD2.out.below b3)
  have O3 := Hid.mk' o3
  clear o3 b3 P3 HD2 B2
  go_wp2_with fail
  refine (rw_rep0 lo B3.out HD3.out (fun k h => h) HBB.out HP.out (fun k hk => by have := HBL.out; omega) HQ.out.1 (by rfl)).mono ?_
  rintro E w4 ⟨rfl, x4, wb4⟩
  have X4 := Hid.mk' x4
  have O4 := Hid.mk' (own_wb O3.out wb4 fun k hk e => by
    have h1 := HBL.out
    have h2 : k = w2.heap.size := by simpa [Value.ownBlock] using e
    omega)
  clear x4 wb4 HP HD3 O3 B3
  go_wp2_with fail
  refine (kept_any (Ob.bs O4.out (by rw [full_len]; have := HQ.out; unfold lim; omega)) (hb0.out.up X4.out.below) (by have := HQ.out; omega)).mono ?_
  rintro E w5 ⟨rfl, b5⟩
  have X5 := Hid.mk' (X4.out.up b5)
  clear X4 O4 b5
  go_upto_if 54 with fail
  go_cut [18] (fun q18 wx => ∃ a m, Hid (Rw w b (rq [([102], lo)] a m) wx) ∧ Hid ((a = true → 0 ≤ m) ∧ (arm < 0 → a = false)))
  case first =>
    by_cases hm : 0 ≤ arm
    · have HM8 : Hid (0 ≤ arm % 8 ∧ arm % 8 ≤ 7) := by show _ ∧ _; omega
      have HAR := Hid.mk' (rw_arm (arm % 8) X5.out (by have := HM8.out; omega))
      rw [show arD (rq [([102], lo)] false 0) (arm % 8) = rq [([102], lo)] true (arm % 8) by unfold arD rq; rw [decide_eq_true HM8.out.1]] at HAR
      go_wp2_with fail
      refine HAR.out.mono ?_
      rintro E w6 ⟨rfl, x6⟩
      have X6 := Hid.mk' x6
      clear x6 HAR
      go_wp2_with fail
      go_meet
      exact ⟨_, _, X6, (⟨fun _ => HM8.out.1, fun h => absurd h (by omega)⟩ : _ ∧ _)⟩
    · go_wp2_with fail
      go_meet
      exact ⟨_, _, X5, (⟨fun h => absurd h (by decide), fun _ => rfl⟩ : _ ∧ _)⟩
  case rest =>
    obtain ⟨a, m, X6, HAM⟩ := hcut
    rename World => w6
    clear X5
    have HRK := Hid.mk' (rep_arm lo lb HQ.out.1 HQ.out.2 a m HAM.out.1 keep)
    have RP := Hid.mk' (rw_rep lb X6.out (hb1.out.up X6.out.below) (fun k hk => hk) HQ.out.2 (srt_one _ _) (by simp [rq, tot]; have := HQ.out; omega) rfl (by simp [rq]) rfl)
    generalize repD (rq [([102], lo)] a m) [102] lb = p at *
    go_wp2_with fail
    refine RP.out.mono ?_
    rintro E w7 ⟨rfl, x7⟩
    have X7 := Hid.mk' x7
    clear x7 RP
    obtain ⟨hcode, ⟨S, hS, hSok⟩, hq1, hq2, hq3⟩ := HRK.out
    have CR := Hid.mk' (rw_crash keep X7.out hq1 hq2 hq3 HK.out.2.2.1 HK.out.2.2.2)
    rw [hS] at CR
    obtain ⟨y, HY, HY2, HS⟩ := sok_read lo lb p.1 S hSok HQ.out.1 HQ.out.2
    obtain ⟨e0, he0⟩ : ∃ e, e = p.1 := ⟨_, rfl⟩
    rw [← he0] at hcode HY2 ⊢
    have HRD : Hid (∀ w9, Rw w b (rq S false 0) w9 → Calls Try.prog 19 #[.pointer (some ⟨b, 0, none⟩), .string ⟨#[102]⟩] w9 fun E w' => ∃ v', E = .returned (.tuple #[v', .int .i64 0]) ∧ Below w9.heap.size w9 w' ∧ Ob 5 w9.heap.size w' v' y) := by
      intro w9 h9
      have := rw_read h9
      unfold ReadPost at this
      rw [HY.out.1, HY.out.2] at this
      exact this
    have HRP : Hid (∀ w9, Rw w b (rq S false 0) w9 → Calls Try.prog 40 #[.pointer (some ⟨b, 0, none⟩), .string ⟨#[102]⟩, .slice xa lo.length xc] w9 fun E w' => E = .returned (.int .i64 0) ∧ Rw w b (rq [([102], lo)] false 0) w') := by
      intro w9 h9
      obtain ⟨h1, h2, h3, h4⟩ := HS.out
      have := rw_rep lo h9 (hb0.out.up h9.below) (fun k hk => hk) HQ.out.1 h2 h3 rfl h4 rfl
      rw [h1] at this
      exact this
    have HTL : Hid (e0 = 0 ∨ (e0 = 9 ∧ ¬ arm < 0)) := hcode.imp id fun h => ⟨h.1, fun ha => by have := HAM.out.2 ha; rw [h.2] at this; cases this⟩
    clear hS hSok hq1 hq2 hq3 HRK X7 he0 hcode HAM HY HS X6
    have HTAIL : Hid True := trivial
    have hcs : (e0 = 0 ∧ y = lb) ∨ (e0 = 9 ∧ y = lb) ∨ (e0 = 9 ∧ y = lo) := by
      rcases HTL.out with h | ⟨h, _⟩
      · rcases HY2.out with h2 | ⟨h2, _⟩
        · exact .inl ⟨h, h2⟩
        · exact absurd h h2
      · rcases HY2.out with h2 | ⟨_, h2⟩
        · exact .inr (.inl ⟨h, h2⟩)
        · exact .inr (.inr ⟨h, h2⟩)
    have hna : e0 = 9 → ¬ arm < 0 := fun h => by rcases HTL.out with h2 | h2; · omega
                                                 · exact h2.2
    clear HTL HY2 HTAIL
    have HYL : Hid (y.length ≤ lim) := by
      show _ ≤ _
      have := HQ.out
      unfold lim
      rcases hcs with ⟨_, rfl⟩ | ⟨_, rfl⟩ | ⟨_, rfl⟩ <;> omega
    rcases hcs with ⟨rfl, hy⟩ | ⟨rfl, hy⟩ | ⟨rfl, hy⟩
    case inl =>
      clear hna
      go_wp2_with fail
      refine CR.out.mono ?_
      rintro E w8 ⟨rfl, x8⟩
      have X8 := Hid.mk' x8
      clear x8 CR
      go_wp2_with fail
      refine (HRD.out w8 X8.out).mono ?_
      rintro E w9 ⟨v9, rfl, b9, o9⟩
      have X9 := Hid.mk' (X8.out.up b9)
      have O9 := Hid.mk' (o9.bs HYL.out)
      clear b9 o9 X8 HRD
      go_wp2_with fail
      refine (requal_any _ _ y lb w9 O9.out (hb1.out.up X9.out.below)).mono ?_
      rintro E w10 ⟨rfl, d10⟩
      rw [show (y == lb) = true by rw [hy]; exact beq_self_eq_true _]
      have B10 := Hid.mk' (d10.below w9.heap.size)
      have X10 := Hid.mk' (X9.out.up B10.out)
      clear d10
      go_wp2_with fail
      refine (requal_any _ _ y lb w10 (O9.out.up B10.out) (hb1.out.up X10.out.below)).mono ?_
      rintro E w11 ⟨rfl, d11⟩
      rw [show (y == lb) = true by rw [hy]; exact beq_self_eq_true _]
      have X11 := Hid.mk' (X10.out.up (d11.below w10.heap.size))
      clear d11 hy B10 X10 X9 O9
      go_wp2_with fail
      refine (HRP.out _ X11.out).mono ?_
      rintro E w12 ⟨rfl, x12⟩
      have X12 := Hid.mk' x12
      clear x12 HRP X11
      go_wp2_with fail
      have CR2 := rw_crash 0 X12.out trivial (by simp [rq]) (by simp [rq, units]) (by decide) (by decide)
      rw [crd_rq (rq [([102], lo)] false 0) 0 [([102], lo)] (after_nil _ _) rfl] at CR2
      refine CR2.mono ?_
      rintro E w13 ⟨rfl, x13⟩
      have X13 := Hid.mk' x13
      clear x13 CR2 X12
      go_wp2_with fail
      refine (rw_read X13.out).mono ?_
      rintro E w14 ⟨v14, rfl, b14, o14⟩
      rw [show rdB (rq [([102], lo)] false 0) [102] = lo from rfl] at o14
      have X14 := Hid.mk' (X13.out.up b14)
      have O14 := Hid.mk' (o14.bs (by have := HQ.out; unfold lim; omega))
      clear b14 o14 X13
      go_wp2_with fail
      refine (rw_list X14.out (by simp [rq])).mono ?_
      rintro E w15 ⟨v15, rfl, o15, b15⟩
      rw [show lsD (rq [([102], lo)] false 0) [] = [[102]] from rfl] at o15
      obtain ⟨la, lc, rfl⟩ := o15.slice
      have X15 := Hid.mk' (X14.out.up b15)
      have O15 := Hid.mk' (O14.out.up b15)
      obtain ⟨_, _, e16, _, _, H16⟩ := (o15.ss (by unfold lim; simp)).at
      cases e16
      obtain ⟨lb9, lo9, rfl, _, c16⟩ := H16 0 (by simp)
      have C16 := Hid.mk' c16
      clear b15 o15 X14 O14 H16 c16
      go_wp2_with fail
      refine (requal_any _ _ lo lo w15 O15.out (hb0.out.up X15.out.below)).mono ?_
      rintro E w16 ⟨rfl, d16⟩
      rw [show (lo == lo) = true from beq_self_eq_true _]
      have X16 := Hid.mk' (X15.out.up (d16.below w15.heap.size))
      have c16 : w16.cell? ⟨lb9, lo9, none⟩ = some (.string ⟨#[102]⟩) := by
        have h1 : w15.cell? ⟨lb9, lo9, none⟩ = some (.string ⟨#[102]⟩) := C16.out
        exact ((d16.below w15.heap.size).cell (p := ⟨lb9, lo9, none⟩) (World.block_lt_of_cell? w15 ⟨lb9, lo9, none⟩ h1)).trans h1
      clear d16 C16 O15 X15
      go_wp2_with fail
      go_ret
      exact ⟨rfl, X16.out.below⟩
    case inr.inl =>
      have hna0 := hna rfl
      clear hna
      go_wp2_with fail
      refine CR.out.mono ?_
      rintro E w8 ⟨rfl, x8⟩
      have X8 := Hid.mk' x8
      clear x8 CR hna0
      go_wp2_with fail
      refine (HRD.out w8 X8.out).mono ?_
      rintro E w9 ⟨v9, rfl, b9, o9⟩
      have X9 := Hid.mk' (X8.out.up b9)
      have O9 := Hid.mk' (o9.bs HYL.out)
      clear b9 o9 X8 HRD
      go_wp2_with fail
      refine (requal_any _ _ y lb w9 O9.out (hb1.out.up X9.out.below)).mono ?_
      rintro E w11 ⟨rfl, d11⟩
      rw [show (y == lb) = true by rw [hy]; exact beq_self_eq_true _]
      have X11 := Hid.mk' (X9.out.up (d11.below w9.heap.size))
      clear d11 hy X9 O9
      go_wp2_with fail
      refine (HRP.out _ X11.out).mono ?_
      rintro E w12 ⟨rfl, x12⟩
      have X12 := Hid.mk' x12
      clear x12 HRP X11
      go_wp2_with fail
      have CR2 := rw_crash 0 X12.out trivial (by simp [rq]) (by simp [rq, units]) (by decide) (by decide)
      rw [crd_rq (rq [([102], lo)] false 0) 0 [([102], lo)] (after_nil _ _) rfl] at CR2
      refine CR2.mono ?_
      rintro E w13 ⟨rfl, x13⟩
      have X13 := Hid.mk' x13
      clear x13 CR2 X12
      go_wp2_with fail
      refine (rw_read X13.out).mono ?_
      rintro E w14 ⟨v14, rfl, b14, o14⟩
      rw [show rdB (rq [([102], lo)] false 0) [102] = lo from rfl] at o14
      have X14 := Hid.mk' (X13.out.up b14)
      have O14 := Hid.mk' (o14.bs (by have := HQ.out; unfold lim; omega))
      clear b14 o14 X13
      go_wp2_with fail
      refine (rw_list X14.out (by simp [rq])).mono ?_
      rintro E w15 ⟨v15, rfl, o15, b15⟩
      rw [show lsD (rq [([102], lo)] false 0) [] = [[102]] from rfl] at o15
      obtain ⟨la, lc, rfl⟩ := o15.slice
      have X15 := Hid.mk' (X14.out.up b15)
      have O15 := Hid.mk' (O14.out.up b15)
      obtain ⟨_, _, e16, _, _, H16⟩ := (o15.ss (by unfold lim; simp)).at
      cases e16
      obtain ⟨lb9, lo9, rfl, _, c16⟩ := H16 0 (by simp)
      have C16 := Hid.mk' c16
      clear b15 o15 X14 O14 H16 c16
      go_wp2_with fail
      refine (requal_any _ _ lo lo w15 O15.out (hb0.out.up X15.out.below)).mono ?_
      rintro E w16 ⟨rfl, d16⟩
      rw [show (lo == lo) = true from beq_self_eq_true _]
      have X16 := Hid.mk' (X15.out.up (d16.below w15.heap.size))
      have c16 : w16.cell? ⟨lb9, lo9, none⟩ = some (.string ⟨#[102]⟩) := by
        have h1 : w15.cell? ⟨lb9, lo9, none⟩ = some (.string ⟨#[102]⟩) := C16.out
        exact ((d16.below w15.heap.size).cell (p := ⟨lb9, lo9, none⟩) (World.block_lt_of_cell? w15 ⟨lb9, lo9, none⟩ h1)).trans h1
      clear d16 C16 O15 X15
      go_wp2_with fail
      go_ret
      exact ⟨rfl, X16.out.below⟩
    case inr.inr =>
      have hna0 := hna rfl
      clear hna
      go_wp2_with fail
      refine CR.out.mono ?_
      rintro E w8 ⟨rfl, x8⟩
      have X8 := Hid.mk' x8
      clear x8 CR hna0
      go_wp2_with fail
      refine (HRD.out w8 X8.out).mono ?_
      rintro E w9 ⟨v9, rfl, b9, o9⟩
      have X9 := Hid.mk' (X8.out.up b9)
      have O9 := Hid.mk' (o9.bs HYL.out)
      clear b9 o9 X8 HRD
      go_wp2_with fail
      refine (requal_any _ _ y lb w9 O9.out (hb1.out.up X9.out.below)).mono ?_
      rintro E w10 ⟨rfl, d10⟩
      have B10 := Hid.mk' (d10.below w9.heap.size)
      have X10 := Hid.mk' (X9.out.up B10.out)
      clear d10
      generalize (y == lb) = cc
      cases cc
      case true =>
        have X11 := X10
        rename World => w11
        clear hy B10 X10 X9 O9
        go_wp2_with fail
        refine (HRP.out _ X11.out).mono ?_
        rintro E w12 ⟨rfl, x12⟩
        have X12 := Hid.mk' x12
        clear x12 HRP X11
        go_wp2_with fail
        have CR2 := rw_crash 0 X12.out trivial (by simp [rq]) (by simp [rq, units]) (by decide) (by decide)
        rw [crd_rq (rq [([102], lo)] false 0) 0 [([102], lo)] (after_nil _ _) rfl] at CR2
        refine CR2.mono ?_
        rintro E w13 ⟨rfl, x13⟩
        have X13 := Hid.mk' x13
        clear x13 CR2 X12
        go_wp2_with fail
        refine (rw_read X13.out).mono ?_
        rintro E w14 ⟨v14, rfl, b14, o14⟩
        rw [show rdB (rq [([102], lo)] false 0) [102] = lo from rfl] at o14
        have X14 := Hid.mk' (X13.out.up b14)
        have O14 := Hid.mk' (o14.bs (by have := HQ.out; unfold lim; omega))
        clear b14 o14 X13
        go_wp2_with fail
        refine (rw_list X14.out (by simp [rq])).mono ?_
        rintro E w15 ⟨v15, rfl, o15, b15⟩
        rw [show lsD (rq [([102], lo)] false 0) [] = [[102]] from rfl] at o15
        obtain ⟨la, lc, rfl⟩ := o15.slice
        have X15 := Hid.mk' (X14.out.up b15)
        have O15 := Hid.mk' (O14.out.up b15)
        obtain ⟨_, _, e16, _, _, H16⟩ := (o15.ss (by unfold lim; simp)).at
        cases e16
        obtain ⟨lb9, lo9, rfl, _, c16⟩ := H16 0 (by simp)
        have C16 := Hid.mk' c16
        clear b15 o15 X14 O14 H16 c16
        go_wp2_with fail
        refine (requal_any _ _ lo lo w15 O15.out (hb0.out.up X15.out.below)).mono ?_
        rintro E w16 ⟨rfl, d16⟩
        rw [show (lo == lo) = true from beq_self_eq_true _]
        have X16 := Hid.mk' (X15.out.up (d16.below w15.heap.size))
        have c16 : w16.cell? ⟨lb9, lo9, none⟩ = some (.string ⟨#[102]⟩) := by
          have h1 : w15.cell? ⟨lb9, lo9, none⟩ = some (.string ⟨#[102]⟩) := C16.out
          exact ((d16.below w15.heap.size).cell (p := ⟨lb9, lo9, none⟩) (World.block_lt_of_cell? w15 ⟨lb9, lo9, none⟩ h1)).trans h1
        clear d16 C16 O15 X15
        go_wp2_with fail
        go_ret
        exact ⟨rfl, X16.out.below⟩
      case false =>
        go_wp2_with fail
        refine (requal_any _ _ y lo w10 (O9.out.up B10.out) (hb0.out.up X10.out.below)).mono ?_
        rintro E w11 ⟨rfl, d11⟩
        rw [show (y == lo) = true by rw [hy]; exact beq_self_eq_true _]
        have X11 := Hid.mk' (X10.out.up (d11.below w10.heap.size))
        clear d11 hy B10 X10 X9 O9
        go_wp2_with fail
        refine (HRP.out _ X11.out).mono ?_
        rintro E w12 ⟨rfl, x12⟩
        have X12 := Hid.mk' x12
        clear x12 HRP X11
        go_wp2_with fail
        have CR2 := rw_crash 0 X12.out trivial (by simp [rq]) (by simp [rq, units]) (by decide) (by decide)
        rw [crd_rq (rq [([102], lo)] false 0) 0 [([102], lo)] (after_nil _ _) rfl] at CR2
        refine CR2.mono ?_
        rintro E w13 ⟨rfl, x13⟩
        have X13 := Hid.mk' x13
        clear x13 CR2 X12
        go_wp2_with fail
        refine (rw_read X13.out).mono ?_
        rintro E w14 ⟨v14, rfl, b14, o14⟩
        rw [show rdB (rq [([102], lo)] false 0) [102] = lo from rfl] at o14
        have X14 := Hid.mk' (X13.out.up b14)
        have O14 := Hid.mk' (o14.bs (by have := HQ.out; unfold lim; omega))
        clear b14 o14 X13
        go_wp2_with fail
        refine (rw_list X14.out (by simp [rq])).mono ?_
        rintro E w15 ⟨v15, rfl, o15, b15⟩
        rw [show lsD (rq [([102], lo)] false 0) [] = [[102]] from rfl] at o15
        obtain ⟨la, lc, rfl⟩ := o15.slice
        have X15 := Hid.mk' (X14.out.up b15)
        have O15 := Hid.mk' (O14.out.up b15)
        obtain ⟨_, _, e16, _, _, H16⟩ := (o15.ss (by unfold lim; simp)).at
        cases e16
        obtain ⟨lb9, lo9, rfl, _, c16⟩ := H16 0 (by simp)
        have C16 := Hid.mk' c16
        clear b15 o15 X14 O14 H16 c16
        go_wp2_with fail
        refine (requal_any _ _ lo lo w15 O15.out (hb0.out.up X15.out.below)).mono ?_
        rintro E w16 ⟨rfl, d16⟩
        rw [show (lo == lo) = true from beq_self_eq_true _]
        have X16 := Hid.mk' (X15.out.up (d16.below w15.heap.size))
        have c16 : w16.cell? ⟨lb9, lo9, none⟩ = some (.string ⟨#[102]⟩) := by
          have h1 : w15.cell? ⟨lb9, lo9, none⟩ = some (.string ⟨#[102]⟩) := C16.out
          exact ((d16.below w15.heap.size).cell (p := ⟨lb9, lo9, none⟩) (World.block_lt_of_cell? w15 ⟨lb9, lo9, none⟩ h1)).trans h1
        clear d16 C16 O15 X15
        go_wp2_with fail
        go_ret
        exact ⟨rfl, X16.out.below⟩
end Go.Proofs.Ytpgpncngamagdaa
