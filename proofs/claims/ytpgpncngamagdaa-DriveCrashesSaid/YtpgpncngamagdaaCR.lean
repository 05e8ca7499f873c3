/- groynelaw04.DriveCrashes. -/
import Derived.Test.YtpgpncngamagdaaPZ
import Derived.Test.YtpgpncngamagdaaPY
import Derived.Test.YtpgpncngamagdaaFI
set_option linter.unusedVariables false
set_option linter.unusedSimpArgs false
namespace Go.Proofs.Ytpgpncngamagdaa
open Go.RowKit
attribute [local go_sem ↓] Go.wp_at_zero Go.wp_at_succ
theorem plR_room' (r : Rd) (a : Ac) : (plR r a).room = r.room := by
  have h := (arm1_room r).1
  unfold plR rfQ rfF rfA rfC rfW
  repeat (first | rfl | exact h | split)
theorem field51 (w : World) (a b : Option Addr) (n c m e : Nat) (i j : Int) (x : Bool) : (Instr.field 51 (.agg #[.slice a n c, .slice b m e, .int .i64 i, .int .i64 j, .bool x]) 0).run Try.prog w = .ok (.slice a n c) w := by kernel_rfl
/-- a deed of the drive alone -/
theorem Sl.turn {w0 wr w2 : World} {b x : Nat} {d d' : Dm} {r : Rd} {M D A : Nat → Prop} {vb : Array Value} (h : Sl w0 b x d r M D A vb wr) (hT : Turned M D wr b d' w2) : ∃ M' D' A', Sl w0 b x d' r M' D' A' vb w2 := by
  obtain ⟨hw, M', D', k1, k2, k3⟩ := hT
  have hxl : x < wr.heap.size := (Array.getElem?_eq_some_iff.1 h.bx).1
  have h0 := h.bl.size
  refine ⟨M', D', fun k => A k ∧ k < wr.heap.size, h.bl.trans (hw.below h0 fun k hk => ?_), k3, h.rf.andLt.wb hw fun k hk hk2 => ?_, ?_, fun k hk => ?_, fun k hk => ?_, fun k hk => ⟨fun hm => ?_, (h.hA k hk.1).2.1, (h.hA k hk.1).2.2⟩, h.hb, h.hx⟩
  · rcases hk with hk | hk
    · have := h.hb.1; omega
    · exact (h.hM k hk).1
  · rcases hk with hk | hk
    · exact (h.hA k hk2.1).2.1 hk
    · exact (h.hA k hk2.1).1 hk
  · rw [hw.block _ hxl (fun hk => hk.elim (fun e => h.hb.2 e.symm) fun hm => (h.hM _ hm).2 rfl)]; exact h.bx
  · rcases k1 k hk with h1 | h1
    · exact h.hM k h1
    · exact ⟨by omega, by omega⟩
  · rcases k2 k hk with h1 | h1
    · exact h.hD k h1
    · omega
  · rcases k1 k hm with h1 | h1
    · exact (h.hA k hk.1).1 h1
    · have := hk.2; omega
/-- an answer of the reference alone, stored -/
theorem Sl.ref {w0 wr w2 W9 : World} {b x : Nat} {d : Dm} {r r' : Rd} {M D A : Nat → Prop} {vb vb' : Array Value} (h : Sl w0 b x d r M D A vb wr) (hb : Below wr.heap.size wr w2) (hv : Rf (fun k => A k ∨ wr.heap.size ≤ k) w2 (.agg vb') r') (h9 : Wb (fun k => k = x) w2 W9) (hx9 : W9.heap[x]? = some (.cells vb' 51 (0, 0))) : ∃ A', Sl w0 b x d r' M D A' vb' W9 := by
  have hxl : x < wr.heap.size := (Array.getElem?_eq_some_iff.1 h.bx).1
  have hbl : b < wr.heap.size := by obtain ⟨_, _, _, hx, _⟩ := h.dr.ex; exact (Array.getElem?_eq_some_iff.1 hx).1
  have h0 := h.bl.size
  refine ⟨fun k => A k ∨ wr.heap.size ≤ k, (bt h.bl hb).trans (h9.below (Nat.le_trans h0 hb.size) fun k hk => by have := h.hx; omega), (h.dr.below hb).keep h9 fun k hk => ?_, hv.wb h9 fun k hk hk2 => ?_, hx9, h.hM, h.hD, fun k hk => ?_, h.hb, h.hx⟩
  · subst hk
    exact ⟨fun h1 => (h.hM _ h1).2 rfl, fun h1 => h.hD _ h1 rfl, fun h1 => h.hb.2 h1.symm⟩
  · subst hk
    rcases hk2 with h1 | h1
    · exact (h.hA _ h1).2.2 rfl
    · omega
  · rcases hk with h1 | h1
    · exact h.hA k h1
    · exact ⟨fun hm => by have := (h.dr.hM k hm).1; omega, by omega, by omega⟩
def Cl (w0 : World) (b x N : Nat) (wr : World) : Prop :=
  ∃ (d : Dm) (r : Rd) (M D A : Nat → Prop) (vb : Array Value) (T : Nat), Sl w0 b x d r M D A vb wr ∧ Eqv d r ∧ Gd T N r ∧ r.room = 1073741824
set_option maxRecDepth 100000 in
set_option maxHeartbeats 16000000 in
/-- groynelaw04.DriveCrashes -/
theorem driveCrashes_any {A0 A1 : Nat → Prop} {w : World} {v u : Value} {l1 l2 : List Ac} (keep : Int) (hk1 : -9223372036854775808 ≤ keep) (hk2 : keep ≤ 9223372036854775807) (h : As A0 w v l1) (h' : As A1 w u l2) : Calls Try.prog 7 #[v, u, .int .i64 keep] w fun e w' => e = .returned (.bool true) ∧ Below w.heap.size w w' := by
  obtain ⟨va, vc, rfl, hx1⟩ := h.at
  obtain ⟨ua, uc, rfl, hx2⟩ := h'.at
  clear hx1 hx2
  have HA := Hid.mk' h.andLt
  have HA2 := Hid.mk' h'.andLt
  have HK1 := Hid.mk' (⟨hk1, hk2⟩ : _ ∧ _)
  clear h h' hk1 hk2
  go_enter Try.func7, Try.ntmps7
  go_wp2_with fail
  refine (awake_any w).mono ?_
  rintro E w4 ⟨rfl, b4⟩
  have B4 := Hid.mk' b4
  clear b4
  go_wp2_with fail
  refine (new_any w4 1073741824).mono ?_
  rintro E w5 ⟨rfl, b5, hd5⟩
  have HD5 := Hid.mk' hd5
  have B5 := Hid.mk' b5
  clear b5 hd5
  go_wp2_with fail
  refine (rnew_any 1073741824).mono ?_
  rintro E w6 ⟨v6, rfl, hr6, b6⟩
  rw [show max (0 : Int) 1073741824 = 1073741824 from by decide] at hr6
  have HR6 := Hid.mk' hr6
  have B6 := Hid.mk' b6
  obtain ⟨vs, vq, rfl, hts, hos⟩ := hr6
  obtain ⟨sa, sn, sc, rfl⟩ : ∃ a n c, vs = Value.slice a n c := (let ⟨a, c, e, _⟩ := hts.at; ⟨a, _, c, e⟩)
  obtain ⟨qa, qn, qc, rfl⟩ : ∃ a n c, vq = Value.slice a n c := (let ⟨a, c, e, _⟩ := hos.at; ⟨a, _, c, e⟩)
  clear b6 hts hos
  go_wp2_with fail
  obtain ⟨W, hW⟩ : ∃ W, W = w6.alloc (.cells #[.slice sa sn sc, .slice qa qn qc, .int .i64 1073741824, .int .i64 (-1), .bool false] 51) := ⟨_, rfl⟩
  have HSL : Hid (Cl w w4.heap.size w6.heap.size 0 W) := by
    have s5 := B5.out.size
    have s6 := B6.out.size
    have s4 := B4.out.size
    have hup := up_alloc w6 (.cells #[.slice sa sn sc, .slice qa qn qc, .int .i64 1073741824, .int .i64 (-1), .bool false] 51)
    have hb4 : w4.heap.size < w5.heap.size := by obtain ⟨_, _, _, hx, _⟩ := HD5.out.ex; exact (Array.getElem?_eq_some_iff.1 hx).1
    refine ⟨_, _, fun _ => False, fun _ => False, fun k => ((False ∨ w5.heap.size ≤ k) ∧ k < w6.heap.size), #[.slice sa sn sc, .slice qa qn qc, .int .i64 1073741824, .int .i64 (-1), .bool false], 0, ⟨?_, ?_, ?_, ?_, fun k hk => False.elim hk, fun k hk => False.elim hk, fun k hk => ⟨fun h => h, ?_, ?_⟩, ⟨?_, ?_⟩, ?_⟩, Eqv.new 1073741824, Gd.new 1073741824 (by decide), by decide⟩
    · rw [hW]; exact bt (bt (bt B4.out B5.out) B6.out) hup
    · rw [hW]; exact (HD5.out.below B6.out).below hup
    · rw [hW]; exact (HR6.out.andLt).up hup
    · rw [hW]; exact heap_alloc_new w6 _
    · have := hk.1.resolve_left (fun h => h); omega
    · have := hk.2; omega
    · omega
    · omega
    · omega
  rw [← hW]
  have HBW : Hid (Below w.heap.size w W) := by rw [hW]; exact bt (bt (bt B4.out B5.out) B6.out) (up_alloc _ _)
  clear hW
  have hcut := cut_any 20 HA.out (by decide)
  rw [show ((20 : Nat) : Int) = 20 from rfl] at hcut
  have hcutW := cut_any 20 (HA.out.up HBW.out) (by decide)
  rw [show ((20 : Nat) : Int) = 20 from rfl] at hcutW
  refine hcutW.mono ?_
  rintro E w7 ⟨⟨u7, rfl, hu7⟩, rfl⟩
  clear hcut hcutW
  obtain ⟨L, hL⟩ : ∃ L, L = l1.take 20 := ⟨_, rfl⟩
  rw [← hL] at hu7
  obtain ⟨a7, c7, rfl, hx7⟩ := hu7.at
  have hln : (L.length : Int) ≤ 20 := by rw [hL, List.length_take]; omega
  have HLT : Hid (As (fun k => A0 k ∧ k < w.heap.size) w (.slice a7 L.length c7) L) := hu7.keepS fun j hj => (HBW.out.block j hj.2).symm
  clear hL hx7 hu7
  go_wp2_with fail
  go_loopw [26] (fun i wr => ∃ k : Nat, k ≤ L.length ∧ i = .int .i64 k ∧ Hid (Cl w w4.heap.size w6.heap.size (0 + k) wr)) (fun i _ => L.length - (intOf i).toNat)
  case atStart => exact ⟨0, by omega, rfl, HSL⟩
  case round =>
    clear HSL
    obtain ⟨k, hk, rfl, HP⟩ := hrel
    obtain ⟨d, r, M, D, A, vb, T, hsl, heq, hgd, hrr⟩ := HP.out
    have HSl := Hid.mk' hsl
    have HEq := Hid.mk' heq
    have HGd := Hid.mk' hgd
    have HRR := Hid.mk' hrr
    have HTL : Hid (T ≤ lim) := by show _ ≤ _; have := hgd.room.1; rw [hrr] at this; unfold lim; omega
    clear hsl heq hgd hrr
    by_cases hlt : k < L.length
    · have hlt' : (k : Int) < (L.length : Int) := by omega
      obtain ⟨_, _, ea, _, _, _, H⟩ := (HLT.out.keepS (w' := wr) (fun j hj => (HSl.out.bl.block j hj.2))).at
      cases ea
      obtain ⟨ab, ao, u, rfl, ⟨d0, d1, d2, d3, d4⟩, hu, hin⟩ := H k hlt
      obtain ⟨ua, uc, rfl, hxu⟩ := hu.at
      clear H hxu
      have HU := Hid.mk' hu
      have HIN := Hid.mk' hin
      clear hu hin
      generalize L[k] = a at *
      obtain ⟨vs1, vq1, e1, t1, o1⟩ := HSl.out.rf
      obtain ⟨xs1, xn1, xq1, rfl⟩ : ∃ a n c, vs1 = Value.slice a n c := (let ⟨a, c, e, _⟩ := t1.at; ⟨a, _, c, e⟩)
      obtain ⟨ys1, yn1, yq1, rfl⟩ : ∃ a n c, vq1 = Value.slice a n c := (let ⟨a, c, e, _⟩ := o1.at; ⟨a, _, c, e⟩)
      cases e1
      clear t1 o1
      go_upto_region 7 with fail
      obtain ⟨wq, hwq⟩ : ∃ wq, wq = wr.alloc (.cells #[.int .i64 a.kind, .string ⟨a.nm.toArray⟩, .string ⟨a.tn.toArray⟩, .int .i64 a.n, .slice ua a.da.length uc] 55) := ⟨_, rfl⟩
      have hbq : Below wr.heap.size wr wq := by rw [hwq]; exact up_alloc _ _
      have haq : wq.heap[wr.heap.size]? = some (.cells #[.int .i64 a.kind, .string ⟨a.nm.toArray⟩, .string ⟨a.tn.toArray⟩, .int .i64 a.n, .slice ua a.da.length uc] 55 (0, 0)) := by rw [hwq]; exact heap_alloc_new wr _
      rw [← hwq]
      clear hwq d0 d1 d2 d3 d4
      have HBQ := Hid.mk' hbq
      have HAQ := Hid.mk' haq
      have HSq := Hid.mk' (HSl.out.up hbq)
      obtain ⟨c0, c1, c2, c3, c4⟩ := box5 HSq.out.bx
      obtain ⟨d0, d1, d2, d3, d4⟩ := box5 haq
      clear hbq haq
      by_cases hkd : a.kind < 7
      · go_wp2_with fail
        have PL := play_any (Aa := fun j => A0 j ∧ j < w.heap.size) a HSq.out.dr HSq.out.rf (HU.out.up HBQ.out) (fun j hj => ⟨(HSq.out.hA j hj).1, (HSq.out.hA j hj).2.1⟩) (fun j hj => ⟨fun hm => by have := (HSq.out.hM j hm).1; omega, by have := HSq.out.hb.1; omega⟩) HEq.out HGd.out HGd.out ⟨by omega, by omega⟩ ⟨HTL.out, HTL.out⟩ HIN.out.1 HIN.out.2.1 ⟨HIN.out.2.2.1, HIN.out.2.2.2⟩ (.inl (by rw [HRR.out]; decide))
        rw [show (plE d a == plF r a) = true by rw [(HEq.out.play HGd.out.tle a).1]; simp] at PL
        have HPL := Hid.mk' PL
        clear PL
        refine HPL.out.mono ?_
        rintro E2 w2 ⟨v2, rfl, hw2, M2, D2, A2, hd2, hr2, iM, iD, iA, hA2⟩
        obtain ⟨vs2, vq2, rfl, t2, o2⟩ := id hr2
        obtain ⟨xs2, xn2, xq2, rfl⟩ : ∃ a n c, vs2 = Value.slice a n c := (let ⟨a, c, e, _⟩ := t2.at; ⟨a, _, c, e⟩)
        obtain ⟨ys2, yn2, yq2, rfl⟩ : ∃ a n c, vq2 = Value.slice a n c := (let ⟨a, c, e, _⟩ := o2.at; ⟨a, _, c, e⟩)
        have hxq : w6.heap.size < wr.heap.size := (Array.getElem?_eq_some_iff.1 HSl.out.bx).1
        have hqz := HBQ.out.size
        have hbx2 : w2.heap[w6.heap.size]? = _ := (hw2.block w6.heap.size (by omega) (fun hx => hx.elim (fun h => HSq.out.hb.2 h.symm) fun h => (HSq.out.hM _ h).2 rfl)).trans HSq.out.bx
        obtain ⟨W9, hW9, h9, hb9⟩ := stored5 hbx2 (.slice xs2 xn2 xq2) (.slice ys2 yn2 yq2) (.int .i64 (plR r a).room) (.int .i64 (plR r a).armed) (.bool (plR r a).dead)
        have HS9 := Hid.mk' (HSq.out.play (fun j hj => hj.2) hw2 hd2 hr2 iM iD iA hA2 hb9 h9 (ok := true) (E := .returned (.bool true)))
        have HE9 := Hid.mk' (HEq.out.play HGd.out.tle a).2
        obtain ⟨T9, t91, t92, hg9⟩ := HGd.out.play a HIN.out.1 HIN.out.2.1 HU.out.2 HIN.out.2.2.2 (.inl (by rw [HRR.out]; decide))
        have HG9 := Hid.mk' hg9
        have HR9 : Hid ((plR r a).room = 1073741824) := by show _ = _; rw [plR_room']; exact HRR.out
        have HW9 := Hid.mk' hW9
        clear c0 c1 c2 c3 c4 d0 d1 d2 d3 d4 hg9 t91 t92 HPL hw2 hd2 hr2 iM iD iA hA2 t2 o2 hb9 h9 hW9 hxq hqz
        obtain ⟨c0, c1, c2, c3, c4⟩ := box5 hbx2
        have hfx : ∀ j, w2.frozen? ⟨w6.heap.size, j, none⟩ = false := fun j => by simp only [World.frozen?, hbx2]; simp
        clear hbx2
        go_wp2_with fail
        rw [← HW9.out]
        clear c0 c1 c2 c3 c4 hfx HW9
        go_roundw
        case rel => exact ⟨k + 1, by omega, by go_num, ⟨_, _, _, _, _, _, T9, HS9.out, HE9.out, HG9.out, HR9.out⟩⟩
        case measure => simp [intOf]; omega
      · go_wp2_with fail
        go_roundw
        case rel => exact ⟨k + 1, by omega, by go_num, ⟨_, _, _, _, _, _, T, HSq.out, HEq.out, HGd.out.mono (by omega), HRR.out⟩⟩
        case measure => simp [intOf]; omega
    · obtain rfl : k = L.length := by omega
      have hlt' : ¬ (L.length : Int) < (L.length : Int) := by omega
      obtain ⟨vs1, vq1, e1, t1, o1⟩ := HSl.out.rf
      obtain ⟨xs1, xn1, xq1, rfl⟩ : ∃ a n c, vs1 = Value.slice a n c := (let ⟨a, c, e, _⟩ := t1.at; ⟨a, _, c, e⟩)
      obtain ⟨ys1, yn1, yq1, rfl⟩ : ∃ a n c, vq1 = Value.slice a n c := (let ⟨a, c, e, _⟩ := o1.at; ⟨a, _, c, e⟩)
      cases e1
      clear t1 o1
      go_wp2_with fail
      refine (flush_any HSl.out.dr).mono ?_
      rintro E w8 ⟨rfl, hT⟩
      obtain ⟨M8, D8, A8, hs8⟩ := HSl.out.turn hT
      have HS8 := Hid.mk' hs8
      obtain ⟨c0, c1, c2, c3, c4⟩ := box5 hs8.bx
      clear hs8 hT
      go_wp2_with fail
      refine (rdeed_flush HS8.out.rf (HGd.out.rok (by omega)) HTL.out ⟨by rw [HRR.out]; decide, by rw [HRR.out]; decide⟩ HGd.out.armed).mono ?_
      rintro E w9 ⟨v9, rfl, hr9, b9⟩
      obtain ⟨vs2, vq2, rfl, t2, o2⟩ := id hr9
      obtain ⟨xs2, xn2, xq2, rfl⟩ : ∃ a n c, vs2 = Value.slice a n c := (let ⟨a, c, e, _⟩ := t2.at; ⟨a, _, c, e⟩)
      obtain ⟨ys2, yn2, yq2, rfl⟩ : ∃ a n c, vq2 = Value.slice a n c := (let ⟨a, c, e, _⟩ := o2.at; ⟨a, _, c, e⟩)
      have hbx2 : w9.heap[w6.heap.size]? = _ := (b9.block w6.heap.size (Array.getElem?_eq_some_iff.1 HS8.out.bx).1).trans HS8.out.bx
      obtain ⟨W9, hW9, h9, hb9⟩ := stored5 hbx2 (.slice xs2 xn2 xq2) (.slice ys2 yn2 yq2) (.int .i64 (rfF r).room) (.int .i64 (rfF r).armed) (.bool (rfF r).dead)
      obtain ⟨A9, hs9⟩ := HS8.out.ref b9 hr9 hb9 h9
      have HC9 : Hid (Cl w w4.heap.size w6.heap.size (21 + 0) W9) := by
        have he := HEq.out.play HGd.out.tle ⟨6, [], [], 0, []⟩
        obtain ⟨T9, t91, t92, hg9⟩ := HGd.out.play ⟨6, [], [], 0, []⟩ (Nat.zero_le _) (Nat.zero_le _) (Nat.zero_le _) (by decide) (.inl (by rw [HRR.out]; decide))
        exact ⟨_, _, _, _, _, _, T9, hs9, he.2, hg9.mono (by omega), (plR_room' r ⟨6, [], [], 0, []⟩).trans HRR.out⟩
      have HW9 := Hid.mk' hW9
      have HB9 := Hid.mk' hs9.bl
      clear c0 c1 c2 c3 c4 hr9 b9 t2 o2 hs9 hb9 h9 hW9
      obtain ⟨c0, c1, c2, c3, c4⟩ := box5 hbx2
      have hfx : ∀ j, w9.frozen? ⟨w6.heap.size, j, none⟩ = false := fun j => by simp only [World.frozen?, hbx2]; simp
      clear hbx2
      go_upto_region 12 with fail
      rw [← HW9.out]
      clear c0 c1 c2 c3 c4 hfx HW9 HSl HEq HGd HRR HTL HP HS8
      have hcutW := cut_any 12 (HA2.out.up HB9.out) (by decide)
      rw [show ((12 : Nat) : Int) = 12 from rfl] at hcutW
      go_wp2_with fail
      refine hcutW.mono ?_
      rintro E w10 ⟨⟨u7, rfl, hu7⟩, rfl⟩
      clear hcutW
      obtain ⟨L2, hL⟩ : ∃ L2, L2 = l2.take 12 := ⟨_, rfl⟩
      rw [← hL] at hu7
      obtain ⟨a72, c72, rfl, hx7⟩ := hu7.at
      have hln2 : (L2.length : Int) ≤ 12 := by rw [hL, List.length_take]; omega
      have HLT2 : Hid (As (fun k => A1 k ∧ k < w.heap.size) w (.slice a72 L2.length c72) L2) := hu7.keepS fun j hj => (HB9.out.block j hj.2).symm
      clear hL hx7 hu7 hlt hlt'
      rename World => W9
      go_wp2_with fail
      go_loopw [52] (fun i wr => ∃ k : Nat, k ≤ L2.length ∧ i = .int .i64 k ∧ Hid (Cl w w4.heap.size w6.heap.size (21 + k) wr)) (fun i _ => L2.length - (intOf i).toNat)
      case atStart => exact ⟨0, by omega, rfl, HC9⟩
      case round =>
        clear HC9
        obtain ⟨k, hk, rfl, HP⟩ := hrel
        obtain ⟨d, r, M, D, A, vb, T, hsl, heq, hgd, hrr⟩ := HP.out
        have HSl := Hid.mk' hsl
        have HEq := Hid.mk' heq
        have HGd := Hid.mk' hgd
        have HRR := Hid.mk' hrr
        have HTL : Hid (T ≤ lim) := by show _ ≤ _; have := hgd.room.1; rw [hrr] at this; unfold lim; omega
        clear hsl heq hgd hrr
        by_cases hlt : k < L2.length
        · have hlt' : (k : Int) < (L2.length : Int) := by omega
          obtain ⟨_, _, ea, _, _, _, H⟩ := (HLT2.out.keepS (w' := wr) (fun j hj => (HSl.out.bl.block j hj.2))).at
          cases ea
          obtain ⟨ab, ao, u, rfl, ⟨d0, d1, d2, d3, d4⟩, hu, hin⟩ := H k hlt
          obtain ⟨ua, uc, rfl, hxu⟩ := hu.at
          clear H hxu
          have HU := Hid.mk' hu
          have HIN := Hid.mk' hin
          clear hu hin
          generalize L2[k] = a at *
          obtain ⟨vs1, vq1, e1, t1, o1⟩ := HSl.out.rf
          obtain ⟨xs1, xn1, xq1, rfl⟩ : ∃ a n c, vs1 = Value.slice a n c := (let ⟨a, c, e, _⟩ := t1.at; ⟨a, _, c, e⟩)
          obtain ⟨ys1, yn1, yq1, rfl⟩ : ∃ a n c, vq1 = Value.slice a n c := (let ⟨a, c, e, _⟩ := o1.at; ⟨a, _, c, e⟩)
          cases e1
          clear t1 o1
          go_upto_region 15 with fail
          obtain ⟨wq, hwq⟩ : ∃ wq, wq = wr.alloc (.cells #[.int .i64 a.kind, .string ⟨a.nm.toArray⟩, .string ⟨a.tn.toArray⟩, .int .i64 a.n, .slice ua a.da.length uc] 55) := ⟨_, rfl⟩
          have hbq : Below wr.heap.size wr wq := by rw [hwq]; exact up_alloc _ _
          have haq : wq.heap[wr.heap.size]? = some (.cells #[.int .i64 a.kind, .string ⟨a.nm.toArray⟩, .string ⟨a.tn.toArray⟩, .int .i64 a.n, .slice ua a.da.length uc] 55 (0, 0)) := by rw [hwq]; exact heap_alloc_new wr _
          rw [← hwq]
          clear hwq d0 d1 d2 d3 d4
          have HBQ := Hid.mk' hbq
          have HAQ := Hid.mk' haq
          have HSq := Hid.mk' (HSl.out.up hbq)
          obtain ⟨c0, c1, c2, c3, c4⟩ := box5 HSq.out.bx
          obtain ⟨d0, d1, d2, d3, d4⟩ := box5 haq
          clear hbq haq
          by_cases hkd : a.kind < 6
          · go_wp2_with fail
            have PL := play_any (Aa := fun j => A1 j ∧ j < w.heap.size) a HSq.out.dr HSq.out.rf (HU.out.up HBQ.out) (fun j hj => ⟨(HSq.out.hA j hj).1, (HSq.out.hA j hj).2.1⟩) (fun j hj => ⟨fun hm => by have := (HSq.out.hM j hm).1; omega, by have := HSq.out.hb.1; omega⟩) HEq.out HGd.out HGd.out ⟨by omega, by omega⟩ ⟨HTL.out, HTL.out⟩ HIN.out.1 HIN.out.2.1 ⟨HIN.out.2.2.1, HIN.out.2.2.2⟩ (.inl (by rw [HRR.out]; decide))
            rw [show (plE d a == plF r a) = true by rw [(HEq.out.play HGd.out.tle a).1]; simp] at PL
            have HPL := Hid.mk' PL
            clear PL
            refine HPL.out.mono ?_
            rintro E2 w2 ⟨v2, rfl, hw2, M2, D2, A2, hd2, hr2, iM, iD, iA, hA2⟩
            obtain ⟨vs2, vq2, rfl, t2, o2⟩ := id hr2
            obtain ⟨xs2, xn2, xq2, rfl⟩ : ∃ a n c, vs2 = Value.slice a n c := (let ⟨a, c, e, _⟩ := t2.at; ⟨a, _, c, e⟩)
            obtain ⟨ys2, yn2, yq2, rfl⟩ : ∃ a n c, vq2 = Value.slice a n c := (let ⟨a, c, e, _⟩ := o2.at; ⟨a, _, c, e⟩)
            have hxq : w6.heap.size < wr.heap.size := (Array.getElem?_eq_some_iff.1 HSl.out.bx).1
            have hqz := HBQ.out.size
            have hbx2 : w2.heap[w6.heap.size]? = _ := (hw2.block w6.heap.size (by omega) (fun hx => hx.elim (fun h => HSq.out.hb.2 h.symm) fun h => (HSq.out.hM _ h).2 rfl)).trans HSq.out.bx
            obtain ⟨W9, hW9, h9, hb9⟩ := stored5 hbx2 (.slice xs2 xn2 xq2) (.slice ys2 yn2 yq2) (.int .i64 (plR r a).room) (.int .i64 (plR r a).armed) (.bool (plR r a).dead)
            have HS9 := Hid.mk' (HSq.out.play (fun j hj => hj.2) hw2 hd2 hr2 iM iD iA hA2 hb9 h9 (ok := true) (E := .returned (.bool true)))
            have HE9 := Hid.mk' (HEq.out.play HGd.out.tle a).2
            obtain ⟨T9, t91, t92, hg9⟩ := HGd.out.play a HIN.out.1 HIN.out.2.1 HU.out.2 HIN.out.2.2.2 (.inl (by rw [HRR.out]; decide))
            have HG9 := Hid.mk' hg9
            have HR9 : Hid ((plR r a).room = 1073741824) := by show _ = _; rw [plR_room']; exact HRR.out
            have HW9 := Hid.mk' hW9
            clear c0 c1 c2 c3 c4 d0 d1 d2 d3 d4 hg9 t91 t92 HPL hw2 hd2 hr2 iM iD iA hA2 t2 o2 hb9 h9 hW9 hxq hqz
            obtain ⟨c0, c1, c2, c3, c4⟩ := box5 hbx2
            have hfx : ∀ j, w2.frozen? ⟨w6.heap.size, j, none⟩ = false := fun j => by simp only [World.frozen?, hbx2]; simp
            clear hbx2
            go_wp2_with fail
            rw [← HW9.out]
            clear c0 c1 c2 c3 c4 hfx HW9
            go_roundw
            case rel => exact ⟨k + 1, by omega, by go_num, ⟨_, _, _, _, _, _, T9, HS9.out, HE9.out, HG9.out, HR9.out⟩⟩
            case measure => simp [intOf]; omega
          · go_wp2_with fail
            go_roundw
            case rel => exact ⟨k + 1, by omega, by go_num, ⟨_, _, _, _, _, _, T, HSq.out, HEq.out, HGd.out.mono (by omega), HRR.out⟩⟩
            case measure => simp [intOf]; omega
        · obtain rfl : k = L2.length := by omega
          have hlt' : ¬ (L2.length : Int) < (L2.length : Int) := by omega
          obtain ⟨vs1, vq1, e1, t1, o1⟩ := HSl.out.rf
          obtain ⟨xs1, xn1, xq1, rfl⟩ : ∃ a n c, vs1 = Value.slice a n c := (let ⟨a, c, e, _⟩ := t1.at; ⟨a, _, c, e⟩)
          obtain ⟨ya, yc, rfl, hy1, hy2, hyl, hy3⟩ := o1.at
          cases e1
          have OQ := Hid.mk' o1
          have hqi : (r.queue.length : Int) ≤ 1000000 := by omega
          have HUB : Hid ((units r.queue : Int) + 1 ≤ 4611686018427387904) := by show _ ≤ _; have := HGd.out.unit; omega
          have HUN : Hid (∀ j, j ≤ r.queue.length → (units (r.queue.take j) : Int) ≤ 4611686018427387900) := fun j _ => by have := units_take_le r.queue j; have := HGd.out.unit; omega
          clear t1 o1 hy1 hy2 hyl hy3
          obtain ⟨c0, c1, c2, c3, c4⟩ := box5 HSl.out.bx
          go_wp2_with fail
          rename World => wv
          go_loopw [13, 70] (fun s i wx => ∃ j : Nat, j ≤ r.queue.length ∧ i = .int .i64 j ∧ s = .int .i64 (units (r.queue.take j) : Int) ∧ Hid (Below wv.heap.size wv wx)) (fun _ i _ => r.queue.length - (intOf i).toNat)
          case atStart => exact ⟨0, by omega, rfl, by simp [units], Below.refl _ _⟩
          case round =>
            obtain ⟨j, hj, rfl, rfl, HB⟩ := hrel
            clear c0 c1 c2 c3 c4
            by_cases hjl : j < r.queue.length
            · have hjl' : (j : Int) < (r.queue.length : Int) := by omega
              obtain ⟨_, _, ev, _, _, _, H⟩ := (OQ.out.up HB.out).at
              cases ev
              obtain ⟨qb, qo, u, rfl, _, ⟨d0, d1, d2, d3, d4⟩, hu⟩ := H j hjl
              have HX := Hid.mk' hu
              have HS := Hid.mk' (units_take r.queue j hjl)
              have hb1 := HUN.out (j + 1) (by omega)
              rw [HS.out] at hb1
              have hb2 : (units (r.queue.take j) : Int) + (r.queue[j].units : Int) ≤ 4611686018427387900 := by omega
              clear H hu hb1
              generalize r.queue[j] = x at *
              generalize units (r.queue.take j) = z at *
              obtain ⟨oa, oc', rfl, _⟩ := HX.out.at
              go_wp2_with fail
              refine (runits_any x (HX.out.up (up_alloc _ _))).mono ?_
              rintro e w2 ⟨rfl, b2⟩
              have HB2 := Hid.mk' (bt HB.out (bt (up_alloc _ _) b2))
              clear b2 d0 d1 d2 d3 d4
              go_wp2_with fail
              go_roundw
              case rel => exact ⟨j + 1, by omega, by go_num, by rw [HS.out]; go_num, HB2⟩
              case measure => simp [intOf]; omega
            · obtain rfl : j = r.queue.length := by omega
              have hjl' : ¬ (r.queue.length : Int) < (r.queue.length : Int) := by omega
              rw [List.take_length]
              have HSu := Hid.mk' (HSl.out.up HB.out)
              go_wp2_with fail
              have hdq : d.queue = r.queue := HEq.out.queue
              have hds : d.safe = r.safe := HEq.out.safe
              refine (crash_any keep HSu.out.dr (by rw [hds, hdq]; exact HGd.out.qg.ok) (by rw [hds, hdq]; have := HGd.out.len; unfold maxLen; omega) (by rw [hdq]; exact HUB.out) HK1.out.1 HK1.out.2 (by rw [hdq]; omega)).mono ?_
              rintro E wc ⟨rfl, hT⟩
              obtain ⟨M5, D5, A5, hs5⟩ := HSu.out.turn hT
              obtain ⟨K, hK⟩ : ∃ K : Nat, K = (keep % ((units r.queue : Int) + 1)).toNat := ⟨_, rfl⟩
              have HKU : Hid (K ≤ units r.queue) := by
                show _ ≤ _
                have h1 := Int.emod_lt_of_pos keep (show (0 : Int) < (units r.queue : Int) + 1 by omega)
                have h2 := Int.emod_nonneg keep (show ((units r.queue : Int) + 1) ≠ 0 by omega)
                omega
              obtain ⟨S9, hS9⟩ : ∃ S9, S9 = after r.safe r.queue K := ⟨_, rfl⟩
              have HS9 := Hid.mk' hS9
              have HD1 : Hid ((crD d keep).seen = S9 ∧ (crD d keep).safe = S9 ∧ (crD d keep).queue = [] ∧ (crD d keep).dead = false) := by
                have e : after d.safe d.queue (crK d keep) = S9 := by unfold crK; rw [hds, hdq, hS9, hK]
                exact ⟨e, e, rfl, rfl⟩
              have HRS : Hid ((rfC r keep).safe = S9) := by show after r.safe r.queue _ = S9; rw [hS9, hK]
              have HSG : Hid (Fg T S9) := by rw [hS9]; exact HGd.out.qg.after K
              have HSLN : Hid (S9.length ≤ 1000) := by show _ ≤ _; rw [hS9]; have := after_len K HGd.out.qg; have := HGd.out.len; omega
              have HSc := Hid.mk' hs5
              have HRK := Hid.mk' (HGd.out.rok (by omega))
              obtain ⟨d', hd'⟩ : ∃ d', d' = crD d keep := ⟨_, rfl⟩
              rw [← hd'] at HSc HD1
              obtain ⟨U, hU⟩ : ∃ U : Nat, U = units r.queue := ⟨_, rfl⟩
              have hub : (U : Int) ≤ 4611686018427387903 := by have := HUB.out; omega
              have HKU2 : Hid (K ≤ U) := by rw [hU]; exact HKU.out
              rw [← hU]
              clear hK hS9 hT hs5 hdq hds hd' hU
              go_wp2_with fail
              rename World => wc
              go_loopw [16, 17] (fun f n wx => ∃ (j : Nat) (fb : Bool), j ≤ 2000 ∧ n = .int .i64 j ∧ f = .bool fb ∧ Hid (fb = false → ∀ m, m < j → fsB S9 (after r.safe r.queue m) = false) ∧ Hid (Below wc.heap.size wc wx)) (fun _ n _ => 2001 - (intOf n).toNat)
              case atStart => exact ⟨0, false, by omega, rfl, rfl, fun _ m hm => by omega, Below.refl _ _⟩
              case round =>
                obtain ⟨j, fb, hj, rfl, rfl, HF, HB⟩ := hrel
                rename World => wx
                have HSx := Hid.mk' (HSc.out.up HB.out)
                obtain ⟨vs3, vq3, e3, t3, o3⟩ := HSx.out.rf
                obtain ⟨xs3, xc3, rfl, hx3⟩ := t3.at
                obtain ⟨ya3, yc3, rfl, hy3⟩ := o3.at
                cases e3
                have T3 := Hid.mk' t3
                have O3 := Hid.mk' o3
                clear t3 o3 hx3 hy3
                obtain ⟨c0, c1, c2, c3, c4⟩ := box5 HSx.out.bx
                by_cases k1 : (j : Int) ≤ (U : Int)
                · by_cases k2 : (j : Int) < 2000
                  · cases fb
                    · go_wp2_with fail
                      refine (raft_n j (by omega) T3.out O3.out HRK.out.1 HRK.out.2).mono ?_
                      rintro E wk ⟨yk, rfl, tk, bk⟩
                      have TK := Hid.mk' tk
                      have HSk := Hid.mk' (HSx.out.up bk)
                      have HFL := Hid.mk' (files_any HSk.out.dr tk HD1.out.2.2.2 (by rw [HD1.out.1]; exact HSG.out.1) (by rw [HD1.out.1]; exact HSG.out.2.2) (HRK.out.1.after j).2.2 (by rw [HD1.out.1]; have := HSLN.out; omega) (by rw [HD1.out.1]; exact Nat.le_trans HSG.out.2.1 HTL.out))
                      rw [HD1.out.1] at HFL
                      obtain ⟨xk, ck, rfl, hxk⟩ := tk.at
                      have HBk := Hid.mk' (bt HB.out bk)
                      clear tk bk c0 c1 c2 c3 c4 hxk
                      go_wp2_with fail
                      refine HFL.out.mono ?_
                      rintro E wm ⟨rfl, bm⟩
                      have HBm := Hid.mk' (bt HBk.out bm)
                      clear bm HFL
                      have HFN : Hid (fsB S9 (after r.safe r.queue j) = false → ∀ m, m < j + 1 → fsB S9 (after r.safe r.queue m) = false) := fun h0 m hm => by
                        by_cases hmj : m = j
                        · subst hmj; exact h0
                        · exact (HF.out (by first | rfl | trivial)) m (by omega)
                      generalize fsB S9 (after r.safe r.queue j) = fb2 at *
                      go_wp2_with fail
                      go_roundw
                      case rel => exact ⟨j + 1, fb2, by omega, by go_num, rfl, HFN.out, HBm⟩
                      case measure => simp [intOf]; omega
                    · 
                      go_wp2_with fail
                      refine (twin_any HSx.out.dr (by rw [HD1.out.2.2.1]; decide)).mono ?_
                      rintro E wt ⟨rfl, bt9, M2, D2, hm2, hd2, ht2⟩
                      have HSt := Hid.mk' (HSx.out.up bt9)
                      have HTW := Hid.mk' (⟨hm2, hd2, ht2⟩ : _ ∧ _ ∧ _)
                      have hxs : w6.heap.size < wx.heap.size := (Array.getElem?_eq_some_iff.1 HSx.out.bx).1
                      have hbs : w4.heap.size < wx.heap.size := by obtain ⟨_, _, _, hx, _⟩ := HSx.out.dr.ex; exact (Array.getElem?_eq_some_iff.1 hx).1
                      clear bt9 hm2 hd2 ht2 c0 c1 c2 c3 c4
                      go_wp2_with fail
                      refine (crash_any keep HSt.out.dr (by rw [HD1.out.2.2.1]; trivial) (by rw [HD1.out.2.2.1]; have := HSLN.out; rw [HD1.out.2.1]; unfold maxLen; simp; omega) (by rw [HD1.out.2.2.1]; decide) HK1.out.1 HK1.out.2 (by rw [HD1.out.2.2.1]; decide)).mono ?_
                      rintro E wy ⟨rfl, hT⟩
                      have HKT : Hid (DrIs M2 D2 wy wx.heap.size d') := HTW.out.2.2.keep hT.1 fun k hk => by
                        have q1 : k < wx.heap.size := hk.elim (fun e => by rw [e]; exact hbs) fun hm => (HSx.out.dr.hM k hm).1
                        refine ⟨fun hm => ?_, fun hd => ?_, by omega⟩
                        · have := HTW.out.1 k hm; omega
                        · rcases HTW.out.2.1 k hd with h1 | h1
                          · rcases hk with h2 | h2
                            · exact (HSx.out.dr.hD k h1).2.2 h2
                            · exact (HSx.out.dr.hD k h1).2.1 h2
                          · omega
                      obtain ⟨M3, D3, A3, hs3⟩ := HSt.out.turn hT
                      have HSy := Hid.mk' hs3
                      have HY1 : Hid ((crD d' keep).seen = S9 ∧ (crD d' keep).dead = false) := by
                        refine ⟨?_, rfl⟩
                        show after d'.safe d'.queue _ = S9
                        rw [HD1.out.2.2.1, HD1.out.2.1]; rfl
                      obtain ⟨c0, c1, c2, c3, c4⟩ := box5 hs3.bx
                      clear hs3 hT hxs hbs
                      go_wp2_with fail
                      refine (rcrash_any keep HSy.out.rf HRK.out HUB.out HK1.out.1 HK1.out.2).mono ?_
                      rintro E wz ⟨vr, rfl, hrf, hbz⟩
                      obtain ⟨vs5, vq5, rfl, t5, o5⟩ := hrf
                      obtain ⟨xs5, xc5, rfl, hx5⟩ := t5.at
                      obtain ⟨ys5, yn5, yq5, rfl⟩ : ∃ a n c, vq5 = Value.slice a n c := (let ⟨a, c, e, _⟩ := o5.at; ⟨a, _, c, e⟩)
                      have HSz := Hid.mk' (HSy.out.up hbz)
                      have HKz := Hid.mk' (HKT.out.below hbz)
                      have HF1 := Hid.mk' (files_any HSz.out.dr t5 HY1.out.2 (by rw [HY1.out.1]; exact HSG.out.1) (by rw [HY1.out.1]; exact HSG.out.2.2) (by rw [HRS.out]; exact HSG.out.2.2) (by rw [HY1.out.1]; have := HSLN.out; omega) (by rw [HY1.out.1]; exact Nat.le_trans HSG.out.2.1 HTL.out))
                      rw [HY1.out.1, HRS.out, show fsB S9 S9 = true from by simp [fsB]] at HF1
                      obtain ⟨e0, e1', e2, e3, e4⟩ := box5 HSz.out.bx
                      clear c0 c1 c2 c3 c4 t5 o5 hx5 hbz
                      rw [HRS.out]
                      have hfld := fun w => field51 w xs5 ys5 S9.length xc5 yn5 yq5 (rfC r keep).room (rfC r keep).armed (rfC r keep).dead
                      go_wp2_with fail
                      refine HF1.out.mono ?_
                      rintro E wg ⟨rfl, bg⟩
                      have HSg := Hid.mk' (HSz.out.up bg)
                      have HKg := Hid.mk' (HKz.out.below bg)
                      clear e0 e1' e2 e3 e4 bg HF1 hfld
                      obtain ⟨c0, c1, c2, c3, c4⟩ := box5 HSg.out.bx
                      go_wp2_with fail
                      refine (rcrash_any keep HSg.out.rf HRK.out HUB.out HK1.out.1 HK1.out.2).mono ?_
                      rintro E wh ⟨vr, rfl, hrf, hbh⟩
                      obtain ⟨vs6, vq6, rfl, t6, o6⟩ := hrf
                      obtain ⟨xs6, xc6, rfl, hx6⟩ := t6.at
                      obtain ⟨ys6, yn6, yq6, rfl⟩ : ∃ a n c, vq6 = Value.slice a n c := (let ⟨a, c, e, _⟩ := o6.at; ⟨a, _, c, e⟩)
                      have HSh := Hid.mk' (HSg.out.up hbh)
                      have HF2 := Hid.mk' (files_any (HKg.out.below hbh) t6 HD1.out.2.2.2 (by rw [HD1.out.1]; exact HSG.out.1) (by rw [HD1.out.1]; exact HSG.out.2.2) (by rw [HRS.out]; exact HSG.out.2.2) (by rw [HD1.out.1]; have := HSLN.out; omega) (by rw [HD1.out.1]; exact Nat.le_trans HSG.out.2.1 HTL.out))
                      rw [HD1.out.1, HRS.out, show fsB S9 S9 = true from by simp [fsB]] at HF2
                      clear c0 c1 c2 c3 c4 t6 o6 hx6 hbh
                      rw [HRS.out]
                      have hfld := fun w => field51 w xs6 ys6 S9.length xc6 yn6 yq6 (rfC r keep).room (rfC r keep).armed (rfC r keep).dead
                      go_wp2_with fail
                      refine HF2.out.mono ?_
                      rintro E wi ⟨rfl, bi⟩
                      have HSi := Hid.mk' (HSh.out.up bi)
                      clear bi HF2
                      go_wp2_with fail
                      go_ret
                      exact ⟨rfl, HSi.out.bl⟩
                  · have hU2 : ¬ (U : Int) < 2000 := by omega
                    cases fb
                    · 
                      go_wp2_with fail
                      refine (twin_any HSx.out.dr (by rw [HD1.out.2.2.1]; decide)).mono ?_
                      rintro E wt ⟨rfl, bt9, M2, D2, hm2, hd2, ht2⟩
                      have HSt := Hid.mk' (HSx.out.up bt9)
                      have HTW := Hid.mk' (⟨hm2, hd2, ht2⟩ : _ ∧ _ ∧ _)
                      have hxs : w6.heap.size < wx.heap.size := (Array.getElem?_eq_some_iff.1 HSx.out.bx).1
                      have hbs : w4.heap.size < wx.heap.size := by obtain ⟨_, _, _, hx, _⟩ := HSx.out.dr.ex; exact (Array.getElem?_eq_some_iff.1 hx).1
                      clear bt9 hm2 hd2 ht2 c0 c1 c2 c3 c4
                      go_wp2_with fail
                      refine (crash_any keep HSt.out.dr (by rw [HD1.out.2.2.1]; trivial) (by rw [HD1.out.2.2.1]; have := HSLN.out; rw [HD1.out.2.1]; unfold maxLen; simp; omega) (by rw [HD1.out.2.2.1]; decide) HK1.out.1 HK1.out.2 (by rw [HD1.out.2.2.1]; decide)).mono ?_
                      rintro E wy ⟨rfl, hT⟩
                      have HKT : Hid (DrIs M2 D2 wy wx.heap.size d') := HTW.out.2.2.keep hT.1 fun k hk => by
                        have q1 : k < wx.heap.size := hk.elim (fun e => by rw [e]; exact hbs) fun hm => (HSx.out.dr.hM k hm).1
                        refine ⟨fun hm => ?_, fun hd => ?_, by omega⟩
                        · have := HTW.out.1 k hm; omega
                        · rcases HTW.out.2.1 k hd with h1 | h1
                          · rcases hk with h2 | h2
                            · exact (HSx.out.dr.hD k h1).2.2 h2
                            · exact (HSx.out.dr.hD k h1).2.1 h2
                          · omega
                      obtain ⟨M3, D3, A3, hs3⟩ := HSt.out.turn hT
                      have HSy := Hid.mk' hs3
                      have HY1 : Hid ((crD d' keep).seen = S9 ∧ (crD d' keep).dead = false) := by
                        refine ⟨?_, rfl⟩
                        show after d'.safe d'.queue _ = S9
                        rw [HD1.out.2.2.1, HD1.out.2.1]; rfl
                      obtain ⟨c0, c1, c2, c3, c4⟩ := box5 hs3.bx
                      clear hs3 hT hxs hbs
                      go_wp2_with fail
                      refine (rcrash_any keep HSy.out.rf HRK.out HUB.out HK1.out.1 HK1.out.2).mono ?_
                      rintro E wz ⟨vr, rfl, hrf, hbz⟩
                      obtain ⟨vs5, vq5, rfl, t5, o5⟩ := hrf
                      obtain ⟨xs5, xc5, rfl, hx5⟩ := t5.at
                      obtain ⟨ys5, yn5, yq5, rfl⟩ : ∃ a n c, vq5 = Value.slice a n c := (let ⟨a, c, e, _⟩ := o5.at; ⟨a, _, c, e⟩)
                      have HSz := Hid.mk' (HSy.out.up hbz)
                      have HKz := Hid.mk' (HKT.out.below hbz)
                      have HF1 := Hid.mk' (files_any HSz.out.dr t5 HY1.out.2 (by rw [HY1.out.1]; exact HSG.out.1) (by rw [HY1.out.1]; exact HSG.out.2.2) (by rw [HRS.out]; exact HSG.out.2.2) (by rw [HY1.out.1]; have := HSLN.out; omega) (by rw [HY1.out.1]; exact Nat.le_trans HSG.out.2.1 HTL.out))
                      rw [HY1.out.1, HRS.out, show fsB S9 S9 = true from by simp [fsB]] at HF1
                      obtain ⟨e0, e1', e2, e3, e4⟩ := box5 HSz.out.bx
                      clear c0 c1 c2 c3 c4 t5 o5 hx5 hbz
                      rw [HRS.out]
                      have hfld := fun w => field51 w xs5 ys5 S9.length xc5 yn5 yq5 (rfC r keep).room (rfC r keep).armed (rfC r keep).dead
                      go_wp2_with fail
                      refine HF1.out.mono ?_
                      rintro E wg ⟨rfl, bg⟩
                      have HSg := Hid.mk' (HSz.out.up bg)
                      have HKg := Hid.mk' (HKz.out.below bg)
                      clear e0 e1' e2 e3 e4 bg HF1 hfld
                      obtain ⟨c0, c1, c2, c3, c4⟩ := box5 HSg.out.bx
                      go_wp2_with fail
                      refine (rcrash_any keep HSg.out.rf HRK.out HUB.out HK1.out.1 HK1.out.2).mono ?_
                      rintro E wh ⟨vr, rfl, hrf, hbh⟩
                      obtain ⟨vs6, vq6, rfl, t6, o6⟩ := hrf
                      obtain ⟨xs6, xc6, rfl, hx6⟩ := t6.at
                      obtain ⟨ys6, yn6, yq6, rfl⟩ : ∃ a n c, vq6 = Value.slice a n c := (let ⟨a, c, e, _⟩ := o6.at; ⟨a, _, c, e⟩)
                      have HSh := Hid.mk' (HSg.out.up hbh)
                      have HF2 := Hid.mk' (files_any (HKg.out.below hbh) t6 HD1.out.2.2.2 (by rw [HD1.out.1]; exact HSG.out.1) (by rw [HD1.out.1]; exact HSG.out.2.2) (by rw [HRS.out]; exact HSG.out.2.2) (by rw [HD1.out.1]; have := HSLN.out; omega) (by rw [HD1.out.1]; exact Nat.le_trans HSG.out.2.1 HTL.out))
                      rw [HD1.out.1, HRS.out, show fsB S9 S9 = true from by simp [fsB]] at HF2
                      clear c0 c1 c2 c3 c4 t6 o6 hx6 hbh
                      rw [HRS.out]
                      have hfld := fun w => field51 w xs6 ys6 S9.length xc6 yn6 yq6 (rfC r keep).room (rfC r keep).armed (rfC r keep).dead
                      go_wp2_with fail
                      refine HF2.out.mono ?_
                      rintro E wi ⟨rfl, bi⟩
                      have HSi := Hid.mk' (HSh.out.up bi)
                      clear bi HF2
                      go_wp2_with fail
                      go_ret
                      exact ⟨rfl, HSi.out.bl⟩
                    · 
                      go_wp2_with fail
                      refine (twin_any HSx.out.dr (by rw [HD1.out.2.2.1]; decide)).mono ?_
                      rintro E wt ⟨rfl, bt9, M2, D2, hm2, hd2, ht2⟩
                      have HSt := Hid.mk' (HSx.out.up bt9)
                      have HTW := Hid.mk' (⟨hm2, hd2, ht2⟩ : _ ∧ _ ∧ _)
                      have hxs : w6.heap.size < wx.heap.size := (Array.getElem?_eq_some_iff.1 HSx.out.bx).1
                      have hbs : w4.heap.size < wx.heap.size := by obtain ⟨_, _, _, hx, _⟩ := HSx.out.dr.ex; exact (Array.getElem?_eq_some_iff.1 hx).1
                      clear bt9 hm2 hd2 ht2 c0 c1 c2 c3 c4
                      go_wp2_with fail
                      refine (crash_any keep HSt.out.dr (by rw [HD1.out.2.2.1]; trivial) (by rw [HD1.out.2.2.1]; have := HSLN.out; rw [HD1.out.2.1]; unfold maxLen; simp; omega) (by rw [HD1.out.2.2.1]; decide) HK1.out.1 HK1.out.2 (by rw [HD1.out.2.2.1]; decide)).mono ?_
                      rintro E wy ⟨rfl, hT⟩
                      have HKT : Hid (DrIs M2 D2 wy wx.heap.size d') := HTW.out.2.2.keep hT.1 fun k hk => by
                        have q1 : k < wx.heap.size := hk.elim (fun e => by rw [e]; exact hbs) fun hm => (HSx.out.dr.hM k hm).1
                        refine ⟨fun hm => ?_, fun hd => ?_, by omega⟩
                        · have := HTW.out.1 k hm; omega
                        · rcases HTW.out.2.1 k hd with h1 | h1
                          · rcases hk with h2 | h2
                            · exact (HSx.out.dr.hD k h1).2.2 h2
                            · exact (HSx.out.dr.hD k h1).2.1 h2
                          · omega
                      obtain ⟨M3, D3, A3, hs3⟩ := HSt.out.turn hT
                      have HSy := Hid.mk' hs3
                      have HY1 : Hid ((crD d' keep).seen = S9 ∧ (crD d' keep).dead = false) := by
                        refine ⟨?_, rfl⟩
                        show after d'.safe d'.queue _ = S9
                        rw [HD1.out.2.2.1, HD1.out.2.1]; rfl
                      obtain ⟨c0, c1, c2, c3, c4⟩ := box5 hs3.bx
                      clear hs3 hT hxs hbs
                      go_wp2_with fail
                      refine (rcrash_any keep HSy.out.rf HRK.out HUB.out HK1.out.1 HK1.out.2).mono ?_
                      rintro E wz ⟨vr, rfl, hrf, hbz⟩
                      obtain ⟨vs5, vq5, rfl, t5, o5⟩ := hrf
                      obtain ⟨xs5, xc5, rfl, hx5⟩ := t5.at
                      obtain ⟨ys5, yn5, yq5, rfl⟩ : ∃ a n c, vq5 = Value.slice a n c := (let ⟨a, c, e, _⟩ := o5.at; ⟨a, _, c, e⟩)
                      have HSz := Hid.mk' (HSy.out.up hbz)
                      have HKz := Hid.mk' (HKT.out.below hbz)
                      have HF1 := Hid.mk' (files_any HSz.out.dr t5 HY1.out.2 (by rw [HY1.out.1]; exact HSG.out.1) (by rw [HY1.out.1]; exact HSG.out.2.2) (by rw [HRS.out]; exact HSG.out.2.2) (by rw [HY1.out.1]; have := HSLN.out; omega) (by rw [HY1.out.1]; exact Nat.le_trans HSG.out.2.1 HTL.out))
                      rw [HY1.out.1, HRS.out, show fsB S9 S9 = true from by simp [fsB]] at HF1
                      obtain ⟨e0, e1', e2, e3, e4⟩ := box5 HSz.out.bx
                      clear c0 c1 c2 c3 c4 t5 o5 hx5 hbz
                      rw [HRS.out]
                      have hfld := fun w => field51 w xs5 ys5 S9.length xc5 yn5 yq5 (rfC r keep).room (rfC r keep).armed (rfC r keep).dead
                      go_wp2_with fail
                      refine HF1.out.mono ?_
                      rintro E wg ⟨rfl, bg⟩
                      have HSg := Hid.mk' (HSz.out.up bg)
                      have HKg := Hid.mk' (HKz.out.below bg)
                      clear e0 e1' e2 e3 e4 bg HF1 hfld
                      obtain ⟨c0, c1, c2, c3, c4⟩ := box5 HSg.out.bx
                      go_wp2_with fail
                      refine (rcrash_any keep HSg.out.rf HRK.out HUB.out HK1.out.1 HK1.out.2).mono ?_
                      rintro E wh ⟨vr, rfl, hrf, hbh⟩
                      obtain ⟨vs6, vq6, rfl, t6, o6⟩ := hrf
                      obtain ⟨xs6, xc6, rfl, hx6⟩ := t6.at
                      obtain ⟨ys6, yn6, yq6, rfl⟩ : ∃ a n c, vq6 = Value.slice a n c := (let ⟨a, c, e, _⟩ := o6.at; ⟨a, _, c, e⟩)
                      have HSh := Hid.mk' (HSg.out.up hbh)
                      have HF2 := Hid.mk' (files_any (HKg.out.below hbh) t6 HD1.out.2.2.2 (by rw [HD1.out.1]; exact HSG.out.1) (by rw [HD1.out.1]; exact HSG.out.2.2) (by rw [HRS.out]; exact HSG.out.2.2) (by rw [HD1.out.1]; have := HSLN.out; omega) (by rw [HD1.out.1]; exact Nat.le_trans HSG.out.2.1 HTL.out))
                      rw [HD1.out.1, HRS.out, show fsB S9 S9 = true from by simp [fsB]] at HF2
                      clear c0 c1 c2 c3 c4 t6 o6 hx6 hbh
                      rw [HRS.out]
                      have hfld := fun w => field51 w xs6 ys6 S9.length xc6 yn6 yq6 (rfC r keep).room (rfC r keep).armed (rfC r keep).dead
                      go_wp2_with fail
                      refine HF2.out.mono ?_
                      rintro E wi ⟨rfl, bi⟩
                      have HSi := Hid.mk' (HSh.out.up bi)
                      clear bi HF2
                      go_wp2_with fail
                      go_ret
                      exact ⟨rfl, HSi.out.bl⟩
                · cases fb
                  · have hU2 : ¬ (U : Int) < 2000 := fun hU => by
                      have h1 := (HF.out (by first | rfl | trivial)) K (by have := HKU2.out; omega)
                      rw [← HS9.out] at h1
                      simp [fsB] at h1
          
                    go_wp2_with fail
                    refine (twin_any HSx.out.dr (by rw [HD1.out.2.2.1]; decide)).mono ?_
                    rintro E wt ⟨rfl, bt9, M2, D2, hm2, hd2, ht2⟩
                    have HSt := Hid.mk' (HSx.out.up bt9)
                    have HTW := Hid.mk' (⟨hm2, hd2, ht2⟩ : _ ∧ _ ∧ _)
                    have hxs : w6.heap.size < wx.heap.size := (Array.getElem?_eq_some_iff.1 HSx.out.bx).1
                    have hbs : w4.heap.size < wx.heap.size := by obtain ⟨_, _, _, hx, _⟩ := HSx.out.dr.ex; exact (Array.getElem?_eq_some_iff.1 hx).1
                    clear bt9 hm2 hd2 ht2 c0 c1 c2 c3 c4
                    go_wp2_with fail
                    refine (crash_any keep HSt.out.dr (by rw [HD1.out.2.2.1]; trivial) (by rw [HD1.out.2.2.1]; have := HSLN.out; rw [HD1.out.2.1]; unfold maxLen; simp; omega) (by rw [HD1.out.2.2.1]; decide) HK1.out.1 HK1.out.2 (by rw [HD1.out.2.2.1]; decide)).mono ?_
                    rintro E wy ⟨rfl, hT⟩
                    have HKT : Hid (DrIs M2 D2 wy wx.heap.size d') := HTW.out.2.2.keep hT.1 fun k hk => by
                      have q1 : k < wx.heap.size := hk.elim (fun e => by rw [e]; exact hbs) fun hm => (HSx.out.dr.hM k hm).1
                      refine ⟨fun hm => ?_, fun hd => ?_, by omega⟩
                      · have := HTW.out.1 k hm; omega
                      · rcases HTW.out.2.1 k hd with h1 | h1
                        · rcases hk with h2 | h2
                          · exact (HSx.out.dr.hD k h1).2.2 h2
                          · exact (HSx.out.dr.hD k h1).2.1 h2
                        · omega
                    obtain ⟨M3, D3, A3, hs3⟩ := HSt.out.turn hT
                    have HSy := Hid.mk' hs3
                    have HY1 : Hid ((crD d' keep).seen = S9 ∧ (crD d' keep).dead = false) := by
                      refine ⟨?_, rfl⟩
                      show after d'.safe d'.queue _ = S9
                      rw [HD1.out.2.2.1, HD1.out.2.1]; rfl
                    obtain ⟨c0, c1, c2, c3, c4⟩ := box5 hs3.bx
                    clear hs3 hT hxs hbs
                    go_wp2_with fail
                    refine (rcrash_any keep HSy.out.rf HRK.out HUB.out HK1.out.1 HK1.out.2).mono ?_
                    rintro E wz ⟨vr, rfl, hrf, hbz⟩
                    obtain ⟨vs5, vq5, rfl, t5, o5⟩ := hrf
                    obtain ⟨xs5, xc5, rfl, hx5⟩ := t5.at
                    obtain ⟨ys5, yn5, yq5, rfl⟩ : ∃ a n c, vq5 = Value.slice a n c := (let ⟨a, c, e, _⟩ := o5.at; ⟨a, _, c, e⟩)
                    have HSz := Hid.mk' (HSy.out.up hbz)
                    have HKz := Hid.mk' (HKT.out.below hbz)
                    have HF1 := Hid.mk' (files_any HSz.out.dr t5 HY1.out.2 (by rw [HY1.out.1]; exact HSG.out.1) (by rw [HY1.out.1]; exact HSG.out.2.2) (by rw [HRS.out]; exact HSG.out.2.2) (by rw [HY1.out.1]; have := HSLN.out; omega) (by rw [HY1.out.1]; exact Nat.le_trans HSG.out.2.1 HTL.out))
                    rw [HY1.out.1, HRS.out, show fsB S9 S9 = true from by simp [fsB]] at HF1
                    obtain ⟨e0, e1', e2, e3, e4⟩ := box5 HSz.out.bx
                    clear c0 c1 c2 c3 c4 t5 o5 hx5 hbz
                    rw [HRS.out]
                    have hfld := fun w => field51 w xs5 ys5 S9.length xc5 yn5 yq5 (rfC r keep).room (rfC r keep).armed (rfC r keep).dead
                    go_wp2_with fail
                    refine HF1.out.mono ?_
                    rintro E wg ⟨rfl, bg⟩
                    have HSg := Hid.mk' (HSz.out.up bg)
                    have HKg := Hid.mk' (HKz.out.below bg)
                    clear e0 e1' e2 e3 e4 bg HF1 hfld
                    obtain ⟨c0, c1, c2, c3, c4⟩ := box5 HSg.out.bx
                    go_wp2_with fail
                    refine (rcrash_any keep HSg.out.rf HRK.out HUB.out HK1.out.1 HK1.out.2).mono ?_
                    rintro E wh ⟨vr, rfl, hrf, hbh⟩
                    obtain ⟨vs6, vq6, rfl, t6, o6⟩ := hrf
                    obtain ⟨xs6, xc6, rfl, hx6⟩ := t6.at
                    obtain ⟨ys6, yn6, yq6, rfl⟩ : ∃ a n c, vq6 = Value.slice a n c := (let ⟨a, c, e, _⟩ := o6.at; ⟨a, _, c, e⟩)
                    have HSh := Hid.mk' (HSg.out.up hbh)
                    have HF2 := Hid.mk' (files_any (HKg.out.below hbh) t6 HD1.out.2.2.2 (by rw [HD1.out.1]; exact HSG.out.1) (by rw [HD1.out.1]; exact HSG.out.2.2) (by rw [HRS.out]; exact HSG.out.2.2) (by rw [HD1.out.1]; have := HSLN.out; omega) (by rw [HD1.out.1]; exact Nat.le_trans HSG.out.2.1 HTL.out))
                    rw [HD1.out.1, HRS.out, show fsB S9 S9 = true from by simp [fsB]] at HF2
                    clear c0 c1 c2 c3 c4 t6 o6 hx6 hbh
                    rw [HRS.out]
                    have hfld := fun w => field51 w xs6 ys6 S9.length xc6 yn6 yq6 (rfC r keep).room (rfC r keep).armed (rfC r keep).dead
                    go_wp2_with fail
                    refine HF2.out.mono ?_
                    rintro E wi ⟨rfl, bi⟩
                    have HSi := Hid.mk' (HSh.out.up bi)
                    clear bi HF2
                    go_wp2_with fail
                    go_ret
                    exact ⟨rfl, HSi.out.bl⟩
                  · 
                    go_wp2_with fail
                    refine (twin_any HSx.out.dr (by rw [HD1.out.2.2.1]; decide)).mono ?_
                    rintro E wt ⟨rfl, bt9, M2, D2, hm2, hd2, ht2⟩
                    have HSt := Hid.mk' (HSx.out.up bt9)
                    have HTW := Hid.mk' (⟨hm2, hd2, ht2⟩ : _ ∧ _ ∧ _)
                    have hxs : w6.heap.size < wx.heap.size := (Array.getElem?_eq_some_iff.1 HSx.out.bx).1
                    have hbs : w4.heap.size < wx.heap.size := by obtain ⟨_, _, _, hx, _⟩ := HSx.out.dr.ex; exact (Array.getElem?_eq_some_iff.1 hx).1
                    clear bt9 hm2 hd2 ht2 c0 c1 c2 c3 c4
                    go_wp2_with fail
                    refine (crash_any keep HSt.out.dr (by rw [HD1.out.2.2.1]; trivial) (by rw [HD1.out.2.2.1]; have := HSLN.out; rw [HD1.out.2.1]; unfold maxLen; simp; omega) (by rw [HD1.out.2.2.1]; decide) HK1.out.1 HK1.out.2 (by rw [HD1.out.2.2.1]; decide)).mono ?_
                    rintro E wy ⟨rfl, hT⟩
                    have HKT : Hid (DrIs M2 D2 wy wx.heap.size d') := HTW.out.2.2.keep hT.1 fun k hk => by
                      have q1 : k < wx.heap.size := hk.elim (fun e => by rw [e]; exact hbs) fun hm => (HSx.out.dr.hM k hm).1
                      refine ⟨fun hm => ?_, fun hd => ?_, by omega⟩
                      · have := HTW.out.1 k hm; omega
                      · rcases HTW.out.2.1 k hd with h1 | h1
                        · rcases hk with h2 | h2
                          · exact (HSx.out.dr.hD k h1).2.2 h2
                          · exact (HSx.out.dr.hD k h1).2.1 h2
                        · omega
                    obtain ⟨M3, D3, A3, hs3⟩ := HSt.out.turn hT
                    have HSy := Hid.mk' hs3
                    have HY1 : Hid ((crD d' keep).seen = S9 ∧ (crD d' keep).dead = false) := by
                      refine ⟨?_, rfl⟩
                      show after d'.safe d'.queue _ = S9
                      rw [HD1.out.2.2.1, HD1.out.2.1]; rfl
                    obtain ⟨c0, c1, c2, c3, c4⟩ := box5 hs3.bx
                    clear hs3 hT hxs hbs
                    go_wp2_with fail
                    refine (rcrash_any keep HSy.out.rf HRK.out HUB.out HK1.out.1 HK1.out.2).mono ?_
                    rintro E wz ⟨vr, rfl, hrf, hbz⟩
                    obtain ⟨vs5, vq5, rfl, t5, o5⟩ := hrf
                    obtain ⟨xs5, xc5, rfl, hx5⟩ := t5.at
                    obtain ⟨ys5, yn5, yq5, rfl⟩ : ∃ a n c, vq5 = Value.slice a n c := (let ⟨a, c, e, _⟩ := o5.at; ⟨a, _, c, e⟩)
                    have HSz := Hid.mk' (HSy.out.up hbz)
                    have HKz := Hid.mk' (HKT.out.below hbz)
                    have HF1 := Hid.mk' (files_any HSz.out.dr t5 HY1.out.2 (by rw [HY1.out.1]; exact HSG.out.1) (by rw [HY1.out.1]; exact HSG.out.2.2) (by rw [HRS.out]; exact HSG.out.2.2) (by rw [HY1.out.1]; have := HSLN.out; omega) (by rw [HY1.out.1]; exact Nat.le_trans HSG.out.2.1 HTL.out))
                    rw [HY1.out.1, HRS.out, show fsB S9 S9 = true from by simp [fsB]] at HF1
                    obtain ⟨e0, e1', e2, e3, e4⟩ := box5 HSz.out.bx
                    clear c0 c1 c2 c3 c4 t5 o5 hx5 hbz
                    rw [HRS.out]
                    have hfld := fun w => field51 w xs5 ys5 S9.length xc5 yn5 yq5 (rfC r keep).room (rfC r keep).armed (rfC r keep).dead
                    go_wp2_with fail
                    refine HF1.out.mono ?_
                    rintro E wg ⟨rfl, bg⟩
                    have HSg := Hid.mk' (HSz.out.up bg)
                    have HKg := Hid.mk' (HKz.out.below bg)
                    clear e0 e1' e2 e3 e4 bg HF1 hfld
                    obtain ⟨c0, c1, c2, c3, c4⟩ := box5 HSg.out.bx
                    go_wp2_with fail
                    refine (rcrash_any keep HSg.out.rf HRK.out HUB.out HK1.out.1 HK1.out.2).mono ?_
                    rintro E wh ⟨vr, rfl, hrf, hbh⟩
                    obtain ⟨vs6, vq6, rfl, t6, o6⟩ := hrf
                    obtain ⟨xs6, xc6, rfl, hx6⟩ := t6.at
                    obtain ⟨ys6, yn6, yq6, rfl⟩ : ∃ a n c, vq6 = Value.slice a n c := (let ⟨a, c, e, _⟩ := o6.at; ⟨a, _, c, e⟩)
                    have HSh := Hid.mk' (HSg.out.up hbh)
                    have HF2 := Hid.mk' (files_any (HKg.out.below hbh) t6 HD1.out.2.2.2 (by rw [HD1.out.1]; exact HSG.out.1) (by rw [HD1.out.1]; exact HSG.out.2.2) (by rw [HRS.out]; exact HSG.out.2.2) (by rw [HD1.out.1]; have := HSLN.out; omega) (by rw [HD1.out.1]; exact Nat.le_trans HSG.out.2.1 HTL.out))
                    rw [HD1.out.1, HRS.out, show fsB S9 S9 = true from by simp [fsB]] at HF2
                    clear c0 c1 c2 c3 c4 t6 o6 hx6 hbh
                    rw [HRS.out]
                    have hfld := fun w => field51 w xs6 ys6 S9.length xc6 yn6 yq6 (rfC r keep).room (rfC r keep).armed (rfC r keep).dead
                    go_wp2_with fail
                    refine HF2.out.mono ?_
                    rintro E wi ⟨rfl, bi⟩
                    have HSi := Hid.mk' (HSh.out.up bi)
                    clear bi HF2
                    go_wp2_with fail
                    go_ret
                    exact ⟨rfl, HSi.out.bl⟩
end Go.Proofs.Ytpgpncngamagdaa
