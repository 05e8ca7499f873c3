/- groynelaw04.DrivePlays. -/
import Derived.Test.YtpgpncngamagdaaPZ
import Derived.Test.YtpgpncngamagdaaPY
set_option linter.unusedVariables false
set_option linter.unusedSimpArgs false
namespace Go.Proofs.Ytpgpncngamagdaa
open Go.RowKit
attribute [local go_sem ↓] Go.wp_at_zero Go.wp_at_succ
def dz : Dm := ⟨[], [], [], 0, false, 0, false⟩
theorem zero_is (w : World) : Aw w.heap.size w w.heap.size dz (w.alloc (.cells #[.map none, .map none, .slice none 0 0, .int .i64 0, .bool false, .int .i64 0, .bool false] 46)) := by
  refine ⟨fun _ => False, fun _ => False, ⟨⟨none, none, .slice none 0 0, ?_, .inl ⟨rfl, rfl⟩, .inl ⟨rfl, rfl⟩, QueueIs.nil _ _, fun _ h => by cases h⟩, fun _ h => h.elim, fun _ h => h.elim, fun h => by cases h⟩, up_alloc _ _, fun _ h => h.elim, Nat.le_refl _, (up_alloc _ _).size⟩
  rw [heap_alloc_new]; rfl
theorem dz_facts : wrE dz [97] ((foz dz.seen [97]).length : Int) ([1] : By).length = 8 ∧ rawE dz 8 = 8 ∧ rawE dz 0 = 0 ∧ rawD dz (.write [97] (foz dz.seen [97]).length [1]) 8 = dz := by
  refine ⟨by decide, by decide, by decide, rfl⟩
theorem zero_app {B b : Nat} {w0 w : World} {A : Nat → Prop} {v : Value} (h : Aw B w0 b dz w) (hv : Bs A w v [1]) : Calls Try.prog 13 #[.pointer (some ⟨b, 0, none⟩), .string ⟨#[97]⟩, v] w fun E w' => E = .returned (.int .i64 8) ∧ Aw B w0 b dz w' := by
  have := h.app [97] [1] v (by decide) hv (by decide) ⟨by decide, by decide⟩ (by decide) (by decide) (by decide)
  rw [dz_facts.1, dz_facts.2.1, dz_facts.2.2.2] at this
  exact this
theorem zero_used {B b : Nat} {w0 w : World} (h : Aw B w0 b dz w) : Calls Try.prog 24 #[.pointer (some ⟨b, 0, none⟩)] w fun E w' => E = .returned (.int .i64 0) ∧ Aw B w0 b dz w' := by
  obtain ⟨M, D, h1, h2, h3, h4, h5⟩ := h
  refine (used_is h1 (by decide)).mono ?_
  rintro E w' ⟨rfl, hb⟩
  exact ⟨rfl, Aw.up ⟨M, D, h1, h2, h3, h4, h5⟩ hb⟩
theorem zero_flush {B b : Nat} {w0 w : World} (h : Aw B w0 b dz w) : Calls Try.prog 22 #[.pointer (some ⟨b, 0, none⟩)] w fun E w' => E = .returned (.int .i64 0) ∧ Below B w0 w' := by
  have := h.flush
  rw [dz_facts.2.2.1] at this
  exact this.mono fun E w' ⟨h1, M, D, _, h2, _⟩ => ⟨h1, h2⟩
/-- how things stand in the loop -/
def Pl (w0 : World) (b x : Nat) (l : List Ac) (k : Nat) (wr : World) : Prop :=
  ∃ (d : Dm) (r : Rd) (M D A : Nat → Prop) (vb : Array Value) (T : Nat), Sl w0 b x d r M D A vb wr ∧ Eqv d r ∧ Gd T k r ∧ T ≤ smd (l.take k)
set_option maxRecDepth 100000 in
set_option maxHeartbeats 8000000 in
/-- groynelaw04.DrivePlays -/
theorem drivePlays_any {A0 : Nat → Prop} {w : World} {v : Value} {l : List Ac} (room : Int) (hroom : room ≤ 9223372036854775807) (h : As A0 w v l) (hs : smd l ≤ 2000000) : Calls Try.prog 4 #[.int .i64 room, v] w fun e w' => e = .returned (.bool true) ∧ Below w.heap.size w w' := by
  obtain ⟨va, vc, rfl, hx1⟩ := h.at
  clear hx1
  have HA := Hid.mk' h.andLt
  have HS := Hid.mk' hs
  have HRM := Hid.mk' hroom
  clear h hs
  go_enter Try.func4, Try.ntmps4
  go_wp2_with fail
  refine (awake_any w).mono ?_
  rintro E w1 ⟨rfl, b1⟩
  have B1 := Hid.mk' b1
  clear b1
  have Z1 := Hid.mk' (zero_is w1)
  go_wp2_with fail
  obtain ⟨wz, hwz⟩ : ∃ wz, wz = w1.alloc (.cells #[.map none, .map none, .slice none 0 0, .int .i64 0, .bool false, .int .i64 0, .bool false] 46) := ⟨_, rfl⟩
  have HSZ : Hid (wz.heap.size = w1.heap.size + 1) := by show _ = _; rw [hwz]; simp
  rw [← hwz] at Z1 ⊢
  clear hwz
  have hb9 : Bs (fun _ => True) (wz.alloc (.cells #[.int .u8 1] 5)) (.slice (some ⟨w1.heap.size + 1, 0, none⟩) 1 1) [1] := by
    have := bs_lit (w := wz) (l := [1]) (by decide)
    rw [HSZ.out] at this
    exact this
  refine (zero_app (Z1.out.up (up_alloc wz (.cells #[.int .u8 1] 5))) hb9).mono ?_
  rintro E w2 ⟨rfl, z2⟩
  have Z2 := Hid.mk' z2
  clear z2 Z1 hb9
  go_wp2_with fail
  refine (zero_used Z2.out).mono ?_
  rintro E w3 ⟨rfl, z3⟩
  have Z3 := Hid.mk' z3
  clear z3 Z2
  go_wp2_with fail
  refine (zero_flush Z3.out).mono ?_
  rintro E w4 ⟨rfl, b4⟩
  have B4 := Hid.mk' (bt B1.out b4)
  clear b4 Z3
  go_wp2_with fail
  refine (new_any w4 room).mono ?_
  rintro E w5 ⟨rfl, b5, hd5⟩
  have HD5 := Hid.mk' hd5
  have B5 := Hid.mk' b5
  clear b5 hd5
  go_wp2_with fail
  refine (rnew_any room).mono ?_
  rintro E w6 ⟨v6, rfl, hr6, b6⟩
  have HR6 := Hid.mk' hr6
  have B6 := Hid.mk' b6
  obtain ⟨vs, vq, rfl, hts, hos⟩ := hr6
  obtain ⟨sa, sn, sc, rfl⟩ : ∃ a n c, vs = Value.slice a n c := (let ⟨a, c, e, _⟩ := hts.at; ⟨a, _, c, e⟩)
  obtain ⟨qa, qn, qc, rfl⟩ : ∃ a n c, vq = Value.slice a n c := (let ⟨a, c, e, _⟩ := hos.at; ⟨a, _, c, e⟩)
  clear b6 hts hos
  go_wp2_with fail
  obtain ⟨W, hW⟩ : ∃ W, W = w6.alloc (.cells #[.slice sa sn sc, .slice qa qn qc, .int .i64 (max 0 room), .int .i64 (-1), .bool false] 51) := ⟨_, rfl⟩
  have HSL : Hid (∀ L, Pl w w4.heap.size w6.heap.size L 0 W) := by
    intro L
    have s5 := B5.out.size
    have s6 := B6.out.size
    have s4 := B4.out.size
    have hup := up_alloc w6 (.cells #[.slice sa sn sc, .slice qa qn qc, .int .i64 (max 0 room), .int .i64 (-1), .bool false] 51)
    have hb4 : w4.heap.size < w5.heap.size := by obtain ⟨_, _, _, hx, _⟩ := HD5.out.ex; exact (Array.getElem?_eq_some_iff.1 hx).1
    refine ⟨_, _, fun _ => False, fun _ => False, fun k => ((False ∨ w5.heap.size ≤ k) ∧ k < w6.heap.size), #[.slice sa sn sc, .slice qa qn qc, .int .i64 (max 0 room), .int .i64 (-1), .bool false], 0, ⟨?_, ?_, ?_, ?_, fun k hk => False.elim hk, fun k hk => False.elim hk, fun k hk => ⟨fun h => h, ?_, ?_⟩, ⟨?_, ?_⟩, ?_⟩, Eqv.new room, Gd.new room HRM.out, Nat.zero_le _⟩
    · rw [hW]; exact bt (bt (bt B4.out B5.out) B6.out) hup
    · rw [hW]; exact (HD5.out.below B6.out).below hup
    · rw [hW]; exact (HR6.out.andLt).up hup
    · rw [hW]; exact heap_alloc_new w6 _
    · have := hk.1.resolve_left (fun h => h); omega
    · have := hk.2; omega
    · omega
    · omega
    · omega
  rw [← hW]
  have HBW : Hid (Below w.heap.size w W) := by rw [hW]; exact bt (bt (bt B4.out B5.out) B6.out) (up_alloc _ _)
  clear hW
  have hcut := cut_any 50 (HA.out.up HBW.out) (by decide)
  rw [show ((50 : Nat) : Int) = 50 from rfl] at hcut
  refine hcut.mono ?_
  rintro E w7 ⟨⟨u7, rfl, hu7⟩, rfl⟩
  obtain ⟨L, hL⟩ : ∃ L, L = l.take 50 := ⟨_, rfl⟩
  rw [← hL] at hu7
  obtain ⟨a7, c7, rfl, hx7⟩ := hu7.at
  have hln : (L.length : Int) ≤ 50 := by rw [hL, List.length_take]; omega
  have HLT : Hid (As (fun k => A0 k ∧ k < w.heap.size) W (.slice a7 L.length c7) L) := hu7
  have HSM : Hid (∀ k, k ≤ L.length → smd (L.take k) ≤ 2000000 ∧ ∀ h : k < L.length, smd (L.take (k + 1)) = smd (L.take k) + L[k].da.length) := fun k hk => ⟨Nat.le_trans (smd_take_le L k) (by rw [hL]; exact Nat.le_trans (smd_take_le l 50) HS.out), fun h => smd_take L k h⟩
  clear hL
  clear hx7 hu7 hcut
  go_wp2_with fail
  go_loopw [31] (fun i wr => ∃ k : Nat, k ≤ L.length ∧ i = .int .i64 k ∧ Hid (Pl w w4.heap.size w6.heap.size L k wr) ∧ Hid (Below W.heap.size W wr ∨ True)) (fun i _ => L.length - (intOf i).toNat)
  case atStart => exact ⟨0, by omega, rfl, HSL.out L, .inr trivial⟩
  case round =>
    clear HSL
    obtain ⟨k, hk, rfl, HP, _⟩ := hrel
    obtain ⟨d, r, M, D, A, vb, T, hsl, heq, hgd, hT⟩ := HP.out
    have HSl := Hid.mk' hsl
    have HEq := Hid.mk' heq
    have HGd := Hid.mk' hgd
    have HTk := Hid.mk' hT
    clear hsl heq hgd hT
    by_cases hlt : k < L.length
    · have hlt' : (k : Int) < (L.length : Int) := by omega
      obtain ⟨_, _, ea, _, _, _, H⟩ := (HLT.out.keepS (w' := wr) (fun j hj => (HSl.out.bl.block j hj.2).trans (HBW.out.block j hj.2).symm)).at
      cases ea
      obtain ⟨ab, ao, u, rfl, ⟨d0, d1, d2, d3, d4⟩, hu, hin⟩ := H k hlt
      obtain ⟨ua, uc, rfl, hxu⟩ := hu.at
      have HS1 := (HSM.out k (by omega)).1
      have HS2 := (HSM.out k (by omega)).2 hlt
      have HS3 := (HSM.out (k + 1) (by omega)).1
      have HFIT : Hid (smd (L.take (k + 1)) = smd (L.take k) + L[k].da.length ∧ smd (L.take k) ≤ 2000000 ∧ smd (L.take (k + 1)) ≤ 2000000) := ⟨HS2, HS1, HS3⟩
      clear H hxu HS1 HS2 HS3
      have HU := Hid.mk' hu
      have HIN := Hid.mk' hin
      clear hu hin
      generalize L[k] = a at *
      obtain ⟨vs1, vq1, e1, t1, o1⟩ := HSl.out.rf
      obtain ⟨xs1, xn1, xq1, rfl⟩ : ∃ a n c, vs1 = Value.slice a n c := (let ⟨a, c, e, _⟩ := t1.at; ⟨a, _, c, e⟩)
      obtain ⟨ys1, yn1, yq1, rfl⟩ : ∃ a n c, vq1 = Value.slice a n c := (let ⟨a, c, e, _⟩ := o1.at; ⟨a, _, c, e⟩)
      cases e1
      clear t1 o1
      go_upto_region 11 with fail
      obtain ⟨wq, hwq⟩ : ∃ wq, wq = wr.alloc (.cells #[.int .i64 a.kind, .string ⟨a.nm.toArray⟩, .string ⟨a.tn.toArray⟩, .int .i64 a.n, .slice ua a.da.length uc] 55) := ⟨_, rfl⟩
      have hbq : Below wr.heap.size wr wq := by rw [hwq]; exact up_alloc _ _
      have haq : wq.heap[wr.heap.size]? = some (.cells #[.int .i64 a.kind, .string ⟨a.nm.toArray⟩, .string ⟨a.tn.toArray⟩, .int .i64 a.n, .slice ua a.da.length uc] 55 (0, 0)) := by rw [hwq]; exact heap_alloc_new wr _
      rw [← hwq]
      clear hwq d0 d1 d2 d3 d4
      have HBQ := Hid.mk' hbq
      have HAQ := Hid.mk' haq
      have HSq := Hid.mk' (HSl.out.up hbq)
      obtain ⟨c0, c1, c2, c3, c4⟩ := box5 HSq.out.bx
      obtain ⟨d0, d1, d2, d3, d4⟩ := box5 haq
      clear hbq haq
      go_wp2_with fail
      have hlim : lim = 140737488351232 := rfl
      have PL := play_any (Aa := fun j => A0 j ∧ j < w.heap.size) a HSq.out.dr HSq.out.rf (HU.out.up HBQ.out) (fun j hj => ⟨(HSq.out.hA j hj).1, (HSq.out.hA j hj).2.1⟩) (fun j hj => ⟨fun hm => by have := (HSq.out.hM j hm).1; omega, by have := HSq.out.hb.1; omega⟩) HEq.out HGd.out HGd.out ⟨by omega, by omega⟩ ⟨by have := HTk.out; have := HFIT.out.2.1; omega, by have := HTk.out; have := HFIT.out.2.1; omega⟩ HIN.out.1 HIN.out.2.1 ⟨HIN.out.2.2.1, HIN.out.2.2.2⟩ (.inr (by have := HTk.out; have := HFIT.out; omega))
      rw [show (plE d a == plF r a) = true by rw [(HEq.out.play HGd.out.tle a).1]; simp] at PL
      have HPL := Hid.mk' PL
      clear PL hlim
      refine HPL.out.mono ?_
      rintro E2 w2 ⟨v2, rfl, hw2, M2, D2, A2, hd2, hr2, iM, iD, iA, hA2⟩
      obtain ⟨vs2, vq2, rfl, t2, o2⟩ := id hr2
      obtain ⟨xs2, xn2, xq2, rfl⟩ : ∃ a n c, vs2 = Value.slice a n c := (let ⟨a, c, e, _⟩ := t2.at; ⟨a, _, c, e⟩)
      obtain ⟨ys2, yn2, yq2, rfl⟩ : ∃ a n c, vq2 = Value.slice a n c := (let ⟨a, c, e, _⟩ := o2.at; ⟨a, _, c, e⟩)
      have hxq : w6.heap.size < wr.heap.size := (Array.getElem?_eq_some_iff.1 HSl.out.bx).1
      have hbr : w4.heap.size < wr.heap.size := by obtain ⟨_, _, _, hx, _⟩ := HSl.out.dr.ex; exact (Array.getElem?_eq_some_iff.1 hx).1
      have hqz := HBQ.out.size
      have haz : wr.heap.size < wq.heap.size := (Array.getElem?_eq_some_iff.1 HAQ.out).1
      have hbx2 : w2.heap[w6.heap.size]? = _ := (hw2.block w6.heap.size (by omega) (fun hx => hx.elim (fun h => HSq.out.hb.2 h.symm) fun h => (HSq.out.hM _ h).2 rfl)).trans HSq.out.bx
      have hax2 : w2.heap[wr.heap.size]? = _ := (hw2.block wr.heap.size haz (fun hx => hx.elim (fun h => by omega) fun h => by have := (HSl.out.dr.hM _ h).1; omega)).trans HAQ.out
      obtain ⟨W9, hW9, h9, hb9⟩ := stored5 hbx2 (.slice xs2 xn2 xq2) (.slice ys2 yn2 yq2) (.int .i64 (plR r a).room) (.int .i64 (plR r a).armed) (.bool (plR r a).dead)
      have HS9 := Hid.mk' (HSq.out.play (fun j hj => hj.2) hw2 hd2 hr2 iM iD iA hA2 hb9 h9 (ok := true) (E := .returned (.bool true)))
      have hax9 : W9.heap[wr.heap.size]? = _ := (hb9.block wr.heap.size (Nat.lt_of_lt_of_le haz hw2.size) (by omega)).trans hax2
      have HE9 := Hid.mk' (HEq.out.play HGd.out.tle a).2
      obtain ⟨T9, t91, t92, hg9⟩ := HGd.out.play a HIN.out.1 HIN.out.2.1 HU.out.2 HIN.out.2.2.2 (.inr (by have := HTk.out; have := HFIT.out; have hlim : lim = 140737488351232 := rfl; omega))
      have HG9 := Hid.mk' hg9
      have HT9 : Hid (T9 ≤ smd (L.take (k + 1)) ∧ T9 ≤ lim) := by
        have := HTk.out; have := HFIT.out; have hlim : lim = 140737488351232 := rfl
        exact ⟨by omega, by omega⟩
      have HA9 := Hid.mk' hax9
      have HW9 := Hid.mk' hW9
      clear c0 c1 c2 c3 c4 d0 d1 d2 d3 d4 hg9 t91 t92 HPL hw2 hd2 hr2 iM iD iA hA2 t2 o2 hax2 hax9 hb9 h9 hW9 hxq hbr hqz haz
      obtain ⟨c0, c1, c2, c3, c4⟩ := box5 hbx2
      have hfx : ∀ j, w2.frozen? ⟨w6.heap.size, j, none⟩ = false := fun j => by simp only [World.frozen?, hbx2]; simp
      clear hbx2
      go_upto_region 12 with fail
      rw [← HW9.out]
      clear c0 c1 c2 c3 c4 hfx HW9
      obtain ⟨c0, c1, c2, c3, c4⟩ := box5 HS9.out.bx
      obtain ⟨d0, d1, d2, d3, d4⟩ := box5 HA9.out
      go_wp2_with fail
      refine (looks_any a.nm a.tn HS9.out.dr HS9.out.rf HE9.out HG9.out (by omega) HT9.out.2 HIN.out.1 HIN.out.2.1).mono ?_
      rintro E3 wa ⟨rfl, ba⟩
      have HSa := Hid.mk' (HS9.out.up ba)
      have haa : wa.heap[wr.heap.size]? = _ := (ba.block wr.heap.size (Array.getElem?_eq_some_iff.1 HA9.out).1).trans HA9.out
      clear c0 c1 c2 c3 c4 d0 d1 d2 d3 d4 ba
      obtain ⟨c0, c1, c2, c3, c4⟩ := box5 HSa.out.bx
      obtain ⟨d0, d1, d2, d3, d4⟩ := box5 haa
      clear haa
      go_wp2_with fail
      refine (looks_any a.tn [] HSa.out.dr HSa.out.rf HE9.out HG9.out (by omega) HT9.out.2 HIN.out.2.1 (Nat.zero_le _)).mono ?_
      rintro E4 wc ⟨rfl, bc⟩
      have HSc := Hid.mk' (HSa.out.up bc)
      clear c0 c1 c2 c3 c4 d0 d1 d2 d3 d4 bc
      go_wp2_with fail
      go_roundw
      case rel => exact ⟨k + 1, by omega, by go_num, ⟨_, _, _, _, _, _, T9, HSc.out, HE9.out, HG9.out, HT9.out.1⟩, .inr trivial⟩
      case measure => simp [intOf]; omega
    · obtain rfl : k = L.length := by omega
      have hlt' : ¬ (L.length : Int) < (L.length : Int) := by omega
      go_wp2_with fail
      go_ret
      exact ⟨rfl, HSl.out.bl⟩
end Go.Proofs.Ytpgpncngamagdaa
