/- groyneref04.After, New, Wipe, Arm. -/
import Derived.Test.YtpgpncngamagdaaRJ
set_option linter.unusedVariables false
set_option linter.unusedSimpArgs false
namespace Go.Proofs.Ytpgpncngamagdaa
open Go.RowKit
attribute [local go_sem ↓] Go.wp_at_zero Go.wp_at_succ
/-- how After stands ahead of operation t -/
structure Af (A : Nat → Prop) (w : World) (F G : Fl) (Q : List Dd) (T N t : Nat) (x : Value) (wr : World) (Ft : Fl) : Prop where
  ts : Ts (fun k => A k ∨ w.heap.size ≤ k) wr x Ft
  qg : Qg T Ft (Q.drop t)
  len : Ft.length ≤ N + t
  bl : Below w.heap.size w wr
theorem Qg.drop1 {T t : Nat} {F : Fl} {Q : List Dd} (h : Qg T F (Q.drop t)) (ht : t < Q.length) : Srt F ∧ Dok F Q[t] ∧ Qg T (ddo F Q[t] Q[t].units) (Q.drop (t + 1)) := by
  rw [List.drop_eq_getElem_cons ht] at h
  exact ⟨h.1.1, h.2.1, h.2.2.2⟩
theorem Af.next {A : Nat → Prop} {w wr w2 : World} {F G Ft : Fl} {Q : List Dd} {T N t : Nat} {x y : Value} (h : Af A w F G Q T N t x wr Ft) (ht : t < Q.length) {wx : World} (hwx : Below wr.heap.size wr wx) (h1 : Ts (fun k => (A k ∨ w.heap.size ≤ k) ∨ wx.heap.size ≤ k) w2 y (ddo Ft Q[t] Q[t].units)) (h2 : Below wx.heap.size wx w2) : Af A w F G Q T N (t + 1) y w2 (ddo Ft Q[t] Q[t].units) := by
  have hb := bt h.bl hwx
  obtain ⟨e1, e2, e3⟩ := h.qg.drop1 ht
  refine ⟨h1.monoS fun k hk => hk.elim id fun h3 => .inr (Nat.le_trans hb.size h3), e3, ?_, bt hb h2⟩
  have := ddo_len Ft e1 Q[t] Q[t].units
  have := h.len
  omega
theorem box5 {w : World} {b : Nat} {x0 x1 x2 x3 x4 : Value} {e : TypeId} {fr : Nat × Nat} (h : w.heap[b]? = some (.cells #[x0, x1, x2, x3, x4] e fr)) :
    w.cell? ⟨b, 0, none⟩ = some x0 ∧ w.cell? ⟨b, 1, none⟩ = some x1 ∧ w.cell? ⟨b, 2, none⟩ = some x2 ∧ w.cell? ⟨b, 3, none⟩ = some x3 ∧ w.cell? ⟨b, 4, none⟩ = some x4 := by
  refine ⟨?_, ?_, ?_, ?_, ?_⟩
  all_goals (simp only [World.cell?, h]; rfl)
set_option maxRecDepth 100000 in
set_option maxHeartbeats 4000000 in
/-- groyneref04.After: all -/
theorem raft_all {A : Nat → Prop} {w : World} {vs vq y2 y3 y4 : Value} {F : Fl} {Q : List Dd} {T : Nat} (h : Ts A w vs F) (hq : Os A w vq Q) (hg : Qg T F Q) (hl : F.length + Q.length ≤ 900000) :
    Calls Try.prog 38 #[.agg #[vs, vq, y2, y3, y4], .int .i64 (-1)] w fun e w' => ∃ y, e = .returned y ∧ Ts (fun k => A k ∨ w.heap.size ≤ k) w' y (all F Q) ∧ Below w.heap.size w w' := by
  obtain ⟨a, c, rfl, hc, _, _, _⟩ := h.at
  obtain ⟨qa, qc, rfl, hqc, _, _, _⟩ := hq.at
  have HT := Hid.mk' h
  have HQ := Hid.mk' hq
  have HG := Hid.mk' hg
  have HL := Hid.mk' hl
  have hql : (Q.length : Int) ≤ 900000 := by omega
  clear h hq hg hl hc
  go_enter Try.func38, Try.ntmps38
  have hup := up_alloc w (.cells #[.slice a F.length c, .slice qa Q.length qc, y2, y3, y4] 51)
  have hbx : (w.alloc (.cells #[.slice a F.length c, .slice qa Q.length qc, y2, y3, y4] 51)).heap[w.heap.size]? = some (.cells #[.slice a F.length c, .slice qa Q.length qc, y2, y3, y4] 51 (0, 0)) := heap_alloc_new w _
  have HSZ : Hid (w.heap.size < (w.alloc (.cells #[.slice a F.length c, .slice qa Q.length qc, y2, y3, y4] 51)).heap.size) := (Array.getElem?_eq_some_iff.1 hbx).1
  have A0 : Hid (Af A w F F Q T F.length 0 (.slice a F.length c) (w.alloc (.cells #[.slice a F.length c, .slice qa Q.length qc, y2, y3, y4] 51)) F) := ⟨(HT.out.up hup).monoS fun k hk => .inl hk, HG.out, Nat.le_refl _, hup⟩
  have HBX := Hid.mk' hbx
  clear hup hbx
  go_wp2_with fail
  go_loopw [1, 5, 6] (fun nn x i wr => ∃ (t : Nat) (Ft : Fl), t ≤ Q.length ∧ nn = .int .i64 (-1) ∧ i = .int .i64 t ∧ Hid (Af A w F F Q T F.length t x wr Ft) ∧ Hid (all F Q = all Ft (Q.drop t)) ∧ Hid (Below (w.alloc (.cells #[.slice a F.length c, .slice qa Q.length qc, y2, y3, y4] 51)).heap.size (w.alloc (.cells #[.slice a F.length c, .slice qa Q.length qc, y2, y3, y4] 51)) wr)) (fun _ _ i _ => Q.length - (intOf i).toNat)
  case atStart => exact ⟨0, F, by omega, rfl, rfl, A0, rfl, Below.refl _ _⟩
  case round =>
    clear A0
    obtain ⟨t, Ft, ht, rfl, rfl, HA, HE, HW⟩ := hrel
    have hbx : wr.heap[w.heap.size]? = _ := (HW.out.block w.heap.size HSZ.out).trans HBX.out
    obtain ⟨c0, c1, c2, c3, c4⟩ := box5 hbx
    clear hbx
    by_cases hlt : t < Q.length
    · have hlt' : (t : Int) < (Q.length : Int) := by omega
      obtain ⟨_, _, ev, _, _, _, H⟩ := (HQ.out.up HA.out.bl).at
      cases ev
      obtain ⟨b, o, u, rfl, _, ⟨d0, d1, d2, d3, d4⟩, hu⟩ := H t hlt
      have HU := Hid.mk' hu
      have HD := Hid.mk' (HA.out.qg.drop1 hlt)
      have HN := Hid.mk' (fun wx w2 y hwx h1 h2 => HA.out.next (y := y) (w2 := w2) (wx := wx) hlt hwx h1 h2)
      have HE2 : Hid (all F Q = all (ddo Ft Q[t] Q[t].units) (Q.drop (t + 1))) := by show _ = _; rw [HE.out, List.drop_eq_getElem_cons hlt]; rfl
      obtain ⟨a2, n2, c2', rfl⟩ : ∃ p n d, u5 = .slice p n d := (let ⟨p, d, e, _⟩ := HA.out.ts.at; ⟨p, _, d, e⟩)
      clear H hu
      generalize Q[t] = x at *
      have hx1 := x.pos
      obtain ⟨ua, uc, rfl, _⟩ := HU.out.at
      go_wp2_with fail
      refine (runits_any x HU.out).mono ?_
      rintro e w2 ⟨rfl, b2⟩
      have B2 := Hid.mk' b2
      have f0 := cell_later b2 d0
      have f1 := cell_later b2 d1
      have f2 := cell_later b2 d2
      have f3 := cell_later b2 d3
      have f4 := cell_later b2 d4
      have g0 := cell_later b2 c0
      have g1 := cell_later b2 c1
      clear b2 d0 d1 d2 d3 d4 c0 c1 c2 c3 c4
      have hx0 : ((x.units : Int) == 0) = false := by simp; omega
      go_wp2_with fail
      have HR := rdo_any x x.units (HA.out.ts.up B2.out) HD.out.1 ((HU.out.up B2.out).monoS fun k hk => .inl hk) (by have := HA.out.len; have := HL.out; omega) HD.out.2.1 hx1 (Nat.le_refl _)
      refine HR.mono ?_
      rintro e w3 ⟨y, rfl, t3, b3⟩
      have HA3 := Hid.mk' (HN.out w2 w3 y B2.out t3 b3)
      have HW3 := Hid.mk' (bt HW.out (bt B2.out b3))
      clear t3 b3 HR f0 f1 f2 f3 f4 g0 g1
      go_wp2_with fail
      go_roundw
      case rel => exact ⟨t + 1, _, by omega, rfl, by go_num, HA3, HE2, HW3⟩
      case measure => simp [intOf]; omega
    · obtain rfl : t = Q.length := by omega
      go_wp2_with fail
      go_ret
      refine ⟨_, rfl, ?_, HA.out.bl⟩
      rw [HE.out, List.drop_length]
      exact HA.out.ts
/-- how After of some units stands ahead of operation t -/
structure Ag (A : Nat → Prop) (w : World) (F : Fl) (Q : List Dd) (T N K t j : Nat) (x : Value) (wr : World) (Ft : Fl) : Prop where
  ts : Ts (fun k => A k ∨ w.heap.size ≤ k) wr x Ft
  qg : j = 0 ∨ Qg T Ft (Q.drop t)
  len : Ft.length ≤ N + t
  bl : Below w.heap.size w wr
  ae : after F Q K = after Ft (Q.drop t) j
  srt : Srt Ft
theorem Ag.next {A : Nat → Prop} {w wr w2 : World} {F Ft : Fl} {Q : List Dd} {T N K t j m : Nat} {x y : Value} (h : Ag A w F Q T N K t j x wr Ft) (ht : t < Q.length) (hj : 0 < j) (hm : m = min j Q[t].units) {wx : World} (hwx : Below wr.heap.size wr wx) (h1 : Ts (fun k => (A k ∨ w.heap.size ≤ k) ∨ wx.heap.size ≤ k) w2 y (ddo Ft Q[t] m)) (h2 : Below wx.heap.size wx w2) : Ag A w F Q T N K (t + 1) (j - m) y w2 (ddo Ft Q[t] m) := by
  have hb := bt h.bl hwx
  have hp := Q[t].pos
  refine ⟨h1.monoS fun k hk => hk.elim id fun h3 => .inr (Nat.le_trans hb.size h3), ?_, ?_, bt hb h2, ?_, h.srt.ddo _ _⟩
  · rcases h.qg with h3 | h3
    · omega
    · by_cases h4 : Q[t].units ≤ j
      · right; rw [hm, Nat.min_eq_right h4]; exact (h3.drop1 ht).2.2
      · left; omega
  · have := ddo_len Ft h.srt Q[t] m
    have := h.len
    omega
  · rw [h.ae, after_step Ft Q t j ht hj, hm]
set_option maxRecDepth 100000 in
set_option maxHeartbeats 4000000 in
/-- groyneref04.After: some units -/
theorem raft_n {A : Nat → Prop} {w : World} {vs vq y2 y3 y4 : Value} {F : Fl} {Q : List Dd} {T : Nat} (K : Nat) (hK : (K : Int) ≤ 4611686018427387904) (h : Ts A w vs F) (hq : Os A w vq Q) (hg : Qg T F Q) (hl : F.length + Q.length ≤ 900000) :
    Calls Try.prog 38 #[.agg #[vs, vq, y2, y3, y4], .int .i64 (K : Int)] w fun e w' => ∃ y, e = .returned y ∧ Ts (fun k => A k ∨ w.heap.size ≤ k) w' y (after F Q K) ∧ Below w.heap.size w w' := by
  obtain ⟨a, c, rfl, hc, _, _, _⟩ := h.at
  obtain ⟨qa, qc, rfl, hqc, _, _, _⟩ := hq.at
  have HT := Hid.mk' h
  have HQ := Hid.mk' hq
  have HG := Hid.mk' hg
  have HL := Hid.mk' hl
  have hql : (Q.length : Int) ≤ 900000 := by omega
  clear h hq hg hl hc
  go_enter Try.func38, Try.ntmps38
  have hup := up_alloc w (.cells #[.slice a F.length c, .slice qa Q.length qc, y2, y3, y4] 51)
  have hbx : (w.alloc (.cells #[.slice a F.length c, .slice qa Q.length qc, y2, y3, y4] 51)).heap[w.heap.size]? = some (.cells #[.slice a F.length c, .slice qa Q.length qc, y2, y3, y4] 51 (0, 0)) := heap_alloc_new w _
  have HSZ : Hid (w.heap.size < (w.alloc (.cells #[.slice a F.length c, .slice qa Q.length qc, y2, y3, y4] 51)).heap.size) := (Array.getElem?_eq_some_iff.1 hbx).1
  have A0 : Hid (Ag A w F Q T F.length K 0 K (.slice a F.length c) (w.alloc (.cells #[.slice a F.length c, .slice qa Q.length qc, y2, y3, y4] 51)) F) := ⟨(HT.out.up hup).monoS fun k hk => .inl hk, .inr HG.out, Nat.le_refl _, hup, rfl, HG.out.first.1⟩
  have HBX := Hid.mk' hbx
  clear hup hbx
  go_wp2_with fail
  go_loopw [1, 5, 6] (fun nn x i wr => ∃ (t j : Nat) (Ft : Fl), t ≤ Q.length ∧ (j : Int) ≤ 4611686018427387904 ∧ nn = .int .i64 j ∧ i = .int .i64 t ∧ Hid (Ag A w F Q T F.length K t j x wr Ft) ∧ Hid (Below (w.alloc (.cells #[.slice a F.length c, .slice qa Q.length qc, y2, y3, y4] 51)).heap.size (w.alloc (.cells #[.slice a F.length c, .slice qa Q.length qc, y2, y3, y4] 51)) wr)) (fun _ _ i _ => Q.length - (intOf i).toNat)
  case atStart => exact ⟨0, K, F, by omega, hK, rfl, rfl, A0, Below.refl _ _⟩
  case round =>
    clear A0
    obtain ⟨t, j, Ft, ht, hj, rfl, rfl, HA, HW⟩ := hrel
    have hbx : wr.heap[w.heap.size]? = _ := (HW.out.block w.heap.size HSZ.out).trans HBX.out
    obtain ⟨c0, c1, c2, c3, c4⟩ := box5 hbx
    clear hbx
    by_cases hlt : t < Q.length
    · have hlt' : (t : Int) < (Q.length : Int) := by omega
      obtain ⟨_, _, ev, _, _, _, H⟩ := (HQ.out.up HA.out.bl).at
      cases ev
      obtain ⟨b, o, u, rfl, _, ⟨d0, d1, d2, d3, d4⟩, hu⟩ := H t hlt
      have HU := Hid.mk' hu
      have HD : Hid (0 < j → Dok Ft Q[t]) := fun h0 => (HA.out.qg.resolve_left (by omega)).drop1 hlt |>.2.1
      have HN := Hid.mk' (fun m w2 y wx h0 hm hwx h1 h2 => HA.out.next (m := m) (y := y) (w2 := w2) (wx := wx) hlt h0 hm hwx h1 h2)
      obtain ⟨a2, n2, c2', rfl⟩ : ∃ p n d, u5 = .slice p n d := (let ⟨p, d, e, _⟩ := HA.out.ts.at; ⟨p, _, d, e⟩)
      clear H hu
      generalize Q[t] = x at *
      have hx1 := x.pos
      obtain ⟨ua, uc, rfl, _⟩ := HU.out.at
      go_wp2_with fail
      refine (runits_any x HU.out).mono ?_
      rintro e w2 ⟨rfl, b2⟩
      have B2 := Hid.mk' b2
      have f0 := cell_later b2 d0
      have f1 := cell_later b2 d1
      have f2 := cell_later b2 d2
      have f3 := cell_later b2 d3
      have f4 := cell_later b2 d4
      have g0 := cell_later b2 c0
      have g1 := cell_later b2 c1
      clear b2 d0 d1 d2 d3 d4 c0 c1 c2 c3 c4
      have hj0 : (0 : Int) ≤ (j : Int) := by omega
      by_cases h0 : 0 < j
      · by_cases hc : j < x.units
        · have hc2 : (j : Int) < (x.units : Int) := by omega
          have hz : ((j : Int) == 0) = false := by simp; omega
          go_wp2_with fail
          have HR := rdo_any x j (HA.out.ts.up B2.out) HA.out.srt ((HU.out.up B2.out).monoS fun k hk => .inl hk) (by have := HA.out.len; have := HL.out; omega) (HD.out h0) (by omega) (by omega)
          refine HR.mono ?_
          rintro e w3 ⟨y, rfl, t3, b3⟩
          have HA3 := Hid.mk' (HN.out j w3 y w2 h0 (by omega) B2.out t3 b3)
          have HW3 := Hid.mk' (bt HW.out (bt B2.out b3))
          clear t3 b3 HR f0 f1 f2 f3 f4 g0 g1
          go_wp2_with fail
          go_roundw
          case rel => exact ⟨t + 1, (j - j), _, by omega, by omega, by go_num, by go_num, HA3, HW3⟩
          case measure => simp [intOf]; omega
        · have hc2 : ¬ (j : Int) < (x.units : Int) := by omega
          have hz : ((x.units : Int) == 0) = false := by simp; omega
          go_wp2_with fail
          have HR := rdo_any x x.units (HA.out.ts.up B2.out) HA.out.srt ((HU.out.up B2.out).monoS fun k hk => .inl hk) (by have := HA.out.len; have := HL.out; omega) (HD.out h0) (by omega) (by omega)
          refine HR.mono ?_
          rintro e w3 ⟨y, rfl, t3, b3⟩
          have HA3 := Hid.mk' (HN.out x.units w3 y w2 h0 (by omega) B2.out t3 b3)
          have HW3 := Hid.mk' (bt HW.out (bt B2.out b3))
          clear t3 b3 HR f0 f1 f2 f3 f4 g0 g1
          go_wp2_with fail
          go_roundw
          case rel => exact ⟨t + 1, (j - x.units), _, by omega, by omega, by go_num, by go_num, HA3, HW3⟩
          case measure => simp [intOf]; omega
      · obtain rfl : j = 0 := by omega
        have hc2 : (0 : Int) < (x.units : Int) := by omega
        have hc3 : 0 < x.units := by omega
        go_wp2_with fail
        go_ret
        refine ⟨_, rfl, ?_, bt HA.out.bl B2.out⟩
        rw [HA.out.ae, after_zero]
        exact HA.out.ts.up B2.out
    · obtain rfl : t = Q.length := by omega
      go_wp2_with fail
      go_ret
      refine ⟨_, rfl, ?_, HA.out.bl⟩
      rw [HA.out.ae, List.drop_length, after_nil]
      exact HA.out.ts
end Go.Proofs.Ytpgpncngamagdaa
