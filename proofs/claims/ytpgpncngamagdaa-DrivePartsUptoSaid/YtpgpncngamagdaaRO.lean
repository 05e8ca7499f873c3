/- groyneref04: Crash. -/
import Derived.Test.YtpgpncngamagdaaRM
import Derived.StillTailTactics
set_option linter.unusedVariables false
set_option linter.unusedSimpArgs false
namespace Go.Proofs.Ytpgpncngamagdaa
open Go.RowKit
attribute [local go_sem ↓] Go.wp_at_zero Go.wp_at_succ
theorem Row.andLt {sz : Nat} {n : Nat} {A : Nat → Prop} {w : World} {v : Value} {vs : List Value} (h : Row sz A w v n vs) : Row sz (fun k => A k ∧ k < w.heap.size) w v n vs := by
  obtain ⟨hl, a, c, rfl, hc, ha, H⟩ := h
  refine ⟨hl, a, c, rfl, hc, ha, fun j u hj => ?_⟩
  obtain ⟨b, o, h1, h2, h3⟩ := H j u hj
  exact ⟨b, o, h1, ⟨h2, World.block_lt_of_cell? w ⟨b, o + j, none⟩ h3⟩, h3⟩
theorem Ts.andLt {A : Nat → Prop} {w : World} {v : Value} {l : Fl} (h : Ts A w v l) : Ts (fun k => A k ∧ k < w.heap.size) w v l := by
  obtain ⟨L, h1, h2, h3, h4⟩ := h
  exact ⟨L, h1, h2.andLt, fun q hq => ⟨(h3 q hq).1.andLt, (h3 q hq).2⟩, h4⟩
theorem Os.andLt {A : Nat → Prop} {w : World} {v : Value} {l : List Dd} (h : Os A w v l) : Os (fun k => A k ∧ k < w.heap.size) w v l := by
  obtain ⟨L, h1, h2, h3, h4⟩ := h
  exact ⟨L, h1, h2.andLt, fun q hq => ⟨Row.andLt (h3 q hq).1, (h3 q hq).2⟩, h4⟩
theorem Ts.wb {A X : Nat → Prop} {w w' : World} {v : Value} {l : Fl} (h : Ts A w v l) (hw : Wb X w w') (hX : ∀ k, X k → ¬ A k) : Ts A w' v l := by
  obtain ⟨L, h1, h2, h3, h4⟩ := h
  exact ⟨L, h1, h2.wb hw hX, fun q hq => (h3 q hq).wb hw hX, h4⟩
theorem Os.wb {A X : Nat → Prop} {w w' : World} {v : Value} {l : List Dd} (h : Os A w v l) (hw : Wb X w w') (hX : ∀ k, X k → ¬ A k) : Os A w' v l := by
  obtain ⟨L, h1, h2, h3, h4⟩ := h
  exact ⟨L, h1, h2.wb hw hX, fun q hq => Bs.wb (h3 q hq) hw hX, h4⟩
theorem Rf.andLt {A : Nat → Prop} {w : World} {v : Value} {r : Rd} (h : Rf A w v r) : Rf (fun k => A k ∧ k < w.heap.size) w v r := by
  obtain ⟨vs, vq, e, h1, h2⟩ := h
  exact ⟨vs, vq, e, h1.andLt, h2.andLt⟩
theorem Rf.wb {A X : Nat → Prop} {w w' : World} {v : Value} {r : Rd} (h : Rf A w v r) (hw : Wb X w w') (hX : ∀ k, X k → ¬ A k) : Rf A w' v r := by
  obtain ⟨vs, vq, e, h1, h2⟩ := h
  exact ⟨vs, vq, e, h1.wb hw hX, h2.wb hw hX⟩
theorem heap_two (w : World) (o p : Obj) : ((w.alloc o).alloc p).heap[w.heap.size + 1]? = some p := by
  have e := heap_alloc_new (w.alloc o) p
  rw [show (w.alloc o).heap.size = w.heap.size + 1 by simp] at e
  exact e
/-- a struct of five stored whole -/
theorem stored5 {wa : World} {b : Nat} {x0 x1 x2 x3 x4 : Value} {e : TypeId} (h : wa.heap[b]? = some (.cells #[x0, x1, x2, x3, x4] e (0, 0))) (y0 y1 y2 y3 y4 : Value) :
    ∃ W9, W9 = (((((wa.setCell ⟨b, 0, none⟩ y0).setCell ⟨b, 1, none⟩ y1).setCell ⟨b, 2, none⟩ y2).setCell ⟨b, 3, none⟩ y3).setCell ⟨b, 4, none⟩ y4) ∧ W9.heap[b]? = some (.cells #[y0, y1, y2, y3, y4] e (0, 0)) ∧ Wb (fun k => k = b) wa W9 := by
  refine ⟨_, rfl, ?_, ?_⟩
  · rw [box7_set (box7_set (box7_set (box7_set (box7_set h _) _) _) _) _]; rfl
  · exact ((((Wb.set (X := fun k => k = b) _ _ _ _ rfl).trans (Wb.set _ _ _ _ rfl)).trans (Wb.set _ _ _ _ rfl)).trans (Wb.set _ _ _ _ rfl)).trans (Wb.set _ _ _ _ rfl)
set_option maxRecDepth 100000 in
set_option maxHeartbeats 4000000 in
/-- groyneref04.Crash -/
theorem rcrash_any {A : Nat → Prop} {w : World} {v : Value} {r : Rd} {T : Nat} (keep : Int) (h : Rf A w v r) (hk : Rok T r) (hu : (units r.queue : Int) + 1 ≤ 4611686018427387904) (hk1 : -9223372036854775808 ≤ keep) (hk2 : keep ≤ 9223372036854775807) : Calls Try.prog 39 #[v, .int .i64 keep] w (RfPost A w (rfC r keep)) := by
  obtain ⟨vs, vq, rfl, h1, h2⟩ := h
  have H1 := Hid.mk' h1.andLt
  have H2 := Hid.mk' h2.andLt
  obtain ⟨a, c, rfl, hx1⟩ := h1.at
  obtain ⟨qa, qc, rfl, hx2, hx3, hql, hx4⟩ := h2.at
  clear hx1 hx2 hx3 hx4
  have hql' : (r.queue.length : Int) ≤ 1000000 := by omega
  have HK := Hid.mk' hk
  have HC : Hid (rfC r keep = ⟨after r.safe r.queue (keep % ((units r.queue : Int) + 1)).toNat, [], r.room, -1, false⟩) := rfl
  clear h1 h2 hk hql
  obtain ⟨sf, qu, room, armed, dead⟩ := r
  generalize rfC _ keep = RC at *
  unfold Rok at HK
  simp only at *
  have hup := up_alloc w (.cells #[.slice a sf.length c, .slice qa qu.length qc, .int .i64 room, .int .i64 armed, .bool dead] 51)
  have hbx : (w.alloc (.cells #[.slice a sf.length c, .slice qa qu.length qc, .int .i64 room, .int .i64 armed, .bool dead] 51)).heap[w.heap.size]? = some (.cells #[.slice a sf.length c, .slice qa qu.length qc, .int .i64 room, .int .i64 armed, .bool dead] 51 (0, 0)) := heap_alloc_new w _
  have HSZ : Hid (w.heap.size < (w.alloc (.cells #[.slice a sf.length c, .slice qa qu.length qc, .int .i64 room, .int .i64 armed, .bool dead] 51)).heap.size) := (Array.getElem?_eq_some_iff.1 hbx).1
  have HBX := Hid.mk' hbx
  have HUP := Hid.mk' hup
  clear hup hbx
  go_enter Try.func39, Try.ntmps39
  go_wp2_with fail
  obtain ⟨W, hW⟩ : ∃ W, W = (w.alloc (.cells #[.slice a sf.length c, .slice qa qu.length qc, .int .i64 room, .int .i64 armed, .bool dead] 51)).alloc (.cells #[.slice none 0 0, .slice none 0 0, .int .i64 0, .int .i64 0, .bool false] 51) := ⟨_, rfl⟩
  have HBW : Hid (Below w.heap.size w W) := by rw [hW]; exact bt HUP.out (up_alloc _ _)
  have HBX2 : Hid (W.heap[w.heap.size]? = some (.cells #[.slice a sf.length c, .slice qa qu.length qc, .int .i64 room, .int .i64 armed, .bool dead] 51 (0, 0))) := by show _ = _; rw [hW, (up_alloc _ _).block _ HSZ.out]; exact HBX.out
  have HBY : Hid (W.heap[w.heap.size + 1]? = some (.cells #[.slice none 0 0, .slice none 0 0, .int .i64 0, .int .i64 0, .bool false] 51 (0, 0))) := by show _ = _; rw [hW]; exact heap_two _ _ _
  have HWS : Hid (W.heap.size = w.heap.size + 2) := by show _ = _; rw [hW]; simp
  rw [← hW]
  clear hW HUP HBX HSZ
  have HU := Hid.mk' hu
  clear hu
  go_loopw [5, 6] (fun s i wr => ∃ k : Nat, k ≤ qu.length ∧ i = .int .i64 k ∧ s = .int .i64 ((units (qu.take k) : Int) + 1) ∧ Hid (Below W.heap.size W wr)) (fun _ i _ => qu.length - (intOf i).toNat)
  case atStart => exact ⟨0, by omega, rfl, rfl, Below.refl _ _⟩
  case round =>
    obtain ⟨k, hk, rfl, rfl, HB⟩ := hrel
    have hbx : wr.heap[w.heap.size]? = _ := (HB.out.block w.heap.size (by have := HWS.out; omega)).trans HBX2.out
    obtain ⟨c0, c1, c2, c3, c4⟩ := box5 hbx
    clear hbx
    by_cases hlt : k < qu.length
    · have hlt' : (k : Int) < (qu.length : Int) := by omega
      obtain ⟨_, _, ev, _, _, _, H⟩ := (H2.out.up (bt HBW.out HB.out)).at
      cases ev
      obtain ⟨b, o, u, rfl, _, ⟨d0, d1, d2, d3, d4⟩, hu⟩ := H k hlt
      have HX := Hid.mk' hu
      have HS := Hid.mk' (units_take qu k hlt)
      have hle := units_take_le qu (k + 1)
      rw [HS.out] at hle
      have hb1 : (units (qu.take k) : Int) + 1 + (qu[k].units : Int) ≤ 4611686018427387904 := by have := HU.out; omega
      clear H hu hle
      generalize qu[k] = x at *
      generalize units (qu.take k) = z at *
      obtain ⟨ua, uc, rfl, _⟩ := HX.out.at
      go_wp2_with fail
      refine (runits_any x HX.out).mono ?_
      rintro e w2 ⟨rfl, b2⟩
      have HB2 := Hid.mk' (bt HB.out b2)
      clear b2 d0 d1 d2 d3 d4 c0 c1 c2 c3 c4
      go_wp2_with fail
      go_roundw
      case rel => exact ⟨k + 1, by omega, by go_num, by rw [HS.out]; go_num, HB2⟩
      case measure => simp [intOf]; omega
    · obtain rfl : k = qu.length := by omega
      have hlt' : ¬ ((qu.length : Int) < (qu.length : Int)) := by omega
      rw [List.take_length]
      obtain ⟨U, hUU⟩ : ∃ U : Nat, U = units qu := ⟨_, rfl⟩
      have hu := HU.out
      rw [← hUU] at hu ⊢
      have HUU := Hid.mk' hUU
      clear hUU HU
      have hu0 : (1 : Int) ≤ (U : Int) + 1 := by omega
      obtain ⟨hR1, hR2, hRK⟩ := rem_run (U := U) keep
      obtain ⟨K, hK⟩ : ∃ K : Nat, K = (keep % ((U : Int) + 1)).toNat := ⟨_, rfl⟩
      rw [← hK] at hRK
      have HK2 : Hid (RC = ⟨after sf qu K, [], room, -1, false⟩) := by
        show _ = _
        rw [HC.out, ← HUU.out, ← hK]
      have HR1 := Hid.mk' (⟨hR1, hR2, hRK, hu⟩ : _ ∧ _ ∧ _ ∧ _)
      clear hK hk1 hk2 hR1 hR2 hRK hu
      go_upto_if 26 with fail
      generalize keep.tmod ((U : Int) + 1) = R at *
      obtain ⟨hR1, hR2, hRK, hu⟩ := HR1.out
      clear HR1
      go_cut [1] (fun u wx => u = .int .i64 (K : Int) ∧ Hid (Below W.heap.size W wx))
      case first =>
        by_cases hneg : R < 0
        · rw [if_pos hneg] at hRK
          have HRK2 := Hid.mk' hRK
          have hx1 : 0 ≤ R + ((U : Int) + 1) := by omega
          have hx2 : R + ((U : Int) + 1) ≤ 9223372036854775807 := by omega
          clear hRK hR1 hR2 hu hu0
          go_wp2_with fail
          go_meet
          exact ⟨by rw [HRK2.out], HB⟩
        · have hneg' : 0 ≤ R := by omega
          clear hneg
          rw [if_neg (by omega)] at hRK
          have HRK2 := Hid.mk' hRK
          clear hRK hR1 hR2 hu hu0
          go_wp2_with fail
          go_meet
          exact ⟨by rw [HRK2.out], HB⟩
      case rest =>
        obtain ⟨rfl, HBc⟩ := hcut
        have hKb : (K : Int) ≤ 4611686018427387904 := by rw [hRK]; split <;> omega
        clear HB hRK hR1 hR2 hu hu0 c0 c1 c2 c3 c4
        rename World => wc
        have HA := Hid.mk' (raft_n (y2 := .int .i64 room) (y3 := .int .i64 armed) (y4 := .bool dead) K hKb (H1.out.up (bt HBW.out (HBc.out.drew))) (H2.out.up (bt HBW.out (HBc.out.drew))) HK.out.1 HK.out.2)
        have hbx : wc.heap[w.heap.size]? = _ := (HBc.out.block w.heap.size (by have := HWS.out; omega)).trans HBX2.out
        obtain ⟨c0, c1, c2, c3, c4⟩ := box5 hbx
        have r0 : ∀ q : Kp (fun _ => False) wc, q.nx.cell? ⟨w.heap.size, 0, none⟩ = some (.slice a sf.length c) := fun q => q.cell c0 id
        have r1 : ∀ q : Kp (fun _ => False) wc, q.nx.cell? ⟨w.heap.size, 1, none⟩ = some (.slice qa qu.length qc) := fun q => q.cell c1 id
        have r2 : ∀ q : Kp (fun _ => False) wc, q.nx.cell? ⟨w.heap.size, 2, none⟩ = some (.int .i64 room) := fun q => q.cell c2 id
        have r3 : ∀ q : Kp (fun _ => False) wc, q.nx.cell? ⟨w.heap.size, 3, none⟩ = some (.int .i64 armed) := fun q => q.cell c3 id
        have r4 : ∀ q : Kp (fun _ => False) wc, q.nx.cell? ⟨w.heap.size, 4, none⟩ = some (.bool dead) := fun q => q.cell c4 id
        clear hbx c0 c1 c2 c3 c4
        go_wp2_with fail
        refine wp_region_mix 5 (fun w' => ∃ q : Kp (fun _ => False) wc, w' = q.nx) (by kernel_rfl) (by kernel_rfl) (kp_first _ wc) ?_
        simp only [List.take_succ_cons, List.take_zero, List.drop_succ_cons, List.drop_zero]
        refine mx_take 2 rfl ?_
        simp only [List.take_succ_cons, List.take_zero, List.drop_succ_cons, List.drop_zero]
        repeat (go_big_quiet_step (fail))
        refine wpQuiet_nil ?_
        refine mx_call (vals := [.agg #[.slice a sf.length c, .slice qa qu.length qc, .int .i64 room, .int .i64 armed, .bool dead], .int .i64 (K : Int)]) Try.func38 (by kernel_rfl) rfl rfl (by kernel_rfl) (by kernel_rfl) HA.out (fun e wa ha => ?_)
        obtain ⟨y, rfl, ta, hba⟩ := ha
        have hWa : Below wc.heap.size wc wa := (drew_blx wc _).trans hba
        refine ⟨_, rfl, kp_mk hWa.size fun b hb hx => hWa.block b hb, ?_⟩
        simp only [Act.put, List.setIfInBounds_toArray, List.set_cons_succ, List.set_cons_zero]
        refine mx_take 2 rfl ?_
        simp only [List.take_succ_cons, List.take_zero, List.drop_succ_cons, List.drop_zero]
        repeat (go_big_quiet_step (fail))
        refine wpQuiet_nil ?_
        simp only [wpMix]
        have TA := Hid.mk' ta
        have BA := Hid.mk' (bt HBW.out (bt HBc.out hWa))
        have hby : wa.heap[w.heap.size + 1]? = _ := (hWa.block (w.heap.size + 1) (Nat.lt_of_lt_of_le (by have := HWS.out; omega) HBc.out.size)).trans ((HBc.out.block (w.heap.size + 1) (by have := HWS.out; omega)).trans HBY.out)
        have HY := Hid.mk' hby
        obtain ⟨f0, f1, f2, f3, f4⟩ := box5 hby
        have hfz : ∀ i, wa.frozen? ⟨w.heap.size + 1, i, none⟩ = false := fun i => by simp only [World.frozen?, hby]; simp
        obtain ⟨ya, yn, yc, ey⟩ : ∃ p n d, y = .slice p n d := (let ⟨p, d, e, _⟩ := ta.at; ⟨p, _, d, e⟩)
        subst ey
        clear ta hba hWa hby r0 r1 r2 r3 r4 HA
        go_wp2_with fail
        obtain ⟨W9, hW9, h9, hb9⟩ := stored5 HY.out (.slice ya yn yc) (.slice none 0 0) (.int .i64 room) (.int .i64 (-1)) (.bool false)
        rw [← hW9]
        clear hW9 f0 f1 f2 f3 f4
        obtain ⟨z0, z1, z2, z3, z4⟩ := box5 h9
        refine bodyPost_ret (v := .agg #[.slice ya yn yc, .slice none 0 0, .int .i64 room, .int .i64 (-1), .bool false]) (by simp [results, Try.results39, go_sem, z0, z1, z2, z3, z4]) rfl ⟨_, rfl, ?_, ?_⟩
        · rw [HK2.out]
          refine ⟨_, _, rfl, (TA.out.wb hb9 fun k hk hk2 => ?_).monoS fun k hk => hk.imp (fun h => h.1) fun h => ?_, Os.nil⟩
          · subst hk
            have z1 := HWS.out
            have z2 := HBc.out.size
            rcases hk2 with ⟨_, h⟩ | h
            · omega
            · have : wc.heap.size ≤ w.heap.size + 1 := h; omega
          · exact Nat.le_trans (Nat.le_trans HBW.out.size HBc.out.size) h
        · exact BA.out.trans (hb9.below BA.out.size fun k hk => by omega)
end Go.Proofs.Ytpgpncngamagdaa
