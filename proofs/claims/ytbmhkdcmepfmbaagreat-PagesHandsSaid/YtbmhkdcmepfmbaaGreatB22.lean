/- groynelaw07.PagesCalls: the walk. A pool beside boxes of the reference's pools, whatever is done to it. Two pools, each with its own drive, beside the boxes of two pools of the reference. groynelaw07.PagesHands: the walk. -/
import Derived.Test.YtbmhkdcmepfmbaaGreatB21
set_option linter.unusedVariables false
set_option linter.unusedSimpArgs false
namespace Go.Proofs.YtbmhkdcmepfmbaaGreat
open Go.RowKit
attribute [local go_sem ↓] Go.wp_at_zero Go.wp_at_succ
@[reducible] def XG (a b : Nat) : Xcl := ⟨fun k => k = a ∨ k = b⟩
@[reducible] def X0 : Xcl := ⟨fun _ => False⟩
/-- how things stand when the loop begins -/
theorem lz_start {w w3 w4 w5 : World} {b p : Nat} {hnd : Int} {T M : Nat → Prop} {s : Ps} {d : Dm} {C : Cx} {va : Value} {l : List Ac} {A0 : Nat → Prop} (hJ : @Jn X0 T M w3 p b s d) (hI : Iv C 0 0 [] s d) (hb4 : w4 = (w3.alloc (.cells #[.slice none 0 0, .slice none 0 0] 50)).alloc (.cells #[.slice none 0 0, .slice none 0 0] 50)) (hb5 : Below w4.heap.size w4 w5)
    (ha : As A0 w5 va l) (hA0 : ∀ k, A0 k → k < w5.heap.size ∧ (k < w.heap.size ∨ w4.heap.size ≤ k)) (hT : ∀ k, T k ∨ M k ∨ k = b → w.heap.size ≤ k ∧ k < w3.heap.size) (hh : C.hand = hnd) (hC : C.RL = [] ∧ C.nt = []) (hw3 : w.heap.size ≤ w3.heap.size) :
    @Lz (XG w3.heap.size (w3.heap.size + 1)) w.heap.size hnd b w3.heap.size (w3.heap.size + 1) 0 0 va l w5 p C [] s d T M A0 (.slice none 0 0) (.slice none 0 0) (.slice none 0 0) (.slice none 0 0) [] := by
  obtain ⟨W1, h1⟩ : ∃ W1, W1 = w3.alloc (.cells #[.slice none 0 0, .slice none 0 0] 50) := ⟨_, rfl⟩
  rw [← h1] at hb4
  have z1 : W1.heap.size = w3.heap.size + 1 := by rw [h1]; simp
  have z2 : w4.heap.size = w3.heap.size + 2 := by rw [hb4]; simp [z1]
  have b1 : Below w3.heap.size w3 W1 := by rw [h1]; exact up_alloc _ _
  have b2 : Below W1.heap.size W1 w4 := by rw [hb4]; exact up_alloc _ _
  have x1 : W1.heap[w3.heap.size]? = some (.cells #[.slice none 0 0, .slice none 0 0] 50 (0, 0)) := by rw [h1]; exact heap_alloc_new _ _
  have x2 : w4.heap[W1.heap.size]? = some (.cells #[.slice none 0 0, .slice none 0 0] 50 (0, 0)) := by rw [hb4]; exact heap_alloc_new _ _
  rw [z1] at x2
  have hb : Below w3.heap.size w3 w5 := bt b1 (bt b2 hb5)
  have hs := hb5.size
  exact @Lz.mk (XG w3.heap.size (w3.heap.size + 1)) _ _ _ _ _ _ _ _ _ _ _ _ _ _ _ _ _ _ _ _ _ _ _ hh (by rw [hC.1]; exact Nat.le_refl _) (Nat.le_refl _)
    (Jn.re hJ hb (fun k hk => .inr (by rcases hk with rfl | rfl <;> omega)) fun k hk => by rcases hk with rfl | rfl <;> omega) hI
    (heap_up (heap_up x1 b2) hb5) ⟨_, _, rfl, Ts.nil, bs_nil⟩ (heap_up x2 hb5) (by rw [hC.1, hC.2]; exact ⟨_, _, rfl, Ts.nil, bs_nil⟩) ha
    (fun k hk => ⟨(hA0 k hk).1, fun h => by have := hT k (.inl h); have := (hA0 k hk).2; omega, fun h => by have := hT k (.inr (.inl h)); have := (hA0 k hk).2; omega, fun h => by have := hT k (.inr (.inr h)); have := (hA0 k hk).2; omega⟩)
    (fun k hk => ⟨fun h => by have := hT k (.inl h); omega, fun h => by have := hT k (.inr (.inl h)); omega, fun h => by have := hT k (.inr (.inr h)); omega, fun h => by have := (hA0 k h).2; omega⟩)
    (by omega) ⟨fun k hk => (hT k hk).1, hw3, by omega⟩ (fun k => Iff.rfl)
theorem Lz.more [Xcl] {B0 : Nat} {hnd : Int} {b g9 g10 n : Nat} {E E' : Int} {va : Value} {l : List Ac} {w : World} {p : Nat} {C : Cx} {R : Al By} {s : Ps} {d : Dm} {T M A : Nat → Prop} {x y x2 y2 : Value} {nw : By}
    (h : Lz B0 hnd b g9 g10 n E va l w p C R s d T M A x y x2 y2 nw) (hE : E ≤ E') (hE' : E' ≤ 100000) : Lz B0 hnd b g9 g10 n E' va l w p C R s d T M A x y x2 y2 nw := { h with I := h.I.more hE (Nat.le_refl _) hE' h.I.hQ }
theorem Iv.wid {C : Cx} {E : Int} {Q : Nat} {R : Al By} {s : Ps} {d : Dm} (h : Iv C E Q R s d) : ∀ x ∈ R, Wi x.1 := fun x hx => by
  have h1 : x.1 ∈ R.map (·.1) := List.mem_map.2 ⟨x, hx, rfl⟩
  rw [h.keys] at h1
  obtain ⟨y, hy, e⟩ := List.mem_map.1 h1
  have := h.sb y hy
  exact Wi.of (by omega) (by omega)
theorem bx3c {w : World} {b : Nat} {c0 c1 c2 : Value} {e : TypeId} (h : w.heap[b]? = some (.cells #[c0, c1, c2] e (0, 0))) : w.cell? ⟨b, 0, none⟩ = some c0 ∧ w.cell? ⟨b, 1, none⟩ = some c1 ∧ w.cell? ⟨b, 2, none⟩ = some c2 := by
  refine ⟨?_, ?_, ?_⟩ <;> simp [World.cell?, h]
set_option maxRecDepth 100000 in
set_option maxHeartbeats 8000000 in
theorem calls_walk {w : World} {v : Value} {hand : Int} {l : List Ac} (hh : -9223372036854775808 ≤ hand ∧ hand ≤ 9223372036854775807) (h : As (Lt w.heap.size) w v l) : Calls Tryz.prog 5 #[.int .i64 hand, v] w fun e w' => e = .returned (.bool true) ∧ Below w.heap.size w w' := by
  obtain ⟨va0, vc0, rfl, -⟩ := h.at
  have HAS := Hid.mk' h
  have HAW := Hid.mk' (awake_any w)
  have HH := Hid.mk' hh
  clear h hh
  go_enter Tryz.func5, Tryz.ntmps5
  go_wp2_with fail
  refine HAW.out.mono ?_
  rintro e w1 ⟨rfl, hb1⟩
  have HB1 := Hid.mk' hb1
  have HNW := Hid.mk' (new_any w1 1073741824)
  clear hb1 HAW
  go_wp2_with fail
  refine HNW.out.mono ?_
  rintro e w2 ⟨rfl, hb2, hd2⟩
  have HB2 := Hid.mk' (HB1.out.trans (hb2.mono HB1.out.size))
  have HBL : Hid (w.heap.size ≤ w1.heap.size ∧ w1.heap.size < w2.heap.size) := ⟨HB1.out.size, hd2.blt⟩
  have hd2 : DrIs (fun _ => False) (fun _ => False) w2 w1.heap.size (dm0 1073741824) := hd2
  have HOP := letI : Xcl := X0; Hid.mk' (vopen hd2 ⟨fun _ h => False.elim h, fun _ h => False.elim h, fun _ h => False.elim h⟩ (cx0_dv true 1073741824 (max 1 hand) (by decide) (by omega)) hand rfl)
  generalize w1.heap.size = b at *
  clear hd2 hb2 HNW
  go_wp2_with fail
  refine HOP.out.mono ?_
  rintro e w3 ⟨p, c, v3, T, ms, mf, ma, ff, nf, g, rfl, hJ, hI, hb3, hT, hc, ho3⟩
  obtain ⟨va, vc, rfl⟩ := own_sliceN ho3
  have HJ3 : Hid (@Jn X0 T (fun _ => False) w3 p b (s0k (max 1 hand) []) (dm0 1073741824)) := letI : Xcl := X0; hJ.jn
  have HI3 : Hid (Iv (cx0 true 1073741824 (max 1 hand)) 0 0 [] (s0k (max 1 hand) []) (dm0 1073741824)) := hI
  have HB3 := Hid.mk' (HB2.out.trans (hb3.mono HB2.out.size))
  have HT3 : Hid (∀ k, T k ∨ False ∨ k = b → w.heap.size ≤ k ∧ k < w3.heap.size) := fun k hk => by
    have h1 := HBL.out
    have h2 := HB2.out.size
    have h3 := hb3.size
    rcases hk with hk | hk | hk
    · have := hT k hk
      have := (@Jn.lt X0 _ _ _ _ _ _ _ HJ3.out).2.2.1 k hk
      omega
    · exact hk.elim
    · omega
  obtain ⟨W4, hW4⟩ : ∃ W4, W4 = (w3.alloc (.cells #[.slice none 0 0, .slice none 0 0] 50)).alloc (.cells #[.slice none 0 0, .slice none 0 0] 50) := ⟨_, rfl⟩
  have hb4 : Below w3.heap.size w3 W4 := by rw [hW4]; exact bt (up_alloc _ _) (up_alloc _ _)
  have HB4 := Hid.mk' (HB3.out.trans (hb4.mono HB3.out.size))
  have HSM := Hid.mk' (small_any (HAS.out.up HB4.out) 40 (by decide))
  have HW4 := Hid.mk' hW4
  clear hJ hI hb3 hT hc ho3 HOP hb4 hW4
  go_wp2_with fail
  rw [← HW4.out]
  refine HSM.out.mono ?_
  rintro e w5 ⟨v5, L, rfl, hL, hF, hb5⟩
  have has := (hF.as hb5 (by have h := congrArg List.length hL; rw [List.length_map] at h; have := small_len l 40; omega)).andLt
  rw [hL] at has
  obtain ⟨a5, c5, rfl, hc5, ha5, hz5, -⟩ := has.at
  have HLZ := Hid.mk' (lz_start (w := w) (A0 := fun k => ((Lt w.heap.size k ∧ k < W4.heap.size) ∨ W4.heap.size ≤ k) ∧ k < w5.heap.size) HJ3.out HI3.out HW4.out hb5 has (fun k hk => ⟨hk.2, hk.1.imp (fun h => h.1) fun h => h⟩) HT3.out (hnd := max 1 hand) rfl ⟨rfl, rfl⟩ HB3.out.size)
  have HB5 := Hid.mk' (HB4.out.trans (hb5.mono HB4.out.size))
  have HLN := Hid.mk' (small_ln (l := l) (n := 40))
  have hls := small_len l 40
  have H93 : Hid (w.heap.size ≤ w3.heap.size) := HB3.out.size
  have HHM : Hid (max hand 1 = max 1 hand) := by show _ = _; omega
  generalize hls' : smallL l 40 = ls at *
  have hlsi : (ls.length : Int) ≤ 40 := by omega
  clear hls' hL hF hb5 has HSM HJ3 HI3 HT3 HW4 HB4 HB3 HB2 HB1 HAS hls hz5
  go_wp2_with fail
  generalize hmo : max hand 1 = mo at *
  have HMO : Hid (max 1 hand = mo) := by show _ = _; omega
  clear hmo HHM
  obtain ⟨g9, hg9⟩ : ∃ g, g = w3.heap.size := ⟨_, rfl⟩
  rw [← hg9] at HLZ H93
  rw [← hg9]
  obtain ⟨g10, hg10⟩ : ∃ g, g = g9 + 1 := ⟨_, rfl⟩
  rw [← hg10] at HLZ
  rw [← hg10]
  have HG10 : Hid (w.heap.size ≤ g10) := by show _ ≤ _; have := H93.out; omega
  clear hg9 hg10
  letI : Xcl := XG g9 g10
  rw [HMO.out] at HLZ
  have HCAL : Hid ((cx0 true 1073741824 mo).cal = true) := rfl
  go_loopw [44, 6] (fun i pv wr => ∃ (k p : Nat) (C : Cx) (R : Al By) (s : Ps) (d : Dm) (T M A : Nat → Prop) (x y x2 y2 : Value) (nw : By), k ≤ ls.length ∧ i = .int .i64 k ∧ pv = .pointer (some ⟨p, 0, none⟩) ∧ Hid (C.cal = true) ∧ Hid (@Lz (XG g9 g10) w.heap.size mo b g9 g10 k (100 * k) (.slice a5 ls.length c5) ls wr p C R s d T M A x y x2 y2 nw) ∧ Hid (Below w.heap.size w wr)) (fun i _ _ => ls.length - (intOf i).toNat)
  case atStart => exact ⟨0, p, _, _, _, _, _, _, _, _, _, _, _, _, by omega, rfl, rfl, HCAL, HLZ, HB5⟩
  case round =>
    clear HLZ HB5 HCAL
    obtain ⟨k, p, C, R, s, d, T, M, A, x, y, x2, y2, nw, hk, rfl, rfl, HCL, HZ, HB⟩ := hrel
    by_cases hlt : k < ls.length
    case neg =>
      have hz := HZ.out
      have hk40 : k ≤ 40 := by omega
      obtain ⟨W2, hW2⟩ : ∃ W2, W2 = wr.alloc (.cells (zeros 9000) 5) := ⟨_, rfl⟩
      have hmk : (Instr.makeSlice 22 (.int .i64 9000) (.int .i64 9000)).run Tryz.prog wr = .ok (.slice (some ⟨wr.heap.size, 0, none⟩) 9000 9000) W2 := by rw [hW2]; exact run_mk 22 Tryz.underlying22 Tryz.info5 9000 (by unfold lim; omega) wr
      have hb2 : Below wr.heap.size wr W2 := by rw [hW2]; exact up_alloc _ _
      have hob : Ob 5 wr.heap.size W2 (.slice (some ⟨wr.heap.size, 0, none⟩) 9000 9000) (List.replicate 9000 0) := by rw [hW2]; exact ob_zeros 9000 (by unfold lim; omega) wr 5
      have hnl : (List.replicate 9000 (0 : UInt8)).length = 9000 := List.length_replicate ..
      obtain ⟨nt, hnt⟩ : ∃ nt, nt = List.replicate 9000 (0 : UInt8) := ⟨_, rfl⟩
      rw [← hnt] at hob hnl
      have hz2 := hz.up hb2
      have hbc : Bs (fun k => wr.heap.size ≤ k ∧ k < W2.heap.size) W2 (.slice (some ⟨wr.heap.size, 0, none⟩) 9000 9000) nt := by
        have h : Row 1 (fun k => wr.heap.size ≤ k ∧ k < W2.heap.size) W2 (.slice (some ⟨wr.heap.size, 0, none⟩) 9000 9000) nt.length (bv nt) := Row.andLt (Row.of_ownB hob)
        exact ⟨h, by unfold lim; omega⟩
      have HSV := Hid.mk' (vsave hz2.J hz2.I hbc (fun k hk => ⟨hk.2, fun h => by have := hz.J.lt.2.2.1 k h; omega, fun h => by have := hz.J.lt.2.2.2 k h; omega, fun h => by have := hz.J.lt.2.1; omega⟩) (by omega))
      have HNL := Hid.mk' hnl
      have HB2 := Hid.mk' (HB.out.trans (hb2.mono HB.out.size))
      have HLO := Hid.mk' hz.lo
      clear hz hW2 hb2 hob hnt hz2 hbc hnl
      go_wp2_with fail
      refine HSV.out.mono ?_
      rintro e w6 (⟨_, S, s1, d1, _, hkd, _⟩ | ⟨rfl, S, s1, d1, hI, _, hj⟩)
      · have := hkd.2.1; rw [HCL.out] at this; cases this
      obtain ⟨hw6, T7, M7, hT7, hM7, hJ7⟩ := hj
      obtain ⟨D, Dd, ms', mf', ma', ff', nf', g', hJ⟩ := hJ7.jx
      have HOP := Hid.mk' (vopen hJ.Dr ⟨hJ.xo.1, fun _ h => False.elim h, hJ.xo.2.2⟩ (hI.dv.to true 2 (by decide) (fun _ => hI.arm HCL.out)) 2 rfl)
      have HB6 := Hid.mk' (HB2.out.trans (hw6.below HB2.out.size fun k hk => HLO.out.1 k hk))
      clear hw6 hT7 hM7 hJ7 hJ hI hmk
      go_wp2_with fail
      refine HOP.out.mono ?_
      rintro e w7 ⟨p7, c7, v7, T8, ms8, mf8, ma8, ff8, nf8, g8, rfl, -, -, hb7, -, -, hob⟩
      obtain ⟨oa, oc, e0⟩ := own_sliceN hob
      have e : v7 = .slice oa 9000 oc := by rw [e0]; show Value.slice oa nt.length oc = _; rw [HNL.out]
      clear e0
      subst e
      have HB7 := Hid.mk' (HB6.out.trans (hb7.mono HB6.out.size))
      clear hob hb7
      go_wp2_with fail
      go_ret
      exact ⟨rfl, HB7.out⟩
    have hlt' : (k : Int) < (ls.length : Int) := by omega
    have hk40 : k < 40 := by omega
    have hz := HZ.out
    obtain ⟨a6', c6', e, -, -, -, hat⟩ := hz.ac.at
    simp only [Value.slice.injEq] at e
    obtain ⟨e1, -, e2⟩ := e
    subst e1
    subst e2
    obtain ⟨bb, of, u, rfl, ⟨c0, c1, c2, c3, c4, c5', c6⟩, hbu, hain⟩ := hat k hlt
    have HQ := Hid.mk' (HLN.out _ (List.getElem_mem hlt))
    have HAI := Hid.mk' hain
    generalize ls[k] = q at *
    obtain ⟨ua, uc, rfl, -⟩ := hbu.at
    obtain ⟨xa, xc, ya, yn, yc, e⟩ := hz.r9.form
    cases e
    obtain ⟨x2a, x2c, y2a, y2n, y2c, e⟩ := hz.r10.form
    cases e
    obtain ⟨W3, hW3⟩ : ∃ W3, W3 = wr.alloc (.cells #[.int .i64 q.kd, .int .i64 q.id, .int .i64 q.ln, .int .u8 (q.fi.toNat : Int), .slice ua q.nt.length uc, .int .i64 q.ar, .int .i64 q.kp] 36) := ⟨_, rfl⟩
    have hb3 : Below wr.heap.size wr W3 := by rw [hW3]; exact up_alloc _ _
    have HX3 : Hid (W3.heap[wr.heap.size]? = some (.cells #[.int .i64 q.kd, .int .i64 q.id, .int .i64 q.ln, .int .u8 (q.fi.toNat : Int), .slice ua q.nt.length uc, .int .i64 q.ar, .int .i64 q.kp] 36 (0, 0))) := by rw [hW3]; exact heap_alloc_new _ _
    have HZ3 := Hid.mk' (hz.up hb3)
    have HB3 := Hid.mk' (HB.out.trans (hb3.mono HB.out.size))
    have HBU := Hid.mk' (hbu.up hb3)
    have HTG : Hid (∀ k, (T k ∨ M k ∨ k = b) → k < wr.heap.size) := fun k hk => by
      rcases hk with hk | hk | hk
      · exact hz.J.lt.2.2.1 k hk
      · exact hz.J.lt.2.2.2 k hk
      · have := hz.J.lt.2.1; omega
    have HL9 := Hid.mk' hz.lt9
    have HDO := Hid.mk' (do_any HZ3.out.J HZ3.out.I (by omega) (by omega) (by have := hz.rl; omega) HZ3.out.r9 HZ3.out.hA HAI.out HQ.out.1 HBU.out)
    have m9 := bx2 HZ3.out.h9
    obtain ⟨m90, m91⟩ := m9
    unfold actV at HDO
    generalize hfn : (q.fi.toNat : Int) = fn at *
    have HW3 := Hid.mk' hW3
    rw [hW3] at m90 m91
    clear hat hbu hain hb3 hz hW3
    generalize R.length = rn at *
    go_wp2_with fail
    rw [← HW3.out]
    refine HDO.out.mono ?_
    rintro e w1 hdo
    obtain ⟨a1, n1, c1', a2, n2, c2', R', s', d', T', M', A', rfl, hn1, hnx, h9, hw1, hz4, hnu, hnt⟩ := HZ3.out.step hdo HCL.out
    have hx3 := heap_wb HX3.out hw1 (fun e => Nat.lt_irrefl _ (HTG.out _ e))
    obtain ⟨W4, hW4⟩ : ∃ W4, W4 = (w1.setCell ⟨g9, 0, none⟩ (.slice a1 n1 c1')).setCell ⟨g9, 1, none⟩ (.slice a2 n2 c2') := ⟨_, rfl⟩
    rw [← hW4] at hz4
    have hwz := res2_wb w1 g9 (.slice a1 n1 c1') (.slice a2 n2 c2')
    rw [← hW4] at hwz
    have HX4 : Hid (W4.heap[wr.heap.size]? = some (.cells #[.int .i64 q.kd, .int .i64 q.id, .int .i64 q.ln, .int .u8 fn, .slice ua q.nt.length uc, .int .i64 q.ar, .int .i64 q.kp] 36 (0, 0))) := heap_wb hx3 hwz (fun e => by have := HL9.out.1; omega)
    have HB4 : Hid (Below w.heap.size w W4) := HB3.out.trans ((hw1.below HB3.out.size fun k hk => HZ3.out.lo.1 k hk).trans (hwz.below (Nat.le_trans HB3.out.size hw1.size) fun k hk => by subst hk; exact H93.out))
    obtain ⟨z0, f0, f1, z1, -, -, -⟩ := res2 h9 (.slice a1 n1 c1') (.slice a2 n2 c2')
    have HZ4 := Hid.mk' hz4
    have HN1 := Hid.mk' hn1
    have hbu4 := hnu HBU.out
    rw [← hW4] at hbu4
    have HBU4 := Hid.mk' hbu4
    have HGB : Hid (¬ (T' wr.heap.size ∨ M' wr.heap.size ∨ wr.heap.size = b)) := fun e => (hnt _ e).elim (fun e => Nat.lt_irrefl _ (HTG.out _ e)) fun e => by have := heap_lt HX3.out; omega
    obtain ⟨x0, x1, x2', x3, x4, x5, x6⟩ := bx7 HX4.out
    have HW4 := Hid.mk' hW4
    rw [hW4] at x0
    clear hdo h9 hw1 hx3 hwz hz4 hn1 hnu hnt hbu4 hW4 m90 m91 c0 c1 c2 c3 c4 c5' c6
    go_upto_if 59 with fail
    rw [← HW4.out]
    clear z0 f0 f1 z1 x0
    have HE1 : Hid (100 * (k : Int) + 1 ≤ 100 * k + 1) := Int.le_refl _
    go_cut [6] (fun pv wx => pv = .pointer (some ⟨p, 0, none⟩) ∧ ∃ (C : Cx) (R : Al By) (s : Ps) (d : Dm) (T M A : Nat → Prop) (x y x2 y2 : Value) (nw : By), Hid (C.cal = true) ∧ Hid (@Lz (XG g9 g10) w.heap.size mo b g9 g10 (k + 1) (100 * (k : Int) + 1) (.slice (some ⟨bb, of, none⟩) ls.length c5) ls wx p C R s d T M A x y x2 y2 nw) ∧ Hid (Below w.heap.size w wx) ∧ Hid (wx.heap[wr.heap.size]? = some (.cells #[.int .i64 q.kd, .int .i64 q.id, .int .i64 q.ln, .int .u8 fn, .slice ua q.nt.length uc, .int .i64 q.ar, .int .i64 q.kp] 36 (0, 0))))
    case first =>
      by_cases h5 : q.kd = 5
      case neg =>
        have k5 : (q.kd == 5) = false := by simpa using h5
        go_wp2_with fail
        go_meet
        exact ⟨rfl, C, R', s', d', T', M', A', _, _, _, _, nw, HCL, HZ4, HB4, HX4⟩
      case pos =>
        have k5 : (q.kd == 5) = true := by simpa using h5
        have HCP := Hid.mk' (copy_any _ q.nt W4 HBU4.out)
        clear h5
        go_wp2_with fail
        refine HCP.out.mono ?_
        rintro e w5' ⟨v5, rfl, hb5, ho5⟩
        obtain ⟨ca, cc, rfl⟩ := own_sliceN ho5
        have HZ5 := Hid.mk' (HZ4.out.up hb5)
        have hql := HQ.out.2
        have hlm : q.nt.length ≤ lim := by unfold lim; omega
        have hbc : Bs (fun k => W4.heap.size ≤ k ∧ k < w5'.heap.size) w5' (.slice ca q.nt.length cc) q.nt := ⟨Row.andLt (Row.of_ownB ho5), hlm⟩
        have HSV := Hid.mk' (vsave HZ5.out.J HZ5.out.I hbc (fun k hk => ⟨hk.2, fun h => by have := HZ4.out.J.lt.2.2.1 k h; omega, fun h => by have := HZ4.out.J.lt.2.2.2 k h; omega, fun h => by have := HZ4.out.J.lt.2.1; omega⟩) (by omega))
        have HB5' := Hid.mk' hb5
        clear hb5 ho5 hbc hql hlm HCP
        go_wp2_with fail
        refine HSV.out.mono ?_
        rintro e w6 (⟨_, S, s1, d1, _, hkd, _⟩ | ⟨rfl, S, s1, d1, hI, _, hj⟩)
        · have := hkd.2.1; rw [HCL.out] at this; cases this
        have hwj := hj.1
        have hu6 : Bs A' w6 (.slice ua q.nt.length uc) q.nt := (HBU4.out.up HB5'.out).wb hwj fun k hk => (HZ5.out.dis hk).1
        obtain ⟨T7, M7, hz7⟩ := HZ5.out.saved hj hI hu6
        have h96 := heap_wb HZ5.out.h9 hwj (fun e => (HZ5.out.dis e).2.1 rfl)
        have h106 := heap_wb HZ5.out.h10 hwj (fun e => (HZ5.out.dis e).2.2 rfl)
        have hx6 := heap_wb (heap_up HX4.out HB5'.out) hwj HGB.out
        obtain ⟨y0, y1⟩ := bx2 h96
        obtain ⟨z0, f0, f1, z1, hxx, -, -⟩ := res2 h106 (.slice a1 n1 c1') (.slice a2 n2 c2')
        have hwz := res2_wb w6 g10 (.slice a1 n1 c1') (.slice a2 n2 c2')
        have hg10b : wr.heap.size ≠ g10 := fun e => by have := HL9.out.2; omega
        obtain ⟨-, -, -, -, r4, -, -⟩ := bx7 (heap_wb hx6 hwz hg10b)
        obtain ⟨z2, z3⟩ := bx2 hxx
        have f2 : ((w6.setCell ⟨g10, 0, none⟩ (.slice a1 n1 c1')).setCell ⟨g10, 1, none⟩ (.slice a2 n2 c2')).frozen? ⟨g10, 1, none⟩ = false := by simp [World.frozen?, hxx]
        have HZ7 := Hid.mk' hz7
        have hwz2 : Wb (fun k => k = g10) w6 (((w6.setCell ⟨g10, 0, none⟩ (.slice a1 n1 c1')).setCell ⟨g10, 1, none⟩ (.slice a2 n2 c2')).setCell ⟨g10, 1, none⟩ (.slice ua q.nt.length uc)) := hwz.trans (Wb.set _ g10 1 _ rfl)
        have HX7 := Hid.mk' (heap_wb hx6 hwz2 hg10b)
        have HB7 : Hid (Below w.heap.size w (((w6.setCell ⟨g10, 0, none⟩ (.slice a1 n1 c1')).setCell ⟨g10, 1, none⟩ (.slice a2 n2 c2')).setCell ⟨g10, 1, none⟩ (.slice ua q.nt.length uc))) :=
          ((HB4.out.trans (HB5'.out.mono HB4.out.size)).trans (hwj.below (Nat.le_trans HB4.out.size HB5'.out.size) fun k hk => HZ5.out.lo.1 k hk)).trans (hwz2.below (Nat.le_trans (Nat.le_trans HB4.out.size HB5'.out.size) hwj.size) fun k hk => by subst hk; exact HG10.out)
        have HCL7 : Hid ((C.save S R' q.nt).cal = true) := HCL.out
        clear hwj hu6 hz7 h96 h106 hx6 hxx hwz hg10b hwz2 hI hj x1 x2' x3 x4 x5 x6
        go_wp2_with fail
        go_meet
        exact ⟨rfl, _, R', s1, d1, T7, M7, A', _, _, _, _, nw, HCL7, HZ7, HB7, HX7⟩
    case rest =>
    obtain ⟨rfl, C2, R2, s2, d2, T2, M2, A2, x', y', x2', y2', nw2, HC2, HZ5, HB5, HX5⟩ := hcut
    clear HZ4 HB4 HX4 HBU4 HZ3 HX3 HGB HN1 HDO HW4 HW3 HCL HZ HB HB3 HTG HL9 hnx
    rename World => w5
    obtain ⟨xa, xc, ya, yn, yc, e⟩ := HZ5.out.r9.form
    cases e
    obtain ⟨x2a, x2c, y2a, y2n, y2c, e⟩ := HZ5.out.r10.form
    cases e
    obtain ⟨x0, x1, x2', x3, x4, x5, x6⟩ := bx7 HX5.out
    generalize hr2 : R2.length = r2 at *
    have HR2 := Hid.mk' hr2
    clear hr2
    go_upto_if 72 with fail
    clear x0 x1 x2' x3 x4 x5 x6
    go_cut [6] (fun pv wx => ∃ (p : Nat) (C : Cx) (R : Al By) (s : Ps) (d : Dm) (T M A : Nat → Prop) (x y x2 y2 : Value) (nw : By), pv = .pointer (some ⟨p, 0, none⟩) ∧ Hid (C.cal = true) ∧ Hid (@Lz (XG g9 g10) w.heap.size mo b g9 g10 (k + 1) (100 * (k : Int) + 1) (.slice (some ⟨bb, of, none⟩) ls.length c5) ls wx p C R s d T M A x y x2 y2 nw) ∧ Hid (Below w.heap.size w wx))
    case first =>
      by_cases h6 : q.kd = 6
      case neg =>
        have k6 : (q.kd == 6) = false := by simpa using h6
        clear h6
        go_wp2_with fail
        go_meet
        exact ⟨p, C2, R2, s2, d2, T2, M2, A2, _, _, _, _, nw2, rfl, HC2, HZ5, HB5⟩
      case pos =>
        have k6 : (q.kd == 6) = true := by simpa using h6
        clear h6
        obtain ⟨D, Dd, ms', mf', ma', ff', nf', g', hJ⟩ := HZ5.out.J.jx
        have HOP := Hid.mk' (vopen hJ.Dr ⟨hJ.xo.1, fun _ h => False.elim h, hJ.xo.2.2⟩ HZ5.out.I.dv hand (by rw [HZ5.out.hand, HMO.out]))
        clear hJ
        go_wp2_with fail
        refine HOP.out.mono ?_
        rintro e w6 ho
        obtain ⟨p', c, v, rfl, hob, hb6, hfin⟩ := HZ5.out.opened ho (by omega) (by omega)
        obtain ⟨oa, oc, rfl⟩ := own_sliceN hob
        have hbn : Bs A2 w6 (.slice y2a y2n y2c) C2.nt := by
          obtain ⟨_, _, e, _, h⟩ := HZ5.out.r10
          cases e
          exact h.up hb6
        have hnl : C2.nt.length ≤ lim := by have := HZ5.out.I.ok.ntl; unfold lim; omega
        have HEQ := Hid.mk' (requal_any _ _ _ _ w6 (hob.bs hnl) hbn)
        have h96 := heap_up HZ5.out.h9 hb6
        have h106 := heap_up HZ5.out.h10 hb6
        have HFN := Hid.mk' hfin
        have HB6 := Hid.mk' hb6
        have H96 := Hid.mk' h96
        have H106 := Hid.mk' h106
        obtain ⟨y0, y1⟩ := bx2 h106
        generalize C2.nt = nt at *
        clear ho hob hb6 hfin hbn hnl HOP h96 h106
        go_wp2_with fail
        refine HEQ.out.mono ?_
        rintro e w7 ⟨rfl, hdn⟩
        have HB7 : Hid (Below w6.heap.size w6 w7) := hdn.below _
        have h107 := heap_up H106.out HB7.out
        obtain ⟨y0, y1⟩ := bx2 h107
        obtain ⟨z0, f0, f1, z1, -, -, -⟩ := res2 (heap_up (heap_up H96.out HB7.out) (drew_blx w7 _)) (.slice x2a C2.RL.length x2c) (.slice y2a y2n y2c)
        have t0 : ∀ qq : Kp (fun _ => False) w7, qq.nx.cell? ⟨g10, 0, none⟩ = some _ := fun qq => qq.cell y0 (fun h => h)
        have t1 : ∀ qq : Kp (fun _ => False) w7, qq.nx.cell? ⟨g10, 1, none⟩ = some _ := fun qq => qq.cell y1 (fun h => h)
        obtain ⟨s8, T8, hz8⟩ := HFN.out w7.drew (bt HB7.out (drew_blx w7 _))
        have HZ8 := Hid.mk' hz8
        have HB8 : Hid (Below w.heap.size w ((w7.drew.setCell ⟨g9, 0, none⟩ (.slice x2a C2.RL.length x2c)).setCell ⟨g9, 1, none⟩ (.slice y2a y2n y2c))) := by
          have h1 := HB5.out.trans ((bt HB6.out (bt HB7.out (drew_blx w7 _))).mono HB5.out.size)
          exact h1.trans ((res2_wb w7.drew g9 (.slice x2a C2.RL.length x2c) (.slice y2a y2n y2c)).below h1.size fun k hk => by subst hk; exact H93.out)
        clear hdn h107 y0 y1 hz8
        go_wp2_with fail
        refine wp_region_mix 3 (fun w' => ∃ qq : Kp (fun _ => False) w7, w' = qq.nx) (by kernel_rfl) (by kernel_rfl) (kp_first _ w7) ?_
        simp only [List.take_succ_cons, List.take_zero, List.drop_succ_cons, List.drop_zero]
        refine mx_take 3 rfl ?_
        simp only [List.take_succ_cons, List.take_zero, List.drop_succ_cons, List.drop_zero]
        repeat (go_big_quiet_step (fail))
        refine wpQuiet_nil ?_
        simp only [wpMix]
        generalize w7.drew = w8 at *
        go_wp2_with fail
        go_meet
        exact ⟨p', C2, C2.RL, s8, d2, T8, M2, A2, _, _, _, _, nt, rfl, HC2, HZ8, HB8⟩
    case rest =>
    obtain ⟨p3, C3, R3, s3, d3, T3, M3, A3, x', y', x2', y2', nw3, rfl, HC3, HZ6, HB6⟩ := hcut
    clear HZ5 HB5 HX5 HC2 HR2
    rename World => w6
    obtain ⟨xa, xc, ya, yn, yc, e⟩ := HZ6.out.r9.form
    cases e
    obtain ⟨x2a, x2c, y2a, y2n, y2c, e⟩ := HZ6.out.r10.form
    cases e
    have HST := Hid.mk' (vstats HZ6.out.J)
    go_wp2_with fail
    refine HST.out.mono ?_
    rintro e w7 ⟨rfl, hb7⟩
    obtain ⟨W8, hW8⟩ : ∃ W8, W8 = w7.alloc (.cells #[.int .i64 s3.hit, .int .i64 s3.mis, .int .i64 s3.ev] 58) := ⟨_, rfl⟩
    have hb8 : Below w7.heap.size w7 W8 := by rw [hW8]; exact up_alloc _ _
    have HX8 : Hid (W8.heap[w7.heap.size]? = some (.cells #[.int .i64 s3.hit, .int .i64 s3.mis, .int .i64 s3.ev] 58 (0, 0))) := by rw [hW8]; exact heap_alloc_new _ _
    have HZ8 := Hid.mk' (HZ6.out.up (bt hb7 hb8))
    have HB8 := Hid.mk' (HB6.out.trans ((bt hb7 hb8).mono HB6.out.size))
    have hrl : R3.length ≤ k + 1 := HZ6.out.rl
    have HRL := Hid.mk' hrl
    have HSA := Hid.mk' (same_any HZ8.out.J HZ8.out.I HC3.out (by omega) HZ8.out.r9 HZ8.out.hA HZ8.out.I.wid)
    have HN8 : Hid (¬ (T3 w7.heap.size ∨ M3 w7.heap.size ∨ w7.heap.size = b)) := fun e => by
      have h1 := HZ6.out.J.lt
      have h2 := hb7.size
      rcases e with e | e | e
      · have := h1.2.2.1 _ e; omega
      · have := h1.2.2.2 _ e; omega
      · omega
    obtain ⟨y0, y1⟩ := bx2 HZ8.out.h9
    have HW8 := Hid.mk' hW8
    rw [hW8] at y0 y1
    clear hb7 hb8 hW8 HST hrl
    generalize hr3 : R3.length = r3 at *
    have HR3 := Hid.mk' hr3
    clear hr3
    go_wp2_with fail
    rw [← HW8.out]
    refine HSA.out.mono ?_
    rintro e w9 ⟨s9, d9, -, hT, -, hI9, hcnt, n1, n2, n3, hj9⟩
    obtain rfl := hT rfl
    have HX9 := Hid.mk' (heap_wb HX8.out hj9.1 HN8.out)
    have HB9 := Hid.mk' (HB8.out.trans (hj9.1.below HB8.out.size fun k hk => HZ8.out.lo.1 k hk))
    obtain ⟨T9, M9, hz9⟩ := HZ8.out.pool hj9 hI9
    rw [HR3.out] at hz9
    have HZ9 := Hid.mk' hz9
    have hcnt2 := hcnt rfl
    clear hcnt
    rw [HR3.out] at hcnt2
    have hb1 := HZ6.out.I.hit; have hb2 := HZ6.out.I.mis; have hb3 := HZ6.out.I.ev
    have hb4 := hI9.hit; have hb5 := hI9.mis; have hb6 := hI9.ev
    rw [HR3.out] at hb4 hb5 hb6
    have hrl := HRL.out
    have HHD := Hid.mk' (vhand HZ9.out.J HZ9.out.I)
    have HST := Hid.mk' (vstats HZ9.out.J)
    clear hT hI9 hj9 hz9 y0 y1
    have q1 : (s9.hit + s9.mis != s3.hit + s3.mis + (r3 : Int)) = false := by simpa using hcnt2
    have q2 : ¬ s9.ev < s3.ev := by omega
    have q3 : ¬ s9.hit < s3.hit := by omega
    have q4 : ¬ s9.mis < s3.mis := by omega
    have q5 : 0 ≤ s3.hit ∧ s3.hit ≤ 100000 := by omega
    have q6 : 0 ≤ s3.mis ∧ s3.mis ≤ 100000 := by omega
    have q7 : 0 ≤ s9.hit ∧ s9.hit ≤ 100000 := by omega
    have q8 : 0 ≤ s9.mis ∧ s9.mis ≤ 100000 := by omega
    have q9 : (r3 : Int) ≤ 50 := by omega
    obtain ⟨q51, q52⟩ := q5
    obtain ⟨q61, q62⟩ := q6
    obtain ⟨q71, q72⟩ := q7
    obtain ⟨q81, q82⟩ := q8
    generalize s9.hit = a9 at *
    generalize s9.mis = b9 at *
    generalize s9.ev = c9 at *
    generalize s3.hit = a3 at *
    generalize s3.mis = b3 at *
    generalize s3.ev = c3 at *
    clear hcnt2 n1 n2 n3 hb1 hb2 hb3 hb4 hb5 hb6 hrl
    go_wp2_with fail
    refine HHD.out.mono ?_
    rintro e wx ⟨n, rfl, hn, hwx⟩
    obtain rfl : w9 = wx := hwx.symm
    have hnm : ¬ mo < (n : Int) := by rw [HZ6.out.hand] at hn; omega
    clear hn hwx
    go_wp2_with fail
    refine HST.out.mono ?_
    rintro e w10 ⟨rfl, hb10⟩
    obtain ⟨W11, hW11⟩ : ∃ W, W = w10.alloc (.cells #[.int .i64 a9, .int .i64 b9, .int .i64 c9] 58) := ⟨_, rfl⟩
    have hb11 : Below w10.heap.size w10 W11 := by rw [hW11]; exact up_alloc _ _
    have hx11 : W11.heap[w10.heap.size]? = some (.cells #[.int .i64 a9, .int .i64 b9, .int .i64 c9] 58 (0, 0)) := by rw [hW11]; exact heap_alloc_new _ _
    have hbb := bt hb10 hb11
    have HZ11 := Hid.mk' (HZ9.out.up hbb)
    have HB11 := Hid.mk' (HB9.out.trans (hbb.mono HB9.out.size))
    obtain ⟨t0, t1, t2⟩ := bx3c hx11
    obtain ⟨u0, u1, u2⟩ := bx3c (heap_up HX9.out hbb)
    obtain ⟨y0, y1⟩ := bx2 HZ11.out.h9
    have HW11 := Hid.mk' hW11
    rw [hW11] at t0 t1 t2 u0 u1 u2 y0 y1
    have HZ12 : Hid (Lz w.heap.size mo b g9 g10 (k + 1) (100 * ((k + 1 : Nat) : Int)) (.slice (some ⟨bb, of, none⟩) ls.length c5) ls W11 p3 C3 R3 s9 d9 T9 M9 A3 (.slice xa r3 xc) (.slice ya yn yc) (.slice x2a C3.RL.length x2c) (.slice y2a y2n y2c) nw3) := HZ11.out.more (by omega) (by omega)
    clear hb10 hW11 hb11 hx11 hbb
    go_wp2_with fail
    rw [← HW11.out]
    go_roundw
    case rel => exact ⟨k + 1, p3, C3, R3, s9, d9, T9, M9, A3, _, _, _, _, nw3, by omega, by go_num, rfl, HC3, HZ12, HB11⟩
    case measure => simp [intOf]; omega
end Go.Proofs.YtbmhkdcmepfmbaaGreat
set_option linter.unusedVariables false
set_option linter.unusedSimpArgs false
namespace Go.Proofs.YtbmhkdcmepfmbaaGreat
open Go.RowKit
/-- a box that holds a pool of the reference -/
structure Bx where
  g : Nat
  x : Value
  y : Value
  R : Al By
  nt : By
structure Fz [Xcl] (B0 b : Nat) (va : Value) (l : List Ac) (w : World) (p : Nat) (s : Ps) (d : Dm) (T M A : Nat → Prop) (bx : List Bx) : Prop where
  J : Jn T M w p b s d
  ac : As A w va l
  hb : ∀ q ∈ bx, w.heap[q.g]? = some (.cells #[q.x, q.y] 50 (0, 0)) ∧ Rp A w (.agg #[q.x, q.y]) q.R q.nt
  hg : ∀ q ∈ bx, ¬ T q.g ∧ ¬ M q.g ∧ q.g ≠ b ∧ ¬ A q.g ∧ Xcl.X q.g ∧ B0 ≤ q.g
  hA : ∀ k, A k → k < w.heap.size ∧ ¬ T k ∧ ¬ M k ∧ k ≠ b
  lo : ∀ k, (T k ∨ M k ∨ k = b) → B0 ≤ k
  lw : B0 ≤ w.heap.size
section
variable [Xcl] {B0 b : Nat} {va : Value} {l : List Ac} {w w' : World} {p : Nat} {s : Ps} {d : Dm} {T M A : Nat → Prop} {bx bx' : List Bx}
theorem Fz.up (h : Fz B0 b va l w p s d T M A bx) (hb : Below w.heap.size w w') : Fz B0 b va l w' p s d T M A bx :=
  { h with J := h.J.up hb, ac := h.ac.up hb, hb := fun q hq => ⟨heap_up (h.hb q hq).1 hb, (h.hb q hq).2.up hb⟩, hA := fun k hk => ⟨Nat.lt_of_lt_of_le (h.hA k hk).1 hb.size, (h.hA k hk).2⟩, lw := Nat.le_trans h.lw hb.size }
theorem Fz.sub (h : Fz B0 b va l w p s d T M A bx) (hs : ∀ q ∈ bx', q ∈ bx) : Fz B0 b va l w p s d T M A bx' :=
  { h with hb := fun q hq => h.hb q (hs q hq), hg := fun q hq => h.hg q (hs q hq) }
theorem Fz.dis (h : Fz B0 b va l w p s d T M A bx) {k : Nat} (hk : T k ∨ M k ∨ k = b) : ¬ A k ∧ ∀ q ∈ bx, k ≠ q.g := by
  refine ⟨fun ha => ?_, fun q hq e => ?_⟩
  · obtain ⟨_, h1, h2, h3⟩ := h.hA k ha
    rcases hk with hk | hk | hk
    · exact h1 hk
    · exact h2 hk
    · exact h3 hk
  · obtain ⟨h1, h2, h3, _⟩ := h.hg q hq
    rw [← e] at h1 h2 h3
    rcases hk with hk | hk | hk
    · exact h1 hk
    · exact h2 hk
    · exact h3 hk
/-- what the pool's own blocks turn to -/
theorem Fz.turn (h : Fz B0 b va l w p s d T M A bx) {p' : Nat} {s' : Ps} {d' : Dm} {T' M' : Nat → Prop} (hw : Wb (fun k => T k ∨ M k ∨ k = b) w w') (hT : ∀ k, T' k → T k ∨ w.heap.size ≤ k) (hM : ∀ k, M' k → M k ∨ w.heap.size ≤ k) (hJ : Jn T' M' w' p' b s' d') : Fz B0 b va l w' p' s' d' T' M' A bx := by
  refine { J := hJ, ac := h.ac.wb hw fun k hk => (h.dis hk).1, hb := fun q hq => ⟨heap_wb (h.hb q hq).1 hw fun e => (h.dis e).2 q hq rfl, (h.hb q hq).2.wb hw fun k hk => (h.dis hk).1⟩, hg := fun q hq => ?_, hA := fun k hk => ?_, lo := lo_up h.lo h.lw hT hM, lw := Nat.le_trans h.lw hw.size }
  · obtain ⟨h1, h2, h3, h4⟩ := h.hg q hq
    have hlt := heap_lt (h.hb q hq).1
    exact ⟨fun e => (hT _ e).elim h1 fun e => by omega, fun e => (hM _ e).elim h2 fun e => by omega, h3, h4⟩
  · obtain ⟨h0, h1, h2, h3⟩ := h.hA k hk
    exact ⟨Nat.lt_of_lt_of_le h0 hw.size, fun e => (hT _ e).elim h1 fun e => by omega, fun e => (hM _ e).elim h2 fun e => by omega, h3⟩
theorem Fz.pool (h : Fz B0 b va l w p s d T M A bx) {s' : Ps} {d' : Dm} (hj : Jp T M w p b s' d' w') : ∃ T' M', Fz B0 b va l w' p s' d' T' M' A bx ∧ ∀ k, (T' k ∨ M' k ∨ k = b) → (T k ∨ M k ∨ k = b) ∨ w.heap.size ≤ k := by
  obtain ⟨hw, T', M', hT, hM, hJ⟩ := hj
  refine ⟨T', M', h.turn hw hT hM hJ, fun k hk => ?_⟩
  rcases hk with e | e | e
  · exact (hT k e).imp .inl id
  · exact (hM k e).imp (fun e => .inr (.inl e)) id
  · exact .inl (.inr (.inr e))
/-- the drive alone turns -/
theorem Fz.drive (h : Fz B0 b va l w p s d T M A bx) {D Dd : Nat → Prop} {ms mf ma nf : Nat} {ff : Int → Option Value} {g : Int → Nat} {d' : Dm} (hJ : Jx T D M Dd w p b s d ms mf ma ff nf g) (hT : Turned M Dd w b d' w') : ∃ M' Dd', Fz B0 b va l w' p s d' T M' A bx ∧ Jx T D M' Dd' w' p b s d' ms mf ma ff nf g ∧ Wb (fun k => T k ∨ M k ∨ k = b) w w' := by
  obtain ⟨M', D', hM, hw, hJ'⟩ := hJ.drive (Below.refl _ _) hT
  have hw' : Wb (fun k => T k ∨ M k ∨ k = b) w w' := hw.mono fun k hk => hk.elim (fun e => .inr (.inr e)) fun e => .inr (.inl e)
  exact ⟨M', D', h.turn hw' (fun k hk => .inl hk) hM hJ'.jn, hJ', hw'⟩
/-- another pool is opened on the drive -/
theorem Fz.opened (h : Fz B0 b va l w p s d T M A bx) {C : Cx} {Q : Nat} {Dd : Nat → Prop} {e : Ending} (ho : OpenV C M Dd w b Q d e w') :
    ∃ (p' c : Nat) (v : Value) (T' : Nat → Prop), e = .returned (.tuple #[.pointer (some ⟨p', 0, none⟩), v, .int .i64 0]) ∧ Ob 5 c w' v C.nt ∧ Below w.heap.size w w' ∧ Iv C 0 Q C.RL (s0k C.hand C.L) d ∧ Fz B0 b va l w' p' (s0k C.hand C.L) d T' M A bx ∧ (∀ k, (T' k ∨ M k ∨ k = b) → some k ≠ v.ownBlock) := by
  obtain ⟨p', c, v, T', ms, mf, ma, ff, nf, g, he, hJ, hI, hb, hT, hc, hob⟩ := ho
  have hTn : ∀ k, k < w.heap.size → ¬ T' k := fun k hk e => by have := (hT k e).1; omega
  refine ⟨p', c, v, T', he, hob, hb, hI, { J := hJ.jn, ac := h.ac.up hb, hb := fun q hq => ⟨heap_up (h.hb q hq).1 hb, (h.hb q hq).2.up hb⟩, hg := fun q hq => ?_, hA := fun k hk => ?_, lo := fun k hk => ?_, lw := Nat.le_trans h.lw hb.size }, fun k hk e => ?_⟩
  · obtain ⟨_, h2, h3, h4⟩ := h.hg q hq
    exact ⟨hTn _ (heap_lt (h.hb q hq).1), h2, h3, h4⟩
  · obtain ⟨h0, h1, h2, h3⟩ := h.hA k hk
    exact ⟨Nat.lt_of_lt_of_le h0 hb.size, hTn k h0, h2, h3⟩
  · rcases hk with e | e
    · have := (hT k e).1; have := h.lw; omega
    · exact h.lo k (.inr e)
  · have h1 := (own_typed hob k e.symm).1
    have h2 := h.J.lt
    rcases hk with hk | hk | hk
    · have := (hT k hk).2; omega
    · have := h2.2.2.2 k hk; omega
    · omega
/-- a call of do -/
theorem Fz.doP (h : Fz B0 b va l w p s d T M A bx) {C : Cx} {E : Int} {n : Nat} {R : Al By} {nw : By} {q : Ac} {e : Ending} (hd : DoP C E n R T M A w p b nw q e w') :
    ∃ (a1 : Option Addr) (n1 c1 : Nat) (a2 : Option Addr) (n2 c2 : Nat) (ok : Bool) (R' : Al By) (s' : Ps) (d' : Dm) (T' M' A' : Nat → Prop), e = .returned (.tuple #[.agg #[.slice a1 n1 c1, .slice a2 n2 c2], .bool ok]) ∧ nxR R q R' ∧ Wb (fun k => T k ∨ M k ∨ k = b) w w' ∧ Fz B0 b va l w' p s' d' T' M' A' bx ∧ Rp A' w' (.agg #[.slice a1 n1 c1, .slice a2 n2 c2]) R' nw ∧
      (Jv C n d' ∨ (ok = true ∧ Iv C (E + 1) (n + 1) R' s' d')) ∧ (∀ k, (T' k ∨ M' k ∨ k = b) → (T k ∨ M k ∨ k = b) ∨ w.heap.size ≤ k) ∧ (∀ {u : Value} {t : By}, Bs A w u t → Bs A' w' u t) ∧ (∀ k, A k → A' k) := by
  obtain ⟨v', ok, R', A1, T', M', he, hn, hw, hT, hM, hA1, hr, hdis, hc2⟩ := hd
  obtain ⟨a1, c1, a2, n2, c2, rfl⟩ := hr.form
  have key : ∀ s' d', Jn T' M' w' p b s' d' → Fz B0 b va l w' p s' d' T' M' (fun k => A k ∨ A1 k) bx := fun s' d' hJ => by
    have h1 := h.turn hw hT hM hJ
    exact { J := hJ, ac := h1.ac.monoS fun _ hk => .inl hk, hb := fun q hq => ⟨(h1.hb q hq).1, (h1.hb q hq).2.monoS fun _ hk => .inl hk⟩, lo := h1.lo, lw := h1.lw
            hg := fun q hq => by
              obtain ⟨k1, k2, k3, k4, k5⟩ := h1.hg q hq
              refine ⟨k1, k2, k3, fun hk => ?_, k5⟩
              rcases hk with hk | hk
              · exact k4 hk
              · rcases hA1 _ hk with hk | hk
                · exact k4 hk
                · have := heap_lt (h.hb q hq).1; omega
            hA := fun k hk => hk.elim (h1.hA k) (hdis k) }
  have hTM : ∀ k, (T' k ∨ M' k ∨ k = b) → (T k ∨ M k ∨ k = b) ∨ w.heap.size ≤ k := fun k hk => by
    rcases hk with e | e | e
    · exact (hT k e).imp .inl id
    · exact (hM k e).imp (fun e => .inr (.inl e)) id
    · exact .inl (.inr (.inr e))
  have hbs : ∀ {u : Value} {t : By}, Bs A w u t → Bs (fun k => A k ∨ A1 k) w' u t := fun hu => (hu.wb hw fun k hk => (h.dis hk).1).monoS fun _ hk => .inl hk
  rcases hc2 with ⟨s', d', hj, hJ⟩ | ⟨ho, s', d', hI, hJ⟩
  · exact ⟨a1, _, c1, a2, n2, c2, ok, R', s', d', T', M', _, he, hn, hw, key s' d' hJ, hr.monoS fun _ hk => .inr hk, .inl hj, hTM, hbs, fun _ hk => .inl hk⟩
  · exact ⟨a1, _, c1, a2, n2, c2, ok, R', s', d', T', M', _, he, hn, hw, key s' d' hJ, hr.monoS fun _ hk => .inr hk, .inr ⟨ho, hI⟩, hTM, hbs, fun _ hk => .inl hk⟩
/-- one more block that is only read -/
theorem Fz.addA (h : Fz B0 b va l w p s d T M A bx) {g : Nat} (hg : g < w.heap.size ∧ ¬ T g ∧ ¬ M g ∧ g ≠ b) (hq : ∀ q ∈ bx, q.g ≠ g) : Fz B0 b va l w p s d T M (fun k => A k ∨ k = g) bx :=
  { h with ac := h.ac.monoS fun _ hk => .inl hk, hb := fun q hq => ⟨(h.hb q hq).1, (h.hb q hq).2.monoS fun _ hk => .inl hk⟩
           hg := fun q hq1 => ⟨(h.hg q hq1).1, (h.hg q hq1).2.1, (h.hg q hq1).2.2.1, fun e => e.elim (h.hg q hq1).2.2.2.1 (hq q hq1), (h.hg q hq1).2.2.2.2⟩
           hA := fun k hk => hk.elim (h.hA k) fun e => by rw [e]; exact hg }
/-- a box is written -/
theorem Fz.put (h : Fz B0 b va l w p s d T M A bx) {g : Nat} {x y : Value} {R : Al By} {nt : By} (hg : ∃ q ∈ bx, q.g = g) (hw : Wb (fun k => k = g) w w') (hx : w'.heap[g]? = some (.cells #[x, y] 50 (0, 0))) (hr : Rp A w (.agg #[x, y]) R nt) (hbx : ∀ q ∈ bx', q = ⟨g, x, y, R, nt⟩ ∨ (q ∈ bx ∧ q.g ≠ g)) : Fz B0 b va l w' p s d T M A bx' := by
  obtain ⟨q0, hq0, rfl⟩ := hg
  obtain ⟨g1, g2, g3, g4, g5, g6⟩ := h.hg q0 hq0
  have hAg : ∀ k, k = q0.g → ¬ A k := fun k hk => by subst hk; exact g4
  refine { J := Jn.wbX (X := Xcl.X) h.J hw fun k hk => ?_, ac := h.ac.wb hw hAg, hb := fun q hq => ?_, hg := fun q hq => ?_, hA := fun k hk => ⟨Nat.lt_of_lt_of_le (h.hA k hk).1 hw.size, (h.hA k hk).2⟩, lo := h.lo, lw := Nat.le_trans h.lw hw.size }
  · have hk : k = q0.g := hk
    subst hk
    exact ⟨g5, g1, g2, g3⟩
  · rcases hbx q hq with rfl | ⟨h1, h2⟩
    · exact ⟨hx, hr.wb hw hAg⟩
    · exact ⟨heap_wb (h.hb q h1).1 hw h2, (h.hb q h1).2.wb hw hAg⟩
  · rcases hbx q hq with rfl | ⟨h1, h2⟩
    · exact ⟨g1, g2, g3, g4, g5, g6⟩
    · exact h.hg q h1
end
/-- other blocks are watched from now on -/
theorem Fz.re {X X' : Nat → Prop} {B0 b : Nat} {va : Value} {l : List Ac} {w w' : World} {p : Nat} {s : Ps} {d : Dm} {T M A : Nat → Prop} {bx : List Bx} (h : @Fz ⟨X⟩ B0 b va l w p s d T M A bx) (hb : Below w.heap.size w w') (h1 : ∀ k, X' k → X k ∨ w.heap.size ≤ k) (h2 : ∀ k, X' k → k < w'.heap.size) (h3 : ∀ q ∈ bx, X' q.g) : @Fz ⟨X'⟩ B0 b va l w' p s d T M A bx := by
  have hu := @Fz.up ⟨X⟩ _ _ _ _ _ _ _ _ _ _ _ _ _ h hb
  exact @Fz.mk ⟨X'⟩ _ _ _ _ _ _ _ _ _ _ _ _ (Jn.re (@Fz.J ⟨X⟩ _ _ _ _ _ _ _ _ _ _ _ _ h) hb h1 h2) (@Fz.ac ⟨X⟩ _ _ _ _ _ _ _ _ _ _ _ _ hu) (@Fz.hb ⟨X⟩ _ _ _ _ _ _ _ _ _ _ _ _ hu)
    (fun q hq => ⟨(@Fz.hg ⟨X⟩ _ _ _ _ _ _ _ _ _ _ _ _ hu q hq).1, (@Fz.hg ⟨X⟩ _ _ _ _ _ _ _ _ _ _ _ _ hu q hq).2.1, (@Fz.hg ⟨X⟩ _ _ _ _ _ _ _ _ _ _ _ _ hu q hq).2.2.1, (@Fz.hg ⟨X⟩ _ _ _ _ _ _ _ _ _ _ _ _ hu q hq).2.2.2.1, h3 q hq, (@Fz.hg ⟨X⟩ _ _ _ _ _ _ _ _ _ _ _ _ hu q hq).2.2.2.2.2⟩)
    (@Fz.hA ⟨X⟩ _ _ _ _ _ _ _ _ _ _ _ _ hu) (@Fz.lo ⟨X⟩ _ _ _ _ _ _ _ _ _ _ _ _ hu) (@Fz.lw ⟨X⟩ _ _ _ _ _ _ _ _ _ _ _ _ hu)
/-- a new box -/
theorem Fz.box {X : Nat → Prop} {B0 b : Nat} {va : Value} {l : List Ac} {w : World} {p : Nat} {s : Ps} {d : Dm} {T M A : Nat → Prop} {bx : List Bx} {x y : Value} {R : Al By} {nt : By} (h : @Fz ⟨X⟩ B0 b va l w p s d T M A bx) (hX : ∀ k, X k → k < w.heap.size) (hr : Rp A w (.agg #[x, y]) R nt) : @Fz ⟨fun k => X k ∨ k = w.heap.size⟩ B0 b va l (w.alloc (.cells #[x, y] 50)) p s d T M A (⟨w.heap.size, x, y, R, nt⟩ :: bx) := by
  have hb := up_alloc w (.cells #[x, y] 50)
  have hu := Fz.re (X' := fun k => X k ∨ k = w.heap.size) h hb (fun k hk => hk.imp id fun e => by omega) (fun k hk => by
    have : (w.alloc (.cells #[x, y] 50)).heap.size = w.heap.size + 1 := by simp
    rcases hk with hk | hk
    · have := hX k hk; omega
    · omega) (fun q hq => .inl (@Fz.hg ⟨X⟩ _ _ _ _ _ _ _ _ _ _ _ _ h q hq).2.2.2.2.1)
  have hlt := @Jn.lt ⟨X⟩ _ _ _ _ _ _ _ (@Fz.J ⟨X⟩ _ _ _ _ _ _ _ _ _ _ _ _ h)
  exact @Fz.mk ⟨fun k => X k ∨ k = w.heap.size⟩ _ _ _ _ _ _ _ _ _ _ _ _ (@Fz.J ⟨_⟩ _ _ _ _ _ _ _ _ _ _ _ _ hu) (@Fz.ac ⟨_⟩ _ _ _ _ _ _ _ _ _ _ _ _ hu)
    (fun q hq => by
      rcases List.mem_cons.1 hq with rfl | hq
      · exact ⟨heap_alloc_new _ _, hr.up hb⟩
      · exact @Fz.hb ⟨_⟩ _ _ _ _ _ _ _ _ _ _ _ _ hu q hq)
    (fun q hq => by
      rcases List.mem_cons.1 hq with rfl | hq
      · refine ⟨fun e => Nat.lt_irrefl _ (hlt.2.2.1 _ e), fun e => Nat.lt_irrefl _ (hlt.2.2.2 _ e), fun e => ?_, fun e => Nat.lt_irrefl _ (@Fz.hA ⟨X⟩ _ _ _ _ _ _ _ _ _ _ _ _ h _ e).1, .inr rfl, @Fz.lw ⟨X⟩ _ _ _ _ _ _ _ _ _ _ _ _ h⟩
        have h1 := hlt.2.1
        have e : w.heap.size = b := e
        omega
      · exact @Fz.hg ⟨_⟩ _ _ _ _ _ _ _ _ _ _ _ _ hu q hq)
    (@Fz.hA ⟨_⟩ _ _ _ _ _ _ _ _ _ _ _ _ hu) (@Fz.lo ⟨_⟩ _ _ _ _ _ _ _ _ _ _ _ _ hu) (@Fz.lw ⟨_⟩ _ _ _ _ _ _ _ _ _ _ _ _ hu)
/-- the drive is armed, or not -/
theorem Iv.armed {C : Cx} {E : Int} {Q : Nat} {R : Al By} {s : Ps} {d : Dm} (h : Iv C E Q R s d) (n : Int) (hc : C.cal = true → n < 0) : Iv C E Q R s (arD d n) :=
  { h with arm := fun hc2 => by have := hc hc2; show decide (0 ≤ n) = false; simpa using this, dq := ⟨h.dq.al, h.dq.sn, h.dq.qo, h.dq.un⟩ }
theorem Lz.fz [Xcl] {B0 : Nat} {hnd : Int} {b g9 g10 n : Nat} {E : Int} {va : Value} {l : List Ac} {w : World} {p : Nat} {C : Cx} {R : Al By} {s : Ps} {d : Dm} {T M A : Nat → Prop} {x y x2 y2 : Value} {nw : By}
    (h : Lz B0 hnd b g9 g10 n E va l w p C R s d T M A x y x2 y2 nw) : Fz B0 b va l w p s d T M A [⟨g9, x, y, R, nw⟩, ⟨g10, x2, y2, C.RL, C.nt⟩] where
  J := h.J
  ac := h.ac
  hb := fun q hq => by
    simp only [List.mem_cons, List.not_mem_nil, or_false] at hq
    rcases hq with rfl | rfl
    · exact ⟨h.h9, h.r9⟩
    · exact ⟨h.h10, h.r10⟩
  hg := fun q hq => by
    simp only [List.mem_cons, List.not_mem_nil, or_false] at hq
    rcases hq with rfl | rfl
    · obtain ⟨h1, h2, h3, h4⟩ := h.hG g9 (.inl rfl)
      exact ⟨h1, h2, h3, h4, (h.X _).2 (.inl rfl), h.lo.2.1⟩
    · obtain ⟨h1, h2, h3, h4⟩ := h.hG g10 (.inr rfl)
      exact ⟨h1, h2, h3, h4, (h.X _).2 (.inr rfl), h.lo.2.2⟩
  hA := h.hA
  lo := h.lo.1
  lw := Nat.le_trans h.lo.2.1 (Nat.le_of_lt h.lt9.1)
theorem Cx.Ok.wid {C : Cx} (h : C.Ok) : ∀ x ∈ C.RL, Wi x.1 := fun x hx => by
  have h1 : x.1 ∈ C.RL.map (·.1) := List.mem_map.2 ⟨x, hx, rfl⟩
  rw [h.keys] at h1
  obtain ⟨y, hy, e⟩ := List.mem_map.1 h1
  have := h.S y hy
  exact Wi.of (by omega) (by omega)
/-- files behind a crash: what was saved last, or what was being saved -/
def Gc (C : Cx) (n : Nat) (kd : Int) (Rn : Al By) (nn : By) (F : Fl) : Prop := Gfl C n F ∨ (kd = 5 ∧ ∃ S, (C.save S Rn nn).Ok ∧ Gfl (C.save S Rn nn) n F)
theorem Gfl.up {C : Cx} {n m : Nat} {F : Fl} (h : Gfl C n F) (hm : n ≤ m) : Gfl C m F := { h with lp := by have := h.lp; omega }
end Go.Proofs.YtbmhkdcmepfmbaaGreat
set_option linter.unusedVariables false
set_option linter.unusedSimpArgs false
namespace Go.Proofs.YtbmhkdcmepfmbaaGreat
open Go.RowKit
theorem Jn.side {X X' Y T M : Nat → Prop} {w w' : World} {p b : Nat} {s : Ps} {d : Dm} (h : @Jn ⟨X⟩ T M w p b s d) (hw : Wb Y w w') (hY : ∀ k, Y k → X k ∧ ¬ T k ∧ ¬ M k ∧ k ≠ b) (h1 : ∀ k, X' k → X k ∨ w.heap.size ≤ k) (h2 : ∀ k, X' k → k < w'.heap.size) : @Jn ⟨X'⟩ T M w' p b s d := by
  obtain ⟨D, Dd, ms, mf, ma, ff, nf, g, k1, k2, k3, k4, k5, k6⟩ := @Jn.ex ⟨X⟩ _ _ _ _ _ _ _ h
  refine @Jn.mk ⟨X'⟩ _ _ _ _ _ _ _ ⟨D, Dd, ms, mf, ma, ff, nf, g, k1.keep hw fun k hk => ⟨(hY k hk).2.1, fun hd => k6.2.1 k hd (hY k hk).1⟩, k2.keep hw fun k hk => ⟨(hY k hk).2.2.1, fun hd => k6.2.2 k hd (hY k hk).1, (hY k hk).2.2.2⟩, k3, k4, k5, h2, fun k hk hx => ?_, fun k hk hx => ?_⟩ (@Jn.tm ⟨X⟩ _ _ _ _ _ _ _ h)
  · rcases h1 k hx with h | h
    · exact k6.2.1 k hk h
    · have := (k1.hD k hk).1; omega
  · rcases h1 k hx with h | h
    · exact k6.2.2 k hk h
    · have := (k2.hD k hk).1; omega
/-- what one pool never keeps memory of: the boxes, and the other pool -/
def XO (bx : List Bx) (T M : Nat → Prop) (b : Nat) (k : Nat) : Prop := (∃ q ∈ bx, q.g = k) ∨ T k ∨ M k ∨ k = b
/-- a frame, seen from outside of its class -/
structure Fy (B0 b : Nat) (va : Value) (l : List Ac) (w : World) (T M A : Nat → Prop) (bx : List Bx) : Prop where
  ac : As A w va l
  hb : ∀ q ∈ bx, w.heap[q.g]? = some (.cells #[q.x, q.y] 50 (0, 0)) ∧ Rp A w (.agg #[q.x, q.y]) q.R q.nt
  hg : ∀ q ∈ bx, ¬ T q.g ∧ ¬ M q.g ∧ q.g ≠ b ∧ ¬ A q.g ∧ B0 ≤ q.g
  hA : ∀ k, A k → k < w.heap.size ∧ ¬ T k ∧ ¬ M k ∧ k ≠ b
  lo : ∀ k, (T k ∨ M k ∨ k = b) → B0 ≤ k
  lw : B0 ≤ w.heap.size
structure Tw (B0 b1 b2 : Nat) (va : Value) (l : List Ac) (w : World) (p1 : Nat) (s1 : Ps) (d1 : Dm) (T1 M1 : Nat → Prop) (p2 : Nat) (s2 : Ps) (d2 : Dm) (T2 M2 A : Nat → Prop) (bx : List Bx) : Prop where
  j1 : @Jn ⟨XO bx T2 M2 b2⟩ T1 M1 w p1 b1 s1 d1
  j2 : @Jn ⟨XO bx T1 M1 b1⟩ T2 M2 w p2 b2 s2 d2
  f1 : Fy B0 b1 va l w T1 M1 A bx
  f2 : Fy B0 b2 va l w T2 M2 A bx
  dj : ∀ k, (T1 k ∨ M1 k ∨ k = b1) → ¬ (T2 k ∨ M2 k ∨ k = b2)
section
variable {B0 b b1 b2 : Nat} {va : Value} {l : List Ac} {w w' : World} {p1 : Nat} {s1 : Ps} {d1 : Dm} {T M T1 M1 : Nat → Prop} {p2 : Nat} {s2 : Ps} {d2 : Dm} {T2 M2 A : Nat → Prop} {bx bx' : List Bx}
theorem Fy.up (h : Fy B0 b va l w T M A bx) (hb : Below w.heap.size w w') : Fy B0 b va l w' T M A bx :=
  { h with ac := h.ac.up hb, hb := fun q hq => ⟨heap_up (h.hb q hq).1 hb, (h.hb q hq).2.up hb⟩, hA := fun k hk => ⟨Nat.lt_of_lt_of_le (h.hA k hk).1 hb.size, (h.hA k hk).2⟩, lw := Nat.le_trans h.lw hb.size }
theorem Fy.dis (h : Fy B0 b va l w T M A bx) {k : Nat} (hk : T k ∨ M k ∨ k = b) : ¬ A k ∧ ∀ q ∈ bx, k ≠ q.g := by
  refine ⟨fun ha => ?_, fun q hq e => ?_⟩
  · obtain ⟨_, h1, h2, h3⟩ := h.hA k ha
    rcases hk with hk | hk | hk
    · exact h1 hk
    · exact h2 hk
    · exact h3 hk
  · obtain ⟨h1, h2, h3, _⟩ := h.hg q hq
    rw [← e] at h1 h2 h3
    rcases hk with hk | hk | hk
    · exact h1 hk
    · exact h2 hk
    · exact h3 hk
/-- blocks are written that are neither read nor a box; what is read may grow by new blocks -/
theorem Fy.wb (h : Fy B0 b va l w T M A bx) {Y T' M' A' : Nat → Prop} (hw : Wb Y w w') (hY : ∀ k, Y k → ¬ A k ∧ ∀ q ∈ bx, k ≠ q.g) (hT : ∀ k, T' k → T k ∨ w.heap.size ≤ k) (hM : ∀ k, M' k → M k ∨ w.heap.size ≤ k) (hA : ∀ k, A k → A' k) (hA2 : ∀ k, A' k → A k ∨ (w.heap.size ≤ k ∧ k < w'.heap.size ∧ ¬ T' k ∧ ¬ M' k ∧ k ≠ b)) : Fy B0 b va l w' T' M' A' bx where
  ac := (h.ac.wb hw fun k hk => (hY k hk).1).monoS hA
  hb := fun q hq => ⟨heap_wb (h.hb q hq).1 hw fun e => (hY _ e).2 q hq rfl, ((h.hb q hq).2.wb hw fun k hk => (hY k hk).1).monoS hA⟩
  hg := fun q hq => by
    obtain ⟨h1, h2, h3, h4, h5⟩ := h.hg q hq
    have hlt := heap_lt (h.hb q hq).1
    exact ⟨fun e => (hT _ e).elim h1 fun e => by omega, fun e => (hM _ e).elim h2 fun e => by omega, h3, fun e => (hA2 _ e).elim h4 fun e => by omega, h5⟩
  hA := fun k hk => by
    rcases hA2 k hk with hk | hk
    · obtain ⟨h0, h1, h2, h3⟩ := h.hA k hk
      exact ⟨Nat.lt_of_lt_of_le h0 hw.size, fun e => (hT _ e).elim h1 fun e => by omega, fun e => (hM _ e).elim h2 fun e => by omega, h3⟩
    · exact ⟨hk.2.1, hk.2.2.1, hk.2.2.2.1, hk.2.2.2.2⟩
  lo := lo_up h.lo h.lw hT hM
  lw := Nat.le_trans h.lw hw.size
theorem Tw.symm (h : Tw B0 b1 b2 va l w p1 s1 d1 T1 M1 p2 s2 d2 T2 M2 A bx) : Tw B0 b2 b1 va l w p2 s2 d2 T2 M2 p1 s1 d1 T1 M1 A bx := ⟨h.j2, h.j1, h.f2, h.f1, fun k h1 h2 => h.dj k h2 h1⟩
theorem Tw.up (h : Tw B0 b1 b2 va l w p1 s1 d1 T1 M1 p2 s2 d2 T2 M2 A bx) (hb : Below w.heap.size w w') : Tw B0 b1 b2 va l w' p1 s1 d1 T1 M1 p2 s2 d2 T2 M2 A bx :=
  ⟨@Jn.up ⟨_⟩ _ _ _ _ _ _ _ _ h.j1 hb, @Jn.up ⟨_⟩ _ _ _ _ _ _ _ _ h.j2 hb, h.f1.up hb, h.f2.up hb, h.dj⟩
theorem Tw.lt (h : Tw B0 b1 b2 va l w p1 s1 d1 T1 M1 p2 s2 d2 T2 M2 A bx) : (∀ k, (T1 k ∨ M1 k ∨ k = b1) → k < w.heap.size) ∧ ∀ k, (T2 k ∨ M2 k ∨ k = b2) → k < w.heap.size := by
  have h1 := @Jn.lt ⟨_⟩ _ _ _ _ _ _ _ h.j1
  have h2 := @Jn.lt ⟨_⟩ _ _ _ _ _ _ _ h.j2
  refine ⟨fun k hk => ?_, fun k hk => ?_⟩
  · rcases hk with e | e | e
    · exact h1.2.2.1 k e
    · exact h1.2.2.2 k e
    · have := h1.2.1; omega
  · rcases hk with e | e | e
    · exact h2.2.2.1 k e
    · exact h2.2.2.2 k e
    · have := h2.2.1; omega
/-- the first pool turns, what is read may grow -/
theorem Tw.turn (h : Tw B0 b1 b2 va l w p1 s1 d1 T1 M1 p2 s2 d2 T2 M2 A bx) {T' M' A' : Nat → Prop} {s' : Ps} {d' : Dm} (hw : Wb (fun k => T1 k ∨ M1 k ∨ k = b1) w w') (hT : ∀ k, T' k → T1 k ∨ w.heap.size ≤ k) (hM : ∀ k, M' k → M1 k ∨ w.heap.size ≤ k)
    (hJ : @Jn ⟨XO bx T2 M2 b2⟩ T' M' w' p1 b1 s' d') (hA : ∀ k, A k → A' k) (hA2 : ∀ k, A' k → A k ∨ (w.heap.size ≤ k ∧ k < w'.heap.size ∧ ¬ T' k ∧ ¬ M' k ∧ k ≠ b1)) : Tw B0 b1 b2 va l w' p1 s' d' T' M' p2 s2 d2 T2 M2 A' bx := by
  have hl := h.lt
  have hY : ∀ k, (T1 k ∨ M1 k ∨ k = b1) → ¬ A k ∧ ∀ q ∈ bx, k ≠ q.g := fun k hk => h.f1.dis hk
  have hTM : ∀ k, (T' k ∨ M' k ∨ k = b1) → (T1 k ∨ M1 k ∨ k = b1) ∨ w.heap.size ≤ k := fun k hk => by
    rcases hk with e | e | e
    · exact (hT k e).imp .inl id
    · exact (hM k e).imp (fun e => .inr (.inl e)) id
    · exact .inl (.inr (.inr e))
  have hjl := @Jn.lt ⟨_⟩ _ _ _ _ _ _ _ hJ
  refine ⟨hJ, ?_, h.f1.wb hw hY hT hM hA hA2, h.f2.wb hw hY (fun k hk => .inl hk) (fun k hk => .inl hk) hA fun k hk => (hA2 k hk).imp id fun e => ⟨e.1, e.2.1, fun e2 => by have := hl.2 k (.inl e2); omega, fun e2 => by have := hl.2 k (.inr (.inl e2)); omega, fun e2 => by have := hl.2 k (.inr (.inr e2)); omega⟩, fun k h1 h2 => ?_⟩
  · refine Jn.side h.j2 hw (fun k hk => ?_) (fun k hk => ?_) (fun k hk => ?_)
    · have hd := h.dj k hk
      exact ⟨.inr hk, fun e => hd (.inl e), fun e => hd (.inr (.inl e)), fun e => hd (.inr (.inr e))⟩
    · rcases hk with hk | hk
      · exact .inl (.inl hk)
      · exact (hTM k hk).imp .inr id
    · rcases hk with ⟨q, hq, rfl⟩ | hk | hk | hk
      · exact Nat.lt_of_lt_of_le (heap_lt (h.f1.hb q hq).1) hw.size
      · exact hjl.2.2.1 k hk
      · exact hjl.2.2.2 k hk
      · have := hjl.2.1; omega
  · rcases hTM k h1 with e | e
    · exact h.dj k e h2
    · have := hl.2 k h2; omega
theorem Tw.pool (h : Tw B0 b1 b2 va l w p1 s1 d1 T1 M1 p2 s2 d2 T2 M2 A bx) {s' : Ps} {d' : Dm} (hj : @Jp ⟨XO bx T2 M2 b2⟩ T1 M1 w p1 b1 s' d' w') : ∃ T' M', Tw B0 b1 b2 va l w' p1 s' d' T' M' p2 s2 d2 T2 M2 A bx := by
  obtain ⟨hw, T', M', hT, hM, hJ⟩ := hj
  exact ⟨T', M', h.turn hw hT hM hJ (fun k hk => hk) fun k hk => .inl hk⟩
theorem Tw.doP (h : Tw B0 b1 b2 va l w p1 s1 d1 T1 M1 p2 s2 d2 T2 M2 A bx) {C : Cx} {E : Int} {n : Nat} {R : Al By} {nw : By} {q : Ac} {e : Ending} (hd : @DoP ⟨XO bx T2 M2 b2⟩ C E n R T1 M1 A w p1 b1 nw q e w') (hc : C.cal = true) :
    ∃ (a1 : Option Addr) (n1 c1 : Nat) (a2 : Option Addr) (n2 c2 : Nat) (R' : Al By) (s' : Ps) (d' : Dm) (T' M' A' : Nat → Prop), e = .returned (.tuple #[.agg #[.slice a1 n1 c1, .slice a2 n2 c2], .bool true]) ∧ nxR R q R' ∧ Wb (fun k => T1 k ∨ M1 k ∨ k = b1) w w' ∧ Tw B0 b1 b2 va l w' p1 s' d' T' M' p2 s2 d2 T2 M2 A' bx ∧ Rp A' w' (.agg #[.slice a1 n1 c1, .slice a2 n2 c2]) R' nw ∧ Iv C (E + 1) (n + 1) R' s' d' ∧ (∀ {u : Value} {t : By}, Bs A w u t → Bs A' w' u t) ∧ (∀ k, A k → A' k) := by
  obtain ⟨v', ok, R', A1, T', M', he, hn, hw, hT, hM, hA1, hr, hdis, hc2⟩ := hd
  obtain ⟨a1, c1, a2, n2, c2, rfl⟩ := hr.form
  rcases hc2 with ⟨s', d', hj, _⟩ | ⟨rfl, s', d', hI, hJ⟩
  · have := hj.2.1; rw [hc] at this; cases this
  refine ⟨a1, _, c1, a2, n2, c2, R', s', d', T', M', fun k => A k ∨ A1 k, he, hn, hw, h.turn hw hT hM hJ (fun _ hk => .inl hk) fun k hk => ?_, hr.monoS fun _ hk => .inr hk, hI, fun hu => (hu.wb hw fun k hk => (h.f1.dis hk).1).monoS fun _ hk => .inl hk, fun _ hk => .inl hk⟩
  rcases hk with hk | hk
  · exact .inl hk
  · rcases hA1 k hk with h1 | h1
    · exact .inl h1
    · exact .inr ⟨h1, hdis k hk⟩
/-- a box is written -/
theorem Tw.put (h : Tw B0 b1 b2 va l w p1 s1 d1 T1 M1 p2 s2 d2 T2 M2 A bx) {g : Nat} {x y : Value} {R : Al By} {nt : By} (hg : ∃ q ∈ bx, q.g = g) (hw : Wb (fun k => k = g) w w') (hx : w'.heap[g]? = some (.cells #[x, y] 50 (0, 0))) (hr : Rp A w (.agg #[x, y]) R nt) (hbx : ∀ q ∈ bx', q = ⟨g, x, y, R, nt⟩ ∨ (q ∈ bx ∧ q.g ≠ g)) (hgs : ∀ q ∈ bx', ∃ q' ∈ bx, q'.g = q.g) : Tw B0 b1 b2 va l w' p1 s1 d1 T1 M1 p2 s2 d2 T2 M2 A bx' := by
  obtain ⟨q0, hq0, rfl⟩ := hg
  have hAg : ∀ k, k = q0.g → ¬ A k := fun k hk => by subst hk; exact (h.f1.hg q0 hq0).2.2.2.1
  have hX : ∀ {T M : Nat → Prop} {b : Nat} k, XO bx' T M b k → XO bx T M b k := fun k hk => hk.imp (fun ⟨q, hq, e⟩ => by
    obtain ⟨q', hq', e'⟩ := hgs q hq
    exact ⟨q', hq', e'.trans e⟩) id
  have hlt := @Jn.xlt ⟨_⟩ _ _ _ _ _ _ _ h.j1
  have hlt2 := @Jn.xlt ⟨_⟩ _ _ _ _ _ _ _ h.j2
  have key : ∀ {T M : Nat → Prop} {b : Nat}, Fy B0 b va l w T M A bx → Fy B0 b va l w' T M A bx' := fun f =>
    { ac := f.ac.wb hw hAg, lo := f.lo, lw := Nat.le_trans f.lw hw.size, hA := fun k hk => ⟨Nat.lt_of_lt_of_le (f.hA k hk).1 hw.size, (f.hA k hk).2⟩
      hb := fun q hq => by
        rcases hbx q hq with rfl | ⟨h1, h2⟩
        · exact ⟨hx, hr.wb hw hAg⟩
        · exact ⟨heap_wb (f.hb q h1).1 hw h2, (f.hb q h1).2.wb hw hAg⟩
      hg := fun q hq => by
        rcases hbx q hq with rfl | ⟨h1, h2⟩
        · exact f.hg q0 hq0
        · exact f.hg q h1 }
  refine ⟨Jn.side h.j1 hw (fun k hk => ?_) (fun k hk => .inl (hX k hk)) (fun k hk => Nat.lt_of_lt_of_le (hlt k (hX k hk)) hw.size), Jn.side h.j2 hw (fun k hk => ?_) (fun k hk => .inl (hX k hk)) (fun k hk => Nat.lt_of_lt_of_le (hlt2 k (hX k hk)) hw.size), key h.f1, key h.f2, h.dj⟩
  · have hk : k = q0.g := hk
    subst hk
    obtain ⟨h1, h2, h3, _⟩ := h.f1.hg q0 hq0
    exact ⟨.inl ⟨q0, hq0, rfl⟩, h1, h2, h3⟩
  · have hk : k = q0.g := hk
    subst hk
    obtain ⟨h1, h2, h3, _⟩ := h.f2.hg q0 hq0
    exact ⟨.inl ⟨q0, hq0, rfl⟩, h1, h2, h3⟩
/-- one more block that is only read -/
theorem Tw.addA (h : Tw B0 b1 b2 va l w p1 s1 d1 T1 M1 p2 s2 d2 T2 M2 A bx) {g : Nat} (hg : g < w.heap.size) (h1 : ¬ (T1 g ∨ M1 g ∨ g = b1)) (h2 : ¬ (T2 g ∨ M2 g ∨ g = b2)) (hq : ∀ q ∈ bx, q.g ≠ g) : Tw B0 b1 b2 va l w p1 s1 d1 T1 M1 p2 s2 d2 T2 M2 (fun k => A k ∨ k = g) bx := by
  have key : ∀ {T M : Nat → Prop} {b : Nat}, ¬ (T g ∨ M g ∨ g = b) → Fy B0 b va l w T M A bx → Fy B0 b va l w T M (fun k => A k ∨ k = g) bx := fun hn f =>
    { f with ac := f.ac.monoS fun _ hk => .inl hk, hb := fun q hq1 => ⟨(f.hb q hq1).1, (f.hb q hq1).2.monoS fun _ hk => .inl hk⟩
             hg := fun q hq1 => ⟨(f.hg q hq1).1, (f.hg q hq1).2.1, (f.hg q hq1).2.2.1, fun e => e.elim (f.hg q hq1).2.2.2.1 (hq q hq1), (f.hg q hq1).2.2.2.2⟩
             hA := fun k hk => hk.elim (f.hA k) fun e => by rw [e]; exact ⟨hg, fun e => hn (.inl e), fun e => hn (.inr (.inl e)), fun e => hn (.inr (.inr e))⟩ }
  exact ⟨h.j1, h.j2, key h1 h.f1, key h2 h.f2, h.dj⟩
end
end Go.Proofs.YtbmhkdcmepfmbaaGreat
set_option linter.unusedVariables false
set_option linter.unusedSimpArgs false
namespace Go.Proofs.YtbmhkdcmepfmbaaGreat
open Go.RowKit
attribute [local go_sem ↓] Go.wp_at_zero Go.wp_at_succ
set_option maxRecDepth 100000 in
set_option maxHeartbeats 8000000 in
theorem hands_walk {w : World} {v : Value} {ha hb : Int} {l : List Ac} (hha : -9223372036854775808 ≤ ha ∧ ha ≤ 9223372036854775807) (hhb : -9223372036854775808 ≤ hb ∧ hb ≤ 9223372036854775807) (h : As (Lt w.heap.size) w v l) : Calls Tryz.prog 4 #[.int .i64 ha, .int .i64 hb, v] w fun e w' => e = .returned (.bool true) ∧ Below w.heap.size w w' := by
  obtain ⟨va0, vc0, rfl, -⟩ := h.at
  have HAS := Hid.mk' h
  have HAW := Hid.mk' (awake_any w)
  have HHA := Hid.mk' hha
  have HHB := Hid.mk' hhb
  clear h hha hhb
  go_enter Tryz.func4, Tryz.ntmps4
  go_wp2_with fail
  refine HAW.out.mono ?_
  rintro e w1 ⟨rfl, hb1⟩
  have HB1 := Hid.mk' hb1
  have HNW := Hid.mk' (new_any w1 1073741824)
  clear hb1 HAW
  go_wp2_with fail
  refine HNW.out.mono ?_
  rintro e w2 ⟨rfl, hb2, hd2⟩
  have HB2 := Hid.mk' (HB1.out.trans (hb2.mono HB1.out.size))
  have HBL : Hid (w.heap.size ≤ w1.heap.size ∧ w1.heap.size < w2.heap.size) := ⟨HB1.out.size, hd2.blt⟩
  have hd2 : DrIs (fun _ => False) (fun _ => False) w2 w1.heap.size (dm0 1073741824) := hd2
  have HD2 := Hid.mk' hd2
  generalize w1.heap.size = b1 at *
  have HNW2 := Hid.mk' (new_any w2 1073741824)
  clear hd2 hb2 HNW
  go_wp2_with fail
  refine HNW2.out.mono ?_
  rintro e w3 ⟨rfl, hb3, hd3⟩
  have HB3 := Hid.mk' (HB2.out.trans (hb3.mono HB2.out.size))
  have HBL2 : Hid (b1 < w2.heap.size ∧ w2.heap.size < w3.heap.size) := ⟨HBL.out.2, hd3.blt⟩
  have hd3 : DrIs (fun _ => False) (fun _ => False) w3 w2.heap.size (dm0 1073741824) := hd3
  have HD3 := Hid.mk' hd3
  clear hd3
  have HD23 := Hid.mk' (HD2.out.below hb3)
  obtain ⟨b2, hb2e⟩ : ∃ x, x = w2.heap.size := ⟨_, rfl⟩
  rw [← hb2e] at HBL HBL2 HD3
  rw [← hb2e]
  clear hb2e
  have HOP := letI : Xcl := ⟨fun k => k = b2⟩; Hid.mk' (vopen HD23.out ⟨fun k h => by have h : k = b2 := h; rw [h]; exact HBL2.out.2, fun _ h => False.elim h, fun _ h => False.elim h⟩ (cx0_dv true 1073741824 (max 1 ha) (by decide) (by omega)) ha rfl)
  clear hb3 HNW2
  go_wp2_with fail
  refine HOP.out.mono ?_
  rintro e w4 ⟨p1, c1, v4, T1, ms1, mf1, ma1, ff1, nf1, g1, rfl, hJ1, hI1, hb4, hT1, hc1, ho4⟩
  obtain ⟨va4, vc4, rfl⟩ := own_sliceN ho4
  have HJ1 : Hid (@Jn ⟨fun k => k = b2⟩ T1 (fun _ => False) w4 p1 b1 (s0k (max 1 ha) []) (dm0 1073741824)) := letI : Xcl := ⟨fun k => k = b2⟩; hJ1.jn
  have HI1 : Hid (Iv (cx0 true 1073741824 (max 1 ha)) 0 0 [] (s0k (max 1 ha) []) (dm0 1073741824)) := hI1
  have HB4 := Hid.mk' (HB3.out.trans (hb4.mono HB3.out.size))
  have HT1 : Hid (∀ k, (T1 k ∨ False ∨ k = b1) → w.heap.size ≤ k ∧ k < w4.heap.size ∧ k ≠ b2) := fun k hk => by
    have h1 := HBL.out
    have h2 := HBL2.out
    have h3 := HB3.out.size
    have h4 := hb4.size
    rcases hk with hk | hk | hk
    · have := (hT1 k hk).1
      have := (@Jn.lt ⟨fun k => k = b2⟩ _ _ _ _ _ _ _ HJ1.out).2.2.1 k hk
      omega
    · exact hk.elim
    · omega
  have HD4 := Hid.mk' (HD3.out.below hb4)
  have HOP2 := letI : Xcl := ⟨fun k => T1 k ∨ False ∨ k = b1⟩; Hid.mk' (vopen HD4.out ⟨fun k h => (HT1.out k h).2.1, fun _ h => False.elim h, fun _ h => False.elim h⟩ (cx0_dv true 1073741824 (max 1 hb) (by decide) (by omega)) hb rfl)
  clear hJ1 hI1 hb4 hT1 hc1 ho4 HOP
  go_wp2_with fail
  refine HOP2.out.mono ?_
  rintro e w5 ⟨p2, c2, v5, T2, ms2, mf2, ma2, ff2, nf2, g2, rfl, hJ2, hI2, hb5, hT2, hc2, ho5⟩
  obtain ⟨va5, vc5, rfl⟩ := own_sliceN ho5
  have HJ2 : Hid (@Jn ⟨fun k => T1 k ∨ False ∨ k = b1⟩ T2 (fun _ => False) w5 p2 b2 (s0k (max 1 hb) []) (dm0 1073741824)) := letI : Xcl := ⟨fun k => T1 k ∨ False ∨ k = b1⟩; hJ2.jn
  have HI2 : Hid (Iv (cx0 true 1073741824 (max 1 hb)) 0 0 [] (s0k (max 1 hb) []) (dm0 1073741824)) := hI2
  have HB5 := Hid.mk' (HB4.out.trans (hb5.mono HB4.out.size))
  have HB45 := Hid.mk' hb5
  have HT2 : Hid (∀ k, (T2 k ∨ False ∨ k = b2) → w.heap.size ≤ k ∧ k < w5.heap.size ∧ (k = b2 ∨ w4.heap.size ≤ k)) := fun k hk => by
    have h1 := HBL.out
    have h2 := HBL2.out
    have h3 := HB4.out.size
    have h4 := hb5.size
    have h5 := HD4.out.blt
    rcases hk with hk | hk | hk
    · have := (hT2 k hk).1
      have := (@Jn.lt ⟨fun k => T1 k ∨ False ∨ k = b1⟩ _ _ _ _ _ _ _ HJ2.out).2.2.1 k hk
      omega
    · exact hk.elim
    · omega
  obtain ⟨W6, hW6⟩ : ∃ W6, W6 = (w5.alloc (.cells #[.slice none 0 0, .slice none 0 0] 50)).alloc (.cells #[.slice none 0 0, .slice none 0 0] 50) := ⟨_, rfl⟩
  have hb6 : Below w5.heap.size w5 W6 := by rw [hW6]; exact bt (up_alloc _ _) (up_alloc _ _)
  have HB6 := Hid.mk' (HB5.out.trans (hb6.mono HB5.out.size))
  have HSM := Hid.mk' (small_any (HAS.out.up HB6.out) 40 (by decide))
  have HW6 := Hid.mk' hW6
  have HB56 := Hid.mk' hb6
  clear hJ2 hI2 hb5 hT2 hc2 ho5 HOP2 hb6 hW6
  go_wp2_with fail
  rw [← HW6.out]
  refine HSM.out.mono ?_
  rintro e w7 ⟨v7, L, rfl, hL, hF, hb7⟩
  have has := (hF.as hb7 (by have h := congrArg List.length hL; rw [List.length_map] at h; have := small_len l 40; omega)).andLt
  rw [hL] at has
  obtain ⟨a5, c5, rfl, hc5, ha5, hz5, -⟩ := has.at
  have HTW : Hid (Tw w.heap.size b1 b2 (.slice a5 (smallL l 40).length c5) (smallL l 40) w7 p1 (s0k (max 1 ha) []) (dm0 1073741824) T1 (fun _ => False) p2 (s0k (max 1 hb) []) (dm0 1073741824) T2 (fun _ => False) (fun k => ((Lt w.heap.size k ∧ k < W6.heap.size) ∨ W6.heap.size ≤ k) ∧ k < w7.heap.size) [⟨w5.heap.size, .slice none 0 0, .slice none 0 0, [], []⟩, ⟨w5.heap.size + 1, .slice none 0 0, .slice none 0 0, [], []⟩]) := by
    obtain ⟨W1, h1⟩ : ∃ W1, W1 = w5.alloc (.cells #[.slice none 0 0, .slice none 0 0] 50) := ⟨_, rfl⟩
    have hw6 := HW6.out
    rw [← h1] at hw6
    have z1 : W1.heap.size = w5.heap.size + 1 := by rw [h1]; simp
    have z2 : W6.heap.size = w5.heap.size + 2 := by rw [hw6]; simp [z1]
    have bb2 : Below W1.heap.size W1 W6 := by rw [hw6]; exact up_alloc _ _
    have x1 : W1.heap[w5.heap.size]? = some (.cells #[.slice none 0 0, .slice none 0 0] 50 (0, 0)) := by rw [h1]; exact heap_alloc_new _ _
    have x2 : W6.heap[W1.heap.size]? = some (.cells #[.slice none 0 0, .slice none 0 0] 50 (0, 0)) := by rw [hw6]; exact heap_alloc_new _ _
    rw [z1] at x2
    have hs7 := hb7.size
    have hs5 := HB5.out.size
    have hbx : ∀ q ∈ ([⟨w5.heap.size, .slice none 0 0, .slice none 0 0, [], []⟩, ⟨w5.heap.size + 1, .slice none 0 0, .slice none 0 0, [], []⟩] : List Bx), (w5.heap.size ≤ q.g ∧ q.g < W6.heap.size) ∧ w7.heap[q.g]? = some (.cells #[q.x, q.y] 50 (0, 0)) ∧ Rp (fun k => ((Lt w.heap.size k ∧ k < W6.heap.size) ∨ W6.heap.size ≤ k) ∧ k < w7.heap.size) w7 (.agg #[q.x, q.y]) q.R q.nt := fun q hq => by
      simp only [List.mem_cons, List.not_mem_nil, or_false] at hq
      rcases hq with rfl | rfl
      · exact ⟨⟨by simp only; omega, by simp only; omega⟩, heap_up (heap_up x1 bb2) hb7, _, _, rfl, Ts.nil, bs_nil⟩
      · exact ⟨⟨by simp only; omega, by simp only; omega⟩, heap_up x2 hb7, _, _, rfl, Ts.nil, bs_nil⟩
    have hA0 : ∀ k, (((Lt w.heap.size k ∧ k < W6.heap.size) ∨ W6.heap.size ≤ k) ∧ k < w7.heap.size) → k < w7.heap.size ∧ (k < w.heap.size ∨ W6.heap.size ≤ k) := fun k hk => ⟨hk.2, hk.1.imp (fun h => h.1) id⟩
    have hb47 := HB45.out.trans ((bt HB56.out hb7).mono HB45.out.size)
    have hs45 := HB45.out.size
    have fy : ∀ {T : Nat → Prop} {b : Nat}, (∀ k, (T k ∨ False ∨ k = b) → w.heap.size ≤ k ∧ k < w5.heap.size) → Fy w.heap.size b (.slice a5 (smallL l 40).length c5) (smallL l 40) w7 T (fun _ => False) (fun k => ((Lt w.heap.size k ∧ k < W6.heap.size) ∨ W6.heap.size ≤ k) ∧ k < w7.heap.size) [⟨w5.heap.size, .slice none 0 0, .slice none 0 0, [], []⟩, ⟨w5.heap.size + 1, .slice none 0 0, .slice none 0 0, [], []⟩] := fun {T b} ht =>
      { ac := has, hb := fun q hq => (hbx q hq).2, lo := fun k hk => (ht k hk).1, lw := by omega
        hg := fun q hq => by
          have h1 := (hbx q hq).1
          refine ⟨fun e => by have := ht _ (.inl e); omega, fun e => e, fun e => by have := ht _ (.inr (.inr e)); omega, fun e => by have := (hA0 _ e).2; omega, by omega⟩
        hA := fun k hk => by
          have h1 := hA0 k hk
          exact ⟨h1.1, fun e => by have := ht k (.inl e); omega, fun e => e, fun e => by have := ht k (.inr (.inr e)); omega⟩ }
    refine ⟨Jn.re HJ1.out hb47 (fun k hk => ?_) (fun k hk => ?_), Jn.re HJ2.out (bt HB56.out hb7) (fun k hk => ?_) (fun k hk => ?_), fy (fun k hk => by have := HT1.out k hk; omega), fy (fun k hk => by have := HT2.out k hk; omega), fun k h1 h2 => ?_⟩
    · rcases hk with ⟨q, hq, rfl⟩ | hk
      · have := (hbx q hq).1; exact .inr (by omega)
      · exact (HT2.out k hk).2.2
    · rcases hk with ⟨q, hq, rfl⟩ | hk
      · have := (hbx q hq).1; omega
      · have := HT2.out k hk; omega
    · rcases hk with ⟨q, hq, rfl⟩ | hk
      · have := (hbx q hq).1; exact .inr (by omega)
      · exact .inl hk
    · rcases hk with ⟨q, hq, rfl⟩ | hk
      · have := (hbx q hq).1; omega
      · have := HT1.out k hk; omega
    · have e1 := HT1.out k h1
      have e2 := HT2.out k h2
      omega
  have HB7 := Hid.mk' (HB6.out.trans (hb7.mono HB6.out.size))
  have HLN := Hid.mk' (small_ln (l := l) (n := 40))
  have hls := small_len l 40
  have H93 : Hid (w.heap.size ≤ w5.heap.size) := HB5.out.size
  generalize hls' : smallL l 40 = ls at *
  have hlsi : (ls.length : Int) ≤ 40 := by omega
  clear hls' hL hF hb7 has HSM HJ1 HT1 HJ2 HT2 HW6 HB6 HB5 HB4 HB3 HB2 HB1 HAS hls hz5
  go_wp2_with fail
  obtain ⟨g1, hg1⟩ : ∃ g, g = w5.heap.size := ⟨_, rfl⟩
  rw [← hg1] at HTW H93
  rw [← hg1]
  obtain ⟨g2, hg2⟩ : ∃ g, g = g1 + 1 := ⟨_, rfl⟩
  rw [← hg2] at HTW
  rw [← hg2]
  have HG : Hid (g1 ≠ g2) := by show _ ≠ _; omega
  have HG2 : Hid (w.heap.size ≤ g2) := by show _ ≤ _; have := H93.out; omega
  clear hg1 hg2
  have HI1 : Hid (Iv (cx0 true 1073741824 (max 1 ha)) (100 * ((0 : Nat) : Int)) 0 [] (s0k (max 1 ha) []) (dm0 1073741824)) := HI1
  have HI2 : Hid (Iv (cx0 true 1073741824 (max 1 hb)) (100 * ((0 : Nat) : Int)) 0 [] (s0k (max 1 hb) []) (dm0 1073741824)) := HI2
  have HCC : Hid ((cx0 true 1073741824 (max 1 ha)).cal = true ∧ (cx0 true 1073741824 (max 1 hb)).cal = true ∧ (cx0 true 1073741824 (max 1 ha)).hand = max 1 ha ∧ (cx0 true 1073741824 (max 1 hb)).hand = max 1 hb) := ⟨rfl, rfl, rfl, rfl⟩
  have HRL0 : Hid (([] : Al By).length ≤ 0) := Nat.le_refl _
  go_loopw [48] (fun i wr => ∃ (k : Nat) (C1 C2 : Cx) (R : Al By) (s1 : Ps) (d1 : Dm) (U1 N1 : Nat → Prop) (s2 : Ps) (d2 : Dm) (U2 N2 A : Nat → Prop) (x y : Value) (nw : By) (x2 y2 : Value) (nx : By), k ≤ ls.length ∧ i = .int .i64 k ∧ Hid (C1.cal = true ∧ C2.cal = true ∧ C1.hand = max 1 ha ∧ C2.hand = max 1 hb) ∧ Hid (Iv C1 (100 * (k : Int)) k R s1 d1) ∧ Hid (Iv C2 (100 * (k : Int)) k R s2 d2) ∧ Hid (R.length ≤ k) ∧ Hid (Tw w.heap.size b1 b2 (.slice a5 ls.length c5) ls wr p1 s1 d1 U1 N1 p2 s2 d2 U2 N2 A [⟨g1, x, y, R, nw⟩, ⟨g2, x2, y2, R, nx⟩]) ∧ Hid (Below w.heap.size w wr)) (fun i _ => ls.length - (intOf i).toNat)
  case atStart => exact ⟨0, _, _, [], _, _, _, _, _, _, _, _, _, _, _, _, _, _, _, by omega, rfl, HCC, HI1, HI2, HRL0, HTW, HB7⟩
  case round =>
    clear HTW HI1 HI2 HCC HRL0 HB7
    obtain ⟨k, C1, C2, R, s1, d1, U1, N1, s2, d2, U2, N2, A, x, y, nw, x2, y2, nx, hk, rfl, HCC, HI1, HI2, HRL, HT, HB⟩ := hrel
    by_cases hlt : k < ls.length
    case neg =>
      go_wp2_with fail
      go_ret
      exact ⟨rfl, HB.out⟩
    have hlt' : (k : Int) < (ls.length : Int) := by omega
    have hk40 : k < 40 := by omega
    have hf := HT.out
    obtain ⟨a6', c6', e, -, -, -, hat⟩ := hf.f1.ac.at
    simp only [Value.slice.injEq] at e
    obtain ⟨e1, -, e2⟩ := e
    subst e1
    subst e2
    obtain ⟨bb, of, u, rfl, ⟨c0, c1, c2, c3, c4, c5', c6⟩, hbu, hain⟩ := hat k hlt
    have HQ := Hid.mk' (HLN.out _ (List.getElem_mem hlt))
    have HAI := Hid.mk' hain
    generalize ls[k] = q at *
    obtain ⟨ua, uc, rfl, -⟩ := hbu.at
    obtain ⟨xa, xc, ya, yn, yc, e⟩ := (hf.f1.hb _ (List.mem_cons_self ..)).2.form
    simp only at e
    cases e
    obtain ⟨x2a, x2c, y2a, y2n, y2c, e⟩ := (hf.f1.hb _ (List.mem_cons_of_mem _ (List.mem_cons_self ..))).2.form
    simp only at e
    cases e
    obtain ⟨W3, hW3⟩ : ∃ W3, W3 = wr.alloc (.cells #[.int .i64 q.kd, .int .i64 q.id, .int .i64 q.ln, .int .u8 (q.fi.toNat : Int), .slice ua q.nt.length uc, .int .i64 q.ar, .int .i64 q.kp] 36) := ⟨_, rfl⟩
    have hb3 : Below wr.heap.size wr W3 := by rw [hW3]; exact up_alloc _ _
    have HX3 : Hid (W3.heap[wr.heap.size]? = some (.cells #[.int .i64 q.kd, .int .i64 q.id, .int .i64 q.ln, .int .u8 (q.fi.toNat : Int), .slice ua q.nt.length uc, .int .i64 q.ar, .int .i64 q.kp] 36 (0, 0))) := by rw [hW3]; exact heap_alloc_new _ _
    have hlts := hf.lt
    have HT3 : Hid (Tw w.heap.size b1 b2 (.slice (some ⟨bb, of, none⟩) ls.length c5) ls W3 p1 s1 d1 U1 N1 p2 s2 d2 U2 N2 (fun j => A j ∨ j = wr.heap.size) [⟨g1, .slice xa R.length xc, .slice ya yn yc, R, nw⟩, ⟨g2, .slice x2a R.length x2c, .slice y2a y2n y2c, R, nx⟩]) :=
      (hf.up hb3).addA (heap_lt HX3.out) (fun e => Nat.lt_irrefl _ (hlts.1 _ e)) (fun e => Nat.lt_irrefl _ (hlts.2 _ e)) fun q hq => by
        have h1 := heap_lt (hf.f1.hb q hq).1
        omega
    have HB3 := Hid.mk' (HB.out.trans (hb3.mono HB.out.size))
    have HBU : Hid (Bs (fun j => A j ∨ j = wr.heap.size) W3 (.slice ua q.nt.length uc) q.nt) := (hbu.up hb3).monoS fun _ hk => .inl hk
    obtain ⟨v0, v1, v2, v3, v4, v5', v6⟩ := bx7 HX3.out
    generalize hfn : (q.fi.toNat : Int) = fn at *
    have HFN := Hid.mk' hfn
    have HW3 := Hid.mk' hW3
    rw [hW3] at v0
    clear hat hbu hain hb3 hf v1 v2 v3 v4 v5' v6 hW3 hlts hfn
    go_upto_if 54 with fail
    clear c0 c1 c2 c3 c4 c5' c6 v0
    rw [← HW3.out]
    go_cut [19, 20] (fun o1 o2 wx => o1 = .bool true ∧ o2 = .bool true ∧ ∃ (C1 C2 : Cx) (R : Al By) (s1 : Ps) (d1 : Dm) (U1 N1 : Nat → Prop) (s2 : Ps) (d2 : Dm) (U2 N2 A : Nat → Prop) (x y : Value) (nw : By) (x2 y2 : Value) (nx : By), Hid (C1.cal = true ∧ C2.cal = true ∧ C1.hand = max 1 ha ∧ C2.hand = max 1 hb) ∧ Hid (Iv C1 (100 * (k : Int) + 1) (k + 1) R s1 d1) ∧ Hid (Iv C2 (100 * (k : Int) + 1) (k + 1) R s2 d2) ∧ Hid (R.length ≤ k + 1) ∧ Hid (Tw w.heap.size b1 b2 (.slice (some ⟨bb, of, none⟩) ls.length c5) ls wx p1 s1 d1 U1 N1 p2 s2 d2 U2 N2 A [⟨g1, x, y, R, nw⟩, ⟨g2, x2, y2, R, nx⟩]) ∧ Hid (Below w.heap.size w wx))
    case first =>
      by_cases h5 : q.kd = 5
      case pos =>
        have k5 : (q.kd == 5) = true := by simpa using h5
        clear h5
        have hd3 : Below W3.heap.size W3 W3.drew := drew_blx W3 _
        have HT4 := Hid.mk' (HT3.out.up hd3)
        have HBU4 := Hid.mk' (HBU.out.up hd3)
        have HS1 := letI : Xcl := ⟨XO [⟨g1, .slice xa R.length xc, .slice ya yn yc, R, nw⟩, ⟨g2, .slice x2a R.length x2c, .slice y2a y2n y2c, R, nx⟩] U2 N2 b2⟩; Hid.mk' (vsave HT4.out.j1 HI1.out HBU4.out HT4.out.f1.hA (by have := HQ.out.2; omega))
        have HLT := Hid.mk' HT3.out.lt
        obtain ⟨-, -, -, -, x4, -, -⟩ := bx7 HX3.out
        have hgn : ¬ ((U1 wr.heap.size ∨ N1 wr.heap.size ∨ wr.heap.size = b1) ∨ (U2 wr.heap.size ∨ N2 wr.heap.size ∨ wr.heap.size = b2)) := fun e => e.elim (fun e => (HT3.out.f1.dis e).1 (.inr rfl)) fun e => (HT3.out.f2.dis e).1 (.inr rfl)
        have t0 : ∀ qq : Kp (fun j => (U1 j ∨ N1 j ∨ j = b1) ∨ (U2 j ∨ N2 j ∨ j = b2)) W3, qq.nx.cell? ⟨wr.heap.size, 4, none⟩ = some _ := fun qq => qq.cell x4 hgn
        clear hd3 x4 hgn
        go_wp2_with fail
        refine wp_region_mix 11 (fun w' => ∃ qq : Kp (fun j => (U1 j ∨ N1 j ∨ j = b1) ∨ (U2 j ∨ N2 j ∨ j = b2)) W3, w' = qq.nx) (by kernel_rfl) (by kernel_rfl) (kp_first _ W3) ?_
        simp only [List.take_succ_cons, List.take_zero, List.drop_succ_cons, List.drop_zero]
        refine mx_take 3 rfl ?_
        simp only [List.take_succ_cons, List.take_zero, List.drop_succ_cons, List.drop_zero]
        repeat (go_big_quiet_step (fail))
        refine wpQuiet_nil ?_
        refine mx_call (vals := [.pointer (some ⟨p1, 0, none⟩), .slice ua q.nt.length uc]) Tryz.func14 (by kernel_rfl) rfl rfl (by kernel_rfl) (by kernel_rfl) HS1.out (fun e wa ha => ?_)
        rcases ha with ⟨_, S1, z1, e1, _, hkd, _⟩ | ⟨rfl, S1, z1, e1, hI1, -, hj1⟩
        · have := hkd.2.1; rw [HCC.out.1] at this; cases this
        have hwa := letI : Xcl := ⟨XO [⟨g1, .slice xa R.length xc, .slice ya yn yc, R, nw⟩, ⟨g2, .slice x2a R.length x2c, .slice y2a y2n y2c, R, nx⟩] U2 N2 b2⟩; hj1.1
        obtain ⟨T8, M8, ht8⟩ := HT4.out.pool hj1
        have HT8 := Hid.mk' ht8
        have HI1' := Hid.mk' hI1
        have HWA := Hid.mk' hwa
        have HBUA := Hid.mk' (HBU4.out.wb hwa fun k hk => (HT4.out.f1.dis hk).1)
        refine ⟨_, rfl, kp_mk hwa.size fun k hk hx => hwa.block k hk fun e => hx (.inl e), ?_⟩
        simp only [Act.put, List.setIfInBounds_toArray, List.set_cons_succ, List.set_cons_zero]
        clear hwa ht8 hI1 hj1 HS1
        have HS2 := letI : Xcl := ⟨XO [⟨g1, .slice xa R.length xc, .slice ya yn yc, R, nw⟩, ⟨g2, .slice x2a R.length x2c, .slice y2a y2n y2c, R, nx⟩] T8 M8 b1⟩; Hid.mk' (vsave HT8.out.j2 HI2.out HBUA.out HT8.out.f2.hA (by have := HQ.out.2; omega))
        refine mx_take 4 rfl ?_
        simp only [List.take_succ_cons, List.take_zero, List.drop_succ_cons, List.drop_zero]
        repeat (go_big_quiet_step (fail))
        refine wpQuiet_nil ?_
        refine mx_call (vals := [.pointer (some ⟨p2, 0, none⟩), .slice ua q.nt.length uc]) Tryz.func14 (by kernel_rfl) rfl rfl (by kernel_rfl) (by kernel_rfl) HS2.out (fun e wc hc => ?_)
        rcases hc with ⟨_, S2, z2, e2, _, hkd, _⟩ | ⟨rfl, S2, z2, e2, hI2, -, hj2⟩
        · have := hkd.2.1; rw [HCC.out.2.1] at this; cases this
        have hwc := letI : Xcl := ⟨XO [⟨g1, .slice xa R.length xc, .slice ya yn yc, R, nw⟩, ⟨g2, .slice x2a R.length x2c, .slice y2a y2n y2c, R, nx⟩] T8 M8 b1⟩; hj2.1
        obtain ⟨T9, M9, ht9⟩ := HT8.out.symm.pool hj2
        have HT9 := Hid.mk' ht9.symm
        have HI2' := Hid.mk' hI2
        have HBC : Hid (Below w.heap.size w wc) := by
          have h1 := HB3.out.trans ((drew_blx W3 _).mono HB3.out.size)
          have h2 := h1.trans (HWA.out.below h1.size fun k hk => HT3.out.f1.lo k hk)
          exact h2.trans (hwc.below h2.size fun k hk => HT3.out.f2.lo k hk)
        refine ⟨_, rfl, kp_mk (Nat.le_trans HWA.out.size hwc.size) fun k hk hx => (hwc.block k (Nat.lt_of_lt_of_le hk HWA.out.size) fun e => hx (.inr e)).trans (HWA.out.block k hk fun e => hx (.inl e)), ?_⟩
        simp only [Act.put, List.setIfInBounds_toArray, List.set_cons_succ, List.set_cons_zero]
        clear hwc ht9 hI2 hj2 HS2
        refine mx_take 2 rfl ?_
        simp only [List.take_succ_cons, List.take_zero, List.drop_succ_cons, List.drop_zero]
        repeat (go_big_quiet_step (fail))
        refine wpQuiet_nil ?_
        simp only [wpMix]
        clear t0
        go_wp2_with fail
        go_meet
        exact ⟨rfl, rfl, C1.save S1 R q.nt, C2.save S2 R q.nt, R, _, _, _, _, _, _, _, _, _, _, _, nw, _, _, nx, HCC, HI1'.out.more (by omega) (by omega) (by omega) (by omega), HI2'.out.more (by omega) (by omega) (by omega) (by omega), Nat.le_succ_of_le HRL.out, HT9, HBC⟩
      case neg =>
        have k5 : (q.kd == 5) = false := by simpa using h5
        obtain ⟨x0, x1, x2', x3, x4, x5, x6⟩ := bx7 HX3.out
        by_cases h4 : q.kd < 5
        case neg =>
          have h4' : ¬ q.kd < 5 := h4
          clear h4 h5
          go_wp2_with fail
          go_meet
          exact ⟨rfl, rfl, C1, C2, R, _, _, _, _, _, _, _, _, _, _, _, nw, _, _, nx, HCC, HI1.out.more (by omega) (by omega) (by omega) (by omega), HI2.out.more (by omega) (by omega) (by omega) (by omega), Nat.le_succ_of_le HRL.out, HT3, HB3⟩
        case pos =>
          clear h5
          obtain ⟨m0, m1⟩ := bx2 (HT3.out.f1.hb _ (List.mem_cons_self ..)).1
          simp only at m0 m1
          have HDO := letI : Xcl := ⟨XO [⟨g1, .slice xa R.length xc, .slice ya yn yc, R, nw⟩, ⟨g2, .slice x2a R.length x2c, .slice y2a y2n y2c, R, nx⟩] U2 N2 b2⟩; Hid.mk' (do_any HT3.out.j1 HI1.out (by omega) (by omega) (by have := HRL.out; omega) (HT3.out.f1.hb _ (List.mem_cons_self ..)).2 HT3.out.f1.hA HAI.out HQ.out.1 HBU.out)
          unfold actV at HDO
          simp only at HDO
          rw [HFN.out] at HDO
          go_wp2_with fail
          refine HDO.out.mono ?_
          rintro e w6 hdo
          obtain ⟨a1, n1, c1', a2, n2, c2', R', s1', d1', T1', M1', A', rfl, hnx, hw6, ht6, hr6, hI1', hbs, hAA⟩ := HT3.out.doP hdo HCC.out.1
          have hx6 := (ht6.f1.hb _ (List.mem_cons_self ..)).1
          simp only at hx6
          obtain ⟨z0, f0, f1, z1, hx7, -, -⟩ := res2 hx6 (.slice a1 n1 c1') (.slice a2 n2 c2')
          have hw7 := res2_wb w6 g1 (.slice a1 n1 c1') (.slice a2 n2 c2')
          obtain ⟨W7, hW7⟩ : ∃ W7, W7 = (w6.setCell ⟨g1, 0, none⟩ (.slice a1 n1 c1')).setCell ⟨g1, 1, none⟩ (.slice a2 n2 c2') := ⟨_, rfl⟩
          rw [← hW7] at hx7 hw7
          have HT7 : Hid (Tw w.heap.size b1 b2 (.slice (some ⟨bb, of, none⟩) ls.length c5) ls W7 p1 s1' d1' T1' M1' p2 s2 d2 U2 N2 A' [⟨g1, .slice a1 n1 c1', .slice a2 n2 c2', R', nw⟩, ⟨g2, .slice x2a R.length x2c, .slice y2a y2n y2c, R, nx⟩]) := ht6.put ⟨_, (List.mem_cons_self ..), rfl⟩ hw7 hx7 hr6 (fun q hq => by
        simp only [List.mem_cons, List.not_mem_nil, or_false] at hq
        have h2 := HG.out
        rcases hq with rfl | rfl
        · exact .inl rfl
        · exact .inr ⟨(List.mem_cons_of_mem _ (List.mem_cons_self ..)), by simp only; omega⟩) (fun q hq => by
        simp only [List.mem_cons, List.not_mem_nil, or_false] at hq
        rcases hq with rfl | rfl
        · exact ⟨_, (List.mem_cons_self ..), rfl⟩
        · exact ⟨_, (List.mem_cons_of_mem _ (List.mem_cons_self ..)), rfl⟩)
          have HX7 : Hid (W7.heap[wr.heap.size]? = some (.cells #[.int .i64 q.kd, .int .i64 q.id, .int .i64 q.ln, .int .u8 fn, .slice ua q.nt.length uc, .int .i64 q.ar, .int .i64 q.kp] 36 (0, 0))) := heap_wb (heap_wb HX3.out hw6 fun e => (HT3.out.f1.dis e).1 (.inr rfl)) hw7 (fun e => by
            have h1 := (ht6.f1.hg _ (List.mem_cons_self ..)).2.2.2.1
            simp only at h1
            exact h1 (by rw [← e]; exact hAA _ (.inr rfl)))
          have hb6 : Below w.heap.size w w6 := HB3.out.trans (hw6.below HB3.out.size fun k hk => HT3.out.f1.lo k hk)
          have HB7 : Hid (Below w.heap.size w W7) := hb6.trans (hw7.below hb6.size fun k hk => by subst hk; exact H93.out)
          have HAG : Hid (A' wr.heap.size) := hAA _ (.inr rfl)
          have HNX := Hid.mk' hnx
          have HI1' := Hid.mk' hI1'
          have HBU7 : Hid (Bs A' W7 (.slice ua q.nt.length uc) q.nt) := (hbs HBU.out).wb hw7 fun k hk hk2 => by
            have h1 := (ht6.f1.hg _ (List.mem_cons_self ..)).2.2.2.1
            subst hk
            exact h1 hk2
          obtain ⟨x0', x1', x2'', x3', x4', x5', x6'⟩ := bx7 HX7.out
          obtain ⟨m0', m1'⟩ := bx2 (HT7.out.f1.hb _ (List.mem_cons_of_mem _ (List.mem_cons_self ..))).1
          simp only at m0' m1'
          have HDO2 := letI : Xcl := ⟨XO [⟨g1, .slice a1 n1 c1', .slice a2 n2 c2', R', nw⟩, ⟨g2, .slice x2a R.length x2c, .slice y2a y2n y2c, R, nx⟩] T1' M1' b1⟩; Hid.mk' (do_any HT7.out.j2 HI2.out (by omega) (by omega) (by have := HRL.out; omega) (HT7.out.f2.hb _ (List.mem_cons_of_mem _ (List.mem_cons_self ..))).2 HT7.out.f2.hA HAI.out HQ.out.1 HBU7.out)
          unfold actV at HDO2
          simp only at HDO2
          rw [HFN.out] at HDO2
          have HW7 := Hid.mk' hW7
          rw [hW7] at x0' x1' x2'' x3' x4' x5' x6' m0' m1'
          clear hdo hnx hw6 ht6 hr6 hI1' hbs hAA hx6 hx7 hw7 hb6 x0 x1 x2' x3 x4 x5 x6 m0 m1 HDO hW7
          go_wp2_with fail
          rw [← HW7.out]
          clear z0 f0 f1 z1 x0' x1' x2'' x3' x4' x5' x6' m0' m1'
          refine HDO2.out.mono ?_
          rintro e w8 hdo
          obtain ⟨a3, n3, c3', a4, n4, c4', R'', s2', d2', T2', M2', A'', rfl, hnx2, hw8, ht8, hr8, hI2', -, -⟩ := HT7.out.symm.doP hdo HCC.out.2.1
          obtain rfl : R' = R'' := nxR.one HI1.out.sR HI1.out.nneg HNX.out hnx2
          have hx8 := (ht8.f1.hb _ (List.mem_cons_of_mem _ (List.mem_cons_self ..))).1
          simp only at hx8
          obtain ⟨z0, f0, f1, z1, hx9, -, -⟩ := res2 hx8 (.slice a3 n3 c3') (.slice a4 n4 c4')
          have hw9 := res2_wb w8 g2 (.slice a3 n3 c3') (.slice a4 n4 c4')
          obtain ⟨W9, hW9⟩ : ∃ W9, W9 = (w8.setCell ⟨g2, 0, none⟩ (.slice a3 n3 c3')).setCell ⟨g2, 1, none⟩ (.slice a4 n4 c4') := ⟨_, rfl⟩
          rw [← hW9] at hx9 hw9
          have HT9 : Hid (Tw w.heap.size b1 b2 (.slice (some ⟨bb, of, none⟩) ls.length c5) ls W9 p1 s1' d1' T1' M1' p2 s2' d2' T2' M2' A'' [⟨g1, .slice a1 n1 c1', .slice a2 n2 c2', R', nw⟩, ⟨g2, .slice a3 n3 c3', .slice a4 n4 c4', R', nx⟩]) := ht8.symm.put ⟨_, (List.mem_cons_of_mem _ (List.mem_cons_self ..)), rfl⟩ hw9 hx9 hr8 (fun q hq => by
        simp only [List.mem_cons, List.not_mem_nil, or_false] at hq
        have h2 := HG.out
        rcases hq with rfl | rfl
        · exact .inr ⟨(List.mem_cons_self ..), by simp only; omega⟩
        · exact .inl rfl) (fun q hq => by
        simp only [List.mem_cons, List.not_mem_nil, or_false] at hq
        rcases hq with rfl | rfl
        · exact ⟨_, (List.mem_cons_self ..), rfl⟩
        · exact ⟨_, (List.mem_cons_of_mem _ (List.mem_cons_self ..)), rfl⟩)
          have hb8 : Below w.heap.size w w8 := HB7.out.trans (hw8.below HB7.out.size fun k hk => HT7.out.f2.lo k hk)
          have HB9 : Hid (Below w.heap.size w W9) := hb8.trans (hw9.below hb8.size fun k hk => by subst hk; exact HG2.out)
          have HI2' := Hid.mk' hI2'
          have HRN : Hid (R'.length ≤ k + 1) := Nat.le_trans (HNX.out.len HI1.out.sR) (Nat.succ_le_succ HRL.out)
          have HW9 := Hid.mk' hW9
          clear hdo hnx2 hw8 ht8 hr8 hI2' hx8 hx9 hw9 hb8 HDO2 hW9
          go_wp2_with fail
          rw [← HW9.out]
          go_meet
          exact ⟨rfl, rfl, C1, C2, R', s1', d1', T1', M1', s2', d2', T2', M2', A'', _, _, nw, _, _, nx, HCC, HI1', HI2', HRN, HT9, HB9⟩
    case rest =>
    obtain ⟨rfl, rfl, C3, C4, R3, s3, d3, U3, N3, s4, d4, U4, N4, A3, x', y', nw', x2', y2', nx', HCC3, HI3, HI4, HRL3, HT4, HB4⟩ := hcut
    clear HT3 HB3 HX3 HBU HI1 HI2 HRL HT HB HCC HW3
    rename World => w4
    obtain ⟨xa, xc, ya, yn, yc, e⟩ := (HT4.out.f1.hb _ (List.mem_cons_self ..)).2.form
    simp only at e
    cases e
    obtain ⟨x2a, x2c, y2a, y2n, y2c, e⟩ := (HT4.out.f1.hb _ (List.mem_cons_of_mem _ (List.mem_cons_self ..))).2.form
    simp only at e
    cases e
    have HSA := letI : Xcl := ⟨XO [⟨g1, .slice xa R3.length xc, .slice ya yn yc, R3, nw'⟩, ⟨g2, .slice x2a R3.length x2c, .slice y2a y2n y2c, R3, nx'⟩] U4 N4 b2⟩; Hid.mk' (same_any HT4.out.j1 HI3.out HCC3.out.1 (by have := HRL3.out; omega) (HT4.out.f1.hb _ (List.mem_cons_of_mem _ (List.mem_cons_self ..))).2 HT4.out.f1.hA HI3.out.wid)
    obtain ⟨m0, m1⟩ := bx2 (HT4.out.f1.hb _ (List.mem_cons_of_mem _ (List.mem_cons_self ..))).1
    simp only at m0 m1
    go_wp2_with fail
    refine HSA.out.mono ?_
    rintro e w5' ⟨s5, d5, -, hT, -, hI5, -, -, -, -, hj5⟩
    obtain rfl := hT rfl
    obtain ⟨T5, M5, ht5⟩ := HT4.out.pool hj5
    have HT5 := Hid.mk' ht5
    have HI5 := Hid.mk' hI5
    have HB5 : Hid (Below w.heap.size w w5') := HB4.out.trans ((letI : Xcl := ⟨XO [⟨g1, .slice xa R3.length xc, .slice ya yn yc, R3, nw'⟩, ⟨g2, .slice x2a R3.length x2c, .slice y2a y2n y2c, R3, nx'⟩] U4 N4 b2⟩; hj5.1).below HB4.out.size fun k hk => HT4.out.f1.lo k hk)
    have HSB := letI : Xcl := ⟨XO [⟨g1, .slice xa R3.length xc, .slice ya yn yc, R3, nw'⟩, ⟨g2, .slice x2a R3.length x2c, .slice y2a y2n y2c, R3, nx'⟩] T5 M5 b1⟩; Hid.mk' (same_any HT5.out.j2 HI4.out HCC3.out.2.1 (by have := HRL3.out; omega) (HT5.out.f2.hb _ (List.mem_cons_self ..)).2 HT5.out.f2.hA HI4.out.wid)
    obtain ⟨m0, m1⟩ := bx2 (HT5.out.f1.hb _ (List.mem_cons_self ..)).1
    simp only at m0 m1
    clear hT hI5 hj5 ht5 HSA
    go_wp2_with fail
    refine HSB.out.mono ?_
    rintro e w6 ⟨s6, d6, -, hT, -, hI6, -, -, -, -, hj6⟩
    obtain rfl := hT rfl
    obtain ⟨T6, M6, ht6⟩ := HT5.out.symm.pool hj6
    have HT6 := Hid.mk' ht6.symm
    have HI6 := Hid.mk' hI6
    have HB6 : Hid (Below w.heap.size w w6) := HB5.out.trans ((letI : Xcl := ⟨XO [⟨g1, .slice xa R3.length xc, .slice ya yn yc, R3, nw'⟩, ⟨g2, .slice x2a R3.length x2c, .slice y2a y2n y2c, R3, nx'⟩] T5 M5 b1⟩; hj6.1).below HB5.out.size fun k hk => HT5.out.f2.lo k hk)
    have HH1 := letI : Xcl := ⟨XO [⟨g1, .slice xa R3.length xc, .slice ya yn yc, R3, nw'⟩, ⟨g2, .slice x2a R3.length x2c, .slice y2a y2n y2c, R3, nx'⟩] T6 M6 b2⟩; Hid.mk' (vhand HT6.out.j1 HI5.out)
    have HH2 := letI : Xcl := ⟨XO [⟨g1, .slice xa R3.length xc, .slice ya yn yc, R3, nw'⟩, ⟨g2, .slice x2a R3.length x2c, .slice y2a y2n y2c, R3, nx'⟩] T5 M5 b1⟩; Hid.mk' (vhand HT6.out.j2 HI6.out)
    clear hT hI6 hj6 ht6 HSB m0 m1
    go_wp2_with fail
    refine HH1.out.mono ?_
    rintro e wx ⟨n, rfl, hn, hwx⟩
    obtain rfl : w6 = wx := hwx.symm
    have hn1 : ¬ max ha 1 < (n : Int) := by rw [HCC3.out.2.2.1] at hn; omega
    clear hn hwx
    go_wp2_with fail
    refine HH2.out.mono ?_
    rintro e wx ⟨n', rfl, hn, hwx⟩
    obtain rfl : w6 = wx := hwx.symm
    have hn2 : ¬ max hb 1 < (n' : Int) := by rw [HCC3.out.2.2.2] at hn; omega
    clear hn hwx
    have hE1 : 100 * (k : Int) + 1 + (R3.length : Int) ≤ 100 * ((k + 1 : Nat) : Int) := by have := HRL3.out; omega
    have HI5b := Hid.mk' (HI5.out.more hE1 (Nat.le_refl _) (by omega) (by omega))
    have HI6b := Hid.mk' (HI6.out.more hE1 (Nat.le_refl _) (by omega) (by omega))
    clear hE1
    go_wp2_with fail
    go_roundw
    case rel => exact ⟨k + 1, C3, C4, R3, s5, d5, T5, M5, s6, d6, T6, M6, A3, _, _, nw', _, _, nx', by omega, by go_num, HCC3, HI5b, HI6b, HRL3, HT6, HB6⟩
    case measure => simp [intOf]; omega
end Go.Proofs.YtbmhkdcmepfmbaaGreat
