/- groynelaw07.PagesCalls: the walk. A pool beside boxes of the reference's pools, whatever is done to it. Two pools, each with its own drive, beside the boxes of two pools of the reference. A pool beside slices of the law's own. groynelaw07.PagesKeep: the walk. -/
import Derived.Test.YtbmhkdcmepfmbaaGreatB21
set_option linter.unusedVariables false
set_option linter.unusedSimpArgs false
namespace Go.Proofs.YtbmhkdcmepfmbaaGreat
open Go.RowKit
attribute [local go_sem ↓] Go.wp_at_zero Go.wp_at_succ
@[reducible] def XG (a b : Nat) : Xcl := ⟨fun k => k = a ∨ k = b⟩
@[reducible] def X0 : Xcl := ⟨fun _ => False⟩
/-- how things stand when the loop begins -/
theorem lz_start {w w3 w4 w5 : World} {b p : Nat} {hnd : Int} {T M : Nat → Prop} {s : Ps} {d : Dm} {C : Cx} {va : Value} {l : List Ac} {A0 : Nat → Prop} (hJ : @Jn X0 T M w3 p b s d) (hI : Iv C 0 0 [] s d) (hb4 : w4 = (w3.alloc (.cells #[.slice none 0 0, .slice none 0 0] 50)).alloc (.cells #[.slice none 0 0, .slice none 0 0] 50)) (hb5 : Below w4.heap.size w4 w5)
    (ha : As A0 w5 va l) (hA0 : ∀ k, A0 k → k < w5.heap.size ∧ (k < w.heap.size ∨ w4.heap.size ≤ k)) (hT : ∀ k, T k ∨ M k ∨ k = b → w.heap.size ≤ k ∧ k < w3.heap.size) (hh : C.hand = hnd) (hC : C.RL = [] ∧ C.nt = []) (hw3 : w.heap.size ≤ w3.heap.size) :
    @Lz (XG w3.heap.size (w3.heap.size + 1)) w.heap.size hnd b w3.heap.size (w3.heap.size + 1) 0 0 va l w5 p C [] s d T M A0 (.slice none 0 0) (.slice none 0 0) (.slice none 0 0) (.slice none 0 0) [] := by
  obtain ⟨W1, h1⟩ : ∃ W1, W1 = w3.alloc (.cells #[.slice none 0 0, .slice none 0 0] 50) := ⟨_, rfl⟩
  rw [← h1] at hb4
  have z1 : W1.heap.size = w3.heap.size + 1 := by rw [h1]; simp
  have z2 : w4.heap.size = w3.heap.size + 2 := by rw [hb4]; simp [z1]
  have b1 : Below w3.heap.size w3 W1 := by rw [h1]; exact up_alloc _ _
  have b2 : Below W1.heap.size W1 w4 := by rw [hb4]; exact up_alloc _ _
  have x1 : W1.heap[w3.heap.size]? = some (.cells #[.slice none 0 0, .slice none 0 0] 50 (0, 0)) := by rw [h1]; exact heap_alloc_new _ _
  have x2 : w4.heap[W1.heap.size]? = some (.cells #[.slice none 0 0, .slice none 0 0] 50 (0, 0)) := by rw [hb4]; exact heap_alloc_new _ _
  rw [z1] at x2
  have hb : Below w3.heap.size w3 w5 := bt b1 (bt b2 hb5)
  have hs := hb5.size
  exact @Lz.mk (XG w3.heap.size (w3.heap.size + 1)) _ _ _ _ _ _ _ _ _ _ _ _ _ _ _ _ _ _ _ _ _ _ _ hh (by rw [hC.1]; exact Nat.le_refl _) (Nat.le_refl _)
    (Jn.re hJ hb (fun k hk => .inr (by rcases hk with rfl | rfl <;> omega)) fun k hk => by rcases hk with rfl | rfl <;> omega) hI
    (heap_up (heap_up x1 b2) hb5) ⟨_, _, rfl, Ts.nil, bs_nil⟩ (heap_up x2 hb5) (by rw [hC.1, hC.2]; exact ⟨_, _, rfl, Ts.nil, bs_nil⟩) ha
    (fun k hk => ⟨(hA0 k hk).1, fun h => by have := hT k (.inl h); have := (hA0 k hk).2; omega, fun h => by have := hT k (.inr (.inl h)); have := (hA0 k hk).2; omega, fun h => by have := hT k (.inr (.inr h)); have := (hA0 k hk).2; omega⟩)
    (fun k hk => ⟨fun h => by have := hT k (.inl h); omega, fun h => by have := hT k (.inr (.inl h)); omega, fun h => by have := hT k (.inr (.inr h)); omega, fun h => by have := (hA0 k h).2; omega⟩)
    (by omega) ⟨fun k hk => (hT k hk).1, hw3, by omega⟩ (fun k => Iff.rfl)
theorem Lz.more [Xcl] {B0 : Nat} {hnd : Int} {b g9 g10 n : Nat} {E E' : Int} {va : Value} {l : List Ac} {w : World} {p : Nat} {C : Cx} {R : Al By} {s : Ps} {d : Dm} {T M A : Nat → Prop} {x y x2 y2 : Value} {nw : By}
    (h : Lz B0 hnd b g9 g10 n E va l w p C R s d T M A x y x2 y2 nw) (hE : E ≤ E') (hE' : E' ≤ 100000) : Lz B0 hnd b g9 g10 n E' va l w p C R s d T M A x y x2 y2 nw := { h with I := h.I.more hE (Nat.le_refl _) hE' h.I.hQ }
theorem Iv.wid {C : Cx} {E : Int} {Q : Nat} {R : Al By} {s : Ps} {d : Dm} (h : Iv C E Q R s d) : ∀ x ∈ R, Wi x.1 := fun x hx => by
  have h1 : x.1 ∈ R.map (·.1) := List.mem_map.2 ⟨x, hx, rfl⟩
  rw [h.keys] at h1
  obtain ⟨y, hy, e⟩ := List.mem_map.1 h1
  have := h.sb y hy
  exact Wi.of (by omega) (by omega)
theorem bx3c {w : World} {b : Nat} {c0 c1 c2 : Value} {e : TypeId} (h : w.heap[b]? = some (.cells #[c0, c1, c2] e (0, 0))) : w.cell? ⟨b, 0, none⟩ = some c0 ∧ w.cell? ⟨b, 1, none⟩ = some c1 ∧ w.cell? ⟨b, 2, none⟩ = some c2 := by
  refine ⟨?_, ?_, ?_⟩ <;> simp [World.cell?, h]
set_option maxRecDepth 100000 in
set_option maxHeartbeats 8000000 in
theorem calls_walk {w : World} {v : Value} {hand : Int} {l : List Ac} (hh : -9223372036854775808 ≤ hand ∧ hand ≤ 9223372036854775807) (h : As (Lt w.heap.size) w v l) : Calls Tryz.prog 5 #[.int .i64 hand, v] w fun e w' => e = .returned (.bool true) ∧ Below w.heap.size w w' := by
  obtain ⟨va0, vc0, rfl, -⟩ := h.at
  have HAS := Hid.mk' h
  have HAW := Hid.mk' (awake_any w)
  have HH := Hid.mk' hh
  clear h hh
  go_enter Tryz.func5, Tryz.ntmps5
  go_wp2_with fail
  refine HAW.out.mono ?_
  rintro e w1 ⟨rfl, hb1⟩
  have HB1 := Hid.mk' hb1
  have HNW := Hid.mk' (new_any w1 1073741824)
  clear hb1 HAW
  go_wp2_with fail
  refine HNW.out.mono ?_
  rintro e w2 ⟨rfl, hb2, hd2⟩
  have HB2 := Hid.mk' (HB1.out.trans (hb2.mono HB1.out.size))
  have HBL : Hid (w.heap.size ≤ w1.heap.size ∧ w1.heap.size < w2.heap.size) := ⟨HB1.out.size, hd2.blt⟩
  have hd2 : DrIs (fun _ => False) (fun _ => False) w2 w1.heap.size (dm0 1073741824) := hd2
  have HOP := letI : Xcl := X0; Hid.mk' (vopen hd2 ⟨fun _ h => False.elim h, fun _ h => False.elim h, fun _ h => False.elim h⟩ (cx0_dv true 1073741824 (max 1 hand) (by decide) (by omega)) hand rfl)
  generalize w1.heap.size = b at *
  clear hd2 hb2 HNW
  go_wp2_with fail
  refine HOP.out.mono ?_
  rintro e w3 ⟨p, c, v3, T, ms, mf, ma, ff, nf, g, rfl, hJ, hI, hb3, hT, hc, ho3⟩
  obtain ⟨va, vc, rfl⟩ := own_sliceN ho3
  have HJ3 : Hid (@Jn X0 T (fun _ => False) w3 p b (s0k (max 1 hand) []) (dm0 1073741824)) := letI : Xcl := X0; hJ.jn
  have HI3 : Hid (Iv (cx0 true 1073741824 (max 1 hand)) 0 0 [] (s0k (max 1 hand) []) (dm0 1073741824)) := hI
  have HB3 := Hid.mk' (HB2.out.trans (hb3.mono HB2.out.size))
  have HT3 : Hid (∀ k, T k ∨ False ∨ k = b → w.heap.size ≤ k ∧ k < w3.heap.size) := fun k hk => by
    have h1 := HBL.out
    have h2 := HB2.out.size
    have h3 := hb3.size
    rcases hk with hk | hk | hk
    · have := hT k hk
      have := (@Jn.lt X0 _ _ _ _ _ _ _ HJ3.out).2.2.1 k hk
      omega
    · exact hk.elim
    · omega
  obtain ⟨W4, hW4⟩ : ∃ W4, W4 = (w3.alloc (.cells #[.slice none 0 0, .slice none 0 0] 50)).alloc (.cells #[.slice none 0 0, .slice none 0 0] 50) := ⟨_, rfl⟩
  have hb4 : Below w3.heap.size w3 W4 := by rw [hW4]; exact bt (up_alloc _ _) (up_alloc _ _)
  have HB4 := Hid.mk' (HB3.out.trans (hb4.mono HB3.out.size))
  have HSM := Hid.mk' (small_any (HAS.out.up HB4.out) 40 (by decide))
  have HW4 := Hid.mk' hW4
  clear hJ hI hb3 hT hc ho3 HOP hb4 hW4
  go_wp2_with fail
  rw [← HW4.out]
  refine HSM.out.mono ?_
  rintro e w5 ⟨v5, L, rfl, hL, hF, hb5⟩
  have has := (hF.as hb5 (by have h := congrArg List.length hL; rw [List.length_map] at h; have := small_len l 40; omega)).andLt
  rw [hL] at has
  obtain ⟨a5, c5, rfl, hc5, ha5, hz5, -⟩ := has.at
  have HLZ := Hid.mk' (lz_start (w := w) (A0 := fun k => ((Lt w.heap.size k ∧ k < W4.heap.size) ∨ W4.heap.size ≤ k) ∧ k < w5.heap.size) HJ3.out HI3.out HW4.out hb5 has (fun k hk => ⟨hk.2, hk.1.imp (fun h => h.1) fun h => h⟩) HT3.out (hnd := max 1 hand) rfl ⟨rfl, rfl⟩ HB3.out.size)
  have HB5 := Hid.mk' (HB4.out.trans (hb5.mono HB4.out.size))
  have HLN := Hid.mk' (small_ln (l := l) (n := 40))
  have hls := small_len l 40
  have H93 : Hid (w.heap.size ≤ w3.heap.size) := HB3.out.size
  have HHM : Hid (max hand 1 = max 1 hand) := by show _ = _; omega
  generalize hls' : smallL l 40 = ls at *
  have hlsi : (ls.length : Int) ≤ 40 := by omega
  clear hls' hL hF hb5 has HSM HJ3 HI3 HT3 HW4 HB4 HB3 HB2 HB1 HAS hls hz5
  go_wp2_with fail
  generalize hmo : max hand 1 = mo at *
  have HMO : Hid (max 1 hand = mo) := by show _ = _; omega
  clear hmo HHM
  obtain ⟨g9, hg9⟩ : ∃ g, g = w3.heap.size := ⟨_, rfl⟩
  rw [← hg9] at HLZ H93
  rw [← hg9]
  obtain ⟨g10, hg10⟩ : ∃ g, g = g9 + 1 := ⟨_, rfl⟩
  rw [← hg10] at HLZ
  rw [← hg10]
  have HG10 : Hid (w.heap.size ≤ g10) := by show _ ≤ _; have := H93.out; omega
  clear hg9 hg10
  letI : Xcl := XG g9 g10
  rw [HMO.out] at HLZ
  have HCAL : Hid ((cx0 true 1073741824 mo).cal = true) := rfl
  go_loopw [44, 6] (fun i pv wr => ∃ (k p : Nat) (C : Cx) (R : Al By) (s : Ps) (d : Dm) (T M A : Nat → Prop) (x y x2 y2 : Value) (nw : By), k ≤ ls.length ∧ i = .int .i64 k ∧ pv = .pointer (some ⟨p, 0, none⟩) ∧ Hid (C.cal = true) ∧ Hid (@Lz (XG g9 g10) w.heap.size mo b g9 g10 k (100 * k) (.slice a5 ls.length c5) ls wr p C R s d T M A x y x2 y2 nw) ∧ Hid (Below w.heap.size w wr)) (fun i _ _ => ls.length - (intOf i).toNat)
  case atStart => exact ⟨0, p, _, _, _, _, _, _, _, _, _, _, _, _, by omega, rfl, rfl, HCAL, HLZ, HB5⟩
  case round =>
    clear HLZ HB5 HCAL
    obtain ⟨k, p, C, R, s, d, T, M, A, x, y, x2, y2, nw, hk, rfl, rfl, HCL, HZ, HB⟩ := hrel
    by_cases hlt : k < ls.length
    case neg =>
      have hz := HZ.out
      have hk40 : k ≤ 40 := by omega
      obtain ⟨W2, hW2⟩ : ∃ W2, W2 = wr.alloc (.cells (zeros 9000) 5) := ⟨_, rfl⟩
      have hmk : (Instr.makeSlice 22 (.int .i64 9000) (.int .i64 9000)).run Tryz.prog wr = .ok (.slice (some ⟨wr.heap.size, 0, none⟩) 9000 9000) W2 := by rw [hW2]; exact run_mk 22 Tryz.underlying22 Tryz.info5 9000 (by unfold lim; omega) wr
      have hb2 : Below wr.heap.size wr W2 := by rw [hW2]; exact up_alloc _ _
      have hob : Ob 5 wr.heap.size W2 (.slice (some ⟨wr.heap.size, 0, none⟩) 9000 9000) (List.replicate 9000 0) := by rw [hW2]; exact ob_zeros 9000 (by unfold lim; omega) wr 5
      have hnl : (List.replicate 9000 (0 : UInt8)).length = 9000 := List.length_replicate ..
      obtain ⟨nt, hnt⟩ : ∃ nt, nt = List.replicate 9000 (0 : UInt8) := ⟨_, rfl⟩
      rw [← hnt] at hob hnl
      have hz2 := hz.up hb2
      have hbc : Bs (fun k => wr.heap.size ≤ k ∧ k < W2.heap.size) W2 (.slice (some ⟨wr.heap.size, 0, none⟩) 9000 9000) nt := by
        have h : Row 1 (fun k => wr.heap.size ≤ k ∧ k < W2.heap.size) W2 (.slice (some ⟨wr.heap.size, 0, none⟩) 9000 9000) nt.length (bv nt) := Row.andLt (Row.of_ownB hob)
        exact ⟨h, by unfold lim; omega⟩
      have HSV := Hid.mk' (vsave hz2.J hz2.I hbc (fun k hk => ⟨hk.2, fun h => by have := hz.J.lt.2.2.1 k h; omega, fun h => by have := hz.J.lt.2.2.2 k h; omega, fun h => by have := hz.J.lt.2.1; omega⟩) (by omega))
      have HNL := Hid.mk' hnl
      have HB2 := Hid.mk' (HB.out.trans (hb2.mono HB.out.size))
      have HLO := Hid.mk' hz.lo
      clear hz hW2 hb2 hob hnt hz2 hbc hnl
      go_wp2_with fail
      refine HSV.out.mono ?_
      rintro e w6 (⟨_, S, s1, d1, _, hkd, _⟩ | ⟨rfl, S, s1, d1, hI, _, hj⟩)
      · have := hkd.2.1; rw [HCL.out] at this; cases this
      obtain ⟨hw6, T7, M7, hT7, hM7, hJ7⟩ := hj
      obtain ⟨D, Dd, ms', mf', ma', ff', nf', g', hJ⟩ := hJ7.jx
      have HOP := Hid.mk' (vopen hJ.Dr ⟨hJ.xo.1, fun _ h => False.elim h, hJ.xo.2.2⟩ (hI.dv.to true 2 (by decide) (fun _ => hI.arm HCL.out)) 2 rfl)
      have HB6 := Hid.mk' (HB2.out.trans (hw6.below HB2.out.size fun k hk => HLO.out.1 k hk))
      clear hw6 hT7 hM7 hJ7 hJ hI hmk
      go_wp2_with fail
      refine HOP.out.mono ?_
      rintro e w7 ⟨p7, c7, v7, T8, ms8, mf8, ma8, ff8, nf8, g8, rfl, -, -, hb7, -, -, hob⟩
      obtain ⟨oa, oc, e0⟩ := own_sliceN hob
      have e : v7 = .slice oa 9000 oc := by rw [e0]; show Value.slice oa nt.length oc = _; rw [HNL.out]
      clear e0
      subst e
      have HB7 := Hid.mk' (HB6.out.trans (hb7.mono HB6.out.size))
      clear hob hb7
      go_wp2_with fail
      go_ret
      exact ⟨rfl, HB7.out⟩
    have hlt' : (k : Int) < (ls.length : Int) := by omega
    have hk40 : k < 40 := by omega
    have hz := HZ.out
    obtain ⟨a6', c6', e, -, -, -, hat⟩ := hz.ac.at
    simp only [Value.slice.injEq] at e
    obtain ⟨e1, -, e2⟩ := e
    subst e1
    subst e2
    obtain ⟨bb, of, u, rfl, ⟨c0, c1, c2, c3, c4, c5', c6⟩, hbu, hain⟩ := hat k hlt
    have HQ := Hid.mk' (HLN.out _ (List.getElem_mem hlt))
    have HAI := Hid.mk' hain
    generalize ls[k] = q at *
    obtain ⟨ua, uc, rfl, -⟩ := hbu.at
    obtain ⟨xa, xc, ya, yn, yc, e⟩ := hz.r9.form
    cases e
    obtain ⟨x2a, x2c, y2a, y2n, y2c, e⟩ := hz.r10.form
    cases e
    obtain ⟨W3, hW3⟩ : ∃ W3, W3 = wr.alloc (.cells #[.int .i64 q.kd, .int .i64 q.id, .int .i64 q.ln, .int .u8 (q.fi.toNat : Int), .slice ua q.nt.length uc, .int .i64 q.ar, .int .i64 q.kp] 36) := ⟨_, rfl⟩
    have hb3 : Below wr.heap.size wr W3 := by rw [hW3]; exact up_alloc _ _
    have HX3 : Hid (W3.heap[wr.heap.size]? = some (.cells #[.int .i64 q.kd, .int .i64 q.id, .int .i64 q.ln, .int .u8 (q.fi.toNat : Int), .slice ua q.nt.length uc, .int .i64 q.ar, .int .i64 q.kp] 36 (0, 0))) := by rw [hW3]; exact heap_alloc_new _ _
    have HZ3 := Hid.mk' (hz.up hb3)
    have HB3 := Hid.mk' (HB.out.trans (hb3.mono HB.out.size))
    have HBU := Hid.mk' (hbu.up hb3)
    have HTG : Hid (∀ k, (T k ∨ M k ∨ k = b) → k < wr.heap.size) := fun k hk => by
      rcases hk with hk | hk | hk
      · exact hz.J.lt.2.2.1 k hk
      · exact hz.J.lt.2.2.2 k hk
      · have := hz.J.lt.2.1; omega
    have HL9 := Hid.mk' hz.lt9
    have HDO := Hid.mk' (do_any HZ3.out.J HZ3.out.I (by omega) (by omega) (by have := hz.rl; omega) HZ3.out.r9 HZ3.out.hA HAI.out HQ.out.1 HBU.out)
    have m9 := bx2 HZ3.out.h9
    obtain ⟨m90, m91⟩ := m9
    unfold actV at HDO
    generalize hfn : (q.fi.toNat : Int) = fn at *
    have HW3 := Hid.mk' hW3
    rw [hW3] at m90 m91
    clear hat hbu hain hb3 hz hW3
    generalize R.length = rn at *
    go_wp2_with fail
    rw [← HW3.out]
    refine HDO.out.mono ?_
    rintro e w1 hdo
    obtain ⟨a1, n1, c1', a2, n2, c2', R', s', d', T', M', A', rfl, hn1, hnx, h9, hw1, hz4, hnu, hnt⟩ := HZ3.out.step hdo HCL.out
    have hx3 := heap_wb HX3.out hw1 (fun e => Nat.lt_irrefl _ (HTG.out _ e))
    obtain ⟨W4, hW4⟩ : ∃ W4, W4 = (w1.setCell ⟨g9, 0, none⟩ (.slice a1 n1 c1')).setCell ⟨g9, 1, none⟩ (.slice a2 n2 c2') := ⟨_, rfl⟩
    rw [← hW4] at hz4
    have hwz := res2_wb w1 g9 (.slice a1 n1 c1') (.slice a2 n2 c2')
    rw [← hW4] at hwz
    have HX4 : Hid (W4.heap[wr.heap.size]? = some (.cells #[.int .i64 q.kd, .int .i64 q.id, .int .i64 q.ln, .int .u8 fn, .slice ua q.nt.length uc, .int .i64 q.ar, .int .i64 q.kp] 36 (0, 0))) := heap_wb hx3 hwz (fun e => by have := HL9.out.1; omega)
    have HB4 : Hid (Below w.heap.size w W4) := HB3.out.trans ((hw1.below HB3.out.size fun k hk => HZ3.out.lo.1 k hk).trans (hwz.below (Nat.le_trans HB3.out.size hw1.size) fun k hk => by subst hk; exact H93.out))
    obtain ⟨z0, f0, f1, z1, -, -, -⟩ := res2 h9 (.slice a1 n1 c1') (.slice a2 n2 c2')
    have HZ4 := Hid.mk' hz4
    have HN1 := Hid.mk' hn1
    have hbu4 := hnu HBU.out
    rw [← hW4] at hbu4
    have HBU4 := Hid.mk' hbu4
    have HGB : Hid (¬ (T' wr.heap.size ∨ M' wr.heap.size ∨ wr.heap.size = b)) := fun e => (hnt _ e).elim (fun e => Nat.lt_irrefl _ (HTG.out _ e)) fun e => by have := heap_lt HX3.out; omega
    obtain ⟨x0, x1, x2', x3, x4, x5, x6⟩ := bx7 HX4.out
    have HW4 := Hid.mk' hW4
    rw [hW4] at x0
    clear hdo h9 hw1 hx3 hwz hz4 hn1 hnu hnt hbu4 hW4 m90 m91 c0 c1 c2 c3 c4 c5' c6
    go_upto_if 59 with fail
    rw [← HW4.out]
    clear z0 f0 f1 z1 x0
    have HE1 : Hid (100 * (k : Int) + 1 ≤ 100 * k + 1) := Int.le_refl _
    go_cut [6] (fun pv wx => pv = .pointer (some ⟨p, 0, none⟩) ∧ ∃ (C : Cx) (R : Al By) (s : Ps) (d : Dm) (T M A : Nat → Prop) (x y x2 y2 : Value) (nw : By), Hid (C.cal = true) ∧ Hid (@Lz (XG g9 g10) w.heap.size mo b g9 g10 (k + 1) (100 * (k : Int) + 1) (.slice (some ⟨bb, of, none⟩) ls.length c5) ls wx p C R s d T M A x y x2 y2 nw) ∧ Hid (Below w.heap.size w wx) ∧ Hid (wx.heap[wr.heap.size]? = some (.cells #[.int .i64 q.kd, .int .i64 q.id, .int .i64 q.ln, .int .u8 fn, .slice ua q.nt.length uc, .int .i64 q.ar, .int .i64 q.kp] 36 (0, 0))))
    case first =>
      by_cases h5 : q.kd = 5
      case neg =>
        have k5 : (q.kd == 5) = false := by simpa using h5
        go_wp2_with fail
        go_meet
        exact ⟨rfl, C, R', s', d', T', M', A', _, _, _, _, nw, HCL, HZ4, HB4, HX4⟩
      case pos =>
        have k5 : (q.kd == 5) = true := by simpa using h5
        have HCP := Hid.mk' (copy_any _ q.nt W4 HBU4.out)
        clear h5
        go_wp2_with fail
        refine HCP.out.mono ?_
        rintro e w5' ⟨v5, rfl, hb5, ho5⟩
        obtain ⟨ca, cc, rfl⟩ := own_sliceN ho5
        have HZ5 := Hid.mk' (HZ4.out.up hb5)
        have hql := HQ.out.2
        have hlm : q.nt.length ≤ lim := by unfold lim; omega
        have hbc : Bs (fun k => W4.heap.size ≤ k ∧ k < w5'.heap.size) w5' (.slice ca q.nt.length cc) q.nt := ⟨Row.andLt (Row.of_ownB ho5), hlm⟩
        have HSV := Hid.mk' (vsave HZ5.out.J HZ5.out.I hbc (fun k hk => ⟨hk.2, fun h => by have := HZ4.out.J.lt.2.2.1 k h; omega, fun h => by have := HZ4.out.J.lt.2.2.2 k h; omega, fun h => by have := HZ4.out.J.lt.2.1; omega⟩) (by omega))
        have HB5' := Hid.mk' hb5
        clear hb5 ho5 hbc hql hlm HCP
        go_wp2_with fail
        refine HSV.out.mono ?_
        rintro e w6 (⟨_, S, s1, d1, _, hkd, _⟩ | ⟨rfl, S, s1, d1, hI, _, hj⟩)
        · have := hkd.2.1; rw [HCL.out] at this; cases this
        have hwj := hj.1
        have hu6 : Bs A' w6 (.slice ua q.nt.length uc) q.nt := (HBU4.out.up HB5'.out).wb hwj fun k hk => (HZ5.out.dis hk).1
        obtain ⟨T7, M7, hz7⟩ := HZ5.out.saved hj hI hu6
        have h96 := heap_wb HZ5.out.h9 hwj (fun e => (HZ5.out.dis e).2.1 rfl)
        have h106 := heap_wb HZ5.out.h10 hwj (fun e => (HZ5.out.dis e).2.2 rfl)
        have hx6 := heap_wb (heap_up HX4.out HB5'.out) hwj HGB.out
        obtain ⟨y0, y1⟩ := bx2 h96
        obtain ⟨z0, f0, f1, z1, hxx, -, -⟩ := res2 h106 (.slice a1 n1 c1') (.slice a2 n2 c2')
        have hwz := res2_wb w6 g10 (.slice a1 n1 c1') (.slice a2 n2 c2')
        have hg10b : wr.heap.size ≠ g10 := fun e => by have := HL9.out.2; omega
        obtain ⟨-, -, -, -, r4, -, -⟩ := bx7 (heap_wb hx6 hwz hg10b)
        obtain ⟨z2, z3⟩ := bx2 hxx
        have f2 : ((w6.setCell ⟨g10, 0, none⟩ (.slice a1 n1 c1')).setCell ⟨g10, 1, none⟩ (.slice a2 n2 c2')).frozen? ⟨g10, 1, none⟩ = false := by simp [World.frozen?, hxx]
        have HZ7 := Hid.mk' hz7
        have hwz2 : Wb (fun k => k = g10) w6 (((w6.setCell ⟨g10, 0, none⟩ (.slice a1 n1 c1')).setCell ⟨g10, 1, none⟩ (.slice a2 n2 c2')).setCell ⟨g10, 1, none⟩ (.slice ua q.nt.length uc)) := hwz.trans (Wb.set _ g10 1 _ rfl)
        have HX7 := Hid.mk' (heap_wb hx6 hwz2 hg10b)
        have HB7 : Hid (Below w.heap.size w (((w6.setCell ⟨g10, 0, none⟩ (.slice a1 n1 c1')).setCell ⟨g10, 1, none⟩ (.slice a2 n2 c2')).setCell ⟨g10, 1, none⟩ (.slice ua q.nt.length uc))) :=
          ((HB4.out.trans (HB5'.out.mono HB4.out.size)).trans (hwj.below (Nat.le_trans HB4.out.size HB5'.out.size) fun k hk => HZ5.out.lo.1 k hk)).trans (hwz2.below (Nat.le_trans (Nat.le_trans HB4.out.size HB5'.out.size) hwj.size) fun k hk => by subst hk; exact HG10.out)
        have HCL7 : Hid ((C.save S R' q.nt).cal = true) := HCL.out
        clear hwj hu6 hz7 h96 h106 hx6 hxx hwz hg10b hwz2 hI hj x1 x2' x3 x4 x5 x6
        go_wp2_with fail
        go_meet
        exact ⟨rfl, _, R', s1, d1, T7, M7, A', _, _, _, _, nw, HCL7, HZ7, HB7, HX7⟩
    case rest =>
    obtain ⟨rfl, C2, R2, s2, d2, T2, M2, A2, x', y', x2', y2', nw2, HC2, HZ5, HB5, HX5⟩ := hcut
    clear HZ4 HB4 HX4 HBU4 HZ3 HX3 HGB HN1 HDO HW4 HW3 HCL HZ HB HB3 HTG HL9 hnx
    rename World => w5
    obtain ⟨xa, xc, ya, yn, yc, e⟩ := HZ5.out.r9.form
    cases e
    obtain ⟨x2a, x2c, y2a, y2n, y2c, e⟩ := HZ5.out.r10.form
    cases e
    obtain ⟨x0, x1, x2', x3, x4, x5, x6⟩ := bx7 HX5.out
    generalize hr2 : R2.length = r2 at *
    have HR2 := Hid.mk' hr2
    clear hr2
    go_upto_if 72 with fail
    clear x0 x1 x2' x3 x4 x5 x6
    go_cut [6] (fun pv wx => ∃ (p : Nat) (C : Cx) (R : Al By) (s : Ps) (d : Dm) (T M A : Nat → Prop) (x y x2 y2 : Value) (nw : By), pv = .pointer (some ⟨p, 0, none⟩) ∧ Hid (C.cal = true) ∧ Hid (@Lz (XG g9 g10) w.heap.size mo b g9 g10 (k + 1) (100 * (k : Int) + 1) (.slice (some ⟨bb, of, none⟩) ls.length c5) ls wx p C R s d T M A x y x2 y2 nw) ∧ Hid (Below w.heap.size w wx))
    case first =>
      by_cases h6 : q.kd = 6
      case neg =>
        have k6 : (q.kd == 6) = false := by simpa using h6
        clear h6
        go_wp2_with fail
        go_meet
        exact ⟨p, C2, R2, s2, d2, T2, M2, A2, _, _, _, _, nw2, rfl, HC2, HZ5, HB5⟩
      case pos =>
        have k6 : (q.kd == 6) = true := by simpa using h6
        clear h6
        obtain ⟨D, Dd, ms', mf', ma', ff', nf', g', hJ⟩ := HZ5.out.J.jx
        have HOP := Hid.mk' (vopen hJ.Dr ⟨hJ.xo.1, fun _ h => False.elim h, hJ.xo.2.2⟩ HZ5.out.I.dv hand (by rw [HZ5.out.hand, HMO.out]))
        clear hJ
        go_wp2_with fail
        refine HOP.out.mono ?_
        rintro e w6 ho
        obtain ⟨p', c, v, rfl, hob, hb6, hfin⟩ := HZ5.out.opened ho (by omega) (by omega)
        obtain ⟨oa, oc, rfl⟩ := own_sliceN hob
        have hbn : Bs A2 w6 (.slice y2a y2n y2c) C2.nt := by
          obtain ⟨_, _, e, _, h⟩ := HZ5.out.r10
          cases e
          exact h.up hb6
        have hnl : C2.nt.length ≤ lim := by have := HZ5.out.I.ok.ntl; unfold lim; omega
        have HEQ := Hid.mk' (requal_any _ _ _ _ w6 (hob.bs hnl) hbn)
        have h96 := heap_up HZ5.out.h9 hb6
        have h106 := heap_up HZ5.out.h10 hb6
        have HFN := Hid.mk' hfin
        have HB6 := Hid.mk' hb6
        have H96 := Hid.mk' h96
        have H106 := Hid.mk' h106
        obtain ⟨y0, y1⟩ := bx2 h106
        generalize C2.nt = nt at *
        clear ho hob hb6 hfin hbn hnl HOP h96 h106
        go_wp2_with fail
        refine HEQ.out.mono ?_
        rintro e w7 ⟨rfl, hdn⟩
        have HB7 : Hid (Below w6.heap.size w6 w7) := hdn.below _
        have h107 := heap_up H106.out HB7.out
        obtain ⟨y0, y1⟩ := bx2 h107
        obtain ⟨z0, f0, f1, z1, -, -, -⟩ := res2 (heap_up (heap_up H96.out HB7.out) (drew_blx w7 _)) (.slice x2a C2.RL.length x2c) (.slice y2a y2n y2c)
        have t0 : ∀ qq : Kp (fun _ => False) w7, qq.nx.cell? ⟨g10, 0, none⟩ = some _ := fun qq => qq.cell y0 (fun h => h)
        have t1 : ∀ qq : Kp (fun _ => False) w7, qq.nx.cell? ⟨g10, 1, none⟩ = some _ := fun qq => qq.cell y1 (fun h => h)
        obtain ⟨s8, T8, hz8⟩ := HFN.out w7.drew (bt HB7.out (drew_blx w7 _))
        have HZ8 := Hid.mk' hz8
        have HB8 : Hid (Below w.heap.size w ((w7.drew.setCell ⟨g9, 0, none⟩ (.slice x2a C2.RL.length x2c)).setCell ⟨g9, 1, none⟩ (.slice y2a y2n y2c))) := by
          have h1 := HB5.out.trans ((bt HB6.out (bt HB7.out (drew_blx w7 _))).mono HB5.out.size)
          exact h1.trans ((res2_wb w7.drew g9 (.slice x2a C2.RL.length x2c) (.slice y2a y2n y2c)).below h1.size fun k hk => by subst hk; exact H93.out)
        clear hdn h107 y0 y1 hz8
        go_wp2_with fail
        refine wp_region_mix 3 (fun w' => ∃ qq : Kp (fun _ => False) w7, w' = qq.nx) (by kernel_rfl) (by kernel_rfl) (kp_first _ w7) ?_
        simp only [List.take_succ_cons, List.take_zero, List.drop_succ_cons, List.drop_zero]
        refine mx_take 3 rfl ?_
        simp only [List.take_succ_cons, List.take_zero, List.drop_succ_cons, List.drop_zero]
        repeat (go_big_quiet_step (fail))
        refine wpQuiet_nil ?_
        simp only [wpMix]
        generalize w7.drew = w8 at *
        go_wp2_with fail
        go_meet
        exact ⟨p', C2, C2.RL, s8, d2, T8, M2, A2, _, _, _, _, nt, rfl, HC2, HZ8, HB8⟩
    case rest =>
    obtain ⟨p3, C3, R3, s3, d3, T3, M3, A3, x', y', x2', y2', nw3, rfl, HC3, HZ6, HB6⟩ := hcut
    clear HZ5 HB5 HX5 HC2 HR2
    rename World => w6
    obtain ⟨xa, xc, ya, yn, yc, e⟩ := HZ6.out.r9.form
    cases e
    obtain ⟨x2a, x2c, y2a, y2n, y2c, e⟩ := HZ6.out.r10.form
    cases e
    have HST := Hid.mk' (vstats HZ6.out.J)
    go_wp2_with fail
    refine HST.out.mono ?_
    rintro e w7 ⟨rfl, hb7⟩
    obtain ⟨W8, hW8⟩ : ∃ W8, W8 = w7.alloc (.cells #[.int .i64 s3.hit, .int .i64 s3.mis, .int .i64 s3.ev] 58) := ⟨_, rfl⟩
    have hb8 : Below w7.heap.size w7 W8 := by rw [hW8]; exact up_alloc _ _
    have HX8 : Hid (W8.heap[w7.heap.size]? = some (.cells #[.int .i64 s3.hit, .int .i64 s3.mis, .int .i64 s3.ev] 58 (0, 0))) := by rw [hW8]; exact heap_alloc_new _ _
    have HZ8 := Hid.mk' (HZ6.out.up (bt hb7 hb8))
    have HB8 := Hid.mk' (HB6.out.trans ((bt hb7 hb8).mono HB6.out.size))
    have hrl : R3.length ≤ k + 1 := HZ6.out.rl
    have HRL := Hid.mk' hrl
    have HSA := Hid.mk' (same_any HZ8.out.J HZ8.out.I HC3.out (by omega) HZ8.out.r9 HZ8.out.hA HZ8.out.I.wid)
    have HN8 : Hid (¬ (T3 w7.heap.size ∨ M3 w7.heap.size ∨ w7.heap.size = b)) := fun e => by
      have h1 := HZ6.out.J.lt
      have h2 := hb7.size
      rcases e with e | e | e
      · have := h1.2.2.1 _ e; omega
      · have := h1.2.2.2 _ e; omega
      · omega
    obtain ⟨y0, y1⟩ := bx2 HZ8.out.h9
    have HW8 := Hid.mk' hW8
    rw [hW8] at y0 y1
    clear hb7 hb8 hW8 HST hrl
    generalize hr3 : R3.length = r3 at *
    have HR3 := Hid.mk' hr3
    clear hr3
    go_wp2_with fail
    rw [← HW8.out]
    refine HSA.out.mono ?_
    rintro e w9 ⟨s9, d9, -, hT, -, hI9, hcnt, n1, n2, n3, hj9⟩
    obtain rfl := hT rfl
    have HX9 := Hid.mk' (heap_wb HX8.out hj9.1 HN8.out)
    have HB9 := Hid.mk' (HB8.out.trans (hj9.1.below HB8.out.size fun k hk => HZ8.out.lo.1 k hk))
    obtain ⟨T9, M9, hz9⟩ := HZ8.out.pool hj9 hI9
    rw [HR3.out] at hz9
    have HZ9 := Hid.mk' hz9
    have hcnt2 := hcnt rfl
    clear hcnt
    rw [HR3.out] at hcnt2
    have hb1 := HZ6.out.I.hit; have hb2 := HZ6.out.I.mis; have hb3 := HZ6.out.I.ev
    have hb4 := hI9.hit; have hb5 := hI9.mis; have hb6 := hI9.ev
    rw [HR3.out] at hb4 hb5 hb6
    have hrl := HRL.out
    have HHD := Hid.mk' (vhand HZ9.out.J HZ9.out.I)
    have HST := Hid.mk' (vstats HZ9.out.J)
    clear hT hI9 hj9 hz9 y0 y1
    have q1 : (s9.hit + s9.mis != s3.hit + s3.mis + (r3 : Int)) = false := by simpa using hcnt2
    have q2 : ¬ s9.ev < s3.ev := by omega
    have q3 : ¬ s9.hit < s3.hit := by omega
    have q4 : ¬ s9.mis < s3.mis := by omega
    have q5 : 0 ≤ s3.hit ∧ s3.hit ≤ 100000 := by omega
    have q6 : 0 ≤ s3.mis ∧ s3.mis ≤ 100000 := by omega
    have q7 : 0 ≤ s9.hit ∧ s9.hit ≤ 100000 := by omega
    have q8 : 0 ≤ s9.mis ∧ s9.mis ≤ 100000 := by omega
    have q9 : (r3 : Int) ≤ 50 := by omega
    obtain ⟨q51, q52⟩ := q5
    obtain ⟨q61, q62⟩ := q6
    obtain ⟨q71, q72⟩ := q7
    obtain ⟨q81, q82⟩ := q8
    generalize s9.hit = a9 at *
    generalize s9.mis = b9 at *
    generalize s9.ev = c9 at *
    generalize s3.hit = a3 at *
    generalize s3.mis = b3 at *
    generalize s3.ev = c3 at *
    clear hcnt2 n1 n2 n3 hb1 hb2 hb3 hb4 hb5 hb6 hrl
    go_wp2_with fail
    refine HHD.out.mono ?_
    rintro e wx ⟨n, rfl, hn, hwx⟩
    obtain rfl : w9 = wx := hwx.symm
    have hnm : ¬ mo < (n : Int) := by rw [HZ6.out.hand] at hn; omega
    clear hn hwx
    go_wp2_with fail
    refine HST.out.mono ?_
    rintro e w10 ⟨rfl, hb10⟩
    obtain ⟨W11, hW11⟩ : ∃ W, W = w10.alloc (.cells #[.int .i64 a9, .int .i64 b9, .int .i64 c9] 58) := ⟨_, rfl⟩
    have hb11 : Below w10.heap.size w10 W11 := by rw [hW11]; exact up_alloc _ _
    have hx11 : W11.heap[w10.heap.size]? = some (.cells #[.int .i64 a9, .int .i64 b9, .int .i64 c9] 58 (0, 0)) := by rw [hW11]; exact heap_alloc_new _ _
    have hbb := bt hb10 hb11
    have HZ11 := Hid.mk' (HZ9.out.up hbb)
    have HB11 := Hid.mk' (HB9.out.trans (hbb.mono HB9.out.size))
    obtain ⟨t0, t1, t2⟩ := bx3c hx11
    obtain ⟨u0, u1, u2⟩ := bx3c (heap_up HX9.out hbb)
    obtain ⟨y0, y1⟩ := bx2 HZ11.out.h9
    have HW11 := Hid.mk' hW11
    rw [hW11] at t0 t1 t2 u0 u1 u2 y0 y1
    have HZ12 : Hid (Lz w.heap.size mo b g9 g10 (k + 1) (100 * ((k + 1 : Nat) : Int)) (.slice (some ⟨bb, of, none⟩) ls.length c5) ls W11 p3 C3 R3 s9 d9 T9 M9 A3 (.slice xa r3 xc) (.slice ya yn yc) (.slice x2a C3.RL.length x2c) (.slice y2a y2n y2c) nw3) := HZ11.out.more (by omega) (by omega)
    clear hb10 hW11 hb11 hx11 hbb
    go_wp2_with fail
    rw [← HW11.out]
    go_roundw
    case rel => exact ⟨k + 1, p3, C3, R3, s9, d9, T9, M9, A3, _, _, _, _, nw3, by omega, by go_num, rfl, HC3, HZ12, HB11⟩
    case measure => simp [intOf]; omega
end Go.Proofs.YtbmhkdcmepfmbaaGreat
set_option linter.unusedVariables false
set_option linter.unusedSimpArgs false
namespace Go.Proofs.YtbmhkdcmepfmbaaGreat
open Go.RowKit
/-- a box that holds a pool of the reference -/
structure Bx where
  g : Nat
  x : Value
  y : Value
  R : Al By
  nt : By
structure Fz [Xcl] (B0 b : Nat) (va : Value) (l : List Ac) (w : World) (p : Nat) (s : Ps) (d : Dm) (T M A : Nat → Prop) (bx : List Bx) : Prop where
  J : Jn T M w p b s d
  ac : As A w va l
  hb : ∀ q ∈ bx, w.heap[q.g]? = some (.cells #[q.x, q.y] 50 (0, 0)) ∧ Rp A w (.agg #[q.x, q.y]) q.R q.nt
  hg : ∀ q ∈ bx, ¬ T q.g ∧ ¬ M q.g ∧ q.g ≠ b ∧ ¬ A q.g ∧ Xcl.X q.g ∧ B0 ≤ q.g
  hA : ∀ k, A k → k < w.heap.size ∧ ¬ T k ∧ ¬ M k ∧ k ≠ b
  lo : ∀ k, (T k ∨ M k ∨ k = b) → B0 ≤ k
  lw : B0 ≤ w.heap.size
section
variable [Xcl] {B0 b : Nat} {va : Value} {l : List Ac} {w w' : World} {p : Nat} {s : Ps} {d : Dm} {T M A : Nat → Prop} {bx bx' : List Bx}
theorem Fz.up (h : Fz B0 b va l w p s d T M A bx) (hb : Below w.heap.size w w') : Fz B0 b va l w' p s d T M A bx :=
  { h with J := h.J.up hb, ac := h.ac.up hb, hb := fun q hq => ⟨heap_up (h.hb q hq).1 hb, (h.hb q hq).2.up hb⟩, hA := fun k hk => ⟨Nat.lt_of_lt_of_le (h.hA k hk).1 hb.size, (h.hA k hk).2⟩, lw := Nat.le_trans h.lw hb.size }
theorem Fz.sub (h : Fz B0 b va l w p s d T M A bx) (hs : ∀ q ∈ bx', q ∈ bx) : Fz B0 b va l w p s d T M A bx' :=
  { h with hb := fun q hq => h.hb q (hs q hq), hg := fun q hq => h.hg q (hs q hq) }
theorem Fz.dis (h : Fz B0 b va l w p s d T M A bx) {k : Nat} (hk : T k ∨ M k ∨ k = b) : ¬ A k ∧ ∀ q ∈ bx, k ≠ q.g := by
  refine ⟨fun ha => ?_, fun q hq e => ?_⟩
  · obtain ⟨_, h1, h2, h3⟩ := h.hA k ha
    rcases hk with hk | hk | hk
    · exact h1 hk
    · exact h2 hk
    · exact h3 hk
  · obtain ⟨h1, h2, h3, _⟩ := h.hg q hq
    rw [← e] at h1 h2 h3
    rcases hk with hk | hk | hk
    · exact h1 hk
    · exact h2 hk
    · exact h3 hk
/-- what the pool's own blocks turn to -/
theorem Fz.turn (h : Fz B0 b va l w p s d T M A bx) {p' : Nat} {s' : Ps} {d' : Dm} {T' M' : Nat → Prop} (hw : Wb (fun k => T k ∨ M k ∨ k = b) w w') (hT : ∀ k, T' k → T k ∨ w.heap.size ≤ k) (hM : ∀ k, M' k → M k ∨ w.heap.size ≤ k) (hJ : Jn T' M' w' p' b s' d') : Fz B0 b va l w' p' s' d' T' M' A bx := by
  refine { J := hJ, ac := h.ac.wb hw fun k hk => (h.dis hk).1, hb := fun q hq => ⟨heap_wb (h.hb q hq).1 hw fun e => (h.dis e).2 q hq rfl, (h.hb q hq).2.wb hw fun k hk => (h.dis hk).1⟩, hg := fun q hq => ?_, hA := fun k hk => ?_, lo := lo_up h.lo h.lw hT hM, lw := Nat.le_trans h.lw hw.size }
  · obtain ⟨h1, h2, h3, h4⟩ := h.hg q hq
    have hlt := heap_lt (h.hb q hq).1
    exact ⟨fun e => (hT _ e).elim h1 fun e => by omega, fun e => (hM _ e).elim h2 fun e => by omega, h3, h4⟩
  · obtain ⟨h0, h1, h2, h3⟩ := h.hA k hk
    exact ⟨Nat.lt_of_lt_of_le h0 hw.size, fun e => (hT _ e).elim h1 fun e => by omega, fun e => (hM _ e).elim h2 fun e => by omega, h3⟩
theorem Fz.pool (h : Fz B0 b va l w p s d T M A bx) {s' : Ps} {d' : Dm} (hj : Jp T M w p b s' d' w') : ∃ T' M', Fz B0 b va l w' p s' d' T' M' A bx ∧ ∀ k, (T' k ∨ M' k ∨ k = b) → (T k ∨ M k ∨ k = b) ∨ w.heap.size ≤ k := by
  obtain ⟨hw, T', M', hT, hM, hJ⟩ := hj
  refine ⟨T', M', h.turn hw hT hM hJ, fun k hk => ?_⟩
  rcases hk with e | e | e
  · exact (hT k e).imp .inl id
  · exact (hM k e).imp (fun e => .inr (.inl e)) id
  · exact .inl (.inr (.inr e))
/-- the drive alone turns -/
theorem Fz.drive (h : Fz B0 b va l w p s d T M A bx) {D Dd : Nat → Prop} {ms mf ma nf : Nat} {ff : Int → Option Value} {g : Int → Nat} {d' : Dm} (hJ : Jx T D M Dd w p b s d ms mf ma ff nf g) (hT : Turned M Dd w b d' w') : ∃ M' Dd', Fz B0 b va l w' p s d' T M' A bx ∧ Jx T D M' Dd' w' p b s d' ms mf ma ff nf g ∧ Wb (fun k => T k ∨ M k ∨ k = b) w w' := by
  obtain ⟨M', D', hM, hw, hJ'⟩ := hJ.drive (Below.refl _ _) hT
  have hw' : Wb (fun k => T k ∨ M k ∨ k = b) w w' := hw.mono fun k hk => hk.elim (fun e => .inr (.inr e)) fun e => .inr (.inl e)
  exact ⟨M', D', h.turn hw' (fun k hk => .inl hk) hM hJ'.jn, hJ', hw'⟩
/-- another pool is opened on the drive -/
theorem Fz.opened (h : Fz B0 b va l w p s d T M A bx) {C : Cx} {Q : Nat} {Dd : Nat → Prop} {e : Ending} (ho : OpenV C M Dd w b Q d e w') :
    ∃ (p' c : Nat) (v : Value) (T' : Nat → Prop), e = .returned (.tuple #[.pointer (some ⟨p', 0, none⟩), v, .int .i64 0]) ∧ Ob 5 c w' v C.nt ∧ Below w.heap.size w w' ∧ Iv C 0 Q C.RL (s0k C.hand C.L) d ∧ Fz B0 b va l w' p' (s0k C.hand C.L) d T' M A bx ∧ (∀ k, (T' k ∨ M k ∨ k = b) → some k ≠ v.ownBlock) := by
  obtain ⟨p', c, v, T', ms, mf, ma, ff, nf, g, he, hJ, hI, hb, hT, hc, hob⟩ := ho
  have hTn : ∀ k, k < w.heap.size → ¬ T' k := fun k hk e => by have := (hT k e).1; omega
  refine ⟨p', c, v, T', he, hob, hb, hI, { J := hJ.jn, ac := h.ac.up hb, hb := fun q hq => ⟨heap_up (h.hb q hq).1 hb, (h.hb q hq).2.up hb⟩, hg := fun q hq => ?_, hA := fun k hk => ?_, lo := fun k hk => ?_, lw := Nat.le_trans h.lw hb.size }, fun k hk e => ?_⟩
  · obtain ⟨_, h2, h3, h4⟩ := h.hg q hq
    exact ⟨hTn _ (heap_lt (h.hb q hq).1), h2, h3, h4⟩
  · obtain ⟨h0, h1, h2, h3⟩ := h.hA k hk
    exact ⟨Nat.lt_of_lt_of_le h0 hb.size, hTn k h0, h2, h3⟩
  · rcases hk with e | e
    · have := (hT k e).1; have := h.lw; omega
    · exact h.lo k (.inr e)
  · have h1 := (own_typed hob k e.symm).1
    have h2 := h.J.lt
    rcases hk with hk | hk | hk
    · have := (hT k hk).2; omega
    · have := h2.2.2.2 k hk; omega
    · omega
/-- a call of do -/
theorem Fz.doP (h : Fz B0 b va l w p s d T M A bx) {C : Cx} {E : Int} {n : Nat} {R : Al By} {nw : By} {q : Ac} {e : Ending} (hd : DoP C E n R T M A w p b nw q e w') :
    ∃ (a1 : Option Addr) (n1 c1 : Nat) (a2 : Option Addr) (n2 c2 : Nat) (ok : Bool) (R' : Al By) (s' : Ps) (d' : Dm) (T' M' A' : Nat → Prop), e = .returned (.tuple #[.agg #[.slice a1 n1 c1, .slice a2 n2 c2], .bool ok]) ∧ nxR R q R' ∧ Wb (fun k => T k ∨ M k ∨ k = b) w w' ∧ Fz B0 b va l w' p s' d' T' M' A' bx ∧ Rp A' w' (.agg #[.slice a1 n1 c1, .slice a2 n2 c2]) R' nw ∧
      (Jv C n d' ∨ (ok = true ∧ Iv C (E + 1) (n + 1) R' s' d')) ∧ (∀ k, (T' k ∨ M' k ∨ k = b) → (T k ∨ M k ∨ k = b) ∨ w.heap.size ≤ k) ∧ (∀ {u : Value} {t : By}, Bs A w u t → Bs A' w' u t) ∧ (∀ k, A k → A' k) := by
  obtain ⟨v', ok, R', A1, T', M', he, hn, hw, hT, hM, hA1, hr, hdis, hc2⟩ := hd
  obtain ⟨a1, c1, a2, n2, c2, rfl⟩ := hr.form
  have key : ∀ s' d', Jn T' M' w' p b s' d' → Fz B0 b va l w' p s' d' T' M' (fun k => A k ∨ A1 k) bx := fun s' d' hJ => by
    have h1 := h.turn hw hT hM hJ
    exact { J := hJ, ac := h1.ac.monoS fun _ hk => .inl hk, hb := fun q hq => ⟨(h1.hb q hq).1, (h1.hb q hq).2.monoS fun _ hk => .inl hk⟩, lo := h1.lo, lw := h1.lw
            hg := fun q hq => by
              obtain ⟨k1, k2, k3, k4, k5⟩ := h1.hg q hq
              refine ⟨k1, k2, k3, fun hk => ?_, k5⟩
              rcases hk with hk | hk
              · exact k4 hk
              · rcases hA1 _ hk with hk | hk
                · exact k4 hk
                · have := heap_lt (h.hb q hq).1; omega
            hA := fun k hk => hk.elim (h1.hA k) (hdis k) }
  have hTM : ∀ k, (T' k ∨ M' k ∨ k = b) → (T k ∨ M k ∨ k = b) ∨ w.heap.size ≤ k := fun k hk => by
    rcases hk with e | e | e
    · exact (hT k e).imp .inl id
    · exact (hM k e).imp (fun e => .inr (.inl e)) id
    · exact .inl (.inr (.inr e))
  have hbs : ∀ {u : Value} {t : By}, Bs A w u t → Bs (fun k => A k ∨ A1 k) w' u t := fun hu => (hu.wb hw fun k hk => (h.dis hk).1).monoS fun _ hk => .inl hk
  rcases hc2 with ⟨s', d', hj, hJ⟩ | ⟨ho, s', d', hI, hJ⟩
  · exact ⟨a1, _, c1, a2, n2, c2, ok, R', s', d', T', M', _, he, hn, hw, key s' d' hJ, hr.monoS fun _ hk => .inr hk, .inl hj, hTM, hbs, fun _ hk => .inl hk⟩
  · exact ⟨a1, _, c1, a2, n2, c2, ok, R', s', d', T', M', _, he, hn, hw, key s' d' hJ, hr.monoS fun _ hk => .inr hk, .inr ⟨ho, hI⟩, hTM, hbs, fun _ hk => .inl hk⟩
/-- one more block that is only read -/
theorem Fz.addA (h : Fz B0 b va l w p s d T M A bx) {g : Nat} (hg : g < w.heap.size ∧ ¬ T g ∧ ¬ M g ∧ g ≠ b) (hq : ∀ q ∈ bx, q.g ≠ g) : Fz B0 b va l w p s d T M (fun k => A k ∨ k = g) bx :=
  { h with ac := h.ac.monoS fun _ hk => .inl hk, hb := fun q hq => ⟨(h.hb q hq).1, (h.hb q hq).2.monoS fun _ hk => .inl hk⟩
           hg := fun q hq1 => ⟨(h.hg q hq1).1, (h.hg q hq1).2.1, (h.hg q hq1).2.2.1, fun e => e.elim (h.hg q hq1).2.2.2.1 (hq q hq1), (h.hg q hq1).2.2.2.2⟩
           hA := fun k hk => hk.elim (h.hA k) fun e => by rw [e]; exact hg }
/-- a box is written -/
theorem Fz.put (h : Fz B0 b va l w p s d T M A bx) {g : Nat} {x y : Value} {R : Al By} {nt : By} (hg : ∃ q ∈ bx, q.g = g) (hw : Wb (fun k => k = g) w w') (hx : w'.heap[g]? = some (.cells #[x, y] 50 (0, 0))) (hr : Rp A w (.agg #[x, y]) R nt) (hbx : ∀ q ∈ bx', q = ⟨g, x, y, R, nt⟩ ∨ (q ∈ bx ∧ q.g ≠ g)) : Fz B0 b va l w' p s d T M A bx' := by
  obtain ⟨q0, hq0, rfl⟩ := hg
  obtain ⟨g1, g2, g3, g4, g5, g6⟩ := h.hg q0 hq0
  have hAg : ∀ k, k = q0.g → ¬ A k := fun k hk => by subst hk; exact g4
  refine { J := Jn.wbX (X := Xcl.X) h.J hw fun k hk => ?_, ac := h.ac.wb hw hAg, hb := fun q hq => ?_, hg := fun q hq => ?_, hA := fun k hk => ⟨Nat.lt_of_lt_of_le (h.hA k hk).1 hw.size, (h.hA k hk).2⟩, lo := h.lo, lw := Nat.le_trans h.lw hw.size }
  · have hk : k = q0.g := hk
    subst hk
    exact ⟨g5, g1, g2, g3⟩
  · rcases hbx q hq with rfl | ⟨h1, h2⟩
    · exact ⟨hx, hr.wb hw hAg⟩
    · exact ⟨heap_wb (h.hb q h1).1 hw h2, (h.hb q h1).2.wb hw hAg⟩
  · rcases hbx q hq with rfl | ⟨h1, h2⟩
    · exact ⟨g1, g2, g3, g4, g5, g6⟩
    · exact h.hg q h1
end
/-- other blocks are watched from now on -/
theorem Fz.re {X X' : Nat → Prop} {B0 b : Nat} {va : Value} {l : List Ac} {w w' : World} {p : Nat} {s : Ps} {d : Dm} {T M A : Nat → Prop} {bx : List Bx} (h : @Fz ⟨X⟩ B0 b va l w p s d T M A bx) (hb : Below w.heap.size w w') (h1 : ∀ k, X' k → X k ∨ w.heap.size ≤ k) (h2 : ∀ k, X' k → k < w'.heap.size) (h3 : ∀ q ∈ bx, X' q.g) : @Fz ⟨X'⟩ B0 b va l w' p s d T M A bx := by
  have hu := @Fz.up ⟨X⟩ _ _ _ _ _ _ _ _ _ _ _ _ _ h hb
  exact @Fz.mk ⟨X'⟩ _ _ _ _ _ _ _ _ _ _ _ _ (Jn.re (@Fz.J ⟨X⟩ _ _ _ _ _ _ _ _ _ _ _ _ h) hb h1 h2) (@Fz.ac ⟨X⟩ _ _ _ _ _ _ _ _ _ _ _ _ hu) (@Fz.hb ⟨X⟩ _ _ _ _ _ _ _ _ _ _ _ _ hu)
    (fun q hq => ⟨(@Fz.hg ⟨X⟩ _ _ _ _ _ _ _ _ _ _ _ _ hu q hq).1, (@Fz.hg ⟨X⟩ _ _ _ _ _ _ _ _ _ _ _ _ hu q hq).2.1, (@Fz.hg ⟨X⟩ _ _ _ _ _ _ _ _ _ _ _ _ hu q hq).2.2.1, (@Fz.hg ⟨X⟩ _ _ _ _ _ _ _ _ _ _ _ _ hu q hq).2.2.2.1, h3 q hq, (@Fz.hg ⟨X⟩ _ _ _ _ _ _ _ _ _ _ _ _ hu q hq).2.2.2.2.2⟩)
    (@Fz.hA ⟨X⟩ _ _ _ _ _ _ _ _ _ _ _ _ hu) (@Fz.lo ⟨X⟩ _ _ _ _ _ _ _ _ _ _ _ _ hu) (@Fz.lw ⟨X⟩ _ _ _ _ _ _ _ _ _ _ _ _ hu)
/-- a new box -/
theorem Fz.box {X : Nat → Prop} {B0 b : Nat} {va : Value} {l : List Ac} {w : World} {p : Nat} {s : Ps} {d : Dm} {T M A : Nat → Prop} {bx : List Bx} {x y : Value} {R : Al By} {nt : By} (h : @Fz ⟨X⟩ B0 b va l w p s d T M A bx) (hX : ∀ k, X k → k < w.heap.size) (hr : Rp A w (.agg #[x, y]) R nt) : @Fz ⟨fun k => X k ∨ k = w.heap.size⟩ B0 b va l (w.alloc (.cells #[x, y] 50)) p s d T M A (⟨w.heap.size, x, y, R, nt⟩ :: bx) := by
  have hb := up_alloc w (.cells #[x, y] 50)
  have hu := Fz.re (X' := fun k => X k ∨ k = w.heap.size) h hb (fun k hk => hk.imp id fun e => by omega) (fun k hk => by
    have : (w.alloc (.cells #[x, y] 50)).heap.size = w.heap.size + 1 := by simp
    rcases hk with hk | hk
    · have := hX k hk; omega
    · omega) (fun q hq => .inl (@Fz.hg ⟨X⟩ _ _ _ _ _ _ _ _ _ _ _ _ h q hq).2.2.2.2.1)
  have hlt := @Jn.lt ⟨X⟩ _ _ _ _ _ _ _ (@Fz.J ⟨X⟩ _ _ _ _ _ _ _ _ _ _ _ _ h)
  exact @Fz.mk ⟨fun k => X k ∨ k = w.heap.size⟩ _ _ _ _ _ _ _ _ _ _ _ _ (@Fz.J ⟨_⟩ _ _ _ _ _ _ _ _ _ _ _ _ hu) (@Fz.ac ⟨_⟩ _ _ _ _ _ _ _ _ _ _ _ _ hu)
    (fun q hq => by
      rcases List.mem_cons.1 hq with rfl | hq
      · exact ⟨heap_alloc_new _ _, hr.up hb⟩
      · exact @Fz.hb ⟨_⟩ _ _ _ _ _ _ _ _ _ _ _ _ hu q hq)
    (fun q hq => by
      rcases List.mem_cons.1 hq with rfl | hq
      · refine ⟨fun e => Nat.lt_irrefl _ (hlt.2.2.1 _ e), fun e => Nat.lt_irrefl _ (hlt.2.2.2 _ e), fun e => ?_, fun e => Nat.lt_irrefl _ (@Fz.hA ⟨X⟩ _ _ _ _ _ _ _ _ _ _ _ _ h _ e).1, .inr rfl, @Fz.lw ⟨X⟩ _ _ _ _ _ _ _ _ _ _ _ _ h⟩
        have h1 := hlt.2.1
        have e : w.heap.size = b := e
        omega
      · exact @Fz.hg ⟨_⟩ _ _ _ _ _ _ _ _ _ _ _ _ hu q hq)
    (@Fz.hA ⟨_⟩ _ _ _ _ _ _ _ _ _ _ _ _ hu) (@Fz.lo ⟨_⟩ _ _ _ _ _ _ _ _ _ _ _ _ hu) (@Fz.lw ⟨_⟩ _ _ _ _ _ _ _ _ _ _ _ _ hu)
/-- the drive is armed, or not -/
theorem Iv.armed {C : Cx} {E : Int} {Q : Nat} {R : Al By} {s : Ps} {d : Dm} (h : Iv C E Q R s d) (n : Int) (hc : C.cal = true → n < 0) : Iv C E Q R s (arD d n) :=
  { h with arm := fun hc2 => by have := hc hc2; show decide (0 ≤ n) = false; simpa using this, dq := ⟨h.dq.al, h.dq.sn, h.dq.qo, h.dq.un⟩ }
theorem Lz.fz [Xcl] {B0 : Nat} {hnd : Int} {b g9 g10 n : Nat} {E : Int} {va : Value} {l : List Ac} {w : World} {p : Nat} {C : Cx} {R : Al By} {s : Ps} {d : Dm} {T M A : Nat → Prop} {x y x2 y2 : Value} {nw : By}
    (h : Lz B0 hnd b g9 g10 n E va l w p C R s d T M A x y x2 y2 nw) : Fz B0 b va l w p s d T M A [⟨g9, x, y, R, nw⟩, ⟨g10, x2, y2, C.RL, C.nt⟩] where
  J := h.J
  ac := h.ac
  hb := fun q hq => by
    simp only [List.mem_cons, List.not_mem_nil, or_false] at hq
    rcases hq with rfl | rfl
    · exact ⟨h.h9, h.r9⟩
    · exact ⟨h.h10, h.r10⟩
  hg := fun q hq => by
    simp only [List.mem_cons, List.not_mem_nil, or_false] at hq
    rcases hq with rfl | rfl
    · obtain ⟨h1, h2, h3, h4⟩ := h.hG g9 (.inl rfl)
      exact ⟨h1, h2, h3, h4, (h.X _).2 (.inl rfl), h.lo.2.1⟩
    · obtain ⟨h1, h2, h3, h4⟩ := h.hG g10 (.inr rfl)
      exact ⟨h1, h2, h3, h4, (h.X _).2 (.inr rfl), h.lo.2.2⟩
  hA := h.hA
  lo := h.lo.1
  lw := Nat.le_trans h.lo.2.1 (Nat.le_of_lt h.lt9.1)
theorem Cx.Ok.wid {C : Cx} (h : C.Ok) : ∀ x ∈ C.RL, Wi x.1 := fun x hx => by
  have h1 : x.1 ∈ C.RL.map (·.1) := List.mem_map.2 ⟨x, hx, rfl⟩
  rw [h.keys] at h1
  obtain ⟨y, hy, e⟩ := List.mem_map.1 h1
  have := h.S y hy
  exact Wi.of (by omega) (by omega)
/-- files behind a crash: what was saved last, or what was being saved -/
def Gc (C : Cx) (n : Nat) (kd : Int) (Rn : Al By) (nn : By) (F : Fl) : Prop := Gfl C n F ∨ (kd = 5 ∧ ∃ S, (C.save S Rn nn).Ok ∧ Gfl (C.save S Rn nn) n F)
theorem Gfl.up {C : Cx} {n m : Nat} {F : Fl} (h : Gfl C n F) (hm : n ≤ m) : Gfl C m F := { h with lp := by have := h.lp; omega }
end Go.Proofs.YtbmhkdcmepfmbaaGreat
set_option linter.unusedVariables false
set_option linter.unusedSimpArgs false
namespace Go.Proofs.YtbmhkdcmepfmbaaGreat
open Go.RowKit
theorem Jn.side {X X' Y T M : Nat → Prop} {w w' : World} {p b : Nat} {s : Ps} {d : Dm} (h : @Jn ⟨X⟩ T M w p b s d) (hw : Wb Y w w') (hY : ∀ k, Y k → X k ∧ ¬ T k ∧ ¬ M k ∧ k ≠ b) (h1 : ∀ k, X' k → X k ∨ w.heap.size ≤ k) (h2 : ∀ k, X' k → k < w'.heap.size) : @Jn ⟨X'⟩ T M w' p b s d := by
  obtain ⟨D, Dd, ms, mf, ma, ff, nf, g, k1, k2, k3, k4, k5, k6⟩ := @Jn.ex ⟨X⟩ _ _ _ _ _ _ _ h
  refine @Jn.mk ⟨X'⟩ _ _ _ _ _ _ _ ⟨D, Dd, ms, mf, ma, ff, nf, g, k1.keep hw fun k hk => ⟨(hY k hk).2.1, fun hd => k6.2.1 k hd (hY k hk).1⟩, k2.keep hw fun k hk => ⟨(hY k hk).2.2.1, fun hd => k6.2.2 k hd (hY k hk).1, (hY k hk).2.2.2⟩, k3, k4, k5, h2, fun k hk hx => ?_, fun k hk hx => ?_⟩ (@Jn.tm ⟨X⟩ _ _ _ _ _ _ _ h)
  · rcases h1 k hx with h | h
    · exact k6.2.1 k hk h
    · have := (k1.hD k hk).1; omega
  · rcases h1 k hx with h | h
    · exact k6.2.2 k hk h
    · have := (k2.hD k hk).1; omega
/-- what one pool never keeps memory of: the boxes, and the other pool -/
def XO (bx : List Bx) (T M : Nat → Prop) (b : Nat) (k : Nat) : Prop := (∃ q ∈ bx, q.g = k) ∨ T k ∨ M k ∨ k = b
/-- a frame, seen from outside of its class -/
structure Fy (B0 b : Nat) (va : Value) (l : List Ac) (w : World) (T M A : Nat → Prop) (bx : List Bx) : Prop where
  ac : As A w va l
  hb : ∀ q ∈ bx, w.heap[q.g]? = some (.cells #[q.x, q.y] 50 (0, 0)) ∧ Rp A w (.agg #[q.x, q.y]) q.R q.nt
  hg : ∀ q ∈ bx, ¬ T q.g ∧ ¬ M q.g ∧ q.g ≠ b ∧ ¬ A q.g ∧ B0 ≤ q.g
  hA : ∀ k, A k → k < w.heap.size ∧ ¬ T k ∧ ¬ M k ∧ k ≠ b
  lo : ∀ k, (T k ∨ M k ∨ k = b) → B0 ≤ k
  lw : B0 ≤ w.heap.size
structure Tw (B0 b1 b2 : Nat) (va : Value) (l : List Ac) (w : World) (p1 : Nat) (s1 : Ps) (d1 : Dm) (T1 M1 : Nat → Prop) (p2 : Nat) (s2 : Ps) (d2 : Dm) (T2 M2 A : Nat → Prop) (bx : List Bx) : Prop where
  j1 : @Jn ⟨XO bx T2 M2 b2⟩ T1 M1 w p1 b1 s1 d1
  j2 : @Jn ⟨XO bx T1 M1 b1⟩ T2 M2 w p2 b2 s2 d2
  f1 : Fy B0 b1 va l w T1 M1 A bx
  f2 : Fy B0 b2 va l w T2 M2 A bx
  dj : ∀ k, (T1 k ∨ M1 k ∨ k = b1) → ¬ (T2 k ∨ M2 k ∨ k = b2)
section
variable {B0 b b1 b2 : Nat} {va : Value} {l : List Ac} {w w' : World} {p1 : Nat} {s1 : Ps} {d1 : Dm} {T M T1 M1 : Nat → Prop} {p2 : Nat} {s2 : Ps} {d2 : Dm} {T2 M2 A : Nat → Prop} {bx bx' : List Bx}
theorem Fy.up (h : Fy B0 b va l w T M A bx) (hb : Below w.heap.size w w') : Fy B0 b va l w' T M A bx :=
  { h with ac := h.ac.up hb, hb := fun q hq => ⟨heap_up (h.hb q hq).1 hb, (h.hb q hq).2.up hb⟩, hA := fun k hk => ⟨Nat.lt_of_lt_of_le (h.hA k hk).1 hb.size, (h.hA k hk).2⟩, lw := Nat.le_trans h.lw hb.size }
theorem Fy.dis (h : Fy B0 b va l w T M A bx) {k : Nat} (hk : T k ∨ M k ∨ k = b) : ¬ A k ∧ ∀ q ∈ bx, k ≠ q.g := by
  refine ⟨fun ha => ?_, fun q hq e => ?_⟩
  · obtain ⟨_, h1, h2, h3⟩ := h.hA k ha
    rcases hk with hk | hk | hk
    · exact h1 hk
    · exact h2 hk
    · exact h3 hk
  · obtain ⟨h1, h2, h3, _⟩ := h.hg q hq
    rw [← e] at h1 h2 h3
    rcases hk with hk | hk | hk
    · exact h1 hk
    · exact h2 hk
    · exact h3 hk
/-- blocks are written that are neither read nor a box; what is read may grow by new blocks -/
theorem Fy.wb (h : Fy B0 b va l w T M A bx) {Y T' M' A' : Nat → Prop} (hw : Wb Y w w') (hY : ∀ k, Y k → ¬ A k ∧ ∀ q ∈ bx, k ≠ q.g) (hT : ∀ k, T' k → T k ∨ w.heap.size ≤ k) (hM : ∀ k, M' k → M k ∨ w.heap.size ≤ k) (hA : ∀ k, A k → A' k) (hA2 : ∀ k, A' k → A k ∨ (w.heap.size ≤ k ∧ k < w'.heap.size ∧ ¬ T' k ∧ ¬ M' k ∧ k ≠ b)) : Fy B0 b va l w' T' M' A' bx where
  ac := (h.ac.wb hw fun k hk => (hY k hk).1).monoS hA
  hb := fun q hq => ⟨heap_wb (h.hb q hq).1 hw fun e => (hY _ e).2 q hq rfl, ((h.hb q hq).2.wb hw fun k hk => (hY k hk).1).monoS hA⟩
  hg := fun q hq => by
    obtain ⟨h1, h2, h3, h4, h5⟩ := h.hg q hq
    have hlt := heap_lt (h.hb q hq).1
    exact ⟨fun e => (hT _ e).elim h1 fun e => by omega, fun e => (hM _ e).elim h2 fun e => by omega, h3, fun e => (hA2 _ e).elim h4 fun e => by omega, h5⟩
  hA := fun k hk => by
    rcases hA2 k hk with hk | hk
    · obtain ⟨h0, h1, h2, h3⟩ := h.hA k hk
      exact ⟨Nat.lt_of_lt_of_le h0 hw.size, fun e => (hT _ e).elim h1 fun e => by omega, fun e => (hM _ e).elim h2 fun e => by omega, h3⟩
    · exact ⟨hk.2.1, hk.2.2.1, hk.2.2.2.1, hk.2.2.2.2⟩
  lo := lo_up h.lo h.lw hT hM
  lw := Nat.le_trans h.lw hw.size
theorem Tw.symm (h : Tw B0 b1 b2 va l w p1 s1 d1 T1 M1 p2 s2 d2 T2 M2 A bx) : Tw B0 b2 b1 va l w p2 s2 d2 T2 M2 p1 s1 d1 T1 M1 A bx := ⟨h.j2, h.j1, h.f2, h.f1, fun k h1 h2 => h.dj k h2 h1⟩
theorem Tw.up (h : Tw B0 b1 b2 va l w p1 s1 d1 T1 M1 p2 s2 d2 T2 M2 A bx) (hb : Below w.heap.size w w') : Tw B0 b1 b2 va l w' p1 s1 d1 T1 M1 p2 s2 d2 T2 M2 A bx :=
  ⟨@Jn.up ⟨_⟩ _ _ _ _ _ _ _ _ h.j1 hb, @Jn.up ⟨_⟩ _ _ _ _ _ _ _ _ h.j2 hb, h.f1.up hb, h.f2.up hb, h.dj⟩
theorem Tw.lt (h : Tw B0 b1 b2 va l w p1 s1 d1 T1 M1 p2 s2 d2 T2 M2 A bx) : (∀ k, (T1 k ∨ M1 k ∨ k = b1) → k < w.heap.size) ∧ ∀ k, (T2 k ∨ M2 k ∨ k = b2) → k < w.heap.size := by
  have h1 := @Jn.lt ⟨_⟩ _ _ _ _ _ _ _ h.j1
  have h2 := @Jn.lt ⟨_⟩ _ _ _ _ _ _ _ h.j2
  refine ⟨fun k hk => ?_, fun k hk => ?_⟩
  · rcases hk with e | e | e
    · exact h1.2.2.1 k e
    · exact h1.2.2.2 k e
    · have := h1.2.1; omega
  · rcases hk with e | e | e
    · exact h2.2.2.1 k e
    · exact h2.2.2.2 k e
    · have := h2.2.1; omega
/-- the first pool turns, what is read may grow -/
theorem Tw.turn (h : Tw B0 b1 b2 va l w p1 s1 d1 T1 M1 p2 s2 d2 T2 M2 A bx) {T' M' A' : Nat → Prop} {s' : Ps} {d' : Dm} (hw : Wb (fun k => T1 k ∨ M1 k ∨ k = b1) w w') (hT : ∀ k, T' k → T1 k ∨ w.heap.size ≤ k) (hM : ∀ k, M' k → M1 k ∨ w.heap.size ≤ k)
    (hJ : @Jn ⟨XO bx T2 M2 b2⟩ T' M' w' p1 b1 s' d') (hA : ∀ k, A k → A' k) (hA2 : ∀ k, A' k → A k ∨ (w.heap.size ≤ k ∧ k < w'.heap.size ∧ ¬ T' k ∧ ¬ M' k ∧ k ≠ b1)) : Tw B0 b1 b2 va l w' p1 s' d' T' M' p2 s2 d2 T2 M2 A' bx := by
  have hl := h.lt
  have hY : ∀ k, (T1 k ∨ M1 k ∨ k = b1) → ¬ A k ∧ ∀ q ∈ bx, k ≠ q.g := fun k hk => h.f1.dis hk
  have hTM : ∀ k, (T' k ∨ M' k ∨ k = b1) → (T1 k ∨ M1 k ∨ k = b1) ∨ w.heap.size ≤ k := fun k hk => by
    rcases hk with e | e | e
    · exact (hT k e).imp .inl id
    · exact (hM k e).imp (fun e => .inr (.inl e)) id
    · exact .inl (.inr (.inr e))
  have hjl := @Jn.lt ⟨_⟩ _ _ _ _ _ _ _ hJ
  refine ⟨hJ, ?_, h.f1.wb hw hY hT hM hA hA2, h.f2.wb hw hY (fun k hk => .inl hk) (fun k hk => .inl hk) hA fun k hk => (hA2 k hk).imp id fun e => ⟨e.1, e.2.1, fun e2 => by have := hl.2 k (.inl e2); omega, fun e2 => by have := hl.2 k (.inr (.inl e2)); omega, fun e2 => by have := hl.2 k (.inr (.inr e2)); omega⟩, fun k h1 h2 => ?_⟩
  · refine Jn.side h.j2 hw (fun k hk => ?_) (fun k hk => ?_) (fun k hk => ?_)
    · have hd := h.dj k hk
      exact ⟨.inr hk, fun e => hd (.inl e), fun e => hd (.inr (.inl e)), fun e => hd (.inr (.inr e))⟩
    · rcases hk with hk | hk
      · exact .inl (.inl hk)
      · exact (hTM k hk).imp .inr id
    · rcases hk with ⟨q, hq, rfl⟩ | hk | hk | hk
      · exact Nat.lt_of_lt_of_le (heap_lt (h.f1.hb q hq).1) hw.size
      · exact hjl.2.2.1 k hk
      · exact hjl.2.2.2 k hk
      · have := hjl.2.1; omega
  · rcases hTM k h1 with e | e
    · exact h.dj k e h2
    · have := hl.2 k h2; omega
theorem Tw.pool (h : Tw B0 b1 b2 va l w p1 s1 d1 T1 M1 p2 s2 d2 T2 M2 A bx) {s' : Ps} {d' : Dm} (hj : @Jp ⟨XO bx T2 M2 b2⟩ T1 M1 w p1 b1 s' d' w') : ∃ T' M', Tw B0 b1 b2 va l w' p1 s' d' T' M' p2 s2 d2 T2 M2 A bx := by
  obtain ⟨hw, T', M', hT, hM, hJ⟩ := hj
  exact ⟨T', M', h.turn hw hT hM hJ (fun k hk => hk) fun k hk => .inl hk⟩
theorem Tw.doP (h : Tw B0 b1 b2 va l w p1 s1 d1 T1 M1 p2 s2 d2 T2 M2 A bx) {C : Cx} {E : Int} {n : Nat} {R : Al By} {nw : By} {q : Ac} {e : Ending} (hd : @DoP ⟨XO bx T2 M2 b2⟩ C E n R T1 M1 A w p1 b1 nw q e w') (hc : C.cal = true) :
    ∃ (a1 : Option Addr) (n1 c1 : Nat) (a2 : Option Addr) (n2 c2 : Nat) (R' : Al By) (s' : Ps) (d' : Dm) (T' M' A' : Nat → Prop), e = .returned (.tuple #[.agg #[.slice a1 n1 c1, .slice a2 n2 c2], .bool true]) ∧ nxR R q R' ∧ Wb (fun k => T1 k ∨ M1 k ∨ k = b1) w w' ∧ Tw B0 b1 b2 va l w' p1 s' d' T' M' p2 s2 d2 T2 M2 A' bx ∧ Rp A' w' (.agg #[.slice a1 n1 c1, .slice a2 n2 c2]) R' nw ∧ Iv C (E + 1) (n + 1) R' s' d' ∧ (∀ {u : Value} {t : By}, Bs A w u t → Bs A' w' u t) ∧ (∀ k, A k → A' k) := by
  obtain ⟨v', ok, R', A1, T', M', he, hn, hw, hT, hM, hA1, hr, hdis, hc2⟩ := hd
  obtain ⟨a1, c1, a2, n2, c2, rfl⟩ := hr.form
  rcases hc2 with ⟨s', d', hj, _⟩ | ⟨rfl, s', d', hI, hJ⟩
  · have := hj.2.1; rw [hc] at this; cases this
  refine ⟨a1, _, c1, a2, n2, c2, R', s', d', T', M', fun k => A k ∨ A1 k, he, hn, hw, h.turn hw hT hM hJ (fun _ hk => .inl hk) fun k hk => ?_, hr.monoS fun _ hk => .inr hk, hI, fun hu => (hu.wb hw fun k hk => (h.f1.dis hk).1).monoS fun _ hk => .inl hk, fun _ hk => .inl hk⟩
  rcases hk with hk | hk
  · exact .inl hk
  · rcases hA1 k hk with h1 | h1
    · exact .inl h1
    · exact .inr ⟨h1, hdis k hk⟩
/-- a box is written -/
theorem Tw.put (h : Tw B0 b1 b2 va l w p1 s1 d1 T1 M1 p2 s2 d2 T2 M2 A bx) {g : Nat} {x y : Value} {R : Al By} {nt : By} (hg : ∃ q ∈ bx, q.g = g) (hw : Wb (fun k => k = g) w w') (hx : w'.heap[g]? = some (.cells #[x, y] 50 (0, 0))) (hr : Rp A w (.agg #[x, y]) R nt) (hbx : ∀ q ∈ bx', q = ⟨g, x, y, R, nt⟩ ∨ (q ∈ bx ∧ q.g ≠ g)) (hgs : ∀ q ∈ bx', ∃ q' ∈ bx, q'.g = q.g) : Tw B0 b1 b2 va l w' p1 s1 d1 T1 M1 p2 s2 d2 T2 M2 A bx' := by
  obtain ⟨q0, hq0, rfl⟩ := hg
  have hAg : ∀ k, k = q0.g → ¬ A k := fun k hk => by subst hk; exact (h.f1.hg q0 hq0).2.2.2.1
  have hX : ∀ {T M : Nat → Prop} {b : Nat} k, XO bx' T M b k → XO bx T M b k := fun k hk => hk.imp (fun ⟨q, hq, e⟩ => by
    obtain ⟨q', hq', e'⟩ := hgs q hq
    exact ⟨q', hq', e'.trans e⟩) id
  have hlt := @Jn.xlt ⟨_⟩ _ _ _ _ _ _ _ h.j1
  have hlt2 := @Jn.xlt ⟨_⟩ _ _ _ _ _ _ _ h.j2
  have key : ∀ {T M : Nat → Prop} {b : Nat}, Fy B0 b va l w T M A bx → Fy B0 b va l w' T M A bx' := fun f =>
    { ac := f.ac.wb hw hAg, lo := f.lo, lw := Nat.le_trans f.lw hw.size, hA := fun k hk => ⟨Nat.lt_of_lt_of_le (f.hA k hk).1 hw.size, (f.hA k hk).2⟩
      hb := fun q hq => by
        rcases hbx q hq with rfl | ⟨h1, h2⟩
        · exact ⟨hx, hr.wb hw hAg⟩
        · exact ⟨heap_wb (f.hb q h1).1 hw h2, (f.hb q h1).2.wb hw hAg⟩
      hg := fun q hq => by
        rcases hbx q hq with rfl | ⟨h1, h2⟩
        · exact f.hg q0 hq0
        · exact f.hg q h1 }
  refine ⟨Jn.side h.j1 hw (fun k hk => ?_) (fun k hk => .inl (hX k hk)) (fun k hk => Nat.lt_of_lt_of_le (hlt k (hX k hk)) hw.size), Jn.side h.j2 hw (fun k hk => ?_) (fun k hk => .inl (hX k hk)) (fun k hk => Nat.lt_of_lt_of_le (hlt2 k (hX k hk)) hw.size), key h.f1, key h.f2, h.dj⟩
  · have hk : k = q0.g := hk
    subst hk
    obtain ⟨h1, h2, h3, _⟩ := h.f1.hg q0 hq0
    exact ⟨.inl ⟨q0, hq0, rfl⟩, h1, h2, h3⟩
  · have hk : k = q0.g := hk
    subst hk
    obtain ⟨h1, h2, h3, _⟩ := h.f2.hg q0 hq0
    exact ⟨.inl ⟨q0, hq0, rfl⟩, h1, h2, h3⟩
/-- one more block that is only read -/
theorem Tw.addA (h : Tw B0 b1 b2 va l w p1 s1 d1 T1 M1 p2 s2 d2 T2 M2 A bx) {g : Nat} (hg : g < w.heap.size) (h1 : ¬ (T1 g ∨ M1 g ∨ g = b1)) (h2 : ¬ (T2 g ∨ M2 g ∨ g = b2)) (hq : ∀ q ∈ bx, q.g ≠ g) : Tw B0 b1 b2 va l w p1 s1 d1 T1 M1 p2 s2 d2 T2 M2 (fun k => A k ∨ k = g) bx := by
  have key : ∀ {T M : Nat → Prop} {b : Nat}, ¬ (T g ∨ M g ∨ g = b) → Fy B0 b va l w T M A bx → Fy B0 b va l w T M (fun k => A k ∨ k = g) bx := fun hn f =>
    { f with ac := f.ac.monoS fun _ hk => .inl hk, hb := fun q hq1 => ⟨(f.hb q hq1).1, (f.hb q hq1).2.monoS fun _ hk => .inl hk⟩
             hg := fun q hq1 => ⟨(f.hg q hq1).1, (f.hg q hq1).2.1, (f.hg q hq1).2.2.1, fun e => e.elim (f.hg q hq1).2.2.2.1 (hq q hq1), (f.hg q hq1).2.2.2.2⟩
             hA := fun k hk => hk.elim (f.hA k) fun e => by rw [e]; exact ⟨hg, fun e => hn (.inl e), fun e => hn (.inr (.inl e)), fun e => hn (.inr (.inr e))⟩ }
  exact ⟨h.j1, h.j2, key h1 h.f1, key h2 h.f2, h.dj⟩
end
end Go.Proofs.YtbmhkdcmepfmbaaGreat
set_option linter.unusedVariables false
set_option linter.unusedSimpArgs false
namespace Go.Proofs.YtbmhkdcmepfmbaaGreat
open Go.RowKit
/-- the blocks of these slices, and others -/
def XV (V : List (Value × By)) (Z : Nat → Prop) (k : Nat) : Prop := (∃ q ∈ V, q.1.ownBlock = some k) ∨ Z k
def Sep (a b : Value) : Prop := ∀ k, a.ownBlock = some k → b.ownBlock ≠ some k
structure Kz (B0 b : Nat) (w : World) (p : Nat) (s : Ps) (d : Dm) (T M : Nat → Prop) (V : List (Value × By)) (Z : Nat → Prop) : Prop where
  J : @Jn ⟨XV V Z⟩ T M w p b s d
  ob : ∀ q ∈ V, Ob 5 B0 w q.1 q.2
  nt : ∀ q ∈ V, ∀ k, q.1.ownBlock = some k → ¬ T k ∧ ¬ M k ∧ k ≠ b
  dj : (V.map (·.1)).Pairwise Sep
  lo : ∀ k, (T k ∨ M k ∨ k = b) → B0 ≤ k
  lw : B0 ≤ w.heap.size
section
variable {B0 b : Nat} {w w' : World} {p : Nat} {s : Ps} {d : Dm} {T M : Nat → Prop} {V V' : List (Value × By)} {Z : Nat → Prop}
theorem Kz.up (h : Kz B0 b w p s d T M V Z) (hb : Below w.heap.size w w') : Kz B0 b w' p s d T M V Z :=
  { h with J := @Jn.up ⟨_⟩ _ _ _ _ _ _ _ _ h.J hb, ob := fun q hq => own_keep (h.ob q hq) hb (Nat.le_refl _), lw := Nat.le_trans h.lw hb.size }
theorem Kz.lt (h : Kz B0 b w p s d T M V Z) : ∀ k, (T k ∨ M k ∨ k = b) → k < w.heap.size := fun k hk => by
  have h1 := @Jn.lt ⟨_⟩ _ _ _ _ _ _ _ h.J
  rcases hk with e | e | e
  · exact h1.2.2.1 k e
  · exact h1.2.2.2 k e
  · have := h1.2.1; omega
theorem own_ltw {B : Nat} {w : World} {v : Value} {l : By} (h : Ob 5 B w v l) {k : Nat} (hk : v.ownBlock = some k) : B ≤ k ∧ k < w.heap.size := by
  obtain ⟨h1, _, _, h2⟩ := own_typed h k hk
  exact ⟨h1, heap_lt h2⟩
theorem Kz.call (h : Kz B0 b w p s d T M V Z) {s' : Ps} {d' : Dm} (hj : @Jp ⟨XV V Z⟩ T M w p b s' d' w') : ∃ T' M', Kz B0 b w' p s' d' T' M' V Z ∧ (∀ k, (T' k ∨ M' k ∨ k = b) → (T k ∨ M k ∨ k = b) ∨ w.heap.size ≤ k) ∧ Wb (fun k => T k ∨ M k ∨ k = b) w w' := by
  obtain ⟨hw, T', M', hT, hM, hJ⟩ := hj
  refine ⟨T', M', { J := hJ, ob := fun q hq => own_wb (h.ob q hq) hw fun k hk e => ?_, nt := fun q hq k hk => ?_, dj := h.dj, lo := lo_up h.lo h.lw hT hM, lw := Nat.le_trans h.lw hw.size }, fun k hk => ?_, hw⟩
  · obtain ⟨h1, h2, h3⟩ := h.nt q hq k e.symm
    rcases hk with hk | hk | hk
    · exact h1 hk
    · exact h2 hk
    · exact h3 hk
  · obtain ⟨h1, h2, h3⟩ := h.nt q hq k hk
    have hlt := (own_ltw (h.ob q hq) hk).2
    exact ⟨fun e => (hT k e).elim h1 fun e => by omega, fun e => (hM k e).elim h2 fun e => by omega, h3⟩
  · rcases hk with e | e | e
    · exact (hT k e).imp .inl id
    · exact (hM k e).imp (fun e => .inr (.inl e)) id
    · exact .inl (.inr (.inr e))
/-- one more slice, made since -/
theorem Kz.add (h : Kz B0 b w p s d T M V Z) (hb : Below w.heap.size w w') {v : Value} {l : By} (ho : Ob 5 w.heap.size w' v l) {Z' : Nat → Prop} (hZ : ∀ k, Z' k → Z k ∨ (w.heap.size ≤ k ∧ k < w'.heap.size)) : Kz B0 b w' p s d T M ((v, l) :: V) Z' := by
  have hl := h.lt
  refine { J := Jn.re h.J hb (fun k hk => ?_) (fun k hk => ?_), ob := fun q hq => ?_, nt := fun q hq k hk => ?_, dj := ?_, lo := h.lo, lw := Nat.le_trans h.lw hb.size }
  · rcases hk with ⟨q, hq, e⟩ | hk
    · rcases List.mem_cons.1 hq with rfl | hq
      · exact .inr (own_ltw ho e).1
      · exact .inl (.inl ⟨q, hq, e⟩)
    · exact (hZ k hk).imp .inr fun h => h.1
  · rcases hk with ⟨q, hq, e⟩ | hk
    · rcases List.mem_cons.1 hq with rfl | hq
      · exact (own_ltw ho e).2
      · exact Nat.lt_of_lt_of_le (own_ltw (h.ob q hq) e).2 hb.size
    · rcases hZ k hk with hk | hk
      · exact Nat.lt_of_lt_of_le (@Jn.xlt ⟨_⟩ _ _ _ _ _ _ _ h.J k (.inr hk)) hb.size
      · exact hk.2
  · rcases List.mem_cons.1 hq with rfl | hq
    · exact own_mono ho h.lw
    · exact own_keep (h.ob q hq) hb (Nat.le_refl _)
  · rcases List.mem_cons.1 hq with rfl | hq
    · have h1 := (own_ltw ho hk).1
      exact ⟨fun e => by have := hl k (.inl e); omega, fun e => by have := hl k (.inr (.inl e)); omega, fun e => by have := hl k (.inr (.inr e)); omega⟩
    · exact h.nt q hq k hk
  · rw [List.map_cons]
    refine List.pairwise_cons.2 ⟨fun v' hv' k hk e => ?_, h.dj⟩
    obtain ⟨q, hq, rfl⟩ := List.mem_map.1 hv'
    have h1 := (own_ltw ho hk).1
    have h2 := (own_ltw (h.ob q hq) e).2
    omega
/-- slices are written -/
theorem Kz.wr (h : Kz B0 b w p s d T M V Z) {Y : Nat → Prop} (hw : Wb Y w w') (hY : ∀ k, Y k → ∃ q ∈ V, q.1.ownBlock = some k) (hs : ∀ q ∈ V', ∃ q' ∈ V, q'.1 = q.1) (hob : ∀ q ∈ V', Ob 5 B0 w' q.1 q.2) (hd : (V'.map (·.1)).Pairwise Sep) : Kz B0 b w' p s d T M V' Z := by
  have hX : ∀ k, XV V' Z k → XV V Z k := fun k hk => hk.imp (fun ⟨q, hq, e⟩ => by
    obtain ⟨q', hq', e'⟩ := hs q hq
    exact ⟨q', hq', by rw [e']; exact e⟩) id
  refine { J := Jn.side h.J hw (fun k hk => ?_) (fun k hk => .inl (hX k hk)) (fun k hk => Nat.lt_of_lt_of_le (@Jn.xlt ⟨_⟩ _ _ _ _ _ _ _ h.J k (hX k hk)) hw.size), ob := hob, nt := fun q hq k hk => ?_, dj := hd, lo := h.lo, lw := Nat.le_trans h.lw hw.size }
  · obtain ⟨q, hq, e⟩ := hY k hk
    obtain ⟨h1, h2, h3⟩ := h.nt q hq k e
    exact ⟨.inl ⟨q, hq, e⟩, h1, h2, h3⟩
  · obtain ⟨q', hq', e'⟩ := hs q hq
    exact h.nt q' hq' k (by rw [e']; exact hk)
/-- a page at hand is got -/
theorem Kz.get (h : Kz B0 b w p s d T M V Z) {C : Cx} {E : Int} {Q : Nat} {R : Al By} (hI : Iv C E Q R s d) (hE : E + 1 ≤ 100000) (id : Int) (hid : Wi id) (hh : (aget s.H id).isSome) :
    Calls Tryz.prog 18 #[.pointer (some ⟨p, 0, none⟩), .int .i64 id] w fun e w' => ∃ s' v' l T' M', aget R id = some l ∧ e = .returned (.tuple #[v', .int .i64 0]) ∧ Iv C (E + 1) Q R s' d ∧ (aget s'.H id).isSome ∧ Kz B0 b w' p s' d T' M' ((v', l) :: V) Z ∧ (∀ k, (T' k ∨ M' k ∨ k = b) → (T k ∨ M k ∨ k = b) ∨ w.heap.size ≤ k) ∧ Wb (fun k => T k ∨ M k ∨ k = b) w w' ∧ (∀ k, v'.ownBlock = some k → w.heap.size ≤ k) := by
  letI : Xcl := ⟨XV V Z⟩
  have hin : ∀ sl, aget s.S id = some sl → sl ≤ 1000000 ∧ (0 ≤ sl → sl.toNat * 512 + 512 ≤ (foz d.seen nmP).length) := fun sl hsl => by
    have h1 := (hI.sb _ (aget_mem hsl)).2.2.2
    have h2 := hI.gs.lp
    have h3 := hI.hQ
    simp only at h1
    exact ⟨by omega, fun h0 => by omega⟩
  refine (get_any (hv_iv C E hI.hE Q R s) hI.ok.hand (by omega) h.J ⟨hI, St.refl s⟩ id hid hin).mono ?_
  rintro e w' ⟨h1, h2, h3⟩
  obtain ⟨f, hf⟩ := Option.isSome_iff_exists.1 hh
  obtain ⟨sl, hsl⟩ := Option.isSome_iff_exists.1 (hI.ids id hh)
  obtain ⟨v', w5, he, hj, hb, ho⟩ := h2 sl f hsl hf
  obtain ⟨T', M', hk, hTM, hw⟩ := h.call hj
  refine ⟨_, v', f.data, T', M', hI.hot id f hf, he, hI.touch hf hE, ?_, hk.add hb ho (fun k hk => .inl hk), hTM, hw.trans (Wb.of_below _ hb), fun k hk => Nat.le_trans hw.size (own_ltw ho hk).1⟩
  show (aget (aput s.H id _) id).isSome
  rw [aget_put hI.sH, if_pos rfl]; rfl
end
theorem sep_of {vs : List Value} (h : vs.Pairwise Sep) : ∀ a b (ha : a < vs.length) (hb : b < vs.length), a ≠ b → ∀ k, vs[a].ownBlock = some k → vs[b].ownBlock ≠ some k := fun a b ha hb hne k hk => by
  rcases Nat.lt_or_gt_of_ne hne with h1 | h1
  · exact List.pairwise_iff_getElem.1 h a b ha hb h1 k hk
  · exact fun e => List.pairwise_iff_getElem.1 h b a hb ha h1 k e hk
end Go.Proofs.YtbmhkdcmepfmbaaGreat
set_option linter.unusedVariables false
set_option linter.unusedSimpArgs false
namespace Go.Proofs.YtbmhkdcmepfmbaaGreat
open Go.RowKit
attribute [local go_sem ↓] Go.wp_at_zero Go.wp_at_succ
theorem kz_nil {B0 b : Nat} {w : World} {p : Nat} {s : Ps} {d : Dm} {T M : Nat → Prop} (h : @Jn X0 T M w p b s d) (hlo : ∀ k, (T k ∨ M k ∨ k = b) → B0 ≤ k) (hlw : B0 ≤ w.heap.size) : Kz B0 b w p s d T M [] (fun _ => False) :=
  { J := Jn.re (X := fun _ => False) h (Below.refl _ _) (fun k hk => hk.elim (fun ⟨q, hq, _⟩ => by cases hq) .inl) (fun k hk => hk.elim (fun ⟨q, hq, _⟩ => by cases hq) False.elim), ob := fun q hq => (by cases hq), nt := fun q hq => (by cases hq), dj := List.Pairwise.nil, lo := hlo, lw := hlw }
theorem pre_bs {B g : Nat} {w : World} {l : By} (h : Ob 5 B w (.slice (some ⟨g, 0, none⟩) (l.length + 33) (l.length + 33)) (full l)) (hl : l.length ≤ lim) : Bs (fun k => k = g) w (.slice (some ⟨g, 0, none⟩) l.length (l.length + 33)) l := by
  refine ⟨⟨by simp, some ⟨g, 0, none⟩, l.length + 33, rfl, by omega, by simp, fun j u hj => ⟨g, 0, rfl, rfl, ?_⟩⟩, hl⟩
  have hjl : j < l.length := by
    have := (List.getElem?_eq_some_iff.1 hj).1
    simpa using this
  rw [bv_get l j hjl] at hj
  have h1 := h.cell j (by rw [full_len]; omega)
  rw [full_lo hjl] at h1
  rw [Nat.zero_add, h1, ← hj]
set_option maxRecDepth 100000 in
set_option maxHeartbeats 8000000 in
theorem keep_walk {w : World} {v : Value} {f : UInt8} {nt : By} (h : Bs (Lt w.heap.size) w v nt) : Calls Tryz.prog 3 #[v, .int .u8 (f.toNat : Int)] w fun e w' => e = .returned (.bool true) ∧ Below w.heap.size w w' := by
  obtain ⟨na, nc, rfl, -⟩ := h.at
  have HN := Hid.mk' h
  have HAW := Hid.mk' (awake_any w)
  have hnl : (nt.length : Int) ≤ 140737488351232 := by have := h.2; unfold lim at this; omega
  generalize hfn : (f.toNat : Int) = fn at *
  have HFN := Hid.mk' hfn
  clear h hfn
  go_enter Tryz.func3, Tryz.ntmps3
  go_wp2_with fail
  refine HAW.out.mono ?_
  rintro e w1 ⟨rfl, hb1⟩
  have HB1 := Hid.mk' hb1
  clear hb1 HAW
  by_cases hbig : 10000 < nt.length
  case pos =>
    have hbig' : (10000 : Int) < (nt.length : Int) := by omega
    go_wp2_with fail
    go_ret
    exact ⟨rfl, HB1.out⟩
  have hbig' : ¬ (10000 : Int) < (nt.length : Int) := by omega
  have HNL : Hid (nt.length ≤ 10000) := by show _ ≤ _; omega
  clear hbig
  have HNW := Hid.mk' (new_any w1 1048576)
  go_wp2_with fail
  refine HNW.out.mono ?_
  rintro e w2 ⟨rfl, hb2, hd2⟩
  have HB2 := Hid.mk' (HB1.out.trans (hb2.mono HB1.out.size))
  have HBL : Hid (w.heap.size ≤ w1.heap.size ∧ w1.heap.size < w2.heap.size) := ⟨HB1.out.size, hd2.blt⟩
  have hd2 : DrIs (fun _ => False) (fun _ => False) w2 w1.heap.size (dm0 1048576) := hd2
  have HOP := letI : Xcl := X0; Hid.mk' (vopen hd2 ⟨fun _ h => False.elim h, fun _ h => False.elim h, fun _ h => False.elim h⟩ (cx0_dv true 1048576 2 (by decide) (by decide)) 2 rfl)
  generalize w1.heap.size = b at *
  clear hd2 hb2 HNW
  go_wp2_with fail
  refine HOP.out.mono ?_
  rintro e w3 ⟨p, c, v3, T, ms, mf, ma, ff, nf, g, rfl, hJ, hI, hb3, hT, hc, ho3⟩
  obtain ⟨va, vc, rfl⟩ := own_sliceN ho3
  have hK3 : Kz w.heap.size b w3 p (s0k 2 []) (dm0 1048576) T (fun _ => False) [] (fun _ => False) := kz_nil (letI : Xcl := X0; hJ.jn) (fun k hk => by
    have h1 := HBL.out
    have h2 := HB2.out.size
    rcases hk with hk | hk | hk
    · have := hT k hk; omega
    · exact hk.elim
    · omega) (Nat.le_trans HB2.out.size hb3.size)
  have HI3 : Hid (Iv (cx0 true 1048576 2) 0 0 [] (s0k 2 []) (dm0 1048576)) := hI
  have HB3 := Hid.mk' (HB2.out.trans (hb3.mono HB2.out.size))
  have HAL := letI : Xcl := ⟨XV [] (fun _ => False)⟩; Hid.mk' (valloc hK3.J HI3.out (by decide))
  have HK3 := Hid.mk' hK3
  clear hJ hI hb3 hT hc ho3 HOP hK3
  go_wp2_with fail
  refine HAL.out.mono ?_
  rintro e w4 ⟨n, s4, rfl, -, -, hn0, hI4, -, hj4⟩
  obtain rfl : n = 0 := Nat.le_zero.1 hn0
  obtain ⟨T4, M4, hk4, -, hw4⟩ := HK3.out.call hj4
  have HK4 := Hid.mk' hk4
  have HI4 : Hid (Iv (cx0 true 1048576 2) 0 0 [(0, zer)] s4 (dm0 1048576)) := hI4
  have HB4 := Hid.mk' (HB3.out.trans (hw4.below HB3.out.size fun k hk => HK3.out.lo k hk))
  have HPG := Hid.mk' (page_any 0 0 0 f (.slice none 0 0) 0 0 (n := 512) (by decide) (by decide) w4)
  unfold actV at HPG
  rw [HFN.out] at HPG
  have hpl : (List.replicate 512 f).length = 512 := List.length_replicate ..
  generalize hpg : List.replicate 512 f = pg at *
  have HPL := Hid.mk' hpl
  clear hn0 hI4 hj4 hk4 hw4 hpl hpg HAL HK3 HI3
  go_wp2_with fail
  refine HPG.out.mono ?_
  rintro e w5 ⟨vp, rfl, hop, hb5⟩
  obtain ⟨pa, pc, rfl⟩ := own_sliceN hop
  have HSP := Hid.mk' (spare_any (hop.bs (by rw [HPL.out]; decide)) (by rw [HPL.out]; decide))
  have HB5 := Hid.mk' hb5
  clear hb5 hop HPG
  go_wp2_with fail
  refine HSP.out.mono ?_
  rintro e w6 ⟨rfl, ho6, hb6⟩
  have HO6 := Hid.mk' ho6
  have HB6 := Hid.mk' hb6
  have HB46 := Hid.mk' (bt HB5.out hb6)
  have HN6 := Hid.mk' (HN.out.up (HB4.out.trans (HB46.out.mono HB4.out.size)))
  have HSN := Hid.mk' (spare_any HN6.out (by have := HNL.out; omega))
  clear ho6 hb6 HSP
  go_wp2_with fail
  refine HSN.out.mono ?_
  rintro e w7 ⟨rfl, ho7, hb7⟩
  have hk7 := ((HK4.out.up HB5.out).add HB6.out HO6.out (Z' := fun _ => False) (fun k hk => .inl hk)).add hb7 ho7 (Z' := fun _ => False) (fun k hk => .inl hk)
  have HK7 := Hid.mk' hk7
  have HB47 := Hid.mk' (bt HB46.out hb7)
  have HB7 := Hid.mk' (HB4.out.trans (HB47.out.mono HB4.out.size))
  have hob7 := hk7.ob
  have hpx : Bs (fun k => k = w5.heap.size) w7 (.slice (some ⟨w5.heap.size, 0, none⟩) pg.length (pg.length + 33)) pg := pre_bs (hob7 _ (List.mem_cons_of_mem _ (List.mem_cons_self ..))) (by rw [HPL.out]; decide)
  have HPU := letI : Xcl := ⟨XV [(Value.slice (some ⟨w6.heap.size, 0, none⟩) (nt.length + 33) (nt.length + 33), full nt), (Value.slice (some ⟨w5.heap.size, 0, none⟩) (pg.length + 33) (pg.length + 33), full pg)] (fun _ => False)⟩; Hid.mk' (vput hk7.J HI4.out (by decide) (by decide) 0 (Wi.of (by decide) (by decide)) hpx)
  clear hk7 hb7 ho7 hob7 hpx HSN HK4 HB46 HN6
  go_wp2_with fail
  refine HPU.out.mono ?_
  rintro e w8 (⟨x, s8, d8, _, _, hjv, _⟩ | ⟨rfl, s8, d8, hI8, -, hh8, hj8⟩)
  · have := hjv.2.1; cases this
  have hpe : pE [(0, zer)] 0 pg = 0 := by
    unfold pE
    rw [if_pos (by rfl), if_pos HPL.out]
  have hpr : pR [(0, zer)] 0 pg = [(0, pg)] := by
    unfold pR
    rw [if_pos ⟨by rfl, HPL.out⟩]; rfl
  rw [hpe] at hh8 ⊢
  rw [hpr] at hI8
  obtain ⟨T8, M8, hk8, -, hw8⟩ := HK7.out.call hj8
  have HK8 := Hid.mk' hk8
  have HI8 := Hid.mk' hI8
  have HH8 := Hid.mk' (hh8 rfl)
  have HB8 := Hid.mk' (HB7.out.trans (hw8.below HB7.out.size fun k hk => HK7.out.lo k hk))
  have hnx : Bs (fun k => k = w6.heap.size) w8 (.slice (some ⟨w6.heap.size, 0, none⟩) nt.length (nt.length + 33)) nt := pre_bs (hk8.ob _ (List.mem_cons_self ..)) (by have := HNL.out; unfold lim; omega)
  have HSV := letI : Xcl := ⟨XV [(Value.slice (some ⟨w6.heap.size, 0, none⟩) (nt.length + 33) (nt.length + 33), full nt), (Value.slice (some ⟨w5.heap.size, 0, none⟩) (pg.length + 33) (pg.length + 33), full pg)] (fun _ => False)⟩; Hid.mk' (vsave hk8.J HI8.out hnx (fun k hk => by
    subst hk
    exact ⟨(own_ltw (hk8.ob _ (List.mem_cons_self ..)) rfl).2, hk8.nt _ (List.mem_cons_self ..) _ rfl⟩) HNL.out)
  clear hI8 hj8 hk8 hw8 hh8 hpe hpr hnx HPU HK7 HI4
  go_wp2_with fail
  refine HSV.out.mono ?_
  rintro e w9 (⟨_, S, s9, d9, _, hkd, _⟩ | ⟨rfl, S, s9, d9, hI9, hss, hj9⟩)
  · have := hkd.2.1; cases this
  obtain ⟨T9, M9, hk9, -, hw9⟩ := HK8.out.call hj9
  have HK9 := Hid.mk' hk9
  have HI9 := Hid.mk' hI9
  have HH9 : Hid ((aget s9.H 0).isSome) := by show (aget s9.H 0).isSome; rw [aget_keys hss.2.2.2]; exact HH8.out
  have HB9 := Hid.mk' (HB8.out.trans (hw9.below HB8.out.size fun k hk => HK8.out.lo k hk))
  have hpl33 : (full pg).length ≤ lim := by rw [full_len, HPL.out]; decide
  have hnl33 : (full nt).length ≤ lim := by rw [full_len]; have := HNL.out; unfold lim; omega
  have HF1 := Hid.mk' hpl33
  have HF2 := Hid.mk' hnl33
  have HKP := Hid.mk' (kept_any (Ob.bs (hk9.ob _ (List.mem_cons_of_mem _ (List.mem_cons_self ..))) hpl33) (pre_bs (hk9.ob _ (List.mem_cons_of_mem _ (List.mem_cons_self ..))) (by rw [HPL.out]; decide)) (by rw [HPL.out]; decide))
  clear hI9 hj9 hk9 hw9 hss hpl33 hnl33 HSV HK8 HI8 HH8
  go_wp2_with fail
  refine HKP.out.mono ?_
  rintro e w10 ⟨rfl, hb10⟩
  have HK10 := Hid.mk' (HK9.out.up hb10)
  have HB10 := Hid.mk' (HB9.out.trans (hb10.mono HB9.out.size))
  have HKN := Hid.mk' (kept_any (Ob.bs (HK10.out.ob _ (List.mem_cons_self ..)) HF2.out) (HN.out.up HB10.out) (by have := HNL.out; omega))
  clear hb10 HKP HK9
  go_wp2_with fail
  refine HKN.out.mono ?_
  rintro e w11 ⟨rfl, hb11⟩
  have HK11 := Hid.mk' (HK10.out.up hb11)
  have HB11 := Hid.mk' (HB10.out.trans (hb11.mono HB10.out.size))
  have HCP := Hid.mk' (copy_any _ pg w11 (pre_bs (HK11.out.ob _ (List.mem_cons_of_mem _ (List.mem_cons_self ..))) (by rw [HPL.out]; decide)))
  clear hb11 HKN HK10
  go_wp2_with fail
  refine HCP.out.mono ?_
  rintro e w12 ⟨vw, rfl, hb12, how⟩
  obtain ⟨wa, wc, rfl⟩ := own_sliceN how
  have hk12 := HK11.out.add hb12 how (Z' := fun _ => False) (fun k hk => .inl hk)
  have HK12 := Hid.mk' hk12
  have HB12 := Hid.mk' (HB11.out.trans (hb12.mono HB11.out.size))
  have HOV := Hid.mk' (over_pre (n := pg.length) (c := pg.length + 33) (g := w5.heap.size) (C := pg.length + 33) (l := full pg) (by rw [full_len]; exact hk12.ob _ (List.mem_cons_of_mem _ (List.mem_cons_of_mem _ (List.mem_cons_self ..)))) (by rw [full_len]; omega) HF1.out)
  clear hb12 how hk12 HCP HK11
  go_wp2_with fail
  refine HOV.out.mono ?_
  rintro e w13 ⟨rfl, ho13, hw13⟩
  rw [full_len] at ho13
  have hk12 := HK12.out
  have hdj := hk12.dj
  simp only [List.map_cons, List.map_nil, List.pairwise_cons, List.mem_cons, List.not_mem_nil, or_false, forall_eq_or_imp, forall_eq] at hdj
  have hs1 : ∀ k, k = w5.heap.size → some k ≠ (Value.slice wa pg.length wc).ownBlock := fun k hk e => by subst hk; exact hdj.1.2 _ e.symm rfl
  have hs2 : ∀ k, k = w5.heap.size → some k ≠ (Value.slice (some ⟨w6.heap.size, 0, none⟩) (nt.length + 33) (nt.length + 33)).ownBlock := fun k hk e => by subst hk; exact hdj.2.1 _ e.symm rfl
  have hk13 : Kz w.heap.size b w13 p s9 d9 T9 M9 [(Value.slice wa pg.length wc, pg), (Value.slice (some ⟨w6.heap.size, 0, none⟩) (nt.length + 33) (nt.length + 33), full nt), (Value.slice (some ⟨w5.heap.size, 0, none⟩) (pg.length + 33) (pg.length + 33), ovr pg.length (full pg))] (fun _ => False) :=
    hk12.wr hw13 (fun k hk => ⟨_, List.mem_cons_of_mem _ (List.mem_cons_of_mem _ (List.mem_cons_self ..)), by have hk : k = w5.heap.size := hk; subst hk; rfl⟩) (fun q hq => by
      simp only [List.mem_cons, List.not_mem_nil, or_false] at hq
      rcases hq with rfl | rfl | rfl
      · exact ⟨_, List.mem_cons_self .., rfl⟩
      · exact ⟨_, List.mem_cons_of_mem _ (List.mem_cons_self ..), rfl⟩
      · exact ⟨_, List.mem_cons_of_mem _ (List.mem_cons_of_mem _ (List.mem_cons_self ..)), rfl⟩) (fun q hq => by
      simp only [List.mem_cons, List.not_mem_nil, or_false] at hq
      rcases hq with rfl | rfl | rfl
      · exact own_wb (hk12.ob _ (List.mem_cons_self ..)) hw13 hs1
      · exact own_wb (hk12.ob _ (List.mem_cons_of_mem _ (List.mem_cons_self ..))) hw13 hs2
      · exact ho13) hk12.dj
  have HK13 := Hid.mk' hk13
  have HB13 := Hid.mk' (HB12.out.trans (hw13.below HB12.out.size fun k hk => by have hk : k = w5.heap.size := hk; subst hk; exact (own_ltw (hk12.ob _ (List.mem_cons_of_mem _ (List.mem_cons_of_mem _ (List.mem_cons_self ..)))) rfl).1))
  have HOV2 := Hid.mk' (over_pre (n := nt.length) (c := nt.length + 33) (g := w6.heap.size) (C := nt.length + 33) (l := full nt) (by rw [full_len]; exact hk13.ob _ (List.mem_cons_of_mem _ (List.mem_cons_self ..))) (by rw [full_len]; omega) HF2.out)
  clear ho13 hw13 hk12 hdj hs1 hs2 hk13 HOV HK12
  go_wp2_with fail
  refine HOV2.out.mono ?_
  rintro e w14 ⟨rfl, ho14, hw14⟩
  rw [full_len] at ho14
  have hk13 := HK13.out
  have hdj := hk13.dj
  simp only [List.map_cons, List.map_nil, List.pairwise_cons, List.mem_cons, List.not_mem_nil, or_false, forall_eq_or_imp, forall_eq] at hdj
  have hs1 : ∀ k, k = w6.heap.size → some k ≠ (Value.slice wa pg.length wc).ownBlock := fun k hk e => by subst hk; exact hdj.1.1 _ e.symm rfl
  have hs2 : ∀ k, k = w6.heap.size → some k ≠ (Value.slice (some ⟨w5.heap.size, 0, none⟩) (pg.length + 33) (pg.length + 33)).ownBlock := fun k hk e => by subst hk; exact hdj.2.1 _ rfl e.symm
  have hk14 : Kz w.heap.size b w14 p s9 d9 T9 M9 [(Value.slice wa pg.length wc, pg), (Value.slice (some ⟨w6.heap.size, 0, none⟩) (nt.length + 33) (nt.length + 33), ovr nt.length (full nt)), (Value.slice (some ⟨w5.heap.size, 0, none⟩) (pg.length + 33) (pg.length + 33), ovr pg.length (full pg))] (fun _ => False) :=
    hk13.wr hw14 (fun k hk => ⟨_, List.mem_cons_of_mem _ (List.mem_cons_self ..), by have hk : k = w6.heap.size := hk; subst hk; rfl⟩) (fun q hq => by
      simp only [List.mem_cons, List.not_mem_nil, or_false] at hq
      rcases hq with rfl | rfl | rfl
      · exact ⟨_, List.mem_cons_self .., rfl⟩
      · exact ⟨_, List.mem_cons_of_mem _ (List.mem_cons_self ..), rfl⟩
      · exact ⟨_, List.mem_cons_of_mem _ (List.mem_cons_of_mem _ (List.mem_cons_self ..)), rfl⟩) (fun q hq => by
      simp only [List.mem_cons, List.not_mem_nil, or_false] at hq
      rcases hq with rfl | rfl | rfl
      · exact own_wb (hk13.ob _ (List.mem_cons_self ..)) hw14 hs1
      · exact ho14
      · exact own_wb (hk13.ob _ (List.mem_cons_of_mem _ (List.mem_cons_of_mem _ (List.mem_cons_self ..)))) hw14 hs2) hk13.dj
  have HK14 := Hid.mk' hk14
  have HB14 := Hid.mk' (HB13.out.trans (hw14.below HB13.out.size fun k hk => by have hk : k = w6.heap.size := hk; subst hk; exact (own_ltw (hk13.ob _ (List.mem_cons_of_mem _ (List.mem_cons_self ..))) rfl).1))
  have HG1 := Hid.mk' (hk14.get HI9.out (by decide) 0 (Wi.of (by decide) (by decide)) HH9.out)
  clear ho14 hw14 hk13 hdj hs1 hs2 hk14 HOV2 HK13
  go_wp2_with fail
  refine HG1.out.mono ?_
  rintro e w15 ⟨s15, va', l15, T15, M15, hl15, rfl, hI15, hh15, hk15, -, hw15, -⟩
  obtain rfl : pg = l15 := by
    have h : some pg = some l15 := hl15
    exact Option.some.inj h
  obtain ⟨aa, ac', rfl⟩ : ∃ a c, va' = .slice a pg.length c := own_sliceN (hk15.ob _ (List.mem_cons_self ..))
  have HK15 := Hid.mk' hk15
  have HI15 := Hid.mk' hI15
  have HB15 := Hid.mk' (HB14.out.trans (hw15.below HB14.out.size fun k hk => HK14.out.lo k hk))
  have HG2 := Hid.mk' (hk15.get HI15.out (by decide) 0 (Wi.of (by decide) (by decide)) hh15)
  clear hl15 hI15 hh15 hk15 hw15 HG1 HK14 HI9
  go_wp2_with fail
  refine HG2.out.mono ?_
  rintro e w16 ⟨s16, vb', l16, T16, M16, hl16, rfl, hI16, hh16, hk16, -, hw16, -⟩
  obtain rfl : pg = l16 := by
    have h : some pg = some l16 := hl16
    exact Option.some.inj h
  obtain ⟨ba, bc, rfl⟩ : ∃ a c, vb' = .slice a pg.length c := own_sliceN (hk16.ob _ (List.mem_cons_self ..))
  have HK16 := Hid.mk' hk16
  have HI16 := Hid.mk' hI16
  have HH16 := Hid.mk' hh16
  have HB16 := Hid.mk' (HB15.out.trans (hw16.below HB15.out.size fun k hk => HK15.out.lo k hk))
  clear hl16 hI16 hh16 hw16 HG2 HK15 HI15 hk16
  obtain ⟨D16, Dd16, ms', mf', ma', ff', nf', g', hJ16⟩ := @Jn.jx ⟨_⟩ _ _ _ _ _ _ _ HK16.out.J
  have hxo := @Jx.xo ⟨_⟩ _ _ _ _ _ _ _ _ _ _ _ _ _ _ _ hJ16
  have HOP := letI : Xcl := ⟨XV [(Value.slice ba pg.length bc, pg), (Value.slice aa pg.length ac', pg), (Value.slice wa pg.length wc, pg), (Value.slice (some ⟨w6.heap.size, 0, none⟩) (nt.length + 33) (nt.length + 33), ovr nt.length (full nt)), (Value.slice (some ⟨w5.heap.size, 0, none⟩) (pg.length + 33) (pg.length + 33), ovr pg.length (full pg))] (fun _ => False)⟩; Hid.mk' (vopen (@Jx.Dr ⟨_⟩ _ _ _ _ _ _ _ _ _ _ _ _ _ _ _ hJ16) ⟨hxo.1, fun _ h => False.elim h, hxo.2.2⟩ HI16.out.dv 2 rfl)
  clear hJ16 hxo
  go_wp2_with fail
  refine HOP.out.mono ?_
  rintro e w17 ⟨p17, c17, v17, T17, ms7, mf7, ma7, ff7, nf7, g7, rfl, hJ17, hI17, hb17, hT17, hc17, ho17⟩
  obtain ⟨oa, oc, rfl⟩ : ∃ a c, v17 = .slice a nt.length c := own_sliceN ho17
  have HP17 : Hid (Pi T17 (fun _ => False) w17 p17 b (s0k 2 S) ms7 mf7 ma7 ff7 nf7 g7) := @Jx.P ⟨_⟩ _ _ _ _ _ _ _ _ _ _ _ _ _ _ _ hJ17
  have HNF : Hid (nf7 ≤ 100000) := @Jx.nf ⟨_⟩ _ _ _ _ _ _ _ _ _ _ _ _ _ _ _ hJ17
  have HTM : Hid (∀ k, T17 k → ¬ M16 k ∧ k ≠ b) := @Jx.tm ⟨_⟩ _ _ _ _ _ _ _ _ _ _ _ _ _ _ _ hJ17
  have HI17 : Hid (Iv ((cx0 true 1048576 2).save S [(0, pg)] nt) 0 1 [(0, pg)] (s0k 2 S) d9) := hI17
  have HT17 : Hid (∀ k, T17 k → w16.heap.size ≤ k ∧ k < c17 ∧ k < w17.heap.size) := fun k hk => ⟨(hT17 k hk).1, (hT17 k hk).2, HP17.out.hT k hk⟩
  have HO17 := Hid.mk' ho17
  have hk17 := HK16.out.add hb17 (own_mono ho17 hc17) (Z' := T17) (fun k hk => .inr ⟨(HT17.out k hk).1, (HT17.out k hk).2.2⟩)
  have HK17 := Hid.mk' hk17
  have HB17 := Hid.mk' (HB16.out.trans (hb17.mono HB16.out.size))
  have HB67 := Hid.mk' hb17
  obtain ⟨D17, Dd17, ms8, mf8, ma8, ff8, nf8, g8, hJ17b⟩ := @Jn.jx ⟨_⟩ _ _ _ _ _ _ _ hk17.J
  have hxo := @Jx.xo ⟨_⟩ _ _ _ _ _ _ _ _ _ _ _ _ _ _ _ hJ17b
  have HOP2 := letI : Xcl := ⟨XV [(Value.slice oa nt.length oc, nt), (Value.slice ba pg.length bc, pg), (Value.slice aa pg.length ac', pg), (Value.slice wa pg.length wc, pg), (Value.slice (some ⟨w6.heap.size, 0, none⟩) (nt.length + 33) (nt.length + 33), ovr nt.length (full nt)), (Value.slice (some ⟨w5.heap.size, 0, none⟩) (pg.length + 33) (pg.length + 33), ovr pg.length (full pg))] T17⟩; Hid.mk' (vopen (@Jx.Dr ⟨_⟩ _ _ _ _ _ _ _ _ _ _ _ _ _ _ _ hJ17b) ⟨hxo.1, fun _ h => False.elim h, hxo.2.2⟩ HI16.out.dv 2 rfl)
  clear hJ17b hxo hJ17 hI17 hb17 hT17 hc17 ho17 hk17 HOP
  go_wp2_with fail
  refine HOP2.out.mono ?_
  rintro e w18 ⟨p18, c18, v18, T18, ms9, mf9, ma9, ff9, nf9, g9, rfl, -, -, hb18, -, hc18, ho18⟩
  obtain ⟨ta, tc, rfl⟩ : ∃ a c, v18 = .slice a nt.length c := own_sliceN ho18
  have HO18 : Hid (Ob 5 w17.heap.size w18 (.slice ta nt.length tc) nt) := own_mono ho18 hc18
  have hk18 := HK17.out.add hb18 (own_mono ho18 hc18) (Z' := T17) (fun k hk => .inl hk)
  have HK18 := Hid.mk' hk18
  have HB18 := Hid.mk' (HB17.out.trans (hb18.mono HB17.out.size))
  have HB78 := Hid.mk' hb18
  have hpl : pg.length ≤ lim := by rw [HPL.out]; decide
  have hnl2 : nt.length ≤ lim := by have := HNL.out; unfold lim; omega
  have HPL2 := Hid.mk' hpl
  have HNL2 := Hid.mk' hnl2
  have HE1 : Hid (Calls Tryz.prog 19 #[.slice aa pg.length ac', .slice wa pg.length wc] w18 fun e w' => e = .returned (.bool true) ∧ Dn w18 w') := (requal_any _ _ pg pg w18 (Ob.bs (hk18.ob _ (List.mem_cons_of_mem _ (List.mem_cons_of_mem _ (List.mem_cons_of_mem _ (List.mem_cons_self ..))))) hpl) (Ob.bs (hk18.ob _ (List.mem_cons_of_mem _ (List.mem_cons_of_mem _ (List.mem_cons_of_mem _ (List.mem_cons_of_mem _ (List.mem_cons_self ..)))))) hpl)).mono fun e w' h => ⟨by rw [h.1]; simp, h.2⟩
  have HE2 : Hid (∀ w', Dn w18 w' → Calls Tryz.prog 19 #[.slice oa nt.length oc, .slice na nt.length nc] w' fun e w'' => e = .returned (.bool true) ∧ Dn w' w'') := fun w' hd => (requal_any _ _ nt nt w' ((Ob.bs (hk18.ob _ (List.mem_cons_of_mem _ (List.mem_cons_self ..))) hnl2).up (hd.below _)) ((HN.out.up HB18.out).up (hd.below _))).mono fun e w'' h => ⟨by rw [h.1]; simp, h.2⟩
  clear hb18 hc18 ho18 hk18 hpl hnl2 HOP2 HK17
  go_wp2_with fail
  refine HE1.out.mono ?_
  rintro e w19 ⟨rfl, hd19⟩
  have HD19 := Hid.mk' hd19
  have HE2' := Hid.mk' (HE2.out w19 hd19)
  clear hd19
  go_wp2_with fail
  refine HE2'.out.mono ?_
  rintro e w20 ⟨rfl, hd20⟩
  have HD20 : Hid (Below w18.heap.size w18 w20) := (HD19.out.trans hd20).below _
  obtain ⟨W21, hW21⟩ : ∃ W, W = w20.alloc (.cells #[.slice (some ⟨w5.heap.size, 0, none⟩) (pg.length + 33) (pg.length + 33), .slice (some ⟨w6.heap.size, 0, none⟩) (nt.length + 33) (nt.length + 33), .slice aa pg.length ac', .slice ba pg.length bc, .slice oa nt.length oc, .slice ta nt.length tc] 22) := ⟨_, rfl⟩
  have hb21 : Below w18.heap.size w18 W21 := by rw [hW21]; exact bt HD20.out (up_alloc _ _)
  have hx21 : W21.heap[w20.heap.size]? = some (.cells #[.slice (some ⟨w5.heap.size, 0, none⟩) (pg.length + 33) (pg.length + 33), .slice (some ⟨w6.heap.size, 0, none⟩) (nt.length + 33) (nt.length + 33), .slice aa pg.length ac', .slice ba pg.length bc, .slice oa nt.length oc, .slice ta nt.length tc] 22 (0, 0)) := by rw [hW21]; exact heap_alloc_new _ _
  have hk21 := HK18.out.up hb21
  have hdj := hk21.dj
  simp only [List.map_cons, List.map_nil, List.pairwise_cons, List.mem_cons, List.not_mem_nil, or_false, forall_eq_or_imp, forall_eq] at hdj
  have HDJ := Hid.mk' hdj
  have hsep : ([.slice (some ⟨w5.heap.size, 0, none⟩) (pg.length + 33) (pg.length + 33), .slice (some ⟨w6.heap.size, 0, none⟩) (nt.length + 33) (nt.length + 33), .slice aa pg.length ac', .slice ba pg.length bc, .slice oa nt.length oc, .slice ta nt.length tc] : List Value).Pairwise Sep := by
    have sy : ∀ {a b : Value}, Sep a b → Sep b a := fun h k hk e => h k e hk
    simp only [List.pairwise_cons, List.mem_cons, List.not_mem_nil, or_false, forall_eq_or_imp, forall_eq]
    obtain ⟨⟨t1, t2, t3, t4, t5, t6⟩, ⟨o1, o2, o3, o4, o5⟩, ⟨b1, b2, b3, b4⟩, ⟨a1, a2, a3⟩, ⟨w1, w2⟩, n1, -⟩ := hdj
    refine ⟨⟨sy n1, sy a3, sy b4, sy o5, sy t6⟩, ⟨sy a2, sy b3, sy o4, sy t5⟩, ⟨sy b1, sy o2, sy t3⟩, ⟨sy o1, sy t2⟩, sy t1, by simp, by simp⟩
  have HAP := Hid.mk' (apart_fm (B := w.heap.size) (ob := w20.heap.size) (w := W21) (vs := [.slice (some ⟨w5.heap.size, 0, none⟩) (pg.length + 33) (pg.length + 33), .slice (some ⟨w6.heap.size, 0, none⟩) (nt.length + 33) (nt.length + 33), .slice aa pg.length ac', .slice ba pg.length bc, .slice oa nt.length oc, .slice ta nt.length tc]) (F := fun j => match j with | 0 => ovr pg.length (full pg) | 1 => ovr nt.length (full nt) | 2 => pg | 3 => pg | 4 => nt | 5 => nt | _ => []) hx21 (fun j hj => by
    match j, hj with
    | 0, _ => exact hk21.ob _ (List.mem_cons_of_mem _ (List.mem_cons_of_mem _ (List.mem_cons_of_mem _ (List.mem_cons_of_mem _ (List.mem_cons_of_mem _ (List.mem_cons_of_mem _ (List.mem_cons_self ..)))))))
    | 1, _ => exact hk21.ob _ (List.mem_cons_of_mem _ (List.mem_cons_of_mem _ (List.mem_cons_of_mem _ (List.mem_cons_of_mem _ (List.mem_cons_of_mem _ (List.mem_cons_self ..))))))
    | 2, _ => exact hk21.ob _ (List.mem_cons_of_mem _ (List.mem_cons_of_mem _ (List.mem_cons_of_mem _ (List.mem_cons_self ..))))
    | 3, _ => exact hk21.ob _ (List.mem_cons_of_mem _ (List.mem_cons_of_mem _ (List.mem_cons_self ..)))
    | 4, _ => exact hk21.ob _ (List.mem_cons_of_mem _ (List.mem_cons_self ..))
    | 5, _ => exact hk21.ob _ (List.mem_cons_self ..)) (sep_of hsep) hk21.lw (by simp) (fun j => by
    have h1 := HPL.out
    have h2 := HNL.out
    match j with
    | 0 => simp only [ovr_len, full_len]; omega
    | 1 => simp only [ovr_len, full_len]; omega
    | 2 => simp only; omega
    | 3 => simp only; omega
    | 4 => simp only; omega
    | 5 => simp only; omega
    | _ + 6 => simp))
  have HK21 := Hid.mk' hk21
  have HB21 := Hid.mk' (HB18.out.trans (hb21.mono HB18.out.size))
  have HB81 := Hid.mk' hb21
  have HW21 := Hid.mk' hW21
  simp only [List.length_cons, List.length_nil, Nat.zero_add, Nat.reduceAdd] at HAP
  clear hd20 hb21 hx21 hk21 hdj hsep hW21 HE1 HE2 HE2' HD19 HD20
  go_wp2_with fail
  rw [← HW21.out]
  refine HAP.out.mono ?_
  rintro e w22 ⟨rfl, hfm⟩
  have hk21 := HK21.out
  have hwf : Wb (fun k => ∃ j, ∃ h : j < ([.slice (some ⟨w5.heap.size, 0, none⟩) (pg.length + 33) (pg.length + 33), .slice (some ⟨w6.heap.size, 0, none⟩) (nt.length + 33) (nt.length + 33), .slice aa pg.length ac', .slice ba pg.length bc, .slice oa nt.length oc, .slice ta nt.length tc] : List Value).length, ([.slice (some ⟨w5.heap.size, 0, none⟩) (pg.length + 33) (pg.length + 33), .slice (some ⟨w6.heap.size, 0, none⟩) (nt.length + 33) (nt.length + 33), .slice aa pg.length ac', .slice ba pg.length bc, .slice oa nt.length oc, .slice ta nt.length tc] : List Value)[j].ownBlock = some k) W21 w22 := ⟨hfm.1.os, hfm.1.tape, hfm.1.output, hfm.1.size, fun k hk hx => hfm.2 k hk fun j h e => hx ⟨j, h, e⟩⟩
  have hnw : ∀ k, (∃ j, ∃ h : j < ([.slice (some ⟨w5.heap.size, 0, none⟩) (pg.length + 33) (pg.length + 33), .slice (some ⟨w6.heap.size, 0, none⟩) (nt.length + 33) (nt.length + 33), .slice aa pg.length ac', .slice ba pg.length bc, .slice oa nt.length oc, .slice ta nt.length tc] : List Value).length, ([.slice (some ⟨w5.heap.size, 0, none⟩) (pg.length + 33) (pg.length + 33), .slice (some ⟨w6.heap.size, 0, none⟩) (nt.length + 33) (nt.length + 33), .slice aa pg.length ac', .slice ba pg.length bc, .slice oa nt.length oc, .slice ta nt.length tc] : List Value)[j].ownBlock = some k) → some k ≠ (Value.slice wa pg.length wc).ownBlock := fun k ⟨j, hj, e⟩ e2 => by
    obtain ⟨⟨t1, t2, t3, t4, t5, t6⟩, ⟨o1, o2, o3, o4, o5⟩, ⟨b1, b2, b3, b4⟩, ⟨a1, a2, a3⟩, ⟨w1', w2'⟩, n1, -⟩ := HDJ.out
    match j, hj, e with
    | 0, _, e => exact w2' k e2.symm e
    | 1, _, e => exact w1' k e2.symm e
    | 2, _, e => exact a1 k e e2.symm
    | 3, _, e => exact b2 k e e2.symm
    | 4, _, e => exact o3 k e e2.symm
    | 5, _, e => exact t4 k e e2.symm
  have hny : ∀ k, (∃ j, ∃ h : j < ([.slice (some ⟨w5.heap.size, 0, none⟩) (pg.length + 33) (pg.length + 33), .slice (some ⟨w6.heap.size, 0, none⟩) (nt.length + 33) (nt.length + 33), .slice aa pg.length ac', .slice ba pg.length bc, .slice oa nt.length oc, .slice ta nt.length tc] : List Value).length, ([.slice (some ⟨w5.heap.size, 0, none⟩) (pg.length + 33) (pg.length + 33), .slice (some ⟨w6.heap.size, 0, none⟩) (nt.length + 33) (nt.length + 33), .slice aa pg.length ac', .slice ba pg.length bc, .slice oa nt.length oc, .slice ta nt.length tc] : List Value)[j].ownBlock = some k) → ∃ q ∈ [(Value.slice ta nt.length tc, nt), (Value.slice oa nt.length oc, nt), (Value.slice ba pg.length bc, pg), (Value.slice aa pg.length ac', pg), (Value.slice wa pg.length wc, pg), (Value.slice (some ⟨w6.heap.size, 0, none⟩) (nt.length + 33) (nt.length + 33), ovr nt.length (full nt)), (Value.slice (some ⟨w5.heap.size, 0, none⟩) (pg.length + 33) (pg.length + 33), ovr pg.length (full pg))], q.1.ownBlock = some k := fun k ⟨j, hj, e⟩ => by
    match j, hj, e with
    | 0, _, e => exact ⟨_, (List.mem_cons_of_mem _ (List.mem_cons_of_mem _ (List.mem_cons_of_mem _ (List.mem_cons_of_mem _ (List.mem_cons_of_mem _ (List.mem_cons_of_mem _ (List.mem_cons_self ..))))))), e⟩
    | 1, _, e => exact ⟨_, (List.mem_cons_of_mem _ (List.mem_cons_of_mem _ (List.mem_cons_of_mem _ (List.mem_cons_of_mem _ (List.mem_cons_of_mem _ (List.mem_cons_self ..)))))), e⟩
    | 2, _, e => exact ⟨_, (List.mem_cons_of_mem _ (List.mem_cons_of_mem _ (List.mem_cons_of_mem _ (List.mem_cons_self ..)))), e⟩
    | 3, _, e => exact ⟨_, (List.mem_cons_of_mem _ (List.mem_cons_of_mem _ (List.mem_cons_self ..))), e⟩
    | 4, _, e => exact ⟨_, (List.mem_cons_of_mem _ (List.mem_cons_self ..)), e⟩
    | 5, _, e => exact ⟨_, (List.mem_cons_self ..), e⟩
  have hnq : ∀ k, (∃ j, ∃ h : j < ([.slice (some ⟨w5.heap.size, 0, none⟩) (pg.length + 33) (pg.length + 33), .slice (some ⟨w6.heap.size, 0, none⟩) (nt.length + 33) (nt.length + 33), .slice aa pg.length ac', .slice ba pg.length bc, .slice oa nt.length oc, .slice ta nt.length tc] : List Value).length, ([.slice (some ⟨w5.heap.size, 0, none⟩) (pg.length + 33) (pg.length + 33), .slice (some ⟨w6.heap.size, 0, none⟩) (nt.length + 33) (nt.length + 33), .slice aa pg.length ac', .slice ba pg.length bc, .slice oa nt.length oc, .slice ta nt.length tc] : List Value)[j].ownBlock = some k) → ¬ T17 k := fun k ⟨j, hj, e⟩ ht => by
    have h1 := HT17.out k ht
    have h16 := HK16.out.ob
    match j, hj, e with
    | 0, _, e => have := (own_ltw (h16 _ (List.mem_cons_of_mem _ (List.mem_cons_of_mem _ (List.mem_cons_of_mem _ (List.mem_cons_of_mem _ (List.mem_cons_self ..)))))) e).2; omega
    | 1, _, e => have := (own_ltw (h16 _ (List.mem_cons_of_mem _ (List.mem_cons_of_mem _ (List.mem_cons_of_mem _ (List.mem_cons_self ..))))) e).2; omega
    | 2, _, e => have := (own_ltw (h16 _ (List.mem_cons_of_mem _ (List.mem_cons_self ..))) e).2; omega
    | 3, _, e => have := (own_ltw (h16 _ (List.mem_cons_self ..)) e).2; omega
    | 4, _, e => have := (own_ltw HO17.out e).1; omega
    | 5, _, e => have := (own_ltw HO18.out e).1; omega
  have hk22 : Kz w.heap.size b w22 p s16 d9 T16 M16 [(Value.slice wa pg.length wc, pg)] T17 := hk21.wr hwf hny (fun q hq => ⟨q, by
      simp only [List.mem_cons, List.not_mem_nil, or_false] at hq
      subst hq
      exact (List.mem_cons_of_mem _ (List.mem_cons_of_mem _ (List.mem_cons_of_mem _ (List.mem_cons_of_mem _ (List.mem_cons_self ..))))), rfl⟩) (fun q hq => by
      simp only [List.mem_cons, List.not_mem_nil, or_false] at hq
      subst hq
      exact own_wb (hk21.ob _ (List.mem_cons_of_mem _ (List.mem_cons_of_mem _ (List.mem_cons_of_mem _ (List.mem_cons_of_mem _ (List.mem_cons_self ..)))))) hwf hnw) (by simp)
  have HP22 : Hid (Pi T17 (fun _ => False) w22 p17 b (s0k 2 S) ms7 mf7 ma7 ff7 nf7 g7) := ((HP17.out.up HB78.out).up HB81.out).keep hwf fun k hk => ⟨hnq k hk, fun h => h⟩
  have HK22 := Hid.mk' hk22
  have HB22 := Hid.mk' (HB21.out.trans hfm.1)
  have HB2122 : Hid (W21.heap.size ≤ w22.heap.size) := hfm.1.size
  have HG3 := Hid.mk' (hk22.get HI16.out (by decide) 0 (Wi.of (by decide) (by decide)) HH16.out)
  clear hk21 hwf hnw hny hnq hk22 hfm HAP HK21 HK18
  go_wp2_with fail
  refine HG3.out.mono ?_
  rintro e w23 ⟨s23, vc', l23, T23, M23, hl23, rfl, -, -, hk23, hTM23, hw23, hvc⟩
  obtain rfl : pg = l23 := by
    have h : some pg = some l23 := hl23
    exact Option.some.inj h
  obtain ⟨ca, cc, rfl⟩ : ∃ a c, vc' = .slice a pg.length c := own_sliceN (hk23.ob _ (List.mem_cons_self ..))
  have HK23 := Hid.mk' hk23
  have HVC : Hid (∀ k, (Value.slice ca pg.length cc).ownBlock = some k → w17.heap.size ≤ k) := fun k hk => Nat.le_trans (Nat.le_trans HB78.out.size (Nat.le_trans HB81.out.size HB2122.out)) (hvc k hk)
  have HB23 := Hid.mk' (HB22.out.trans (hw23.below HB22.out.size fun k hk => HK22.out.lo k hk))
  have hlt16 := HK16.out.lt
  have hs22 : w17.heap.size ≤ w22.heap.size := Nat.le_trans HB78.out.size (Nat.le_trans HB81.out.size HB2122.out)
  have hpq : Pi T17 (fun _ => False) w23 p17 b (s0k 2 S) ms7 mf7 ma7 ff7 nf7 g7 := HP22.out.keep hw23 fun k hk => ⟨fun ht => by
    have h1 := HT17.out k ht
    have h2 := hlt16 k hk
    omega, fun h => h⟩
  obtain ⟨D23, Dd23, ms3, mf3, ma3, ff3, nf3, g3, hJ23⟩ := @Jn.jx ⟨_⟩ _ _ _ _ _ _ _ hk23.J
  have hxo := @Jx.xo ⟨_⟩ _ _ _ _ _ _ _ _ _ _ _ _ _ _ _ hJ23
  have hjq : @Jn X0 T17 M23 w23 p17 b (s0k 2 S) d9 := @Jn.mk X0 _ _ _ _ _ _ _ ⟨fun _ => False, Dd23, ms7, mf7, ma7, ff7, nf7, g7, hpq, @Jx.Dr ⟨_⟩ _ _ _ _ _ _ _ _ _ _ _ _ _ _ _ hJ23, HNF.out, fun k hk => hk.elim, fun k hk ht => hxo.2.2 k hk (.inr ht), fun k hk => hk.elim, fun k hk => hk.elim, fun k _ hk => hk⟩ (fun k hk => by
    have h1 := HT17.out k hk
    refine ⟨fun e => ?_, (HTM.out k hk).2⟩
    rcases hTM23 k (.inr (.inl e)) with h | h
    · have := hlt16 k h; omega
    · omega)
  have HG4 := letI : Xcl := X0; Hid.mk' (cget hjq HI17.out rfl (by decide) 0 (Wi.of (by decide) (by decide)))
  clear hl23 hvc hk23 hTM23 hlt16 hs22 hpq hJ23 hxo hjq HG3 HK22 HP22
  go_wp2_with fail
  refine HG4.out.mono ?_
  rintro e w24 ⟨s24, d24, v24, w25, rfl, -, -, -, -, -, hj25, hb25, ho24⟩
  obtain ⟨ka, kc, rfl⟩ : ∃ a c, v24 = .slice a pg.length c := own_sliceN ho24
  have hw24 : Wb (fun k => T17 k ∨ M23 k ∨ k = b) w23 w24 := (letI : Xcl := X0; hj25.1).trans (Wb.of_below _ hb25)
  have hkk := HK23.out
  have hsep2 : ∀ q ∈ [(Value.slice ca pg.length cc, pg), (Value.slice wa pg.length wc, pg)], ∀ k, (T17 k ∨ M23 k ∨ k = b) → some k ≠ q.1.ownBlock := fun q hq k hk e => by
    rcases hk with hk | hk
    · have h1 := HT17.out k hk
      simp only [List.mem_cons, List.not_mem_nil, or_false] at hq
      rcases hq with rfl | rfl
      · have := HVC.out k e.symm; omega
      · have := (own_ltw (HK16.out.ob _ (List.mem_cons_of_mem _ (List.mem_cons_of_mem _ (List.mem_cons_self ..)))) e.symm).2; omega
    · obtain ⟨h1, h2, h3⟩ := hkk.nt q hq k e.symm
      rcases hk with hk | hk
      · exact h2 hk
      · exact h3 hk
  have HE1 : Hid (Calls Tryz.prog 19 #[.slice ca pg.length cc, .slice wa pg.length wc] w24 fun e w' => e = .returned (.bool true) ∧ Dn w24 w') := (requal_any _ _ pg pg w24 (Ob.bs (own_wb (hkk.ob _ (List.mem_cons_self ..)) hw24 (hsep2 _ (List.mem_cons_self ..))) HPL2.out) (Ob.bs (own_wb (hkk.ob _ (List.mem_cons_of_mem _ (List.mem_cons_self ..))) hw24 (hsep2 _ (List.mem_cons_of_mem _ (List.mem_cons_self ..)))) HPL2.out)).mono fun e w' h => ⟨by rw [h.1]; simp, h.2⟩
  have HE2 : Hid (∀ w', Dn w24 w' → Calls Tryz.prog 19 #[.slice ka pg.length kc, .slice wa pg.length wc] w' fun e w'' => e = .returned (.bool true) ∧ Dn w' w'') := fun w' hd => (requal_any _ _ pg pg w' ((Ob.bs ho24 HPL2.out).up (hd.below _)) ((Ob.bs (own_wb (hkk.ob _ (List.mem_cons_of_mem _ (List.mem_cons_self ..))) hw24 (hsep2 _ (List.mem_cons_of_mem _ (List.mem_cons_self ..)))) HPL2.out).up (hd.below _))).mono fun e w'' h => ⟨by rw [h.1]; simp, h.2⟩
  have HB24 := Hid.mk' (HB23.out.trans (hw24.below HB23.out.size fun k hk => by
    rcases hk with hk | hk
    · have := HT17.out k hk; have := HB16.out.size; omega
    · exact hkk.lo k (.inr hk)))
  clear hj25 hb25 ho24 hw24 hkk hsep2 HG4 HK23
  go_wp2_with fail
  refine HE1.out.mono ?_
  rintro e w26 ⟨rfl, hd26⟩
  have HE2' := Hid.mk' (HE2.out w26 hd26)
  have HB26 := Hid.mk' (HB24.out.trans (hd26.below w.heap.size))
  clear hd26
  go_wp2_with fail
  refine HE2'.out.mono ?_
  rintro e w27 ⟨rfl, hd27⟩
  have HB27 := Hid.mk' (HB26.out.trans (hd27.below w.heap.size))
  clear hd27
  go_wp2_with fail
  go_ret
  exact ⟨rfl, HB27.out⟩
end Go.Proofs.YtbmhkdcmepfmbaaGreat
