/- groynelaw07.PagesSurvive: the walk. -/
import Derived.Test.YtbmhkdcmepfmbaaGreatB22
set_option linter.unusedVariables false
set_option linter.unusedSimpArgs false
namespace Go.Proofs.YtbmhkdcmepfmbaaGreat
open Go.RowKit
attribute [local go_sem ↓] Go.wp_at_zero Go.wp_at_succ
/-- the act's box -/
def Ab (w : World) (gb : Nat) (q : Ac) (u : Value) : Prop := w.heap[gb]? = some (.cells #[.int .i64 q.kd, .int .i64 q.id, .int .i64 q.ln, .int .u8 (q.fi.toNat : Int), u, .int .i64 q.ar, .int .i64 q.kp] 36 (0, 0))
structure Cs' (C C' : Cx) (n : Nat) (R : Al By) : Prop where
  cal : C'.cal = false
  hand : C'.hand = C.hand
  cl : C'.RL.length ≤ n
  rl : R.length ≤ n
/-- how things stand behind the call of a round -/
inductive Mid (B0 b g9 g10 gb gn n : Nat) (E : Int) (va : Value) (ls : List Ac) (p : Nat) (q : Ac) (u : Value) (C : Cx) (X : Nat → Prop) (wx : World) : Prop where
  | live (C' : Cx) (R' : Al By) (s' : Ps) (d' : Dm) (T' M' A' : Nat → Prop) (a1 : Option Addr) (n1 c1 : Nat) (a2 : Option Addr) (n2 c2 : Nat) (nn : By) (x y : Value) (R : Al By) (nw : By) (b1 : Option Addr) (m1 e1 : Nat) (b2 : Option Addr) (m2 e2 : Nat)
      (f : @Fz ⟨X⟩ B0 b va ls wx p s' d' T' M' A' [⟨gn, .slice a1 n1 c1, .slice a2 n2 c2, R', nn⟩, ⟨g9, x, y, R, nw⟩, ⟨g10, .slice b1 m1 e1, .slice b2 m2 e2, C'.RL, C'.nt⟩]) (i : Iv C' E n R' s' d') (c : Cs' C C' n R') (k6 : q.kd ≠ 6) (ab : Ab wx gb q u) (ag : A' gb)
  | dead (s' : Ps) (d' : Dm) (T' M' A' : Nat → Prop) (a1 : Option Addr) (n1 c1 : Nat) (a2 : Option Addr) (n2 c2 : Nat) (Rn : Al By) (nn : By) (x y : Value) (R : Al By) (nw : By) (b1 : Option Addr) (m1 e1 : Nat) (b2 : Option Addr) (m2 e2 : Nat)
      (f : @Fz ⟨X⟩ B0 b va ls wx p s' d' T' M' A' [⟨gn, .slice a1 n1 c1, .slice a2 n2 c2, Rn, nn⟩, ⟨g9, x, y, R, nw⟩, ⟨g10, .slice b1 m1 e1, .slice b2 m2 e2, C.RL, C.nt⟩]) (room : d'.room = C.rm) (que : d'.queue.length ≤ 1000) (dq : Dqu (Gc C n q.kd Rn nn) d') (dd : d'.dead = false → q.kd = 6) (ok : C.Ok) (rl : Rn.length ≤ n) (ab : Ab wx gb q u) (ag : A' gb)
set_option maxRecDepth 100000 in
set_option maxHeartbeats 8000000 in
theorem survive_walk {w : World} {v : Value} {hand : Int} {l : List Ac} (hh : -9223372036854775808 ≤ hand ∧ hand ≤ 9223372036854775807) (h : As (Lt w.heap.size) w v l) : Calls Tryz.prog 6 #[.int .i64 hand, v] w fun e w' => e = .returned (.bool true) ∧ Below w.heap.size w w' := by
  obtain ⟨va0, vc0, rfl, -⟩ := h.at
  have HAS := Hid.mk' h
  have HAW := Hid.mk' (awake_any w)
  have HH := Hid.mk' hh
  clear h hh
  go_enter Tryz.func6, Tryz.ntmps6
  go_wp2_with fail
  refine HAW.out.mono ?_
  rintro e w1 ⟨rfl, hb1⟩
  have HB1 := Hid.mk' hb1
  have HNW := Hid.mk' (new_any w1 1073741824)
  clear hb1 HAW
  go_wp2_with fail
  refine HNW.out.mono ?_
  rintro e w2 ⟨rfl, hb2, hd2⟩
  have HB2 := Hid.mk' (HB1.out.trans (hb2.mono HB1.out.size))
  have HBL : Hid (w.heap.size ≤ w1.heap.size ∧ w1.heap.size < w2.heap.size) := ⟨HB1.out.size, hd2.blt⟩
  have hd2 : DrIs (fun _ => False) (fun _ => False) w2 w1.heap.size (dm0 1073741824) := hd2
  have HOP := letI : Xcl := X0; Hid.mk' (vopen hd2 ⟨fun _ h => False.elim h, fun _ h => False.elim h, fun _ h => False.elim h⟩ (cx0_dv false 1073741824 (max 1 hand) (by decide) (by omega)) hand rfl)
  generalize w1.heap.size = b at *
  clear hd2 hb2 HNW
  go_wp2_with fail
  refine HOP.out.mono ?_
  rintro e w3 ⟨p, c, v3, T, ms, mf, ma, ff, nf, g, rfl, hJ, hI, hb3, hT, hc, ho3⟩
  obtain ⟨va, vc, rfl⟩ := own_sliceN ho3
  have HJ3 : Hid (@Jn X0 T (fun _ => False) w3 p b (s0k (max 1 hand) []) (dm0 1073741824)) := letI : Xcl := X0; hJ.jn
  have HI3 : Hid (Iv (cx0 false 1073741824 (max 1 hand)) 0 0 [] (s0k (max 1 hand) []) (dm0 1073741824)) := hI
  have HB3 := Hid.mk' (HB2.out.trans (hb3.mono HB2.out.size))
  have HT3 : Hid (∀ k, T k ∨ False ∨ k = b → w.heap.size ≤ k ∧ k < w3.heap.size) := fun k hk => by
    have h1 := HBL.out
    have h2 := HB2.out.size
    have h3 := hb3.size
    rcases hk with hk | hk | hk
    · have := hT k hk
      have := (@Jn.lt X0 _ _ _ _ _ _ _ HJ3.out).2.2.1 k hk
      omega
    · exact hk.elim
    · omega
  obtain ⟨W4, hW4⟩ : ∃ W4, W4 = (w3.alloc (.cells #[.slice none 0 0, .slice none 0 0] 50)).alloc (.cells #[.slice none 0 0, .slice none 0 0] 50) := ⟨_, rfl⟩
  have hb4 : Below w3.heap.size w3 W4 := by rw [hW4]; exact bt (up_alloc _ _) (up_alloc _ _)
  have HB4 := Hid.mk' (HB3.out.trans (hb4.mono HB3.out.size))
  have HSM := Hid.mk' (small_any (HAS.out.up HB4.out) 25 (by decide))
  have HW4 := Hid.mk' hW4
  clear hJ hI hb3 hT hc ho3 HOP hb4 hW4
  go_wp2_with fail
  rw [← HW4.out]
  refine HSM.out.mono ?_
  rintro e w5 ⟨v5, L, rfl, hL, hF, hb5⟩
  have has := (hF.as hb5 (by have h := congrArg List.length hL; rw [List.length_map] at h; have := small_len l 25; omega)).andLt
  rw [hL] at has
  obtain ⟨a5, c5, rfl, hc5, ha5, hz5, -⟩ := has.at
  have HLZ := Hid.mk' (lz_start (w := w) (A0 := fun k => ((Lt w.heap.size k ∧ k < W4.heap.size) ∨ W4.heap.size ≤ k) ∧ k < w5.heap.size) HJ3.out HI3.out HW4.out hb5 has (fun k hk => ⟨hk.2, hk.1.imp (fun h => h.1) fun h => h⟩) HT3.out (hnd := max 1 hand) rfl ⟨rfl, rfl⟩ HB3.out.size)
  have HB5 := Hid.mk' (HB4.out.trans (hb5.mono HB4.out.size))
  have HLN := Hid.mk' (small_ln (l := l) (n := 25))
  have hls := small_len l 25
  have H93 : Hid (w.heap.size ≤ w3.heap.size) := HB3.out.size
  generalize hls' : smallL l 25 = ls at *
  have hlsi : (ls.length : Int) ≤ 25 := by omega
  clear hls' hL hF hb5 has HSM HJ3 HI3 HT3 HW4 HB4 HB3 HB2 HB1 HAS hls hz5
  go_wp2_with fail
  obtain ⟨g9, hg9⟩ : ∃ g, g = w3.heap.size := ⟨_, rfl⟩
  rw [← hg9] at HLZ H93
  rw [← hg9]
  obtain ⟨g10, hg10⟩ : ∃ g, g = g9 + 1 := ⟨_, rfl⟩
  rw [← hg10] at HLZ
  rw [← hg10]
  have HG : Hid (g9 ≠ g10) := by show _ ≠ _; omega
  clear hg9 hg10
  have HFZ := letI : Xcl := XG g9 g10; Hid.mk' (Lz.fz HLZ.out)
  have HIZ := letI : Xcl := XG g9 g10; Hid.mk' (Lz.I HLZ.out)
  have HCS : Hid (Cs' (cx0 false 1073741824 (max 1 hand)) (cx0 false 1073741824 (max 1 hand)) 0 []) := ⟨rfl, rfl, Nat.le_refl _, Nat.le_refl _⟩
  have HAR : Hid ((dm0 1073741824).armed = false ∧ (cx0 false 1073741824 (max 1 hand)).hand = max 1 hand) := ⟨rfl, rfl⟩
  clear HLZ
  go_loopw [39, 6] (fun i pv wr => ∃ (k p : Nat) (C : Cx) (R : Al By) (s : Ps) (d : Dm) (T M A : Nat → Prop) (x y x2 y2 : Value) (nw : By), k ≤ ls.length ∧ i = .int .i64 k ∧ pv = .pointer (some ⟨p, 0, none⟩) ∧ Hid (Cs' C C k R) ∧ Hid (d.armed = false ∧ C.hand = max 1 hand) ∧ Hid (Iv C (100 * k) k R s d) ∧ Hid (@Fz (XG g9 g10) w.heap.size b (.slice a5 ls.length c5) ls wr p s d T M A [⟨g9, x, y, R, nw⟩, ⟨g10, x2, y2, C.RL, C.nt⟩]) ∧ Hid (Below w.heap.size w wr)) (fun i _ _ => ls.length - (intOf i).toNat)
  case atStart => exact ⟨0, p, _, _, _, _, _, _, _, _, _, _, _, _, by omega, rfl, rfl, HCS, HAR, HIZ, HFZ, HB5⟩
  case round =>
    clear HFZ HIZ HCS HAR HB5
    obtain ⟨k, p, C, R, s, d, T, M, A, x, y, x2, y2, nw, hk, rfl, rfl, HCS, HAR, HI, HF, HB⟩ := hrel
    by_cases hlt : k < ls.length
    case neg =>
      go_wp2_with fail
      go_ret
      exact ⟨rfl, HB.out⟩
    have hlt' : (k : Int) < (ls.length : Int) := by omega
    have hk25 : k < 25 := by omega
    letI : Xcl := XG g9 g10
    have hf := HF.out
    obtain ⟨a6', c6', e, -, -, -, hat⟩ := hf.ac.at
    simp only [Value.slice.injEq] at e
    obtain ⟨e1, -, e2⟩ := e
    subst e1
    subst e2
    obtain ⟨bb, of, u, rfl, ⟨c0, c1, c2, c3, c4, c5', c6⟩, hbu, hain⟩ := hat k hlt
    have HQ := Hid.mk' (HLN.out _ (List.getElem_mem hlt))
    have HAI := Hid.mk' hain
    generalize ls[k] = q at *
    obtain ⟨ua, uc, rfl, -⟩ := hbu.at
    obtain ⟨xa, xc, ya, yn, yc, e⟩ := (hf.hb ⟨g9, x, y, R, nw⟩ (by simp)).2.form
    simp only at e
    cases e
    obtain ⟨x2a, x2c, y2a, y2n, y2c, e⟩ := (hf.hb ⟨g10, x2, y2, C.RL, C.nt⟩ (by simp)).2.form
    simp only at e
    cases e
    obtain ⟨W3, hW3⟩ : ∃ W3, W3 = wr.alloc (.cells #[.int .i64 q.kd, .int .i64 q.id, .int .i64 q.ln, .int .u8 (q.fi.toNat : Int), .slice ua q.nt.length uc, .int .i64 q.ar, .int .i64 q.kp] 36) := ⟨_, rfl⟩
    have hb3 : Below wr.heap.size wr W3 := by rw [hW3]; exact up_alloc _ _
    have HX3 : Hid (Ab W3 wr.heap.size q (.slice ua q.nt.length uc)) := by rw [hW3]; exact heap_alloc_new _ _
    have HLT : Hid (∀ k, (T k ∨ M k ∨ k = b) → k < wr.heap.size) := fun k hk => by
      rcases hk with hk | hk | hk
      · exact hf.J.lt.2.2.1 k hk
      · exact hf.J.lt.2.2.2 k hk
      · have := hf.J.lt.2.1; omega
    have HL9 : Hid (g9 < wr.heap.size ∧ g10 < wr.heap.size) := ⟨heap_lt (hf.hb _ (List.mem_cons_self ..)).1, heap_lt (hf.hb _ (List.mem_cons_of_mem _ (List.mem_cons_self ..))).1⟩
    have hgb : wr.heap.size < W3.heap.size := heap_lt HX3.out
    have HF3 : Hid (Fz w.heap.size b (.slice (some ⟨bb, of, none⟩) ls.length c5) ls W3 p s d T M (fun k => A k ∨ k = wr.heap.size) [⟨g9, .slice xa R.length xc, .slice ya yn yc, R, nw⟩, ⟨g10, .slice x2a C.RL.length x2c, .slice y2a y2n y2c, C.RL, C.nt⟩]) :=
      (hf.up hb3).addA ⟨hgb, fun e => Nat.lt_irrefl _ (HLT.out _ (.inl e)), fun e => Nat.lt_irrefl _ (HLT.out _ (.inr (.inl e))), fun e => Nat.lt_irrefl _ (HLT.out _ (.inr (.inr e)))⟩ fun q hq => by
        simp only [List.mem_cons, List.not_mem_nil, or_false] at hq
        have := HL9.out
        rcases hq with rfl | rfl <;> (simp only; omega)
    have HB3 := Hid.mk' (HB.out.trans (hb3.mono HB.out.size))
    have HBU : Hid (Bs (fun k => A k ∨ k = wr.heap.size) W3 (.slice ua q.nt.length uc) q.nt) := (hbu.up hb3).monoS fun _ hk => .inl hk
    obtain ⟨gb, hgbe⟩ : ∃ gb, gb = wr.heap.size := ⟨_, rfl⟩
    have HGE := Hid.mk' hgbe
    obtain ⟨v0, v1, v2, v3, v4, v5', v6⟩ := bx7 HX3.out
    have har := HAI.out.2.1
    have HW3 := Hid.mk' hW3
    rw [hW3] at v5'
    clear hat hbu hain hb3 hf hgb hgbe v0 v1 v2 v3 v4 v6 hW3
    go_upto_if 45 with fail
    clear c0 c1 c2 c3 c4 c5' c6
    rw [← HW3.out]
    rw [← HW3.out] at v5'
    go_cut [] (fun wx => ∃ (d1 : Dm) (M1 : Nat → Prop), Hid (Iv C (100 * k) k R s d1) ∧ Hid (Fz w.heap.size b (.slice (some ⟨bb, of, none⟩) ls.length c5) ls wx p s d1 T M1 (fun k => A k ∨ k = wr.heap.size) [⟨g9, .slice xa R.length xc, .slice ya yn yc, R, nw⟩, ⟨g10, .slice x2a C.RL.length x2c, .slice y2a y2n y2c, C.RL, C.nt⟩]) ∧ Hid (Below w.heap.size w wx) ∧ Hid (Ab wx wr.heap.size q (.slice ua q.nt.length uc)) ∧ Hid (Bs (fun k => A k ∨ k = wr.heap.size) wx (.slice ua q.nt.length uc) q.nt))
    case first =>
      by_cases ha : 0 < q.ar
      case neg =>
        have ha' : ¬ 0 < q.ar := ha
        go_wp2_with fail
        go_meet
        exact ⟨d, M, HI, HF3, HB3, HX3, HBU⟩
      case pos =>
        obtain ⟨D, Dd, ms', mf', ma', ff', nf', g', hJ⟩ := HF3.out.J.jx
        have HAM := Hid.mk' (arm_any (q.ar - 1) hJ.Dr (by omega))
        have HJJ := Hid.mk' hJ
        obtain ⟨har1, har2⟩ := har
        have hwrap : IntKind.i64.wrap (q.ar - 1) = q.ar - 1 := by rw [IntKind.wrap_i64]; omega
        clear hJ
        go_wp2_with fail
        refine HAM.out.mono ?_
        rintro e w4 ⟨rfl, hT⟩
        obtain ⟨M1, Dd1, hf1, -, hw1⟩ := HF3.out.drive HJJ.out hT
        have HF4 := Hid.mk' hf1
        have HB4 := Hid.mk' (HB3.out.trans (hw1.below HB3.out.size fun k hk => HF3.out.lo k hk))
        have HX4 : Hid (Ab w4 wr.heap.size q (.slice ua q.nt.length uc)) := heap_wb HX3.out hw1 fun e => (HF3.out.dis e).1 (.inr rfl)
        have HBU4 := Hid.mk' (HBU.out.wb hw1 fun k hk => (HF3.out.dis hk).1)
        have HI4 := Hid.mk' (HI.out.armed (q.ar - 1) (fun hc => by have := HCS.out.cal; rw [this] at hc; cases hc))
        clear hT hf1 hw1
        go_wp2_with fail
        go_meet
        exact ⟨_, M1, HI4, HF4, HB4, HX4, HBU4⟩
    case rest =>
    obtain ⟨d1, M1, HI4, HF4, HB4, HX4, HBU4⟩ := hcut
    clear HF3 HB3 HX3 HBU HI HW3 v5' har
    rename World => w4
    have hlt4 := HF4.out.J.lt
    have hX9 : ∀ k, (XG g9 g10).X k → k < w4.heap.size := fun k hk => by
      have h1 := heap_lt (HF4.out.hb _ (List.mem_cons_self ..)).1
      have h2 := heap_lt (HF4.out.hb _ (List.mem_cons_of_mem _ (List.mem_cons_self ..))).1
      rcases hk with rfl | rfl
      · exact h1
      · exact h2
    have HF5 := Hid.mk' (Fz.box (X := (XG g9 g10).X) HF4.out hX9 (HF4.out.hb _ (List.mem_cons_self ..)).2)
    simp only at HF5
    obtain ⟨W5, hW5⟩ : ∃ W5, W5 = w4.alloc (.cells #[.slice xa R.length xc, .slice ya yn yc] 50) := ⟨_, rfl⟩
    rw [← hW5] at HF5
    have hb5 : Below w4.heap.size w4 W5 := by rw [hW5]; exact up_alloc _ _
    have HGN : Hid (w4.heap.size ≠ g9 ∧ w4.heap.size ≠ g10) := ⟨fun e => Nat.lt_irrefl _ (hX9 _ (.inl e)), fun e => Nat.lt_irrefl _ (hX9 _ (.inr e))⟩
    have HGB : Hid (wr.heap.size < w4.heap.size) := heap_lt HX4.out
    have HX5 : Hid (Ab W5 wr.heap.size q (.slice ua q.nt.length uc)) := heap_up HX4.out hb5
    have HB5 := Hid.mk' (HB4.out.trans (hb5.mono HB4.out.size))
    have HBU5 := Hid.mk' (HBU4.out.up hb5)
    have HS5 : Hid (w4.heap.size < W5.heap.size) := by rw [hW5]; show _ < _; simp
    obtain ⟨x0, x1, x2, x3, x4, x5, x6⟩ := bx7 HX4.out
    obtain ⟨m0, m1⟩ := bx2 (HF4.out.hb _ (List.mem_cons_self ..)).1
    have HW5 := Hid.mk' hW5
    obtain ⟨y0, -, -, -, -, -, -⟩ := bx7 HX5.out
    rw [hW5] at y0
    simp only at m0 m1
    obtain ⟨gn, hgn⟩ : ∃ gn, gn = w4.heap.size := ⟨_, rfl⟩
    have HGNE := Hid.mk' hgn
    clear hX9 hlt4 hb5 hW5 hgn HF4 HX4 HB4 HBU4
    go_upto_if 54 with fail
    rw [← HW5.out]
    clear m0 m1 x0 x1 x2 x3 x4 x5 x6 y0
    go_cut [] (fun wx => Hid (Mid w.heap.size b g9 g10 wr.heap.size w4.heap.size (k + 1) (100 * (k : Int) + 1) (.slice (some ⟨bb, of, none⟩) ls.length c5) ls p q (.slice ua q.nt.length uc) C (fun j => (XG g9 g10).X j ∨ j = w4.heap.size) wx) ∧ Hid (Below w.heap.size w wx))
    case first =>
      letI : Xcl := ⟨fun j => (XG g9 g10).X j ∨ j = w4.heap.size⟩
      by_cases h5 : q.kd = 5
      case pos =>
        have k5 : (q.kd == 5) = true := by simpa using h5
        have H5 := Hid.mk' h5
        have hx5 := (HF5.out.hb _ (List.mem_cons_self ..)).1
        simp only at hx5
        obtain ⟨-, y1⟩ := bx2 hx5
        have yf : W5.frozen? ⟨w4.heap.size, 1, none⟩ = false := by simp [World.frozen?, hx5]
        have hx6 : (W5.setCell ⟨w4.heap.size, 1, none⟩ (.slice ua q.nt.length uc)).heap[w4.heap.size]? = some (.cells #[.slice xa R.length xc, .slice ua q.nt.length uc] 50 (0, 0)) := by rw [heap_setCell_same W5 w4.heap.size 1 _ 50 (.slice ua q.nt.length uc) hx5]; rfl
        have hw6 : Wb (fun k => k = w4.heap.size) W5 (W5.setCell ⟨w4.heap.size, 1, none⟩ (.slice ua q.nt.length uc)) := Wb.set _ _ 1 _ rfl
        have hr6 : Rp (fun k => A k ∨ k = wr.heap.size) W5 (.agg #[.slice xa R.length xc, .slice ua q.nt.length uc]) R q.nt := by
          obtain ⟨_, _, e, h1, _⟩ := (HF5.out.hb _ (List.mem_cons_self ..)).2
          simp only at e
          cases e
          exact ⟨_, _, rfl, h1, HBU5.out⟩
        have HF6 : Hid (Fz w.heap.size b (.slice (some ⟨bb, of, none⟩) ls.length c5) ls (W5.setCell ⟨w4.heap.size, 1, none⟩ (.slice ua q.nt.length uc)) p s d1 T M1 (fun k => A k ∨ k = wr.heap.size) [⟨w4.heap.size, .slice xa R.length xc, .slice ua q.nt.length uc, R, q.nt⟩, ⟨g9, .slice xa R.length xc, .slice ya yn yc, R, nw⟩, ⟨g10, .slice x2a C.RL.length x2c, .slice y2a y2n y2c, C.RL, C.nt⟩]) := HF5.out.put ⟨_, List.mem_cons_self .., rfl⟩ hw6 hx6 hr6 (fun q hq => by
          simp only [List.mem_cons, List.not_mem_nil, or_false] at hq
          have h1 := HGN.out
          have h2 := HG.out
          rcases hq with rfl | rfl | rfl
          · exact .inl rfl
          · exact .inr ⟨List.mem_cons_of_mem _ (List.mem_cons_self ..), by simp only; omega⟩
          · exact .inr ⟨List.mem_cons_of_mem _ (List.mem_cons_of_mem _ (List.mem_cons_self ..)), by simp only; omega⟩)
        obtain ⟨v0, v1, v2, v3, v4, v5, v6⟩ := bx7 HX5.out
        have HX6 : Hid (Ab (W5.setCell ⟨w4.heap.size, 1, none⟩ (.slice ua q.nt.length uc)) wr.heap.size q (.slice ua q.nt.length uc)) := heap_wb HX5.out hw6 (fun e => by have := HGB.out; omega)
        obtain ⟨-, -, -, -, v4', -, -⟩ := bx7 HX6.out
        have HBU6 := Hid.mk' (HBU5.out.wb hw6 fun k hk hk2 => by
          have h1 := HF5.out.hg _ (List.mem_cons_self ..)
          simp only at h1
          rw [hk] at hk2
          exact h1.2.2.2.1 hk2)
        have HB6 : Hid (Below w.heap.size w (W5.setCell ⟨w4.heap.size, 1, none⟩ (.slice ua q.nt.length uc))) := HB5.out.trans (hw6.below HB5.out.size fun k hk => by subst hk; exact (HF5.out.hg _ (List.mem_cons_self ..)).2.2.2.2.2)
        have HCP := Hid.mk' (copy_any _ q.nt _ HBU6.out)
        have HLT6 := Hid.mk' HF6.out.J.lt
        clear h5 hx5 hx6 hw6 hr6
        go_wp2_with fail
        generalize hW6 : W5.setCell ⟨w4.heap.size, 1, none⟩ (.slice ua q.nt.length uc) = W6 at *
        clear hW6
        refine HCP.out.mono ?_
        rintro e w7 ⟨v5', rfl, hb7, ho7⟩
        obtain ⟨ca, cc, rfl⟩ := own_sliceN ho7
        have HF7 := Hid.mk' (HF6.out.up hb7)
        have hql := HQ.out.2
        have hbc : Bs (fun k => W6.heap.size ≤ k ∧ k < w7.heap.size) w7 (.slice ca q.nt.length cc) q.nt := ⟨Row.andLt (Row.of_ownB ho7), by unfold lim; omega⟩
        have HSV := Hid.mk' (vsave HF7.out.J HI4.out hbc (fun k hk => ⟨hk.2, fun h => by have := HLT6.out.2.2.1 k h; omega, fun h => by have := HLT6.out.2.2.2 k h; omega, fun h => by have := HLT6.out.2.1; omega⟩) (by omega))
        have HB7 := Hid.mk' (HB6.out.trans (hb7.mono HB6.out.size))
        have HX7 : Hid (Ab w7 wr.heap.size q (.slice ua q.nt.length uc)) := heap_up HX6.out hb7
        clear hb7 ho7 hbc hql HCP v0 v1 v2 v3 v4 v5 v6 v4' y1 yf
        go_wp2_with fail
        refine HSV.out.mono ?_
        rintro e w8 (⟨rfl, S, s1, d8, hok, hkd, hj⟩ | ⟨rfl, S, s1, d8, hI8, -, hj⟩)
        · obtain ⟨T8, M8, hf8, -⟩ := HF7.out.pool hj
          have HF8 := Hid.mk' hf8
          have HB8 := Hid.mk' (HB7.out.trans (hj.1.below HB7.out.size fun k hk => HF7.out.lo k hk))
          have HX8 : Hid (Ab w8 wr.heap.size q (.slice ua q.nt.length uc)) := heap_wb HX7.out hj.1 fun e => (HF7.out.dis e).1 (.inr rfl)
          have HK := Hid.mk' hkd
          have HOK := Hid.mk' hok
          clear hf8 hj hkd hok
          go_wp2_with fail
          go_meet
          exact ⟨.dead s1 d8 T8 M8 _ _ _ _ _ _ _ R q.nt _ _ _ _ _ _ _ _ _ _ HF8.out HK.out.2.2.1 HK.out.2.2.2.1 (HK.out.2.2.2.2.mono fun F hF => hF.elim (fun h => .inl (h.up (Nat.le_succ _))) fun h => .inr ⟨H5.out, S, HOK.out, h.up (Nat.le_succ _)⟩) (fun h => by have h1 := HK.out.1; rw [h1] at h; cases h) HI4.out.ok (Nat.le_succ_of_le HCS.out.rl) HX8.out (.inr rfl), HB8⟩
        · obtain ⟨T8, M8, hf8, -⟩ := HF7.out.pool hj
          have HB8 := Hid.mk' (HB7.out.trans (hj.1.below HB7.out.size fun k hk => HF7.out.lo k hk))
          have HX8 : Hid (Ab w8 wr.heap.size q (.slice ua q.nt.length uc)) := heap_wb HX7.out hj.1 fun e => (HF7.out.dis e).1 (.inr rfl)
          obtain ⟨n0, n1⟩ := bx2 (hf8.hb _ (List.mem_cons_self ..)).1
          simp only at n0 n1
          have h10 := (hf8.hb _ (List.mem_cons_of_mem _ (List.mem_cons_of_mem _ (List.mem_cons_self ..)))).1
          simp only at h10
          obtain ⟨z0, f0, f1, z1, hx9, -, -⟩ := res2 h10 (.slice xa R.length xc) (.slice ua q.nt.length uc)
          have hw9 := res2_wb w8 g10 (.slice xa R.length xc) (.slice ua q.nt.length uc)
          have HF9 : Hid (Fz w.heap.size b (.slice (some ⟨bb, of, none⟩) ls.length c5) ls ((w8.setCell ⟨g10, 0, none⟩ (.slice xa R.length xc)).setCell ⟨g10, 1, none⟩ (.slice ua q.nt.length uc)) p s1 d8 T8 M8 (fun k => A k ∨ k = wr.heap.size) [⟨w4.heap.size, .slice xa R.length xc, .slice ua q.nt.length uc, R, q.nt⟩, ⟨g9, .slice xa R.length xc, .slice ya yn yc, R, nw⟩, ⟨g10, .slice xa R.length xc, .slice ua q.nt.length uc, R, q.nt⟩]) := hf8.put ⟨_, List.mem_cons_of_mem _ (List.mem_cons_of_mem _ (List.mem_cons_self ..)), rfl⟩ hw9 hx9 (hf8.hb _ (List.mem_cons_self ..)).2 (fun q hq => by
          simp only [List.mem_cons, List.not_mem_nil, or_false] at hq
          have h1 := HGN.out
          have h2 := HG.out
          rcases hq with rfl | rfl | rfl
          · exact .inr ⟨List.mem_cons_self .., by simp only; omega⟩
          · exact .inr ⟨List.mem_cons_of_mem _ (List.mem_cons_self ..), by simp only; omega⟩
          · exact .inl rfl)
          have HX9 : Hid (Ab ((w8.setCell ⟨g10, 0, none⟩ (.slice xa R.length xc)).setCell ⟨g10, 1, none⟩ (.slice ua q.nt.length uc)) wr.heap.size q (.slice ua q.nt.length uc)) := heap_wb HX8.out hw9 (fun e => by have := HL9.out.2; omega)
          have HB9 : Hid (Below w.heap.size w ((w8.setCell ⟨g10, 0, none⟩ (.slice xa R.length xc)).setCell ⟨g10, 1, none⟩ (.slice ua q.nt.length uc))) := HB8.out.trans (hw9.below HB8.out.size fun k hk => by subst hk; exact (hf8.hg _ (List.mem_cons_of_mem _ (List.mem_cons_of_mem _ (List.mem_cons_self ..)))).2.2.2.2.2)
          have HI8 := Hid.mk' hI8
          clear h10 hx9 hw9 hf8 hj hI8
          go_wp2_with fail
          go_meet
          exact ⟨.live (C.save S R q.nt) R s1 d8 T8 M8 _ _ _ _ _ _ _ q.nt _ _ _ _ _ _ _ _ _ _ HF9.out (HI8.out.more (by omega) (by omega) (by omega) (by omega)) ⟨HCS.out.cal, rfl, Nat.le_succ_of_le HCS.out.rl, Nat.le_succ_of_le HCS.out.rl⟩ (by have := H5.out; omega) HX9.out (.inr rfl), HB9⟩
      case neg =>
        have k5 : (q.kd == 5) = false := by simpa using h5
        by_cases h6 : q.kd = 6
        case pos =>
          have k6 : (q.kd != 6) = false := by simpa using h6
          have H6 := Hid.mk' h6
          obtain ⟨x0, -, -, -, -, -, -⟩ := bx7 HX5.out
          clear h6 h5
          go_wp2_with fail
          go_meet
          exact ⟨.dead s d1 T M1 _ _ _ _ _ _ _ R nw _ _ _ _ _ _ _ _ _ _ HF5.out HI4.out.room (by have := HI4.out.que; have := HI4.out.hQ; omega) (HI4.out.dq.mono fun F h => .inl (h.up (Nat.le_succ _))) (fun _ => H6.out) HI4.out.ok (Nat.le_succ_of_le HCS.out.rl) HX5.out (.inr rfl), HB5⟩
        case neg =>
          have k6 : (q.kd != 6) = true := by simpa using h6
          have H6 := Hid.mk' h6
          obtain ⟨x0, x1, x2, x3, x4, x5, x6⟩ := bx7 HX5.out
          obtain ⟨m0, m1⟩ := bx2 (HF5.out.hb _ (List.mem_cons_of_mem _ (List.mem_cons_self ..))).1
          simp only at m0 m1
          have HDO := Hid.mk' (do_any HF5.out.J HI4.out (by omega) (by omega) (by have := HCS.out.rl; omega) (HF5.out.hb _ (List.mem_cons_of_mem _ (List.mem_cons_self ..))).2 HF5.out.hA HAI.out HQ.out.1 HBU5.out)
          unfold actV at HDO
          simp only at HDO
          clear h6 h5
          go_wp2_with fail
          refine HDO.out.mono ?_
          rintro e w6 hdo
          obtain ⟨a1, n1, c1', a2, n2, c2', ok, R', s', d', T', M', A', rfl, hnx, hw6, hf6, hr6, hcase, -, -, hAA⟩ := HF5.out.doP hdo
          have hx6 := (hf6.hb _ (List.mem_cons_self ..)).1
          simp only at hx6
          obtain ⟨z0, f0, f1, z1, hx7, -, -⟩ := res2 hx6 (.slice a1 n1 c1') (.slice a2 n2 c2')
          have hw7 := res2_wb w6 w4.heap.size (.slice a1 n1 c1') (.slice a2 n2 c2')
          have HF7 : Hid (Fz w.heap.size b (.slice (some ⟨bb, of, none⟩) ls.length c5) ls ((w6.setCell ⟨w4.heap.size, 0, none⟩ (.slice a1 n1 c1')).setCell ⟨w4.heap.size, 1, none⟩ (.slice a2 n2 c2')) p s' d' T' M' A' [⟨w4.heap.size, .slice a1 n1 c1', .slice a2 n2 c2', R', nw⟩, ⟨g9, .slice xa R.length xc, .slice ya yn yc, R, nw⟩, ⟨g10, .slice x2a C.RL.length x2c, .slice y2a y2n y2c, C.RL, C.nt⟩]) := hf6.put ⟨_, List.mem_cons_self .., rfl⟩ hw7 hx7 hr6 (fun q hq => by
          simp only [List.mem_cons, List.not_mem_nil, or_false] at hq
          have h1 := HGN.out
          have h2 := HG.out
          rcases hq with rfl | rfl | rfl
          · exact .inl rfl
          · exact .inr ⟨List.mem_cons_of_mem _ (List.mem_cons_self ..), by simp only; omega⟩
          · exact .inr ⟨List.mem_cons_of_mem _ (List.mem_cons_of_mem _ (List.mem_cons_self ..)), by simp only; omega⟩)
          have HX7 : Hid (Ab ((w6.setCell ⟨w4.heap.size, 0, none⟩ (.slice a1 n1 c1')).setCell ⟨w4.heap.size, 1, none⟩ (.slice a2 n2 c2')) wr.heap.size q (.slice ua q.nt.length uc)) := heap_wb (heap_wb HX5.out hw6 fun e => (HF5.out.dis e).1 (.inr rfl)) hw7 (fun e => by have := HGB.out; omega)
          have hb6 : Below w.heap.size w w6 := HB5.out.trans (hw6.below HB5.out.size fun k hk => HF5.out.lo k hk)
          have HB7 : Hid (Below w.heap.size w ((w6.setCell ⟨w4.heap.size, 0, none⟩ (.slice a1 n1 c1')).setCell ⟨w4.heap.size, 1, none⟩ (.slice a2 n2 c2'))) := hb6.trans (hw7.below hb6.size fun k hk => by subst hk; exact (hf6.hg _ (List.mem_cons_self ..)).2.2.2.2.2)
          have HAG : Hid (A' wr.heap.size) := hAA _ (.inr rfl)
          have HRN : Hid (R'.length ≤ k + 1) := Nat.le_trans (hnx.len HI4.out.sR) (Nat.succ_le_succ HCS.out.rl)
          obtain ⟨D7, Dd7, ms7, mf7, ma7, ff7, nf7, g7, hJ7⟩ := HF7.out.J.jx
          have HDA := Hid.mk' (dead_any hJ7.Dr)
          clear hdo hnx hw6 hf6 hr6 hx6 hx7 hw7 hb6 hAA hJ7 x0 x1 x2 x3 x4 x5 x6 m0 m1
          rcases hcase with hj | ⟨rfl, hI'⟩
          · have HJV := Hid.mk' hj
            have hdd : d'.dead = true := hj.1
            rw [hdd] at HDA
            clear hj hdd
            cases ok
            · go_wp2_with fail
              refine HDA.out.mono ?_
              rintro e w9 ⟨rfl, rfl⟩
              go_wp2_with fail
              go_meet
              exact ⟨.dead s' d' T' M' A' _ _ _ _ _ _ R' nw _ _ _ _ _ _ _ _ _ _ HF7.out HJV.out.2.2.1 HJV.out.2.2.2.1 (HJV.out.2.2.2.2.mono fun F h => .inl (h.up (Nat.le_succ _))) (fun h => by have h1 := HJV.out.1; rw [h1] at h; cases h) HI4.out.ok HRN.out HX7.out HAG.out, HB7⟩
            · go_wp2_with fail
              go_meet
              exact ⟨.dead s' d' T' M' A' _ _ _ _ _ _ R' nw _ _ _ _ _ _ _ _ _ _ HF7.out HJV.out.2.2.1 HJV.out.2.2.2.1 (HJV.out.2.2.2.2.mono fun F h => .inl (h.up (Nat.le_succ _))) (fun h => by have h1 := HJV.out.1; rw [h1] at h; cases h) HI4.out.ok HRN.out HX7.out HAG.out, HB7⟩
          · have HI' := Hid.mk' hI'
            clear hI'
            go_wp2_with fail
            go_meet
            exact ⟨.live C R' s' d' T' M' A' _ _ _ _ _ _ nw _ _ _ _ _ _ _ _ _ _ HF7.out HI'.out ⟨HCS.out.cal, rfl, Nat.le_succ_of_le HCS.out.cl, HRN.out⟩ H6.out HX7.out HAG.out, HB7⟩
    case rest =>
    obtain ⟨HM, HB6⟩ := hcut
    clear HF5 HB5 HX5 HBU5
    rename World => w6
    letI : Xcl := ⟨fun j => (XG g9 g10).X j ∨ j = w4.heap.size⟩
    rcases HM.out with ⟨C', R', s', d', T', M', A', a1, n1, c1', a2, n2, c2', nn, x', y', R0, nw0, b1, m1, e1', b2, m2, e2', f, i, c, k6, ab, ag⟩ | ⟨s', d', T', M', A', a1, n1, c1', a2, n2, c2', Rn, nn, x', y', R0, nw0, b1, m1, e1', b2, m2, e2', f, room, que, dq, dd, ok, rl, ab, ag⟩
    case live =>
      have HF := Hid.mk' f
      have HI := Hid.mk' i
      have HC' := Hid.mk' c
      have k6' : (q.kd != 6) = true := by simpa using k6
      obtain ⟨x0, -, -, -, -, -, -⟩ := bx7 ab
      obtain ⟨D, Dd, ms', mf', ma', ff', nf', g', hJ⟩ := f.J.jx
      have HDA : Hid (Calls Tryz.prog 27 #[.pointer (some ⟨b, 0, none⟩)] w6 fun E w' => E = .returned (.bool false) ∧ w6 = w') := by
        have h := dead_any hJ.Dr
        rw [i.dead] at h
        exact h
      obtain ⟨j0, j1⟩ := bx2 (f.hb _ (List.mem_cons_self ..)).1
      simp only at j0 j1
      obtain ⟨z0, f0, f1, z1, hx7, -, -⟩ := res2 (f.hb _ (List.mem_cons_of_mem _ (List.mem_cons_self ..))).1 (.slice a1 n1 c1') (.slice a2 n2 c2')
      simp only at z0 f0 f1 z1 hx7
      have hw7 := res2_wb w6 g9 (.slice a1 n1 c1') (.slice a2 n2 c2')
      have HF7 : Hid (Fz w.heap.size b (.slice (some ⟨bb, of, none⟩) ls.length c5) ls ((w6.setCell ⟨g9, 0, none⟩ (.slice a1 n1 c1')).setCell ⟨g9, 1, none⟩ (.slice a2 n2 c2')) p s' d' T' M' A' [⟨g9, .slice a1 n1 c1', .slice a2 n2 c2', R', nn⟩, ⟨g10, .slice b1 m1 e1', .slice b2 m2 e2', C'.RL, C'.nt⟩]) := f.put ⟨_, (List.mem_cons_of_mem _ (List.mem_cons_self ..)), rfl⟩ hw7 hx7 (f.hb _ (List.mem_cons_self ..)).2 (fun q hq => by
        simp only [List.mem_cons, List.not_mem_nil, or_false] at hq
        have h2 := HG.out
        rcases hq with rfl | rfl
        · exact .inl rfl
        · exact .inr ⟨(List.mem_cons_of_mem _ (List.mem_cons_of_mem _ (List.mem_cons_self ..))), by simp only; omega⟩)
      have HB7 : Hid (Below w.heap.size w ((w6.setCell ⟨g9, 0, none⟩ (.slice a1 n1 c1')).setCell ⟨g9, 1, none⟩ (.slice a2 n2 c2'))) := HB6.out.trans (hw7.below HB6.out.size fun k hk => by subst hk; exact H93.out)
      obtain ⟨D7, Dd7, ms7, mf7, ma7, ff7, nf7, g7, hJ7⟩ := HF7.out.J.jx
      have HAM := Hid.mk' (arm_any (-1) hJ7.Dr (by decide))
      have HJ7 := Hid.mk' hJ7
      clear f i c k6 ab ag hJ hx7 hw7 hJ7 HM
      go_wp2_with fail
      refine HDA.out.mono ?_
      rintro e w7 ⟨rfl, rfl⟩
      go_wp2_with fail
      refine HAM.out.mono ?_
      rintro e w8 ⟨rfl, hT⟩
      obtain ⟨M8, Dd8, hf8, -, hw8⟩ := HF7.out.drive HJ7.out hT
      have HF8 : Hid (@Fz (XG g9 g10) w.heap.size b (.slice (some ⟨bb, of, none⟩) ls.length c5) ls w8 p s' (arD d' (-1)) T' M8 A' [⟨g9, .slice a1 n1 c1', .slice a2 n2 c2', R', nn⟩, ⟨g10, .slice b1 m1 e1', .slice b2 m2 e2', C'.RL, C'.nt⟩]) :=
        Fz.re (X := fun j => (XG g9 g10).X j ∨ j = w4.heap.size) hf8 (Below.refl _ _) (fun k hk => .inl (.inl hk)) (fun k hk => hf8.J.xlt k (.inl hk)) (fun q hq => by
          simp only [List.mem_cons, List.not_mem_nil, or_false] at hq
          rcases hq with rfl | rfl
          · exact .inl rfl
          · exact .inr rfl)
      have HB8 := Hid.mk' (HB7.out.trans (hw8.below HB7.out.size fun k hk => HF7.out.lo k hk))
      clear hT hf8 hw8 j0 j1 z0 f0 f1 z1 x0
      go_wp2_with fail
      go_roundw
      case rel => exact ⟨k + 1, p, C', R', s', arD d' (-1), T', M8, A', _, _, _, _, nn, by omega, by go_num, rfl, ⟨HC'.out.cal, rfl, HC'.out.cl, HC'.out.rl⟩, ⟨rfl, by rw [HC'.out.hand]; exact HAR.out.2⟩, (HI.out.armed (-1) (fun _ => by decide)).more (by omega) (Nat.le_refl _) (by omega) (by omega), HF8, HB8⟩
      case measure => simp [intOf]; omega
    case dead =>
      have HF := Hid.mk' f
      have HOK := Hid.mk' ok
      have HRN := Hid.mk' rl
      have HAB := Hid.mk' ab
      have HAG := Hid.mk' ag
      obtain ⟨hkp1, hkp2⟩ := HAI.out.2.2
      obtain ⟨D, Dd, ms', mf', ma', ff', nf', g', hJ⟩ := f.J.jx
      have hda := dead_any hJ.Dr
      clear f ok rl ab ag HM
      cases hdd : d'.dead
      case false =>
        have h6 := dd hdd
        have k6' : (q.kd != 6) = false := by simp [h6]
        rw [hdd] at hda
        have HDA := Hid.mk' hda
        clear hda dd hdd h6
        have HRM := Hid.mk' room
        have HDQ := Hid.mk' dq
        have hsl : d'.safe.length ≤ 3 := by
          have h := dq.al 0
          rw [after_zero] at h
          rcases h with h | ⟨_, S, _, h⟩
          · exact h.tot.2
          · exact h.tot.2
        have hun := dq.un
        have HCR := Hid.mk' (crash_any q.kp hJ.Dr dq.qo (by unfold maxLen; omega) (by omega) hkp1 hkp2 (by omega))
        obtain ⟨x0, -, -, -, -, -, x6⟩ := bx7 HAB.out
        clear hsl hun room que dq
        go_wp2_with fail
        refine HDA.out.mono ?_
        rintro e w7 ⟨rfl, rfl⟩
        go_wp2_with fail
        refine HCR.out.mono ?_
        rintro e w7 ⟨rfl, hT⟩
        obtain ⟨M7, Dd7, hf7, hJ7, hw7⟩ := HF.out.drive hJ hT
        obtain ⟨F, hG, hcr⟩ := crD_dv HDQ.out q.kp
        rw [hcr, HRM.out] at hf7 hJ7
        have hCX : ∃ CX : Cx, Dv CX (k + 1) ⟨F, F, [], C.rm, false, 0, false⟩ ∧ CX.hand = C.hand ∧ CX.RL.length ≤ k + 1 ∧ CX.Ok ∧ ((CX.RL = C.RL ∧ CX.nt = C.nt) ∨ (q.kd = 5 ∧ CX.RL = Rn ∧ CX.nt = nn)) := by
          rcases hG with hG | ⟨h5, S, hok, hG⟩
          · exact ⟨C, dv_files HOK.out (by omega) hG, rfl, Nat.le_succ_of_le HCS.out.cl, HOK.out, .inl ⟨rfl, rfl⟩⟩
          · exact ⟨C.save S Rn nn, dv_files hok (by omega) hG, rfl, HRN.out, hok, .inr ⟨h5, rfl, rfl⟩⟩
        obtain ⟨CX, hDv, hch, hcl, hcok, hcx⟩ := hCX
        have HOP := Hid.mk' (vopen hJ7.Dr ⟨hJ7.xo.1, fun _ h => False.elim h, hJ7.xo.2.2⟩ hDv hand (by rw [hch, HAR.out.2]))
        have HCX : Hid (True ∧ CX.hand = max 1 hand ∧ CX.RL.length ≤ k + 1 ∧ CX.Ok) := ⟨trivial, by rw [hch, HAR.out.2], hcl, hcok⟩
        have HXX := Hid.mk' hcx
        have HF7 := Hid.mk' hf7
        have HB7 := Hid.mk' (HB6.out.trans (hw7.below HB6.out.size fun k hk => HF.out.lo k hk))
        have HAB7 : Hid (Ab w7 wr.heap.size q (.slice ua q.nt.length uc)) := heap_wb HAB.out hw7 fun e => (HF.out.dis e).1 HAG.out
        clear hT hf7 hJ hJ7 hw7 hG hcr hDv hch hcl hcok hcx x0 x6
        go_wp2_with fail
        refine HOP.out.mono ?_
        rintro e w8 ho
        obtain ⟨p8, c8, v8, T8, rfl, hob, hb8, hI8, hf8, hown⟩ := HF7.out.opened ho
        obtain ⟨oa, oc, rfl⟩ := own_sliceN hob
        have HNL : Hid (CX.nt.length ≤ lim) := by show _ ≤ _; have := HCX.out.2.2.2.ntl; unfold lim; omega
        have HOB := Hid.mk' hob
        have HOWN := Hid.mk' hown
        have hbn : Bs A' w8 (.slice b2 m2 e2') C.nt := by
          obtain ⟨_, _, e, _, h⟩ := (hf8.hb _ (List.mem_cons_of_mem _ (List.mem_cons_of_mem _ (List.mem_cons_self ..)))).2
          simp only at e
          cases e
          exact h
        have HEQ := Hid.mk' (requal_any _ _ _ _ w8 (HOB.out.bs HNL.out) hbn)
        have HF8 := Hid.mk' hf8
        have HB8 := Hid.mk' (HB7.out.trans (hb8.mono HB7.out.size))
        have HAB8 : Hid (Ab w8 wr.heap.size q (.slice ua q.nt.length uc)) := heap_up HAB7.out hb8
        have HI8 : Hid (Iv { CX with cal := true } 0 (k + 1) CX.RL (s0k CX.hand CX.L) ⟨F, F, [], C.rm, false, 0, false⟩) := hI8.to true fun _ => rfl
        obtain ⟨j0, j1⟩ := bx2 (hf8.hb _ (List.mem_cons_of_mem _ (List.mem_cons_of_mem _ (List.mem_cons_self ..)))).1
        simp only at j0 j1
        clear ho hob hb8 hbn hI8 hf8 HOP hown
        generalize s0k CX.hand CX.L = s8 at *
        generalize (⟨F, F, [], C.rm, false, 0, false⟩ : Dm) = d8 at *
        go_wp2_with fail
        refine HEQ.out.mono ?_
        rintro e w9 ⟨rfl, hdn⟩
        have hb9 : Below w8.heap.size w8 w9 := hdn.below _
        have HF9 := Hid.mk' (HF8.out.up hb9)
        have HB9 := Hid.mk' (HB8.out.trans (hb9.mono HB8.out.size))
        have HOB9 := Hid.mk' (own_keep HOB.out hb9 (Nat.le_refl _))
        have HBS9 := Hid.mk' (Ob.bs HOB9.out HNL.out)
        have HAB9 : Hid (Ab w9 wr.heap.size q (.slice ua q.nt.length uc)) := heap_up HAB8.out hb9
        obtain ⟨j0, j1⟩ := bx2 (HF9.out.hb _ (List.mem_cons_of_mem _ (List.mem_cons_of_mem _ (List.mem_cons_self ..)))).1
        simp only at j0 j1
        clear hdn hb9 HF8
        have HCE : Hid ((CX.nt == C.nt) = false → ¬ (CX.RL = C.RL ∧ CX.nt = C.nt)) := fun h h2 => by rw [h2.2] at h; simp at h
        generalize hgg : (CX.nt == C.nt) = gg at *
        cases gg
        case false =>
          have HX : Hid (q.kd = 5 ∧ CX.RL = Rn ∧ CX.nt = nn) := HXX.out.elim (fun h => absurd h (HCE.out rfl)) fun h => h
          obtain ⟨E9, hE9⟩ : ∃ E9 : Int, E9 = 0 := ⟨0, rfl⟩
          have HE9 : Hid (E9 ≤ (k : Int) + 1 ∧ 0 ≤ E9) := by show _ ∧ _; omega
          have HI9 := HI8
          rw [← hE9] at HI9
          clear hgg hE9 HCE j0 j1 HI8
          have hk5 : (q.kd != 5) = false := by simp [HX.out.1]
          have HEQ2 : Hid (Calls Tryz.prog 19 #[.slice oa CX.nt.length oc, .slice a2 n2 c2'] w9 fun e w' => e = .returned (.bool true) ∧ Dn w9 w') := by
            have h1 : Bs A' w9 (.slice a2 n2 c2') nn := by
              obtain ⟨_, _, e, _, h⟩ := (HF9.out.hb _ (List.mem_cons_self ..)).2
              simp only at e
              cases e
              exact h
            refine (requal_any _ _ _ _ w9 HBS9.out h1).mono fun e w' h => ⟨by rw [h.1, HX.out.2.2]; simp, h.2⟩
          obtain ⟨j0, j1⟩ := bx2 (HF9.out.hb _ (List.mem_cons_self ..)).1
          simp only at j0 j1
          obtain ⟨x0, -, -, -, -, -, -⟩ := bx7 (HAB9.out)
          go_wp2_with fail
          refine HEQ2.out.mono ?_
          rintro e w15 ⟨rfl, hdn⟩
          have hb15 : Below w9.heap.size w9 w15 := hdn.below _
          have HF15 := Hid.mk' (HF9.out.up hb15)
          have HB15 := Hid.mk' (HB9.out.trans (hb15.mono HB9.out.size))
          have HSA2 := Hid.mk' (same_any HF15.out.J HI9.out rfl (by have := HE9.out; have := HCX.out.2.2.1; omega) (HF15.out.hb _ (List.mem_cons_self ..)).2 HF15.out.hA (by show ∀ x ∈ Rn, Wi x.1; rw [← HX.out.2.1]; exact HCX.out.2.2.2.wid))
          obtain ⟨j0, j1⟩ := bx2 (HF15.out.hb _ (List.mem_cons_self ..)).1
          simp only at j0 j1
          clear hdn hb15
          go_wp2_with fail
          refine HSA2.out.mono ?_
          rintro e w12 ⟨s12, d12, -, hT, -, hI12, -, -, -, -, hj12⟩
          obtain rfl := hT HX.out.2.1
          obtain ⟨T12, M12, hf12, -⟩ := HF15.out.pool hj12
          obtain ⟨j0, j1⟩ := bx2 (hf12.hb _ (List.mem_cons_self ..)).1
          simp only at j0 j1
          obtain ⟨z0, f0, f1, z1, hx13, -, -⟩ := res2 (hf12.hb _ (List.mem_cons_of_mem _ (List.mem_cons_of_mem _ (List.mem_cons_self ..)))).1 (.slice a1 n1 c1') (.slice a2 n2 c2')
          simp only at z0 f0 f1 z1 hx13
          have hw13 := res2_wb w12 g10 (.slice a1 n1 c1') (.slice a2 n2 c2')
          have HF13 : Hid (Fz w.heap.size b (.slice (some ⟨bb, of, none⟩) ls.length c5) ls ((w12.setCell ⟨g10, 0, none⟩ (.slice a1 n1 c1')).setCell ⟨g10, 1, none⟩ (.slice a2 n2 c2')) p8 s12 d12 T12 M12 A' [⟨w4.heap.size, .slice a1 n1 c1', .slice a2 n2 c2', Rn, nn⟩, ⟨g9, x', y', R0, nw0⟩, ⟨g10, .slice a1 n1 c1', .slice a2 n2 c2', CX.RL, CX.nt⟩]) := by
            rw [HX.out.2.1, HX.out.2.2]
            exact hf12.put ⟨_, (List.mem_cons_of_mem _ (List.mem_cons_of_mem _ (List.mem_cons_self ..))), rfl⟩ hw13 hx13 (hf12.hb _ (List.mem_cons_self ..)).2 (fun q hq => by
              simp only [List.mem_cons, List.not_mem_nil, or_false] at hq
              have h1 := HGN.out
              have h2 := HG.out
              rcases hq with rfl | rfl | rfl
              · exact .inr ⟨(List.mem_cons_self ..), by simp only; omega⟩
              · exact .inr ⟨(List.mem_cons_of_mem _ (List.mem_cons_self ..)), by simp only; omega⟩
              · exact .inl rfl)
          have HB13 : Hid (Below w.heap.size w ((w12.setCell ⟨g10, 0, none⟩ (.slice a1 n1 c1')).setCell ⟨g10, 1, none⟩ (.slice a2 n2 c2'))) := by
            have h1 := HB15.out.trans (hj12.1.below HB15.out.size fun k hk => HF15.out.lo k hk)
            exact h1.trans (hw13.below h1.size fun k hk => by subst hk; exact (hf12.hg _ (List.mem_cons_of_mem _ (List.mem_cons_of_mem _ (List.mem_cons_self ..)))).2.2.2.2.2)
          have HI12 := Hid.mk' hI12
          have hE14 : (E9 + (CX.RL.length : Int)) ≤ 100 * ((k + 1 : Nat) : Int) ∧ True := ⟨by have := HE9.out; have := HCX.out.2.2.1; omega, trivial⟩
          have HE14 := Hid.mk' hE14
          clear hT hI12 hj12 hf12 hx13 hw13 x0 hE14
          go_upto_region 38 with fail
          generalize (w12.setCell ⟨g10, 0, none⟩ (.slice a1 n1 c1')).setCell ⟨g10, 1, none⟩ (.slice a2 n2 c2') = w14 at *
          have HF14 := HF13
          have HB14 := HB13
          have HI14 := HI12

          have hf9 := HF14.out
          obtain ⟨j0, j1⟩ := bx2 (hf9.hb _ (List.mem_cons_of_mem _ (List.mem_cons_of_mem _ (List.mem_cons_self ..)))).1
          simp only at j0 j1
          have hfd := hf9.up (drew_blx w14 _)
          obtain ⟨z0, f0, f1, z1, hxe, -, -⟩ := res2 (hfd.hb _ (List.mem_cons_of_mem _ (List.mem_cons_self ..))).1 (.slice a1 n1 c1') (.slice a2 n2 c2')
          simp only at z0 f0 f1 z1 hxe
          have t0 : ∀ qq : Kp (fun _ => False) w14, qq.nx.cell? ⟨g10, 0, none⟩ = some _ := fun qq => qq.cell j0 (fun h => h)
          have t1 : ∀ qq : Kp (fun _ => False) w14, qq.nx.cell? ⟨g10, 1, none⟩ = some _ := fun qq => qq.cell j1 (fun h => h)
          have hwe := res2_wb w14.drew g9 (.slice a1 n1 c1') (.slice a2 n2 c2')
          have hfe : Fz w.heap.size b (.slice (some ⟨bb, of, none⟩) ls.length c5) ls ((w14.drew.setCell ⟨g9, 0, none⟩ (.slice a1 n1 c1')).setCell ⟨g9, 1, none⟩ (.slice a2 n2 c2')) p8 s12 d12 T12 M12 A' [⟨g9, .slice a1 n1 c1', .slice a2 n2 c2', CX.RL, CX.nt⟩, ⟨g10, .slice a1 n1 c1', .slice a2 n2 c2', CX.RL, CX.nt⟩] := hfd.put ⟨_, (List.mem_cons_of_mem _ (List.mem_cons_self ..)), rfl⟩ hwe hxe (hfd.hb _ (List.mem_cons_of_mem _ (List.mem_cons_of_mem _ (List.mem_cons_self ..)))).2 (fun q hq => by
            simp only [List.mem_cons, List.not_mem_nil, or_false] at hq
            have h2 := HG.out
            rcases hq with rfl | rfl
            · exact .inl rfl
            · exact .inr ⟨(List.mem_cons_of_mem _ (List.mem_cons_of_mem _ (List.mem_cons_self ..))), by simp only; omega⟩)
          have HFE : Hid (@Fz (XG g9 g10) w.heap.size b (.slice (some ⟨bb, of, none⟩) ls.length c5) ls ((w14.drew.setCell ⟨g9, 0, none⟩ (.slice a1 n1 c1')).setCell ⟨g9, 1, none⟩ (.slice a2 n2 c2')) p8 s12 d12 T12 M12 A' [⟨g9, .slice a1 n1 c1', .slice a2 n2 c2', CX.RL, CX.nt⟩, ⟨g10, .slice a1 n1 c1', .slice a2 n2 c2', CX.RL, CX.nt⟩]) :=
            Fz.re (X := fun j => (XG g9 g10).X j ∨ j = w4.heap.size) hfe (Below.refl _ _) (fun k hk => .inl (.inl hk)) (fun k hk => hfe.J.xlt k (.inl hk)) (fun q hq => by
              simp only [List.mem_cons, List.not_mem_nil, or_false] at hq
              rcases hq with rfl | rfl
              · exact .inl rfl
              · exact .inr rfl)
          have HBE : Hid (Below w.heap.size w ((w14.drew.setCell ⟨g9, 0, none⟩ (.slice a1 n1 c1')).setCell ⟨g9, 1, none⟩ (.slice a2 n2 c2'))) := by
            have h1 := HB14.out.trans ((drew_blx w14 _).mono HB14.out.size)
            exact h1.trans (hwe.below h1.size fun k hk => by subst hk; exact H93.out)
          clear hf9 j0 j1 hfd hxe hwe hfe
          go_wp2_with fail
          refine wp_region_mix 3 (fun w' => ∃ qq : Kp (fun _ => False) w14, w' = qq.nx) (by kernel_rfl) (by kernel_rfl) (kp_first _ w14) ?_
          simp only [List.take_succ_cons, List.take_zero, List.drop_succ_cons, List.drop_zero]
          refine mx_take 3 rfl ?_
          simp only [List.take_succ_cons, List.take_zero, List.drop_succ_cons, List.drop_zero]
          repeat (go_big_quiet_step (fail))
          refine wpQuiet_nil ?_
          simp only [wpMix]
          generalize w14.drew = w10 at *
          go_wp2_with fail
          go_roundw
          case rel => exact ⟨k + 1, p8, (⟨false, CX.rm, CX.hand, CX.me, CX.L, CX.RL, CX.nt⟩ : Cx), CX.RL, s12, d12, T12, M12, A', _, _, _, _, CX.nt, by omega, by go_num, rfl, ⟨rfl, rfl, HCX.out.2.2.1, HCX.out.2.2.1⟩, ⟨HI14.out.arm rfl, HCX.out.2.1⟩, (HI14.out.to false (fun h => by cases h)).more (by have := HE14.out.1; omega) (Nat.le_refl _) (by omega) (by omega), HFE, HBE⟩
          case measure => simp [intOf]; omega
        case true =>
          have hnt : CX.nt = C.nt := by simpa using hgg
          have HNT := Hid.mk' hnt
          clear hnt
          clear hgg HCE
          have HSA := Hid.mk' (same_any HF9.out.J HI8.out rfl (by have := HCX.out.2.2.1; omega) (HF9.out.hb _ (List.mem_cons_of_mem _ (List.mem_cons_of_mem _ (List.mem_cons_self ..)))).2 HF9.out.hA HOK.out.wid)
          go_wp2_with fail
          refine HSA.out.mono ?_
          rintro e w11 ⟨s11, d11, -, hTT, hFF, hI11, -, -, -, -, hj11⟩
          obtain ⟨T11, M11, hf11, -⟩ := HF9.out.pool hj11
          have HF11 := Hid.mk' hf11
          have HB11 := Hid.mk' (HB9.out.trans (hj11.1.below HB9.out.size fun k hk => HF9.out.lo k hk))
          have HAB11 : Hid (Ab w11 wr.heap.size q (.slice ua q.nt.length uc)) := heap_wb HAB9.out hj11.1 fun e => (HF9.out.dis e).1 HAG.out
          have HBS11 := Hid.mk' (Ob.bs (own_wb HOB9.out hj11.1 HOWN.out) HNL.out)
          have HI11 : Hid (Iv { CX with cal := true } (0 + (CX.RL.length : Int)) (k + 1) CX.RL s11 d11) := hI11
          clear hI11 hj11 hf11 HF9 HB9 HAB9 HI8 HSA HBS9 HOB9
          by_cases hR : CX.RL = C.RL
          case pos =>
            obtain rfl := hTT hR
            have HRR := Hid.mk' hR
            clear hTT hFF hR
            have HFX : Hid (Fz w.heap.size b (.slice (some ⟨bb, of, none⟩) ls.length c5) ls w11 p8 s11 d11 T11 M11 A' [⟨w4.heap.size, .slice a1 n1 c1', .slice a2 n2 c2', Rn, nn⟩, ⟨g9, x', y', R0, nw0⟩, ⟨g10, .slice b1 m1 e1', .slice b2 m2 e2', CX.RL, CX.nt⟩]) := by
              rw [HRR.out, HNT.out]; exact HF11.out
            have hE11 : (0 + (CX.RL.length : Int)) ≤ 100 * ((k + 1 : Nat) : Int) ∧ True := ⟨by have := HCX.out.2.2.1; omega, trivial⟩
            have HE11 := Hid.mk' hE11
            clear HF11 hE11
            have HF11 := HFX
            clear HFX
            have hf9 := HF11.out
            obtain ⟨j0, j1⟩ := bx2 (hf9.hb _ (List.mem_cons_of_mem _ (List.mem_cons_of_mem _ (List.mem_cons_self ..)))).1
            simp only at j0 j1
            have hfd := hf9.up (drew_blx w11 _)
            obtain ⟨z0, f0, f1, z1, hxe, -, -⟩ := res2 (hfd.hb _ (List.mem_cons_of_mem _ (List.mem_cons_self ..))).1 (.slice b1 m1 e1') (.slice b2 m2 e2')
            simp only at z0 f0 f1 z1 hxe
            have t0 : ∀ qq : Kp (fun _ => False) w11, qq.nx.cell? ⟨g10, 0, none⟩ = some _ := fun qq => qq.cell j0 (fun h => h)
            have t1 : ∀ qq : Kp (fun _ => False) w11, qq.nx.cell? ⟨g10, 1, none⟩ = some _ := fun qq => qq.cell j1 (fun h => h)
            have hwe := res2_wb w11.drew g9 (.slice b1 m1 e1') (.slice b2 m2 e2')
            have hfe : Fz w.heap.size b (.slice (some ⟨bb, of, none⟩) ls.length c5) ls ((w11.drew.setCell ⟨g9, 0, none⟩ (.slice b1 m1 e1')).setCell ⟨g9, 1, none⟩ (.slice b2 m2 e2')) p8 s11 d11 T11 M11 A' [⟨g9, .slice b1 m1 e1', .slice b2 m2 e2', CX.RL, CX.nt⟩, ⟨g10, .slice b1 m1 e1', .slice b2 m2 e2', CX.RL, CX.nt⟩] := hfd.put ⟨_, (List.mem_cons_of_mem _ (List.mem_cons_self ..)), rfl⟩ hwe hxe (hfd.hb _ (List.mem_cons_of_mem _ (List.mem_cons_of_mem _ (List.mem_cons_self ..)))).2 (fun q hq => by
              simp only [List.mem_cons, List.not_mem_nil, or_false] at hq
              have h2 := HG.out
              rcases hq with rfl | rfl
              · exact .inl rfl
              · exact .inr ⟨(List.mem_cons_of_mem _ (List.mem_cons_of_mem _ (List.mem_cons_self ..))), by simp only; omega⟩)
            have HFE : Hid (@Fz (XG g9 g10) w.heap.size b (.slice (some ⟨bb, of, none⟩) ls.length c5) ls ((w11.drew.setCell ⟨g9, 0, none⟩ (.slice b1 m1 e1')).setCell ⟨g9, 1, none⟩ (.slice b2 m2 e2')) p8 s11 d11 T11 M11 A' [⟨g9, .slice b1 m1 e1', .slice b2 m2 e2', CX.RL, CX.nt⟩, ⟨g10, .slice b1 m1 e1', .slice b2 m2 e2', CX.RL, CX.nt⟩]) :=
              Fz.re (X := fun j => (XG g9 g10).X j ∨ j = w4.heap.size) hfe (Below.refl _ _) (fun k hk => .inl (.inl hk)) (fun k hk => hfe.J.xlt k (.inl hk)) (fun q hq => by
                simp only [List.mem_cons, List.not_mem_nil, or_false] at hq
                rcases hq with rfl | rfl
                · exact .inl rfl
                · exact .inr rfl)
            have HBE : Hid (Below w.heap.size w ((w11.drew.setCell ⟨g9, 0, none⟩ (.slice b1 m1 e1')).setCell ⟨g9, 1, none⟩ (.slice b2 m2 e2'))) := by
              have h1 := HB11.out.trans ((drew_blx w11 _).mono HB11.out.size)
              exact h1.trans (hwe.below h1.size fun k hk => by subst hk; exact H93.out)
            clear hf9 j0 j1 hfd hxe hwe hfe
            go_wp2_with fail
            refine wp_region_mix 3 (fun w' => ∃ qq : Kp (fun _ => False) w11, w' = qq.nx) (by kernel_rfl) (by kernel_rfl) (kp_first _ w11) ?_
            simp only [List.take_succ_cons, List.take_zero, List.drop_succ_cons, List.drop_zero]
            refine mx_take 3 rfl ?_
            simp only [List.take_succ_cons, List.take_zero, List.drop_succ_cons, List.drop_zero]
            repeat (go_big_quiet_step (fail))
            refine wpQuiet_nil ?_
            simp only [wpMix]
            generalize w11.drew = w10 at *
            go_wp2_with fail
            go_roundw
            case rel => exact ⟨k + 1, p8, (⟨false, CX.rm, CX.hand, CX.me, CX.L, CX.RL, CX.nt⟩ : Cx), CX.RL, s11, d11, T11, M11, A', _, _, _, _, CX.nt, by omega, by go_num, rfl, ⟨rfl, rfl, HCX.out.2.2.1, HCX.out.2.2.1⟩, ⟨HI11.out.arm rfl, HCX.out.2.1⟩, (HI11.out.to false (fun h => by cases h)).more (by have := HE11.out.1; omega) (Nat.le_refl _) (by omega) (by omega), HFE, HBE⟩
            case measure => simp [intOf]; omega
          case neg =>
            obtain rfl := hFF hR
            have HX : Hid (q.kd = 5 ∧ CX.RL = Rn ∧ CX.nt = nn) := HXX.out.elim (fun h => absurd h.1 hR) fun h => h
            obtain ⟨E11, hE11⟩ : ∃ E11 : Int, E11 = 0 + (CX.RL.length : Int) := ⟨_, rfl⟩
            have HE11 : Hid (E11 ≤ (k : Int) + 1 ∧ 0 ≤ E11) := by show _ ∧ _; have := HCX.out.2.2.1; omega
            rw [← hE11] at HI11
            clear hE11 hTT hFF hR
            have hk5 : (q.kd != 5) = false := by simp [HX.out.1]
            have HEQ2 : Hid (Calls Tryz.prog 19 #[.slice oa CX.nt.length oc, .slice a2 n2 c2'] w11 fun e w' => e = .returned (.bool true) ∧ Dn w11 w') := by
              have h1 : Bs A' w11 (.slice a2 n2 c2') nn := by
                obtain ⟨_, _, e, _, h⟩ := (HF11.out.hb _ (List.mem_cons_self ..)).2
                simp only at e
                cases e
                exact h
              refine (requal_any _ _ _ _ w11 HBS11.out h1).mono fun e w' h => ⟨by rw [h.1, HX.out.2.2]; simp, h.2⟩
            obtain ⟨j0, j1⟩ := bx2 (HF11.out.hb _ (List.mem_cons_self ..)).1
            simp only at j0 j1
            obtain ⟨x0, -, -, -, -, -, -⟩ := bx7 (HAB11.out)
            go_wp2_with fail
            refine HEQ2.out.mono ?_
            rintro e w15 ⟨rfl, hdn⟩
            have hb15 : Below w11.heap.size w11 w15 := hdn.below _
            have HF15 := Hid.mk' (HF11.out.up hb15)
            have HB15 := Hid.mk' (HB11.out.trans (hb15.mono HB11.out.size))
            have HSA2 := Hid.mk' (same_any HF15.out.J HI11.out rfl (by have := HE11.out; have := HCX.out.2.2.1; omega) (HF15.out.hb _ (List.mem_cons_self ..)).2 HF15.out.hA (by show ∀ x ∈ Rn, Wi x.1; rw [← HX.out.2.1]; exact HCX.out.2.2.2.wid))
            obtain ⟨j0, j1⟩ := bx2 (HF15.out.hb _ (List.mem_cons_self ..)).1
            simp only at j0 j1
            clear hdn hb15
            go_wp2_with fail
            refine HSA2.out.mono ?_
            rintro e w12 ⟨s12, d12, -, hT, -, hI12, -, -, -, -, hj12⟩
            obtain rfl := hT HX.out.2.1
            obtain ⟨T12, M12, hf12, -⟩ := HF15.out.pool hj12
            obtain ⟨j0, j1⟩ := bx2 (hf12.hb _ (List.mem_cons_self ..)).1
            simp only at j0 j1
            obtain ⟨z0, f0, f1, z1, hx13, -, -⟩ := res2 (hf12.hb _ (List.mem_cons_of_mem _ (List.mem_cons_of_mem _ (List.mem_cons_self ..)))).1 (.slice a1 n1 c1') (.slice a2 n2 c2')
            simp only at z0 f0 f1 z1 hx13
            have hw13 := res2_wb w12 g10 (.slice a1 n1 c1') (.slice a2 n2 c2')
            have HF13 : Hid (Fz w.heap.size b (.slice (some ⟨bb, of, none⟩) ls.length c5) ls ((w12.setCell ⟨g10, 0, none⟩ (.slice a1 n1 c1')).setCell ⟨g10, 1, none⟩ (.slice a2 n2 c2')) p8 s12 d12 T12 M12 A' [⟨w4.heap.size, .slice a1 n1 c1', .slice a2 n2 c2', Rn, nn⟩, ⟨g9, x', y', R0, nw0⟩, ⟨g10, .slice a1 n1 c1', .slice a2 n2 c2', CX.RL, CX.nt⟩]) := by
              rw [HX.out.2.1, HX.out.2.2]
              exact hf12.put ⟨_, (List.mem_cons_of_mem _ (List.mem_cons_of_mem _ (List.mem_cons_self ..))), rfl⟩ hw13 hx13 (hf12.hb _ (List.mem_cons_self ..)).2 (fun q hq => by
                simp only [List.mem_cons, List.not_mem_nil, or_false] at hq
                have h1 := HGN.out
                have h2 := HG.out
                rcases hq with rfl | rfl | rfl
                · exact .inr ⟨(List.mem_cons_self ..), by simp only; omega⟩
                · exact .inr ⟨(List.mem_cons_of_mem _ (List.mem_cons_self ..)), by simp only; omega⟩
                · exact .inl rfl)
            have HB13 : Hid (Below w.heap.size w ((w12.setCell ⟨g10, 0, none⟩ (.slice a1 n1 c1')).setCell ⟨g10, 1, none⟩ (.slice a2 n2 c2'))) := by
              have h1 := HB15.out.trans (hj12.1.below HB15.out.size fun k hk => HF15.out.lo k hk)
              exact h1.trans (hw13.below h1.size fun k hk => by subst hk; exact (hf12.hg _ (List.mem_cons_of_mem _ (List.mem_cons_of_mem _ (List.mem_cons_self ..)))).2.2.2.2.2)
            have HI12 := Hid.mk' hI12
            have hE14 : (E11 + (CX.RL.length : Int)) ≤ 100 * ((k + 1 : Nat) : Int) ∧ True := ⟨by have := HE11.out; have := HCX.out.2.2.1; omega, trivial⟩
            have HE14 := Hid.mk' hE14
            clear hT hI12 hj12 hf12 hx13 hw13 x0 hE14
            go_upto_region 38 with fail
            generalize (w12.setCell ⟨g10, 0, none⟩ (.slice a1 n1 c1')).setCell ⟨g10, 1, none⟩ (.slice a2 n2 c2') = w14 at *
            have HF14 := HF13
            have HB14 := HB13
            have HI14 := HI12

            have hf9 := HF14.out
            obtain ⟨j0, j1⟩ := bx2 (hf9.hb _ (List.mem_cons_of_mem _ (List.mem_cons_of_mem _ (List.mem_cons_self ..)))).1
            simp only at j0 j1
            have hfd := hf9.up (drew_blx w14 _)
            obtain ⟨z0, f0, f1, z1, hxe, -, -⟩ := res2 (hfd.hb _ (List.mem_cons_of_mem _ (List.mem_cons_self ..))).1 (.slice a1 n1 c1') (.slice a2 n2 c2')
            simp only at z0 f0 f1 z1 hxe
            have t0 : ∀ qq : Kp (fun _ => False) w14, qq.nx.cell? ⟨g10, 0, none⟩ = some _ := fun qq => qq.cell j0 (fun h => h)
            have t1 : ∀ qq : Kp (fun _ => False) w14, qq.nx.cell? ⟨g10, 1, none⟩ = some _ := fun qq => qq.cell j1 (fun h => h)
            have hwe := res2_wb w14.drew g9 (.slice a1 n1 c1') (.slice a2 n2 c2')
            have hfe : Fz w.heap.size b (.slice (some ⟨bb, of, none⟩) ls.length c5) ls ((w14.drew.setCell ⟨g9, 0, none⟩ (.slice a1 n1 c1')).setCell ⟨g9, 1, none⟩ (.slice a2 n2 c2')) p8 s12 d12 T12 M12 A' [⟨g9, .slice a1 n1 c1', .slice a2 n2 c2', CX.RL, CX.nt⟩, ⟨g10, .slice a1 n1 c1', .slice a2 n2 c2', CX.RL, CX.nt⟩] := hfd.put ⟨_, (List.mem_cons_of_mem _ (List.mem_cons_self ..)), rfl⟩ hwe hxe (hfd.hb _ (List.mem_cons_of_mem _ (List.mem_cons_of_mem _ (List.mem_cons_self ..)))).2 (fun q hq => by
              simp only [List.mem_cons, List.not_mem_nil, or_false] at hq
              have h2 := HG.out
              rcases hq with rfl | rfl
              · exact .inl rfl
              · exact .inr ⟨(List.mem_cons_of_mem _ (List.mem_cons_of_mem _ (List.mem_cons_self ..))), by simp only; omega⟩)
            have HFE : Hid (@Fz (XG g9 g10) w.heap.size b (.slice (some ⟨bb, of, none⟩) ls.length c5) ls ((w14.drew.setCell ⟨g9, 0, none⟩ (.slice a1 n1 c1')).setCell ⟨g9, 1, none⟩ (.slice a2 n2 c2')) p8 s12 d12 T12 M12 A' [⟨g9, .slice a1 n1 c1', .slice a2 n2 c2', CX.RL, CX.nt⟩, ⟨g10, .slice a1 n1 c1', .slice a2 n2 c2', CX.RL, CX.nt⟩]) :=
              Fz.re (X := fun j => (XG g9 g10).X j ∨ j = w4.heap.size) hfe (Below.refl _ _) (fun k hk => .inl (.inl hk)) (fun k hk => hfe.J.xlt k (.inl hk)) (fun q hq => by
                simp only [List.mem_cons, List.not_mem_nil, or_false] at hq
                rcases hq with rfl | rfl
                · exact .inl rfl
                · exact .inr rfl)
            have HBE : Hid (Below w.heap.size w ((w14.drew.setCell ⟨g9, 0, none⟩ (.slice a1 n1 c1')).setCell ⟨g9, 1, none⟩ (.slice a2 n2 c2'))) := by
              have h1 := HB14.out.trans ((drew_blx w14 _).mono HB14.out.size)
              exact h1.trans (hwe.below h1.size fun k hk => by subst hk; exact H93.out)
            clear hf9 j0 j1 hfd hxe hwe hfe
            go_wp2_with fail
            refine wp_region_mix 3 (fun w' => ∃ qq : Kp (fun _ => False) w14, w' = qq.nx) (by kernel_rfl) (by kernel_rfl) (kp_first _ w14) ?_
            simp only [List.take_succ_cons, List.take_zero, List.drop_succ_cons, List.drop_zero]
            refine mx_take 3 rfl ?_
            simp only [List.take_succ_cons, List.take_zero, List.drop_succ_cons, List.drop_zero]
            repeat (go_big_quiet_step (fail))
            refine wpQuiet_nil ?_
            simp only [wpMix]
            generalize w14.drew = w10 at *
            go_wp2_with fail
            go_roundw
            case rel => exact ⟨k + 1, p8, (⟨false, CX.rm, CX.hand, CX.me, CX.L, CX.RL, CX.nt⟩ : Cx), CX.RL, s12, d12, T12, M12, A', _, _, _, _, CX.nt, by omega, by go_num, rfl, ⟨rfl, rfl, HCX.out.2.2.1, HCX.out.2.2.1⟩, ⟨HI14.out.arm rfl, HCX.out.2.1⟩, (HI14.out.to false (fun h => by cases h)).more (by have := HE14.out.1; omega) (Nat.le_refl _) (by omega) (by omega), HFE, HBE⟩
            case measure => simp [intOf]; omega
      case true =>
        rw [hdd] at hda
        have HDA := Hid.mk' hda
        clear hda dd hdd
        have HRM := Hid.mk' room
        have HDQ := Hid.mk' dq
        have hsl : d'.safe.length ≤ 3 := by
          have h := dq.al 0
          rw [after_zero] at h
          rcases h with h | ⟨_, S, _, h⟩
          · exact h.tot.2
          · exact h.tot.2
        have hun := dq.un
        have HCR := Hid.mk' (crash_any q.kp hJ.Dr dq.qo (by unfold maxLen; omega) (by omega) hkp1 hkp2 (by omega))
        obtain ⟨x0, -, -, -, -, -, x6⟩ := bx7 HAB.out
        clear hsl hun room que dq
        go_wp2_with fail
        refine HDA.out.mono ?_
        rintro e w7 ⟨rfl, rfl⟩
        go_wp2_with fail
        refine HCR.out.mono ?_
        rintro e w7 ⟨rfl, hT⟩
        obtain ⟨M7, Dd7, hf7, hJ7, hw7⟩ := HF.out.drive hJ hT
        obtain ⟨F, hG, hcr⟩ := crD_dv HDQ.out q.kp
        rw [hcr, HRM.out] at hf7 hJ7
        have hCX : ∃ CX : Cx, Dv CX (k + 1) ⟨F, F, [], C.rm, false, 0, false⟩ ∧ CX.hand = C.hand ∧ CX.RL.length ≤ k + 1 ∧ CX.Ok ∧ ((CX.RL = C.RL ∧ CX.nt = C.nt) ∨ (q.kd = 5 ∧ CX.RL = Rn ∧ CX.nt = nn)) := by
          rcases hG with hG | ⟨h5, S, hok, hG⟩
          · exact ⟨C, dv_files HOK.out (by omega) hG, rfl, Nat.le_succ_of_le HCS.out.cl, HOK.out, .inl ⟨rfl, rfl⟩⟩
          · exact ⟨C.save S Rn nn, dv_files hok (by omega) hG, rfl, HRN.out, hok, .inr ⟨h5, rfl, rfl⟩⟩
        obtain ⟨CX, hDv, hch, hcl, hcok, hcx⟩ := hCX
        have HOP := Hid.mk' (vopen hJ7.Dr ⟨hJ7.xo.1, fun _ h => False.elim h, hJ7.xo.2.2⟩ hDv hand (by rw [hch, HAR.out.2]))
        have HCX : Hid (True ∧ CX.hand = max 1 hand ∧ CX.RL.length ≤ k + 1 ∧ CX.Ok) := ⟨trivial, by rw [hch, HAR.out.2], hcl, hcok⟩
        have HXX := Hid.mk' hcx
        have HF7 := Hid.mk' hf7
        have HB7 := Hid.mk' (HB6.out.trans (hw7.below HB6.out.size fun k hk => HF.out.lo k hk))
        have HAB7 : Hid (Ab w7 wr.heap.size q (.slice ua q.nt.length uc)) := heap_wb HAB.out hw7 fun e => (HF.out.dis e).1 HAG.out
        clear hT hf7 hJ hJ7 hw7 hG hcr hDv hch hcl hcok hcx x0 x6
        go_wp2_with fail
        refine HOP.out.mono ?_
        rintro e w8 ho
        obtain ⟨p8, c8, v8, T8, rfl, hob, hb8, hI8, hf8, hown⟩ := HF7.out.opened ho
        obtain ⟨oa, oc, rfl⟩ := own_sliceN hob
        have HNL : Hid (CX.nt.length ≤ lim) := by show _ ≤ _; have := HCX.out.2.2.2.ntl; unfold lim; omega
        have HOB := Hid.mk' hob
        have HOWN := Hid.mk' hown
        have hbn : Bs A' w8 (.slice b2 m2 e2') C.nt := by
          obtain ⟨_, _, e, _, h⟩ := (hf8.hb _ (List.mem_cons_of_mem _ (List.mem_cons_of_mem _ (List.mem_cons_self ..)))).2
          simp only at e
          cases e
          exact h
        have HEQ := Hid.mk' (requal_any _ _ _ _ w8 (HOB.out.bs HNL.out) hbn)
        have HF8 := Hid.mk' hf8
        have HB8 := Hid.mk' (HB7.out.trans (hb8.mono HB7.out.size))
        have HAB8 : Hid (Ab w8 wr.heap.size q (.slice ua q.nt.length uc)) := heap_up HAB7.out hb8
        have HI8 : Hid (Iv { CX with cal := true } 0 (k + 1) CX.RL (s0k CX.hand CX.L) ⟨F, F, [], C.rm, false, 0, false⟩) := hI8.to true fun _ => rfl
        obtain ⟨j0, j1⟩ := bx2 (hf8.hb _ (List.mem_cons_of_mem _ (List.mem_cons_of_mem _ (List.mem_cons_self ..)))).1
        simp only at j0 j1
        clear ho hob hb8 hbn hI8 hf8 HOP hown
        generalize s0k CX.hand CX.L = s8 at *
        generalize (⟨F, F, [], C.rm, false, 0, false⟩ : Dm) = d8 at *
        go_wp2_with fail
        refine HEQ.out.mono ?_
        rintro e w9 ⟨rfl, hdn⟩
        have hb9 : Below w8.heap.size w8 w9 := hdn.below _
        have HF9 := Hid.mk' (HF8.out.up hb9)
        have HB9 := Hid.mk' (HB8.out.trans (hb9.mono HB8.out.size))
        have HOB9 := Hid.mk' (own_keep HOB.out hb9 (Nat.le_refl _))
        have HBS9 := Hid.mk' (Ob.bs HOB9.out HNL.out)
        have HAB9 : Hid (Ab w9 wr.heap.size q (.slice ua q.nt.length uc)) := heap_up HAB8.out hb9
        obtain ⟨j0, j1⟩ := bx2 (HF9.out.hb _ (List.mem_cons_of_mem _ (List.mem_cons_of_mem _ (List.mem_cons_self ..)))).1
        simp only at j0 j1
        clear hdn hb9 HF8
        have HCE : Hid ((CX.nt == C.nt) = false → ¬ (CX.RL = C.RL ∧ CX.nt = C.nt)) := fun h h2 => by rw [h2.2] at h; simp at h
        generalize hgg : (CX.nt == C.nt) = gg at *
        cases gg
        case false =>
          have HX : Hid (q.kd = 5 ∧ CX.RL = Rn ∧ CX.nt = nn) := HXX.out.elim (fun h => absurd h (HCE.out rfl)) fun h => h
          obtain ⟨E9, hE9⟩ : ∃ E9 : Int, E9 = 0 := ⟨0, rfl⟩
          have HE9 : Hid (E9 ≤ (k : Int) + 1 ∧ 0 ≤ E9) := by show _ ∧ _; omega
          have HI9 := HI8
          rw [← hE9] at HI9
          clear hgg hE9 HCE j0 j1 HI8
          have hk5 : (q.kd != 5) = false := by simp [HX.out.1]
          have HEQ2 : Hid (Calls Tryz.prog 19 #[.slice oa CX.nt.length oc, .slice a2 n2 c2'] w9 fun e w' => e = .returned (.bool true) ∧ Dn w9 w') := by
            have h1 : Bs A' w9 (.slice a2 n2 c2') nn := by
              obtain ⟨_, _, e, _, h⟩ := (HF9.out.hb _ (List.mem_cons_self ..)).2
              simp only at e
              cases e
              exact h
            refine (requal_any _ _ _ _ w9 HBS9.out h1).mono fun e w' h => ⟨by rw [h.1, HX.out.2.2]; simp, h.2⟩
          obtain ⟨j0, j1⟩ := bx2 (HF9.out.hb _ (List.mem_cons_self ..)).1
          simp only at j0 j1
          obtain ⟨x0, -, -, -, -, -, -⟩ := bx7 (HAB9.out)
          go_wp2_with fail
          refine HEQ2.out.mono ?_
          rintro e w15 ⟨rfl, hdn⟩
          have hb15 : Below w9.heap.size w9 w15 := hdn.below _
          have HF15 := Hid.mk' (HF9.out.up hb15)
          have HB15 := Hid.mk' (HB9.out.trans (hb15.mono HB9.out.size))
          have HSA2 := Hid.mk' (same_any HF15.out.J HI9.out rfl (by have := HE9.out; have := HCX.out.2.2.1; omega) (HF15.out.hb _ (List.mem_cons_self ..)).2 HF15.out.hA (by show ∀ x ∈ Rn, Wi x.1; rw [← HX.out.2.1]; exact HCX.out.2.2.2.wid))
          obtain ⟨j0, j1⟩ := bx2 (HF15.out.hb _ (List.mem_cons_self ..)).1
          simp only at j0 j1
          clear hdn hb15
          go_wp2_with fail
          refine HSA2.out.mono ?_
          rintro e w12 ⟨s12, d12, -, hT, -, hI12, -, -, -, -, hj12⟩
          obtain rfl := hT HX.out.2.1
          obtain ⟨T12, M12, hf12, -⟩ := HF15.out.pool hj12
          obtain ⟨j0, j1⟩ := bx2 (hf12.hb _ (List.mem_cons_self ..)).1
          simp only at j0 j1
          obtain ⟨z0, f0, f1, z1, hx13, -, -⟩ := res2 (hf12.hb _ (List.mem_cons_of_mem _ (List.mem_cons_of_mem _ (List.mem_cons_self ..)))).1 (.slice a1 n1 c1') (.slice a2 n2 c2')
          simp only at z0 f0 f1 z1 hx13
          have hw13 := res2_wb w12 g10 (.slice a1 n1 c1') (.slice a2 n2 c2')
          have HF13 : Hid (Fz w.heap.size b (.slice (some ⟨bb, of, none⟩) ls.length c5) ls ((w12.setCell ⟨g10, 0, none⟩ (.slice a1 n1 c1')).setCell ⟨g10, 1, none⟩ (.slice a2 n2 c2')) p8 s12 d12 T12 M12 A' [⟨w4.heap.size, .slice a1 n1 c1', .slice a2 n2 c2', Rn, nn⟩, ⟨g9, x', y', R0, nw0⟩, ⟨g10, .slice a1 n1 c1', .slice a2 n2 c2', CX.RL, CX.nt⟩]) := by
            rw [HX.out.2.1, HX.out.2.2]
            exact hf12.put ⟨_, (List.mem_cons_of_mem _ (List.mem_cons_of_mem _ (List.mem_cons_self ..))), rfl⟩ hw13 hx13 (hf12.hb _ (List.mem_cons_self ..)).2 (fun q hq => by
              simp only [List.mem_cons, List.not_mem_nil, or_false] at hq
              have h1 := HGN.out
              have h2 := HG.out
              rcases hq with rfl | rfl | rfl
              · exact .inr ⟨(List.mem_cons_self ..), by simp only; omega⟩
              · exact .inr ⟨(List.mem_cons_of_mem _ (List.mem_cons_self ..)), by simp only; omega⟩
              · exact .inl rfl)
          have HB13 : Hid (Below w.heap.size w ((w12.setCell ⟨g10, 0, none⟩ (.slice a1 n1 c1')).setCell ⟨g10, 1, none⟩ (.slice a2 n2 c2'))) := by
            have h1 := HB15.out.trans (hj12.1.below HB15.out.size fun k hk => HF15.out.lo k hk)
            exact h1.trans (hw13.below h1.size fun k hk => by subst hk; exact (hf12.hg _ (List.mem_cons_of_mem _ (List.mem_cons_of_mem _ (List.mem_cons_self ..)))).2.2.2.2.2)
          have HI12 := Hid.mk' hI12
          have hE14 : (E9 + (CX.RL.length : Int)) ≤ 100 * ((k + 1 : Nat) : Int) ∧ True := ⟨by have := HE9.out; have := HCX.out.2.2.1; omega, trivial⟩
          have HE14 := Hid.mk' hE14
          clear hT hI12 hj12 hf12 hx13 hw13 x0 hE14
          go_upto_region 38 with fail
          generalize (w12.setCell ⟨g10, 0, none⟩ (.slice a1 n1 c1')).setCell ⟨g10, 1, none⟩ (.slice a2 n2 c2') = w14 at *
          have HF14 := HF13
          have HB14 := HB13
          have HI14 := HI12

          have hf9 := HF14.out
          obtain ⟨j0, j1⟩ := bx2 (hf9.hb _ (List.mem_cons_of_mem _ (List.mem_cons_of_mem _ (List.mem_cons_self ..)))).1
          simp only at j0 j1
          have hfd := hf9.up (drew_blx w14 _)
          obtain ⟨z0, f0, f1, z1, hxe, -, -⟩ := res2 (hfd.hb _ (List.mem_cons_of_mem _ (List.mem_cons_self ..))).1 (.slice a1 n1 c1') (.slice a2 n2 c2')
          simp only at z0 f0 f1 z1 hxe
          have t0 : ∀ qq : Kp (fun _ => False) w14, qq.nx.cell? ⟨g10, 0, none⟩ = some _ := fun qq => qq.cell j0 (fun h => h)
          have t1 : ∀ qq : Kp (fun _ => False) w14, qq.nx.cell? ⟨g10, 1, none⟩ = some _ := fun qq => qq.cell j1 (fun h => h)
          have hwe := res2_wb w14.drew g9 (.slice a1 n1 c1') (.slice a2 n2 c2')
          have hfe : Fz w.heap.size b (.slice (some ⟨bb, of, none⟩) ls.length c5) ls ((w14.drew.setCell ⟨g9, 0, none⟩ (.slice a1 n1 c1')).setCell ⟨g9, 1, none⟩ (.slice a2 n2 c2')) p8 s12 d12 T12 M12 A' [⟨g9, .slice a1 n1 c1', .slice a2 n2 c2', CX.RL, CX.nt⟩, ⟨g10, .slice a1 n1 c1', .slice a2 n2 c2', CX.RL, CX.nt⟩] := hfd.put ⟨_, (List.mem_cons_of_mem _ (List.mem_cons_self ..)), rfl⟩ hwe hxe (hfd.hb _ (List.mem_cons_of_mem _ (List.mem_cons_of_mem _ (List.mem_cons_self ..)))).2 (fun q hq => by
            simp only [List.mem_cons, List.not_mem_nil, or_false] at hq
            have h2 := HG.out
            rcases hq with rfl | rfl
            · exact .inl rfl
            · exact .inr ⟨(List.mem_cons_of_mem _ (List.mem_cons_of_mem _ (List.mem_cons_self ..))), by simp only; omega⟩)
          have HFE : Hid (@Fz (XG g9 g10) w.heap.size b (.slice (some ⟨bb, of, none⟩) ls.length c5) ls ((w14.drew.setCell ⟨g9, 0, none⟩ (.slice a1 n1 c1')).setCell ⟨g9, 1, none⟩ (.slice a2 n2 c2')) p8 s12 d12 T12 M12 A' [⟨g9, .slice a1 n1 c1', .slice a2 n2 c2', CX.RL, CX.nt⟩, ⟨g10, .slice a1 n1 c1', .slice a2 n2 c2', CX.RL, CX.nt⟩]) :=
            Fz.re (X := fun j => (XG g9 g10).X j ∨ j = w4.heap.size) hfe (Below.refl _ _) (fun k hk => .inl (.inl hk)) (fun k hk => hfe.J.xlt k (.inl hk)) (fun q hq => by
              simp only [List.mem_cons, List.not_mem_nil, or_false] at hq
              rcases hq with rfl | rfl
              · exact .inl rfl
              · exact .inr rfl)
          have HBE : Hid (Below w.heap.size w ((w14.drew.setCell ⟨g9, 0, none⟩ (.slice a1 n1 c1')).setCell ⟨g9, 1, none⟩ (.slice a2 n2 c2'))) := by
            have h1 := HB14.out.trans ((drew_blx w14 _).mono HB14.out.size)
            exact h1.trans (hwe.below h1.size fun k hk => by subst hk; exact H93.out)
          clear hf9 j0 j1 hfd hxe hwe hfe
          go_wp2_with fail
          refine wp_region_mix 3 (fun w' => ∃ qq : Kp (fun _ => False) w14, w' = qq.nx) (by kernel_rfl) (by kernel_rfl) (kp_first _ w14) ?_
          simp only [List.take_succ_cons, List.take_zero, List.drop_succ_cons, List.drop_zero]
          refine mx_take 3 rfl ?_
          simp only [List.take_succ_cons, List.take_zero, List.drop_succ_cons, List.drop_zero]
          repeat (go_big_quiet_step (fail))
          refine wpQuiet_nil ?_
          simp only [wpMix]
          generalize w14.drew = w10 at *
          go_wp2_with fail
          go_roundw
          case rel => exact ⟨k + 1, p8, (⟨false, CX.rm, CX.hand, CX.me, CX.L, CX.RL, CX.nt⟩ : Cx), CX.RL, s12, d12, T12, M12, A', _, _, _, _, CX.nt, by omega, by go_num, rfl, ⟨rfl, rfl, HCX.out.2.2.1, HCX.out.2.2.1⟩, ⟨HI14.out.arm rfl, HCX.out.2.1⟩, (HI14.out.to false (fun h => by cases h)).more (by have := HE14.out.1; omega) (Nat.le_refl _) (by omega) (by omega), HFE, HBE⟩
          case measure => simp [intOf]; omega
        case true =>
          have hnt : CX.nt = C.nt := by simpa using hgg
          have HNT := Hid.mk' hnt
          clear hnt
          clear hgg HCE
          have HSA := Hid.mk' (same_any HF9.out.J HI8.out rfl (by have := HCX.out.2.2.1; omega) (HF9.out.hb _ (List.mem_cons_of_mem _ (List.mem_cons_of_mem _ (List.mem_cons_self ..)))).2 HF9.out.hA HOK.out.wid)
          go_wp2_with fail
          refine HSA.out.mono ?_
          rintro e w11 ⟨s11, d11, -, hTT, hFF, hI11, -, -, -, -, hj11⟩
          obtain ⟨T11, M11, hf11, -⟩ := HF9.out.pool hj11
          have HF11 := Hid.mk' hf11
          have HB11 := Hid.mk' (HB9.out.trans (hj11.1.below HB9.out.size fun k hk => HF9.out.lo k hk))
          have HAB11 : Hid (Ab w11 wr.heap.size q (.slice ua q.nt.length uc)) := heap_wb HAB9.out hj11.1 fun e => (HF9.out.dis e).1 HAG.out
          have HBS11 := Hid.mk' (Ob.bs (own_wb HOB9.out hj11.1 HOWN.out) HNL.out)
          have HI11 : Hid (Iv { CX with cal := true } (0 + (CX.RL.length : Int)) (k + 1) CX.RL s11 d11) := hI11
          clear hI11 hj11 hf11 HF9 HB9 HAB9 HI8 HSA HBS9 HOB9
          by_cases hR : CX.RL = C.RL
          case pos =>
            obtain rfl := hTT hR
            have HRR := Hid.mk' hR
            clear hTT hFF hR
            have HFX : Hid (Fz w.heap.size b (.slice (some ⟨bb, of, none⟩) ls.length c5) ls w11 p8 s11 d11 T11 M11 A' [⟨w4.heap.size, .slice a1 n1 c1', .slice a2 n2 c2', Rn, nn⟩, ⟨g9, x', y', R0, nw0⟩, ⟨g10, .slice b1 m1 e1', .slice b2 m2 e2', CX.RL, CX.nt⟩]) := by
              rw [HRR.out, HNT.out]; exact HF11.out
            have hE11 : (0 + (CX.RL.length : Int)) ≤ 100 * ((k + 1 : Nat) : Int) ∧ True := ⟨by have := HCX.out.2.2.1; omega, trivial⟩
            have HE11 := Hid.mk' hE11
            clear HF11 hE11
            have HF11 := HFX
            clear HFX
            have hf9 := HF11.out
            obtain ⟨j0, j1⟩ := bx2 (hf9.hb _ (List.mem_cons_of_mem _ (List.mem_cons_of_mem _ (List.mem_cons_self ..)))).1
            simp only at j0 j1
            have hfd := hf9.up (drew_blx w11 _)
            obtain ⟨z0, f0, f1, z1, hxe, -, -⟩ := res2 (hfd.hb _ (List.mem_cons_of_mem _ (List.mem_cons_self ..))).1 (.slice b1 m1 e1') (.slice b2 m2 e2')
            simp only at z0 f0 f1 z1 hxe
            have t0 : ∀ qq : Kp (fun _ => False) w11, qq.nx.cell? ⟨g10, 0, none⟩ = some _ := fun qq => qq.cell j0 (fun h => h)
            have t1 : ∀ qq : Kp (fun _ => False) w11, qq.nx.cell? ⟨g10, 1, none⟩ = some _ := fun qq => qq.cell j1 (fun h => h)
            have hwe := res2_wb w11.drew g9 (.slice b1 m1 e1') (.slice b2 m2 e2')
            have hfe : Fz w.heap.size b (.slice (some ⟨bb, of, none⟩) ls.length c5) ls ((w11.drew.setCell ⟨g9, 0, none⟩ (.slice b1 m1 e1')).setCell ⟨g9, 1, none⟩ (.slice b2 m2 e2')) p8 s11 d11 T11 M11 A' [⟨g9, .slice b1 m1 e1', .slice b2 m2 e2', CX.RL, CX.nt⟩, ⟨g10, .slice b1 m1 e1', .slice b2 m2 e2', CX.RL, CX.nt⟩] := hfd.put ⟨_, (List.mem_cons_of_mem _ (List.mem_cons_self ..)), rfl⟩ hwe hxe (hfd.hb _ (List.mem_cons_of_mem _ (List.mem_cons_of_mem _ (List.mem_cons_self ..)))).2 (fun q hq => by
              simp only [List.mem_cons, List.not_mem_nil, or_false] at hq
              have h2 := HG.out
              rcases hq with rfl | rfl
              · exact .inl rfl
              · exact .inr ⟨(List.mem_cons_of_mem _ (List.mem_cons_of_mem _ (List.mem_cons_self ..))), by simp only; omega⟩)
            have HFE : Hid (@Fz (XG g9 g10) w.heap.size b (.slice (some ⟨bb, of, none⟩) ls.length c5) ls ((w11.drew.setCell ⟨g9, 0, none⟩ (.slice b1 m1 e1')).setCell ⟨g9, 1, none⟩ (.slice b2 m2 e2')) p8 s11 d11 T11 M11 A' [⟨g9, .slice b1 m1 e1', .slice b2 m2 e2', CX.RL, CX.nt⟩, ⟨g10, .slice b1 m1 e1', .slice b2 m2 e2', CX.RL, CX.nt⟩]) :=
              Fz.re (X := fun j => (XG g9 g10).X j ∨ j = w4.heap.size) hfe (Below.refl _ _) (fun k hk => .inl (.inl hk)) (fun k hk => hfe.J.xlt k (.inl hk)) (fun q hq => by
                simp only [List.mem_cons, List.not_mem_nil, or_false] at hq
                rcases hq with rfl | rfl
                · exact .inl rfl
                · exact .inr rfl)
            have HBE : Hid (Below w.heap.size w ((w11.drew.setCell ⟨g9, 0, none⟩ (.slice b1 m1 e1')).setCell ⟨g9, 1, none⟩ (.slice b2 m2 e2'))) := by
              have h1 := HB11.out.trans ((drew_blx w11 _).mono HB11.out.size)
              exact h1.trans (hwe.below h1.size fun k hk => by subst hk; exact H93.out)
            clear hf9 j0 j1 hfd hxe hwe hfe
            go_wp2_with fail
            refine wp_region_mix 3 (fun w' => ∃ qq : Kp (fun _ => False) w11, w' = qq.nx) (by kernel_rfl) (by kernel_rfl) (kp_first _ w11) ?_
            simp only [List.take_succ_cons, List.take_zero, List.drop_succ_cons, List.drop_zero]
            refine mx_take 3 rfl ?_
            simp only [List.take_succ_cons, List.take_zero, List.drop_succ_cons, List.drop_zero]
            repeat (go_big_quiet_step (fail))
            refine wpQuiet_nil ?_
            simp only [wpMix]
            generalize w11.drew = w10 at *
            go_wp2_with fail
            go_roundw
            case rel => exact ⟨k + 1, p8, (⟨false, CX.rm, CX.hand, CX.me, CX.L, CX.RL, CX.nt⟩ : Cx), CX.RL, s11, d11, T11, M11, A', _, _, _, _, CX.nt, by omega, by go_num, rfl, ⟨rfl, rfl, HCX.out.2.2.1, HCX.out.2.2.1⟩, ⟨HI11.out.arm rfl, HCX.out.2.1⟩, (HI11.out.to false (fun h => by cases h)).more (by have := HE11.out.1; omega) (Nat.le_refl _) (by omega) (by omega), HFE, HBE⟩
            case measure => simp [intOf]; omega
          case neg =>
            obtain rfl := hFF hR
            have HX : Hid (q.kd = 5 ∧ CX.RL = Rn ∧ CX.nt = nn) := HXX.out.elim (fun h => absurd h.1 hR) fun h => h
            obtain ⟨E11, hE11⟩ : ∃ E11 : Int, E11 = 0 + (CX.RL.length : Int) := ⟨_, rfl⟩
            have HE11 : Hid (E11 ≤ (k : Int) + 1 ∧ 0 ≤ E11) := by show _ ∧ _; have := HCX.out.2.2.1; omega
            rw [← hE11] at HI11
            clear hE11 hTT hFF hR
            have hk5 : (q.kd != 5) = false := by simp [HX.out.1]
            have HEQ2 : Hid (Calls Tryz.prog 19 #[.slice oa CX.nt.length oc, .slice a2 n2 c2'] w11 fun e w' => e = .returned (.bool true) ∧ Dn w11 w') := by
              have h1 : Bs A' w11 (.slice a2 n2 c2') nn := by
                obtain ⟨_, _, e, _, h⟩ := (HF11.out.hb _ (List.mem_cons_self ..)).2
                simp only at e
                cases e
                exact h
              refine (requal_any _ _ _ _ w11 HBS11.out h1).mono fun e w' h => ⟨by rw [h.1, HX.out.2.2]; simp, h.2⟩
            obtain ⟨j0, j1⟩ := bx2 (HF11.out.hb _ (List.mem_cons_self ..)).1
            simp only at j0 j1
            obtain ⟨x0, -, -, -, -, -, -⟩ := bx7 (HAB11.out)
            go_wp2_with fail
            refine HEQ2.out.mono ?_
            rintro e w15 ⟨rfl, hdn⟩
            have hb15 : Below w11.heap.size w11 w15 := hdn.below _
            have HF15 := Hid.mk' (HF11.out.up hb15)
            have HB15 := Hid.mk' (HB11.out.trans (hb15.mono HB11.out.size))
            have HSA2 := Hid.mk' (same_any HF15.out.J HI11.out rfl (by have := HE11.out; have := HCX.out.2.2.1; omega) (HF15.out.hb _ (List.mem_cons_self ..)).2 HF15.out.hA (by show ∀ x ∈ Rn, Wi x.1; rw [← HX.out.2.1]; exact HCX.out.2.2.2.wid))
            obtain ⟨j0, j1⟩ := bx2 (HF15.out.hb _ (List.mem_cons_self ..)).1
            simp only at j0 j1
            clear hdn hb15
            go_wp2_with fail
            refine HSA2.out.mono ?_
            rintro e w12 ⟨s12, d12, -, hT, -, hI12, -, -, -, -, hj12⟩
            obtain rfl := hT HX.out.2.1
            obtain ⟨T12, M12, hf12, -⟩ := HF15.out.pool hj12
            obtain ⟨j0, j1⟩ := bx2 (hf12.hb _ (List.mem_cons_self ..)).1
            simp only at j0 j1
            obtain ⟨z0, f0, f1, z1, hx13, -, -⟩ := res2 (hf12.hb _ (List.mem_cons_of_mem _ (List.mem_cons_of_mem _ (List.mem_cons_self ..)))).1 (.slice a1 n1 c1') (.slice a2 n2 c2')
            simp only at z0 f0 f1 z1 hx13
            have hw13 := res2_wb w12 g10 (.slice a1 n1 c1') (.slice a2 n2 c2')
            have HF13 : Hid (Fz w.heap.size b (.slice (some ⟨bb, of, none⟩) ls.length c5) ls ((w12.setCell ⟨g10, 0, none⟩ (.slice a1 n1 c1')).setCell ⟨g10, 1, none⟩ (.slice a2 n2 c2')) p8 s12 d12 T12 M12 A' [⟨w4.heap.size, .slice a1 n1 c1', .slice a2 n2 c2', Rn, nn⟩, ⟨g9, x', y', R0, nw0⟩, ⟨g10, .slice a1 n1 c1', .slice a2 n2 c2', CX.RL, CX.nt⟩]) := by
              rw [HX.out.2.1, HX.out.2.2]
              exact hf12.put ⟨_, (List.mem_cons_of_mem _ (List.mem_cons_of_mem _ (List.mem_cons_self ..))), rfl⟩ hw13 hx13 (hf12.hb _ (List.mem_cons_self ..)).2 (fun q hq => by
                simp only [List.mem_cons, List.not_mem_nil, or_false] at hq
                have h1 := HGN.out
                have h2 := HG.out
                rcases hq with rfl | rfl | rfl
                · exact .inr ⟨(List.mem_cons_self ..), by simp only; omega⟩
                · exact .inr ⟨(List.mem_cons_of_mem _ (List.mem_cons_self ..)), by simp only; omega⟩
                · exact .inl rfl)
            have HB13 : Hid (Below w.heap.size w ((w12.setCell ⟨g10, 0, none⟩ (.slice a1 n1 c1')).setCell ⟨g10, 1, none⟩ (.slice a2 n2 c2'))) := by
              have h1 := HB15.out.trans (hj12.1.below HB15.out.size fun k hk => HF15.out.lo k hk)
              exact h1.trans (hw13.below h1.size fun k hk => by subst hk; exact (hf12.hg _ (List.mem_cons_of_mem _ (List.mem_cons_of_mem _ (List.mem_cons_self ..)))).2.2.2.2.2)
            have HI12 := Hid.mk' hI12
            have hE14 : (E11 + (CX.RL.length : Int)) ≤ 100 * ((k + 1 : Nat) : Int) ∧ True := ⟨by have := HE11.out; have := HCX.out.2.2.1; omega, trivial⟩
            have HE14 := Hid.mk' hE14
            clear hT hI12 hj12 hf12 hx13 hw13 x0 hE14
            go_upto_region 38 with fail
            generalize (w12.setCell ⟨g10, 0, none⟩ (.slice a1 n1 c1')).setCell ⟨g10, 1, none⟩ (.slice a2 n2 c2') = w14 at *
            have HF14 := HF13
            have HB14 := HB13
            have HI14 := HI12

            have hf9 := HF14.out
            obtain ⟨j0, j1⟩ := bx2 (hf9.hb _ (List.mem_cons_of_mem _ (List.mem_cons_of_mem _ (List.mem_cons_self ..)))).1
            simp only at j0 j1
            have hfd := hf9.up (drew_blx w14 _)
            obtain ⟨z0, f0, f1, z1, hxe, -, -⟩ := res2 (hfd.hb _ (List.mem_cons_of_mem _ (List.mem_cons_self ..))).1 (.slice a1 n1 c1') (.slice a2 n2 c2')
            simp only at z0 f0 f1 z1 hxe
            have t0 : ∀ qq : Kp (fun _ => False) w14, qq.nx.cell? ⟨g10, 0, none⟩ = some _ := fun qq => qq.cell j0 (fun h => h)
            have t1 : ∀ qq : Kp (fun _ => False) w14, qq.nx.cell? ⟨g10, 1, none⟩ = some _ := fun qq => qq.cell j1 (fun h => h)
            have hwe := res2_wb w14.drew g9 (.slice a1 n1 c1') (.slice a2 n2 c2')
            have hfe : Fz w.heap.size b (.slice (some ⟨bb, of, none⟩) ls.length c5) ls ((w14.drew.setCell ⟨g9, 0, none⟩ (.slice a1 n1 c1')).setCell ⟨g9, 1, none⟩ (.slice a2 n2 c2')) p8 s12 d12 T12 M12 A' [⟨g9, .slice a1 n1 c1', .slice a2 n2 c2', CX.RL, CX.nt⟩, ⟨g10, .slice a1 n1 c1', .slice a2 n2 c2', CX.RL, CX.nt⟩] := hfd.put ⟨_, (List.mem_cons_of_mem _ (List.mem_cons_self ..)), rfl⟩ hwe hxe (hfd.hb _ (List.mem_cons_of_mem _ (List.mem_cons_of_mem _ (List.mem_cons_self ..)))).2 (fun q hq => by
              simp only [List.mem_cons, List.not_mem_nil, or_false] at hq
              have h2 := HG.out
              rcases hq with rfl | rfl
              · exact .inl rfl
              · exact .inr ⟨(List.mem_cons_of_mem _ (List.mem_cons_of_mem _ (List.mem_cons_self ..))), by simp only; omega⟩)
            have HFE : Hid (@Fz (XG g9 g10) w.heap.size b (.slice (some ⟨bb, of, none⟩) ls.length c5) ls ((w14.drew.setCell ⟨g9, 0, none⟩ (.slice a1 n1 c1')).setCell ⟨g9, 1, none⟩ (.slice a2 n2 c2')) p8 s12 d12 T12 M12 A' [⟨g9, .slice a1 n1 c1', .slice a2 n2 c2', CX.RL, CX.nt⟩, ⟨g10, .slice a1 n1 c1', .slice a2 n2 c2', CX.RL, CX.nt⟩]) :=
              Fz.re (X := fun j => (XG g9 g10).X j ∨ j = w4.heap.size) hfe (Below.refl _ _) (fun k hk => .inl (.inl hk)) (fun k hk => hfe.J.xlt k (.inl hk)) (fun q hq => by
                simp only [List.mem_cons, List.not_mem_nil, or_false] at hq
                rcases hq with rfl | rfl
                · exact .inl rfl
                · exact .inr rfl)
            have HBE : Hid (Below w.heap.size w ((w14.drew.setCell ⟨g9, 0, none⟩ (.slice a1 n1 c1')).setCell ⟨g9, 1, none⟩ (.slice a2 n2 c2'))) := by
              have h1 := HB14.out.trans ((drew_blx w14 _).mono HB14.out.size)
              exact h1.trans (hwe.below h1.size fun k hk => by subst hk; exact H93.out)
            clear hf9 j0 j1 hfd hxe hwe hfe
            go_wp2_with fail
            refine wp_region_mix 3 (fun w' => ∃ qq : Kp (fun _ => False) w14, w' = qq.nx) (by kernel_rfl) (by kernel_rfl) (kp_first _ w14) ?_
            simp only [List.take_succ_cons, List.take_zero, List.drop_succ_cons, List.drop_zero]
            refine mx_take 3 rfl ?_
            simp only [List.take_succ_cons, List.take_zero, List.drop_succ_cons, List.drop_zero]
            repeat (go_big_quiet_step (fail))
            refine wpQuiet_nil ?_
            simp only [wpMix]
            generalize w14.drew = w10 at *
            go_wp2_with fail
            go_roundw
            case rel => exact ⟨k + 1, p8, (⟨false, CX.rm, CX.hand, CX.me, CX.L, CX.RL, CX.nt⟩ : Cx), CX.RL, s12, d12, T12, M12, A', _, _, _, _, CX.nt, by omega, by go_num, rfl, ⟨rfl, rfl, HCX.out.2.2.1, HCX.out.2.2.1⟩, ⟨HI14.out.arm rfl, HCX.out.2.1⟩, (HI14.out.to false (fun h => by cases h)).more (by have := HE14.out.1; omega) (Nat.le_refl _) (by omega) (by omega), HFE, HBE⟩
            case measure => simp [intOf]; omega
end Go.Proofs.YtbmhkdcmepfmbaaGreat
