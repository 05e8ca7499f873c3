/- groynelaw04.DriveKeeps. -/
import Derived.Test.YtpgpncngamagdaaDK
set_option linter.unusedVariables false
set_option linter.unusedSimpArgs false
namespace Go.Proofs.Ytpgpncngamagdaa
open Go.RowKit
attribute [local go_sem ↓] Go.wp_at_zero Go.wp_at_succ
/-- a drive whose maps lie below S or from T on -/
def Ay (B S T b : Nat) (d : Dm) (w : World) : Prop := ∃ M D : Nat → Prop, DrIs M D w b d ∧ (∀ k, M k → B ≤ k ∧ (k < S ∨ T ≤ k)) ∧ (B ≤ b ∧ b < S) ∧ T ≤ w.heap.size ∧ B ≤ T
theorem Ay.turn {B S T b : Nat} {w w' : World} {d' : Dm} {M D : Nat → Prop} (h2 : ∀ k, M k → B ≤ k ∧ (k < S ∨ T ≤ k)) (h4 : B ≤ b ∧ b < S) (h5 : T ≤ w.heap.size) (h6 : B ≤ T) (ht : Turned M D w b d' w') : Wb (fun k => B ≤ k ∧ (k < S ∨ T ≤ k)) w w' ∧ Ay B S T b d' w' := by
  obtain ⟨hw, M', D', k1, k2, k3⟩ := ht
  exact ⟨hw.mono fun k hk => hk.elim (fun e => by rw [e]; exact ⟨h4.1, .inl h4.2⟩) (h2 k), M', D', k3, fun k hk => (k1 k hk).elim (h2 k) (fun h => ⟨Nat.le_trans h6 (Nat.le_trans h5 h), .inr (Nat.le_trans h5 h)⟩), h4, Nat.le_trans h5 hw.size, h6⟩
theorem Ay.of {B b S T : Nat} {d : Dm} {w w' w2 : World} {X : Nat → Prop} (h : Ax B b d w) (hS : w.heap.size ≤ S) (hb : Below w.heap.size w w') (hw : Wb X w' w2) (hX : ∀ k, X k → k < B ∨ S ≤ k) (hT : T ≤ w2.heap.size) (hBT : B ≤ T) : Ay B w.heap.size T b d w2 := by
  obtain ⟨M, D, h1, h2, h3, h4, h5⟩ := h
  have hbl : b < w.heap.size := by obtain ⟨_, _, _, hx, _⟩ := h1.ex; exact (Array.getElem?_eq_some_iff.1 hx).1
  refine ⟨M, D, (h1.below hb).keep hw fun k hk => ⟨fun hm => ?_, fun hd => ?_, fun e => ?_⟩, fun k hk => ⟨h2 k hk, .inl (h1.hM k hk).1⟩, ⟨h4, hbl⟩, hT, hBT⟩
  · have a1 := hX k hk; have a2 := h2 k hm; have a3 := (h1.hM k hm).1; omega
  · have a1 := hX k hk; have a2 := h3 k hd; have a3 := (h1.hD k hd).1; omega
  · have a1 := hX k hk; omega
theorem ky_flush {B S T b : Nat} {w : World} {a c : By} (h : Ay B S T b (kd2 a c) w) : Calls Try.prog 22 #[.pointer (some ⟨b, 0, none⟩)] w fun E w' => (∃ e, E = .returned (.int .i64 e)) ∧ Wb (fun k => B ≤ k ∧ (k < S ∨ T ≤ k)) w w' ∧ Ay B S T b (kd3 (a ++ c)) w' := by
  obtain ⟨M, D, h1, h2, h4, h5, h6⟩ := h
  have := flush_any h1
  rw [kd_f] at this
  refine this.mono ?_
  rintro E w' ⟨rfl, hT⟩
  exact ⟨⟨_, rfl⟩, Ay.turn h2 h4 h5 h6 hT⟩
theorem ky_crash {B S T b : Nat} {w : World} {c : By} (h : Ay B S T b (kd3 c) w) : Calls Try.prog 23 #[.pointer (some ⟨b, 0, none⟩), .int .i64 0] w fun E w' => E = .returned (.tuple #[]) ∧ Wb (fun k => B ≤ k ∧ (k < S ∨ T ≤ k)) w w' ∧ Ay B S T b (kd3 c) w' := by
  obtain ⟨M, D, h1, h2, h4, h5, h6⟩ := h
  have := crash_any 0 h1 trivial (by show 1 + 0 < maxLen; decide) (by show ((0 : Nat) : Int) + 1 ≤ _; decide) (by decide) (by decide) (by show 0 * 16 ≤ _; decide)
  rw [kd_c] at this
  refine this.mono ?_
  rintro E w' ⟨rfl, hT⟩
  exact ⟨rfl, Ay.turn h2 h4 h5 h6 hT⟩
set_option maxRecDepth 100000 in
set_option maxHeartbeats 4000000 in
/-- groynelaw04.DriveKeeps -/
theorem driveKeeps_any {A A' : Nat → Prop} {w : World} {v u : Value} {a c : By} (h : Bs A w v a) (h' : Bs A' w u c) : Calls Try.prog 3 #[v, u] w fun e w' => e = .returned (.bool true) ∧ Below w.heap.size w w' := by
  have ha := h.2
  have hc := h'.2
  unfold lim at ha hc
  obtain ⟨va, vc, rfl, hva⟩ := h.at
  obtain ⟨ua, uc, rfl, hua⟩ := h'.at
  have HV := Hid.mk' h
  have HU := Hid.mk' h'
  clear h h' hva hua
  go_enter Try.func3, Try.ntmps3
  go_wp2_with fail
  refine (awake_any w).mono ?_
  rintro E w1 ⟨rfl, h1⟩
  have H1 := Hid.mk' h1
  clear h1
  by_cases hk : (262144 : Int) < (a.length : Int) + (c.length : Int)
  · go_wp2_with fail
    go_ret
    exact ⟨rfl, H1.out⟩
  · have hk' : a.length + c.length ≤ 262144 := by omega
    have HL := Hid.mk' hk'
    clear hk'
    have HS := Hid.mk' (spare_any (HV.out.up H1.out) (by have := HL.out; omega))
    go_wp2_with fail
    refine HS.out.mono ?_
    rintro e w2 ⟨rfl, o2, h2⟩
    have H2 := Hid.mk' (bt H1.out h2)
    have O2 := Hid.mk' o2
    have G2 := Hid.mk' (o2.lt w1.heap.size rfl)
    have P2 := own_pre (m := a.length) o2 (by omega)
    rw [sp_take] at P2
    have HP := Hid.mk' (P2.bs (by have := HL.out; unfold lim; omega))
    clear o2 h2 HS P2
    go_wp2_with fail
    refine (kd_new w2).mono ?_
    rintro e w3 ⟨rfl, b3, x3⟩
    have X3 := Hid.mk' x3
    have B3 := Hid.mk' b3
    clear b3 x3
    go_wp2_with fail
    refine (kd_app1 X3.out (HP.out.up B3.out) (by have := HL.out; omega)).mono ?_
    rintro e w4 ⟨rfl, b4, x4⟩
    have X4 := Hid.mk' x4
    have B4 := Hid.mk' (B3.out.trans b4)
    clear b4 x4 X3
    go_wp2_with fail
    refine (kd_app2 X4.out (HU.out.up (bt H2.out B4.out)) HL.out).mono ?_
    rintro e w5 ⟨rfl, b5, x5⟩
    have X5 := Hid.mk' x5
    have B5 := Hid.mk' (B4.out.trans b5)
    clear b5 x5 X4
    have O5 := Hid.mk' (O2.out.keep B5.out (Nat.le_refl _))
    go_wp2_with fail
    refine (kept_any (O5.out.bs (by rw [full_len]; unfold lim; have := HL.out; omega)) (HV.out.up (bt H2.out B5.out)) (by have := HL.out; omega)).mono ?_
    rintro e w6 ⟨rfl, b6⟩
    have X6 := Hid.mk' (X5.out.up b6)
    have B6 := Hid.mk' (B5.out.trans (b6.mono B5.out.size))
    have O6 := Hid.mk' (O5.out.keep b6 (Nat.le_refl _))
    have hfl := full_len a
    have HO := Hid.mk' (over_pre (l := full a) (n := a.length) (c := a.length + 33) (C := a.length + 33) (g := w1.heap.size) (by rw [hfl]; exact O6.out) (by omega) (by rw [hfl]; unfold lim; have := HL.out; omega))
    clear b6 O5 X5 hfl
    go_wp2_with fail
    refine HO.out.mono ?_
    rintro e w7 ⟨rfl, o7, b7⟩
    have O7 := Hid.mk' o7
    have X7 := Hid.mk' (X6.out.keep b7 fun k hk => by subst hk; exact G2.out.2)
    have H7 := Hid.mk' ((bt H2.out B6.out).trans (b7.below (bt H2.out B6.out).size fun k hk => by subst hk; exact H1.out.size))
    have Z7 : Hid (w2.heap.size ≤ w7.heap.size) := Nat.le_trans B6.out.size b7.size
    clear o7 b7 HO X6 O6
    go_wp2_with fail
    refine (kd_twin X7.out).mono ?_
    rintro e w8 ⟨rfl, t8⟩
    have T8 := Hid.mk' t8
    clear t8
    go_wp2_with fail
    refine (kd_twrite (T8.out.up (up_alloc w8 (.cells (bv [1, 2, 3]).toArray 5))) (bs_lit (by decide)) HL.out).mono ?_
    rintro e w9 ⟨⟨e9, rfl⟩, b9⟩
    have B9 := Hid.mk' b9
    have X9 := Hid.mk' (X7.out.up b9)
    have H9 := Hid.mk' (bt H7.out b9)
    clear b9 T8
    go_wp2_with fail
    refine (copy_any _ a w9 (HV.out.up H9.out)).mono ?_
    rintro e w10 ⟨v10, rfl, b10, o10⟩
    have B10 := Hid.mk' b10
    have O10 := Hid.mk' o10
    clear b10 o10
    go_wp2_with (at_builtin; go_must (refine app32 rfl (.tmp 54) (.tmp 55) rfl rfl O10.out rfl (HU.out.up (bt H9.out B10.out)) (by have := HL.out; unfold lim; omega) B10.out.size ?_); intro v11 w11 o11 g11 n11 k11; clear n11 k11)
    have B11 := Hid.mk' (below_app B10.out O10.out g11 (Nat.le_refl _) B10.out.size)
    have X11 := Hid.mk' (X9.out.up B11.out)
    obtain ⟨ac, hac⟩ : ∃ ac, ac = a ++ c := ⟨_, rfl⟩
    have HACE := Hid.mk' hac
    rw [← hac] at o11
    have hacl : ac.length ≤ lim := by rw [hac]; have := HL.out; unfold lim; simp; omega
    have HAC := Hid.mk' hacl
    have O11 := Hid.mk' o11
    clear o11 g11 O10 B10 hac hacl
    refine (kd_read2 X11.out).mono ?_
    rintro e w12 ⟨v12, rfl, b12, o12⟩
    rw [← HACE.out] at o12
    obtain ⟨a12, c12, rfl⟩ := own_sliceN o12
    have B12 := Hid.mk' b12
    have O12 := Hid.mk' o12
    have X12 := Hid.mk' (X11.out.up b12)
    clear b12 o12
    go_wp2_with fail
    refine (kd_read2 X12.out).mono ?_
    rintro e w13 ⟨v13, rfl, b13, o13⟩
    rw [← HACE.out] at o13
    obtain ⟨a13, c13, rfl⟩ := own_sliceN o13
    have B13 := Hid.mk' b13
    have O13 := Hid.mk' o13
    clear b13 o13
    go_wp2_with fail
    refine (requal_any _ _ ac ac w13 ((O12.out.bs HAC.out).up B13.out) ((O11.out.bs HAC.out).up (bt B12.out B13.out))).mono ?_
    rintro e w14 ⟨rfl, d14⟩
    rw [show (ac == ac) = true from beq_self_eq_true _]
    have B14 := Hid.mk' (d14.below w13.heap.size)
    clear d14
    go_wp2_with fail
    have UP := up_alloc w14 (.cells #[.slice (some ⟨w1.heap.size, 0, none⟩) (a.length + 33) (a.length + 33), .slice a12 ac.length c12, .slice a13 ac.length c13] 22)
    have HFM := Hid.mk' (apart_fm (B := w1.heap.size) (F := fun j => [ovr a.length (full a), ac, ac].getD j []) (heap_alloc_new w14 (.cells #[.slice (some ⟨w1.heap.size, 0, none⟩) (a.length + 33) (a.length + 33), .slice a12 ac.length c12, .slice a13 ac.length c13] 22)) (vs := [.slice (some ⟨w1.heap.size, 0, none⟩) (a.length + 33) (a.length + 33), .slice a12 ac.length c12, .slice a13 ac.length c13]) (by
      have y1 := B9.out.size
      have y2 := B11.out.size
      have y3 := B12.out.size
      have y7 := Z7.out
      have y8 := G2.out.2
      have p0 := O7.out.keep (bt B9.out (bt B11.out (bt B12.out (bt B13.out (bt B14.out UP))))) (Nat.le_refl _)
      rw [full_len] at p0
      have p1 := (O12.out.keep (bt B13.out (bt B14.out UP)) (Nat.le_refl _)).mono (show w1.heap.size ≤ w11.heap.size by omega)
      have p2 := (O13.out.keep (bt B14.out UP) (Nat.le_refl _)).mono (show w1.heap.size ≤ w12.heap.size by omega)
      intro j hj
      match j, hj with
      | 0, _ => exact p0
      | 1, _ => exact p1
      | 2, _ => exact p2) (by
      have y1 := B9.out.size
      have y2 := B11.out.size
      have y7 := Z7.out
      have y8 := G2.out.2
      have k0 : ∀ k, (Value.slice (some ⟨w1.heap.size, 0, none⟩) (a.length + 33) (a.length + 33)).ownBlock = some k → k < w11.heap.size := fun k hk => by cases hk; exact Nat.lt_of_lt_of_le y8 (by omega)
      have k1 : ∀ k, (Value.slice a12 ac.length c12).ownBlock = some k → w11.heap.size ≤ k ∧ k < w12.heap.size := O12.out.lt
      have k2 : ∀ k, (Value.slice a13 ac.length c13).ownBlock = some k → w12.heap.size ≤ k := fun k hk => (O13.out.lt k hk).1
      intro i j hi hj hij k e e'
      match i, hi, j, hj with
      | 0, _, 0, _ => exact hij rfl
      | 1, _, 1, _ => exact hij rfl
      | 2, _, 2, _ => exact hij rfl
      | 0, _, 1, _ => have := k0 k e; have := k1 k e'; omega
      | 0, _, 2, _ => have := k0 k e; have := k1; have := k2 k e'; have := B12.out.size; omega
      | 1, _, 0, _ => have := k1 k e; have := k0 k e'; omega
      | 1, _, 2, _ => have := k1 k e; have := k2 k e'; omega
      | 2, _, 0, _ => have := k2 k e; have := k0 k e'; have := B12.out.size; omega
      | 2, _, 1, _ => have := k2 k e; have := k1 k e'; omega) (by have q1 := G2.out.2; have q2 := Z7.out; have q3 := B9.out.size; have q4 := B11.out.size; have q5 := B12.out.size; have q6 := B13.out.size; have q7 := B14.out.size; exact Nat.le_trans (by omega : w1.heap.size ≤ w14.heap.size) UP.size) (by simp) (by
      intro j
      match j with
      | 0 => simp [ovr_len, full_len]; have := HL.out; omega
      | 1 => have : ac.length ≤ 1000000 := by rw [HACE.out]; have := HL.out; simp; omega
             simpa using this
      | 2 => have : ac.length ≤ 1000000 := by rw [HACE.out]; have := HL.out; simp; omega
             simpa using this
      | n + 3 => simp))
    refine HFM.out.mono ?_
    rintro e w15 ⟨rfl, fm⟩
    have UPW := bt B11.out (bt B12.out (bt B13.out (bt B14.out UP)))
    have UPX : Below w11.heap.size w11 _ := bt B12.out (bt B13.out (bt B14.out UP))
    have hwX : Wb (fun k => ∃ j, ∃ h : j < 3, ([.slice (some ⟨w1.heap.size, 0, none⟩) (a.length + 33) (a.length + 33), .slice a12 ac.length c12, .slice a13 ac.length c13] : List Value)[j].ownBlock = some k) (w14.alloc (.cells #[.slice (some ⟨w1.heap.size, 0, none⟩) (a.length + 33) (a.length + 33), .slice a12 ac.length c12, .slice a13 ac.length c13] 22)) w15 :=
      ⟨fm.1.os, fm.1.tape, fm.1.output, fm.1.size, fun k hk hx => fm.2 k hk fun j hj e => hx ⟨j, hj, e⟩⟩
    have hXk : ∀ k, (∃ j, ∃ h : j < 3, ([.slice (some ⟨w1.heap.size, 0, none⟩) (a.length + 33) (a.length + 33), .slice a12 ac.length c12, .slice a13 ac.length c13] : List Value)[j].ownBlock = some k) → k = w1.heap.size ∨ w11.heap.size ≤ k := by
      rintro k ⟨j, hj, e⟩
      match j, hj with
      | 0, _ => left; cases e; rfl
      | 1, _ => right; exact (O12.out.lt k e).1
      | 2, _ => right; exact Nat.le_trans B12.out.size (O13.out.lt k e).1
    have S15 := Hid.mk' (show w11.heap.size ≤ w15.heap.size from Nat.le_trans UPX.size fm.1.size)
    have X15 := Hid.mk' (Ay.of (T := w11.heap.size) X9.out (Nat.le_refl _) UPW hwX (fun k hk => (hXk k hk).imp (fun e => by rw [e]; exact G2.out.2) fun h => Nat.le_trans B11.out.size h) S15.out (by have := Z7.out; have := B9.out.size; have := B11.out.size; omega))
    have O15 : Hid (Ob 5 w9.heap.size w15 v11 ac) := own_wb (O11.out.keep UPX (Nat.le_refl _)) hwX fun k hk e => by
      have h2 := O11.out.lt k e.symm
      rcases hXk k hk with h3 | h3
      · have := G2.out.2; have := Z7.out; have := B9.out.size; omega
      · omega
    have LV : ∀ k, v11.ownBlock = some k → w9.heap.size ≤ k ∧ k < w11.heap.size := O11.out.lt
    have H15 := Hid.mk' ((bt H9.out UPW).trans (fm.1.mono H1.out.size))
    clear UPW UPX hwX hXk fm HFM UP X11 O11 O7 O12 O13 B12 B13 B14
    go_wp2_with fail
    have K11 := Hid.mk' (fun k hk => O15.out.lt k hk)
    have L11 := Hid.mk' LV
    refine (ky_flush X15.out).mono ?_
    rintro e w16 ⟨⟨e16, rfl⟩, b16, x16⟩
    have X16 := Hid.mk' x16
    have O16 := Hid.mk' (own_wb O15.out b16 fun k hk e => by have := L11.out k e.symm; omega)
    have H16 := Hid.mk' (H15.out.trans (b16.below H15.out.size fun k hk => Nat.le_trans H2.out.size hk.1))
    clear b16 x16 X15 O15
    go_wp2_with fail
    refine (ky_crash X16.out).mono ?_
    rintro e w17 ⟨rfl, b17, x17⟩
    have O17 : Hid (Ob 5 w9.heap.size w17 v11 ac) := own_wb O16.out b17 fun k hk e => by have := L11.out k e.symm; omega
    have H17 := Hid.mk' (H16.out.trans (b17.below H16.out.size fun k hk => Nat.le_trans H2.out.size hk.1))
    obtain ⟨M, D, x17, _⟩ := x17
    have X17 : Hid (Ax 0 w2.heap.size (kd3 (a ++ c)) w17) := ⟨M, D, x17, fun _ _ => Nat.zero_le _, fun _ _ => Nat.zero_le _, Nat.zero_le _, Nat.zero_le _⟩
    clear b17 x17 X16 O16
    go_wp2_with fail
    refine (kd_read3 X17.out).mono ?_
    rintro e w18 ⟨v18, rfl, b18, o18⟩
    rw [← HACE.out] at o18
    have O18 := Hid.mk' o18
    have B18 := Hid.mk' b18
    clear o18 b18
    go_wp2_with fail
    refine (requal_any _ _ ac ac w18 (O18.out.bs HAC.out) ((O17.out.bs HAC.out).up B18.out)).mono ?_
    rintro e w19 ⟨rfl, d19⟩
    rw [show (ac == ac) = true from beq_self_eq_true _]
    have H19 := Hid.mk' ((bt H17.out B18.out).trans (d19.below _))
    clear d19
    go_wp2_with fail
    go_ret
    exact ⟨rfl, H19.out⟩
end Go.Proofs.Ytpgpncngamagdaa
