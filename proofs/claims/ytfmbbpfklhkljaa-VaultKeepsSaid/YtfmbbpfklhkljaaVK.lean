/- groynelaw10.VaultKeeps. -/
import Derived.Test.YtfmbbpfklhkljaaVL
import Derived.Test.YtfmbbpfklhkljaaSK
import Derived.Test.YtfmbbpfklhkljaaA2
set_option linter.unusedVariables false
set_option linter.unusedSimpArgs false
namespace Go.Proofs.Ytfmbbpfklhkljaa
open Go.RowKit
theorem own_fr {B size n : Nat} {e : TypeId} {w w' : World} {v : Value} {vs : List Value} (h : w.ownsRow B e size v n vs) (hw : ∀ k, v.ownBlock = some k → w'.heap[k]? = w.heap[k]?) : w'.ownsRow B e size v n vs := by
  obtain ⟨h0, h | ⟨g', cap', cur, hv, hb, hg, r⟩⟩ := h
  · exact ⟨h0, .inl h⟩
  · exact ⟨h0, .inr ⟨g', cap', cur, hv, hb, by rw [hw g' (by rw [hv]; rfl)]; exact hg, r⟩⟩
/-- what is none of the vault's is written -/
theorem VaultIs.fr {B b n : Nat} {V X : Nat → Prop} {w w' : World} {f : List UInt8 → Option (List UInt8)} (h : VaultIs B V w b f n) (hw : ∀ k, k < w.heap.size → ¬ X k → w'.heap[k]? = w.heap[k]?) (hX : ∀ k, X k → ¬ V k ∧ ∃ cur e fr, w.heap[k]? = some (.cells cur e fr) ∧ e ≠ 81) : VaultIs B V w' b f n := by
  have hnb : ∀ k ob, w.heap[k]? = some ob → (∀ cur e fr, e ≠ 81 → ob ≠ Obj.cells cur e fr) → w'.heap[k]? = some ob := fun k ob hk hne => by
    rw [hw k (Array.getElem?_eq_some_iff.1 hk).1 fun hx => by
      obtain ⟨_, cur, e, fr, h1, h2⟩ := hX k hx
      rw [hk] at h1
      exact hne cur e fr h2 (Option.some.inj h1)]
    exact hk
  obtain ⟨hB, ⟨h, rfl, hf⟩ | ⟨M, g, hM, h, hm, hf⟩⟩ := h
  · exact ⟨hB, .inl ⟨hnb b _ h (fun cur e fr he e' => by cases e'; exact he rfl), rfl, hf⟩⟩
  · have hM' : w'.heap[M]? = w.heap[M]? := by
      obtain ⟨es, cl, h1⟩ := hm.is
      rw [h1]; exact hnb M _ h1 (fun cur e fr he e' => by cases e')
    refine ⟨hB, .inr ⟨M, g, hM, hnb b _ h (fun cur e fr he e' => by cases e'; exact he rfl), hm.block hM', fun s => ?_⟩⟩
    rcases hf s with h | ⟨v, l, h1, h2, h3, h4, h5⟩
    · exact .inl h
    · exact .inr ⟨v, l, h1, h2, own_fr h3 fun k hk => hw k (h3.lt k hk).2 fun hx => (hX k hx).1 (h5 k hk), h4, h5⟩
theorem keys_one {f : List UInt8 → Option (List UInt8)} {L : List (List UInt8)} {s : List UInt8} (h : Keys f 1 L) (hs : (f s).isSome = true) : L.filter (pfx []) = [s] := by
  obtain ⟨h1, h2, h3, h4⟩ := h
  match L, h3 with
  | [x], _ =>
    have := (h2 s).2 hs
    simp at this
    subst this
    simp [pfx]
theorem VaultIs.box {B b n : Nat} {V : Nat → Prop} {w : World} {f : List UInt8 → Option (List UInt8)} (h : VaultIs B V w b f n) : ∃ r, w.heap[b]? = some (.cells #[.map r] 81 (0, 0)) := by
  obtain ⟨_, ⟨h, _⟩ | ⟨M, g, hM, h, _⟩⟩ := h
  · exact ⟨_, h⟩
  · exact ⟨_, h⟩
set_option maxRecDepth 100000 in
set_option maxHeartbeats 4000000 in
/-- groynelaw10.VaultKeeps -/
theorem vaultKeeps_any {A : Nat → Prop} {w : World} {v : Value} {l : List UInt8} (h : Bs A w v l) : Calls Try.prog 9 #[v] w fun e w' => e = .returned (.bool true) ∧ Below w.heap.size w w' := by
  obtain ⟨ka, kc, rfl, _⟩ := h.at
  have HK := Hid.mk' h.toLt
  clear h
  go_enter Try.func9, Try.ntmps9
  go_wp2_with fail
  refine (awake10 w).mono ?_
  rintro e w1 ⟨rfl, h1⟩
  have H1 := Hid.mk' h1
  clear h1
  by_cases hk : 10000 < l.length
  · have hk' : (10000 : Int) < (l.length : Int) := by omega
    go_wp2_with fail
    go_ret
    exact ⟨rfl, H1.out⟩
  · have hk' : ¬ (10000 : Int) < (l.length : Int) := by omega
    go_wp2_with fail
    refine (new_any _).mono ?_
    rintro e w2 ⟨rfl, rfl⟩
    have V2 := Hid.mk' (vault_new w1)
    obtain ⟨w2, e2⟩ : ∃ w2, w2 = w1.alloc (.cells #[.map none] 81) := ⟨_, rfl⟩
    have Z2 : Hid (w2.heap.size = w1.heap.size + 1) := by rw [e2]; simp [Hid]
    have H2 : Hid (Below w.heap.size w w2) := by rw [e2]; exact bt H1.out (up_alloc _ _)
    rw [← e2] at V2 ⊢
    clear e2
    have HS := Hid.mk' (spare_any (HK.out.up H2.out) (by omega))
    go_wp2_with fail
    refine HS.out.mono ?_
    rintro e w3 ⟨rfl, o3, h3⟩
    have V3 := Hid.mk' (V2.out.up h3)
    have H3 := Hid.mk' (bt H2.out h3)
    have O3 := Hid.mk' o3
    have Z3 := Hid.mk' h3.size
    have G3 := Hid.mk' (o3.lt w2.heap.size rfl)
    have P3 := own_pre (m := l.length) o3 (by omega)
    rw [sp_take] at P3
    have HP := Hid.mk' (put_any [97] l V3.out (by decide) (by decide) (P3.bs (by unfold lim; omega)))
    clear o3 h3 HS P3
    go_wp2_with fail
    refine HP.out.mono ?_
    rintro e w4 ⟨rfl, b4, k4, v4⟩
    have e4 : putC (fun _ => none) [97] l = 0 := rfl
    rw [e4]
    clear e4
    obtain ⟨F, hF⟩ : ∃ F, F = putF (fun _ => none) [97] l := ⟨_, rfl⟩
    have n4 : putN (fun _ => none) [97] 0 = 1 := rfl
    have F97 : Hid (F [97] = some l) := by rw [hF]; show _ = _; simp [putF]
    rw [← hF, n4] at v4
    have V4 := Hid.mk' v4
    have H4 := Hid.mk' (H3.out.trans (b4.mono H1.out.size))
    have O4 : Hid (Ob 5 w2.heap.size w4 (.slice (some ⟨w2.heap.size, 0, none⟩) (l.length + 33) (l.length + 33)) (full l)) := by
      obtain ⟨r, hr⟩ := V3.out.box
      exact O3.out.but k4 hr (by decide)
    have Z4 := Hid.mk' b4.size
    have HQ := Hid.mk' (kept_any (O4.out.bs (by rw [full_len]; unfold lim; omega)) (HK.out.up H4.out) (by omega))
    clear b4 k4 v4 hF n4 HP O3
    go_wp2_with fail
    refine HQ.out.mono ?_
    rintro e w5 ⟨rfl, b5⟩
    have V5 := Hid.mk' (V4.out.up b5)
    have H5 := Hid.mk' (bt H4.out b5)
    have O5 := Hid.mk' (O4.out.keep b5 (Nat.le_refl _))
    have Z5 := Hid.mk' b5.size
    have hfl := full_len l
    have HO := Hid.mk' (over_pre (l := full l) (n := l.length) (c := l.length + 33) (C := l.length + 33) (g := w2.heap.size) (by rw [hfl]; exact O5.out) (by omega) (by rw [hfl]; unfold lim; omega))
    clear b5 HQ hfl O4
    go_wp2_with fail
    refine HO.out.mono ?_
    rintro e w6 ⟨rfl, o6, b6⟩
    have O6 := Hid.mk' o6
    have H6 := Hid.mk' (H5.out.trans (b6.below H5.out.size fun k hk => by subst hk; exact Nat.le_trans (Nat.le_of_eq rfl) (H2.out.size)))
    have V6 := Hid.mk' ((V5.out.wb b6 fun k hk => ⟨fun hv => by subst hk; rcases hv with hv | hv; exact hv; have := G3.out.2; omega, by
      obtain ⟨_, h⟩ := own_typed O5.out w2.heap.size rfl
      subst hk; exact h⟩).now)
    have Z6 := Hid.mk' b6.size
    have HG := Hid.mk' (get_any [97] V6.out (by decide))
    clear o6 b6 HO O5
    go_wp2_with fail
    refine HG.out.mono ?_
    rintro e w7 ⟨v7, rfl, b7, o7⟩
    have g7 : getC F [97] = 0 := by unfold getC; rw [F97.out]
    have f7 : (F [97]).getD [] = l := by rw [F97.out]; rfl
    rw [g7]
    rw [f7] at o7
    obtain ⟨a7, c7, rfl⟩ := own_slice o7
    have O7 := Hid.mk' o7
    have V7 := Hid.mk' (V6.out.up b7)
    have H7 := Hid.mk' (bt H6.out b7)
    have B7 := Hid.mk' b7
    have HG := Hid.mk' (get_any [97] V7.out (by decide))
    clear o7 b7 g7 f7
    go_wp2_with fail
    refine HG.out.mono ?_
    rintro e w8 ⟨v8, rfl, b8, o8⟩
    have g8 : getC F [97] = 0 := by unfold getC; rw [F97.out]
    have f8 : (F [97]).getD [] = l := by rw [F97.out]; rfl
    rw [g8]
    rw [f8] at o8
    obtain ⟨a8, c8, rfl⟩ := own_slice o8
    have O8 := Hid.mk' o8
    have V8 := Hid.mk' (V7.out.up b8)
    have H8 := Hid.mk' (bt H7.out b8)
    have B8 := Hid.mk' b8
    have HL := Hid.mk' (list_any [] V8.out (by decide) (by decide))
    clear o8 b8 g8 f8 HG
    go_wp2_with fail
    refine HL.out.mono ?_
    rintro e w9 ⟨v9, L, rfl, hL, o9, b9⟩
    rw [keys_one hL (by rw [F97.out]; rfl)] at o9
    obtain ⟨g9, c9, rfl, hc9⟩ := o9.form (by decide)
    simp only [List.length_cons, List.length_nil, Nat.zero_add] at o9 hc9
    have O9 := Hid.mk' o9
    have V9 := Hid.mk' (V8.out.up b9)
    have H9 := Hid.mk' (bt H8.out b9)
    have B9 := Hid.mk' b9
    have HE := Hid.mk' (requal_any (.slice a7 l.length c7) (.slice ka l.length kc) l l w9 ((O7.out.keep (bt B8.out b9) (Nat.le_refl _)).bs (by unfold lim; omega)) (HK.out.up H9.out))
    clear o9 b9 HL hL
    go_wp2_with fail
    refine HE.out.mono ?_
    rintro e w10 ⟨rfl, q10⟩
    have e10 : (l == l) = true := by simp
    rw [e10]
    have V10 := Hid.mk' (V9.out.up (q10.below _))
    have H10 := Hid.mk' (bt H9.out (q10.below _))
    have O10 := Hid.mk' (O9.out.up (q10.below _))
    have B10 := Hid.mk' (q10.below w9.heap.size)
    clear q10 e10 HE O9
    obtain ⟨vs, hvs⟩ : ∃ vs : List Value, vs = [.slice (some ⟨w2.heap.size, 0, none⟩) (l.length + 33) (l.length + 33), .slice a7 l.length c7, .slice a8 l.length c8] := ⟨_, rfl⟩
    have HA : Hid (Calls Try.prog 43 #[.slice (some ⟨w10.heap.size, 0, none⟩) 3 3] (w10.alloc (.cells #[.slice (some ⟨w2.heap.size, 0, none⟩) (l.length + 33) (l.length + 33), .slice a7 l.length c7, .slice a8 l.length c8] 32)) fun e w' => e = .returned (.bool true) ∧ Fm w2.heap.size [.slice (some ⟨w2.heap.size, 0, none⟩) (l.length + 33) (l.length + 33), .slice a7 l.length c7, .slice a8 l.length c8] (w10.alloc (.cells #[.slice (some ⟨w2.heap.size, 0, none⟩) (l.length + 33) (l.length + 33), .slice a7 l.length c7, .slice a8 l.length c8] 32)) w') := by
      have z7 := B7.out.size
      have z8 := B8.out.size
      have z9 := B9.out.size
      have z10 := B10.out.size
      have y3 := Z3.out
      have y4 := Z4.out
      have y5 := Z5.out
      have y6 := Z6.out
      have y2 := G3.out
      have up := up_alloc w10 (.cells #[.slice (some ⟨w2.heap.size, 0, none⟩) (l.length + 33) (l.length + 33), .slice a7 l.length c7, .slice a8 l.length c8] 32)
      have p0 : Ob 5 w2.heap.size (w10.alloc (.cells #[.slice (some ⟨w2.heap.size, 0, none⟩) (l.length + 33) (l.length + 33), .slice a7 l.length c7, .slice a8 l.length c8] 32)) (.slice (some ⟨w2.heap.size, 0, none⟩) (l.length + 33) (l.length + 33)) (ovr l.length (full l)) := by
        have := O6.out.keep (bt B7.out (bt B8.out (bt B9.out (bt B10.out up)))) (Nat.le_refl _)
        rw [full_len] at this; exact this
      have p1 := ((O7.out.keep (bt B8.out (bt B9.out (bt B10.out up))) (Nat.le_refl _)).mono (show w2.heap.size ≤ w6.heap.size by omega))
      have p2 := ((O8.out.keep (bt B9.out (bt B10.out up)) (Nat.le_refl _)).mono (show w2.heap.size ≤ w7.heap.size by omega))
      refine apart_fm (F := fun j => [ovr l.length (full l), l, l].getD j []) (heap_alloc_new w10 _) ?_ ?_ (by simp; omega) (by simp) ?_
      · intro j hj
        match j, hj with
        | 0, _ => exact p0
        | 1, _ => exact p1
        | 2, _ => exact p2
      · have k0 : ∀ k, (Value.slice (some ⟨w2.heap.size, 0, none⟩) (l.length + 33) (l.length + 33)).ownBlock = some k → k < w3.heap.size := fun k hk => by cases hk; exact y2.2
        have k1 : ∀ k, (Value.slice a7 l.length c7).ownBlock = some k → w6.heap.size ≤ k ∧ k < w7.heap.size := O7.out.lt
        have k2 : ∀ k, (Value.slice a8 l.length c8).ownBlock = some k → w7.heap.size ≤ k := fun k hk => (O8.out.lt k hk).1
        intro a b ha hb hab k e e'
        match a, ha, b, hb with
        | 0, _, 0, _ => exact hab rfl
        | 1, _, 1, _ => exact hab rfl
        | 2, _, 2, _ => exact hab rfl
        | 0, _, 1, _ => have := k0 k e; have := k1 k e'; omega
        | 0, _, 2, _ => have := k0 k e; have := k2 k e'; omega
        | 1, _, 0, _ => have := k1 k e; have := k0 k e'; omega
        | 1, _, 2, _ => have := k1 k e; have := k2 k e'; omega
        | 2, _, 0, _ => have := k2 k e; have := k0 k e'; omega
        | 2, _, 1, _ => have := k2 k e; have := k1 k e'; omega
      · intro j
        match j with
        | 0 => simp [ovr_len, full_len]; omega
        | 1 => simp; omega
        | 2 => simp; omega
        | n + 3 => simp
    clear hvs
    go_wp2_with fail
    refine HA.out.mono ?_
    rintro e w11 ⟨rfl, fm⟩
    obtain ⟨W, hW⟩ : ∃ W, W = w10.alloc (.cells #[.slice (some ⟨w2.heap.size, 0, none⟩) (l.length + 33) (l.length + 33), .slice a7 l.length c7, .slice a8 l.length c8] 32) := ⟨_, rfl⟩
    have up : Below w10.heap.size w10 W := by rw [hW]; exact up_alloc _ _
    rw [← hW] at fm
    have z7 := B7.out.size
    have z8 := B8.out.size
    have z9 := B9.out.size
    have z10 := B10.out.size
    have z11 := up.size
    have y3 := Z3.out
    have y4 := Z4.out
    have y5 := Z5.out
    have y6 := Z6.out
    have y2 := G3.out
    have t0 := own_typed (O6.out.keep (bt B7.out (bt B8.out (bt B9.out (bt B10.out up)))) (Nat.le_refl _)) w2.heap.size rfl
    have t1 := own_typed (O7.out.keep (bt B8.out (bt B9.out (bt B10.out up))) (Nat.le_refl _))
    have t2 := own_typed (O8.out.keep (bt B9.out (bt B10.out up)) (Nat.le_refl _))
    have k1 : ∀ k, (Value.slice a7 l.length c7).ownBlock = some k → w6.heap.size ≤ k ∧ k < w7.heap.size := O7.out.lt
    have k2 : ∀ k, (Value.slice a8 l.length c8).ownBlock = some k → w7.heap.size ≤ k ∧ k < w8.heap.size := O8.out.lt
    have k9 : w8.heap.size ≤ g9 ∧ g9 < w10.heap.size := O10.out.lt g9 rfl
    have hX : ∀ k, (∃ j, ∃ h : j < [Value.slice (some ⟨w2.heap.size, 0, none⟩) (l.length + 33) (l.length + 33), .slice a7 l.length c7, .slice a8 l.length c8].length, [Value.slice (some ⟨w2.heap.size, 0, none⟩) (l.length + 33) (l.length + 33), .slice a7 l.length c7, .slice a8 l.length c8][j].ownBlock = some k) → (k < w3.heap.size ∨ w6.heap.size ≤ k) ∧ k < w8.heap.size ∧ ∃ cur fr, W.heap[k]? = some (.cells cur 5 fr) := by
      rintro k ⟨j, hj, e⟩
      match j, hj with
      | 0, _ => cases e; exact ⟨.inl y2.2, show w2.heap.size < w8.heap.size by omega, t0.2⟩
      | 1, _ => have := k1 k e; exact ⟨.inr this.1, by omega, (t1 k e).2⟩
      | 2, _ => have := k2 k e; exact ⟨.inr (by omega), this.2, (t2 k e).2⟩
    have v11 := (V10.out.up up).fr (w' := w11) (X := fun k => ∃ j, ∃ h : j < [Value.slice (some ⟨w2.heap.size, 0, none⟩) (l.length + 33) (l.length + 33), .slice a7 l.length c7, .slice a8 l.length c8].length, [Value.slice (some ⟨w2.heap.size, 0, none⟩) (l.length + 33) (l.length + 33), .slice a7 l.length c7, .slice a8 l.length c8][j].ownBlock = some k) (fun k hk hn => fm.2 k hk fun j hj e => hn ⟨j, hj, e⟩) (fun k hk => by
      obtain ⟨h1, h2, cur, fr, h3⟩ := hX k hk
      refine ⟨fun hv => ?_, cur, 5, fr, h3, by decide⟩
      rcases hv.1 with hv1 | hv1
      · exact hv1
      · have := hv.2; omega)
    have o11 : So 9 w8.heap.size w11 (.slice (some ⟨g9, 0, none⟩) 1 c9) [[97]] := own_fr (O10.out.up up) fun k hk => by
      cases hk
      exact fm.2 g9 (by omega) fun j hj e => by have := (hX g9 ⟨j, hj, e⟩).2.1; omega
    have h11 : Below w.heap.size w w11 := (H10.out.trans (up.mono H10.out.size)).trans (fm.1.mono H2.out.size)
    have cc := o11.cell 0 (by decide)
    have cf := o11.frozen 0
    simp only [List.getElem_cons_zero] at cc
    obtain ⟨w12, e12⟩ : ∃ w12, w12 = w11.setCell ⟨g9, 0, none⟩ (.string ⟨#[122]⟩) := ⟨_, rfl⟩
    have wb12 : Wb (fun k => k = g9) w11 w12 := by rw [e12]; exact Wb.set _ _ _ _ rfl
    have V12 := Hid.mk' (v11.fr (w' := w12) (X := fun k => k = g9) (fun k hk hn => wb12.block k hk hn) (fun k hk => by
      subst hk
      obtain ⟨_, cur, fr, h3⟩ := own_typed o11 k rfl
      refine ⟨fun hv => ?_, cur, 9, fr, h3, by decide⟩
      have := hv.2; omega))
    have H12 := Hid.mk' (h11.trans (wb12.below h11.size fun k hk => by subst hk; have := H8.out.size; omega))
    have HG := Hid.mk' (get_any [97] V12.out (by decide))
    clear up fm t0 t1 t2 k1 k2 hX v11 o11 h11 wb12 hW z7 z8 z9 z10 z11 y3 y4 y5 y6 y2 k9 HA
    go_wp2_with fail
    rw [← e12]
    clear e12 cc cf
    refine HG.out.mono ?_
    rintro e w13 ⟨v13, rfl, b13, o13⟩
    have g13 : getC F [97] = 0 := by unfold getC; rw [F97.out]
    have f13 : (F [97]).getD [] = l := by rw [F97.out]; rfl
    rw [g13]
    rw [f13] at o13
    obtain ⟨a13, c13, rfl⟩ := own_slice o13
    have V13 := Hid.mk' (V12.out.up b13)
    have H13 := Hid.mk' (bt H12.out b13)
    have HE := Hid.mk' (requal_any (.slice a13 l.length c13) (.slice ka l.length kc) l l w13 (o13.bs (by unfold lim; omega)) (HK.out.up H13.out))
    clear o13 b13 g13 f13 HG
    go_wp2_with fail
    refine HE.out.mono ?_
    rintro e w14 ⟨rfl, q14⟩
    have e14 : (l == l) = true := by simp
    rw [e14]
    have V14 := Hid.mk' (V13.out.up (q14.below _))
    have H14 := Hid.mk' (bt H13.out (q14.below _))
    have HL := Hid.mk' (list_any [] V14.out (by decide) (by decide))
    clear q14 e14 HE
    go_wp2_with fail
    refine HL.out.mono ?_
    rintro e w15 ⟨v15, L, rfl, hL, o15, b15⟩
    rw [keys_one hL (by rw [F97.out]; rfl)] at o15
    obtain ⟨g15, c15, rfl, hc15⟩ := o15.form (by decide)
    simp only [List.length_cons, List.length_nil, Nat.zero_add] at o15 hc15
    have cc := o15.cell 0 (by decide)
    simp only [List.getElem_cons_zero] at cc
    have H15 := Hid.mk' (bt H14.out b15)
    clear o15 b15 hL HL
    go_wp2_with fail
    go_ret
    exact ⟨rfl, H15.out⟩
end Go.Proofs.Ytfmbbpfklhkljaa
