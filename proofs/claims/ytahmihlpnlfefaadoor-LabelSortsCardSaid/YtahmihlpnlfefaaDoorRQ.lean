/- Walks: the reference's Pick. -/
import Derived.Test.YtahmihlpnlfefaaDoorRP
import Derived.StillTailTactics
import Derived.Deep.CutBlock
import Derived.Test.YtahmihlpnlfefaaDoorUP
set_option linter.unusedVariables false
set_option linter.unusedSimpArgs false
namespace Go.Proofs.YtahmihlpnlfefaaDoor
open Go.RowKit
open PL
/-- all from n on stand behind x -/
def Hi (x : List UInt8) (acc : List (List UInt8)) (n : Nat) : Prop := n ≤ acc.length ∧ ∀ j (hj : j < acc.length), n ≤ j → comp x acc[j] < 0
theorem Hi.start (x : List UInt8) (acc : List (List UInt8)) : Hi x acc acc.length := ⟨Nat.le_refl _, fun j hj h => by omega⟩
theorem Hi.step {x : List UInt8} {acc : List (List UInt8)} {n : Nat} (h : Hi x acc n) (hn : 0 < n) (hc : ∀ (hh : n - 1 < acc.length), comp x acc[n - 1] < 0) : Hi x acc (n - 1) :=
  ⟨by have := h.1; omega, fun j hj hnj => by
    by_cases e : j = n - 1
    · subst e; exact hc hj
    · exact h.2 j hj (by omega)⟩
/-- the one ahead of n is not behind x -/
structure Lo (x : List UInt8) (acc : List (List UInt8)) (n : Nat) : Prop where
  out : 0 < n → ∀ (hh : n - 1 < acc.length), ¬ comp x acc[n - 1] < 0
theorem put_ok {p x : List UInt8} {m acc : List (List UInt8)} {n : Nat} (h : IsPick p m acc) (hh : Hi x acc n) (hl : Lo x acc n) (hx : mt x p = true) (hy : n = 0 ∨ ∃ h : n - 1 < acc.length, acc[n - 1] ≠ x) :
    IsPick p (m ++ [x]) (acc.take n ++ [x] ++ acc.drop n) := by
  refine pick_put h hh.1 hx (fun j hj hjn => ?_) (fun j hj hnj => hh.2 j hj hnj)
  rcases hy with rfl | ⟨hn, hy⟩
  · omega
  · have h1 := hl.out (by omega) hn
    have h2 : comp acc[n - 1] x < 0 := by
      have := comp_ord.anti x acc[n - 1]
      have h3 : comp x acc[n - 1] ≠ 0 := fun e => hy ((comp_zero _ _).1 e).symm
      omega
    rcases Nat.lt_or_ge j (n - 1) with h4 | h4
    · have h5 := List.pairwise_iff_getElem.1 h.1 j (n - 1) hj hn h4
      exact comp_ord.lt_left h5 (by omega)
    · obtain rfl : j = n - 1 := by omega
      exact h2
theorem sv_take (l : List (List UInt8)) (n : Nat) : sv (l.take n) = (sv l).take n := by simp [sv, List.map_take]
theorem sv_drop (l : List (List UInt8)) (n : Nat) : sv (l.drop n) = (sv l).drop n := by simp [sv, List.map_drop]
set_option maxRecDepth 100000 in
theorem app41b {w W : World} {ops : Array Oper} {rest : List Oper} {o : Oper} {a : Act} {Q : Exit → Act → World → Prop} {v : Value} {l : List (List UInt8)} {A : Nat → Prop} {u : Value} {m : List (List UInt8)} (hgd : o.guard = none) (s x : Operand)
    (ho : o.op = .call { callee := .builtin .append, args := #[s, x], argTypes := #[41, 41] }) (hs : a.eval s = v) (hW : Below W.heap.size W w) (hown : So 9 W.heap.size w v l)
    (hx : a.eval x = u) (hsrc : Ss A w u m) (hlen : (l.length + m.length) * 16 ≤ lim)
    (h : ∀ v' w', So 9 W.heap.size w' v' (l ++ m) → Below W.heap.size W w' → wpList Tryd.prog ops Q rest (a.put o.dst v') w') :
    wpList Tryd.prog ops Q (o :: rest) a w :=
  app41 hgd s x ho hs hown hx hsrc hlen hW.size fun v' w' h1 h2 => h v' w' h1 (below_appS hW hown h2 (Nat.le_refl _) hW.size)
theorem app_up {e : TypeId} {W w w' : World} {v : Value} {l : List (List UInt8)} (h : Below W.heap.size W w) (hown : So e W.heap.size w v l) (hg : w.grownBy w' v.ownBlock) : Below W.heap.size W w' :=
  below_app h hown hg (Nat.le_refl _) h.size
set_option maxRecDepth 100000 in
set_option maxHeartbeats 8000000 in
/-- groyneref02.Pick -/
theorem rpick_any {A : Nat → Prop} (p : List UInt8) (l : List (List UInt8)) (v : Value) (w : World) (h : Ss A w v l) (hp : p.length ≤ 1000) (hs : ∀ x ∈ l, x.length ≤ 1000) (hn : l.length ≤ 1000) : Calls Tryd.prog 27 #[.string ⟨p.toArray⟩, v] w (PickPost p l w) := by
  obtain ⟨a, c, rfl, hc, _, H⟩ := h.at
  have H : Hid _ := H
  have HS := Hid.mk' hs
  clear h hs
  go_enter Tryd.func27, Tryd.ntmps27
  go_wp2
  go_loopw [5, 6, 7, 8] (fun o i _ _ wr => ∃ (k : Nat) (acc : List (List UInt8)), k ≤ l.length ∧ i = .int .i64 k ∧ acc.length ≤ k ∧ Hid (Below w.heap.size w wr) ∧ Hid (So 9 w.heap.size wr o acc) ∧ Hid (IsPick p (l.take k) acc)) (fun _ i _ _ _ => l.length - (intOf i).toNat)
  case atStart => exact ⟨0, [], by omega, rfl, by simp, Hid.mk' (Below.refl _ _), Hid.mk' so_nil, Hid.mk' (pick_nil p)⟩
  case round =>
    obtain ⟨k, acc, hk, rfl, hacc, HB, HO, HP⟩ := hrel
    by_cases hlt : k < l.length
    · have hlt' : (k : Int) < (l.length : Int) := by omega
      have hlim : (l.length : Int) ≤ 1000 := by omega
      have hu1 : ∃ b o, a = some ⟨b, o, none⟩ ∧ ∀ w', Below w.heap.size w w' → w'.cell? ⟨b, o + k, none⟩ = some (.string ⟨l[k].toArray⟩) := by
        obtain ⟨b, o, hp, _, hu⟩ := H.out k hlt
        exact ⟨b, o, hp, fun w' hb => cell_later hb hu⟩
      obtain ⟨b, o, rfl, hu⟩ := hu1
      have HU := Hid.mk' hu
      have HT := Hid.mk' (List.take_succ_eq_append_getElem hlt)
      have hxl := HS.out _ (List.getElem_mem hlt)
      generalize l[k] = x at *
      clear hu
      obtain ⟨ao, nn, cc, rfl⟩ := HO.out.slice
      have hat := HO.out.ss (by unfold lim; omega)
      obtain ⟨ao', cc', he, hcc, hao, HA⟩ := hat.at
      cases he
      have HA := Hid.mk' HA
      clear hat
      have hal : ∀ j (hj : j < acc.length), acc[j].length ≤ 1000 := fun j hj => by
        have := ((HP.out.2 _).1 (List.getElem_mem hj)).1
        exact HS.out _ (List.mem_of_mem_take this)
      have HAL := Hid.mk' hal
      clear hal
      go_upto_block 2 with fail
      obtain ⟨wo, rfl⟩ : ∃ wo : World, wo = wr := ⟨_, rfl⟩
      go_cut [7] (fun u wi => ∃ n : Nat, u = .int .i64 n ∧ Hid (Hi x acc n) ∧ Hid (Lo x acc n) ∧ Hid (Below wo.heap.size wo wi))
      case first =>
        go_wp2_with fail
        go_loopw [7] (fun u wi => ∃ n : Nat, n ≤ acc.length ∧ u = .int .i64 n ∧ Hid (Hi x acc n) ∧ Hid (Below wo.heap.size wo wi)) (fun u _ => (intOf u).toNat)
        case atStart => exact ⟨acc.length, by omega, rfl, Hid.mk' (Hi.start x acc), Hid.mk' (Below.refl _ _)⟩
        case round =>
          obtain ⟨n, hna, rfl, HH, HW⟩ := hrel
          have hu2 := HU.out wr (bt HB.out HW.out)
          by_cases hn0 : n = 0
          · subst hn0
            have hg0 : decide ((0 : Int) < 0) = false := rfl
            go_wp2_with fail
            go_quiet (fail)
            go_wp2_with fail
            go_meet
            exact ⟨0, rfl, HH, Hid.mk' ⟨fun h => absurd h (by omega)⟩, Hid.mk' (HW.out.trans (((Dn.refl _).more _).below _))⟩
          · have hn0' : (0 : Int) < (n : Int) := by omega
            have hn1 : (1 : Int) ≤ (n : Int) := by omega
            have hg1 : decide (0 < n) = true := by simp; omega
            have hg2 : 0 < n := by omega
            have hu3 : ∃ g q, ao = some ⟨g, q, none⟩ ∧ wr.cell? ⟨g, q + (n - 1), none⟩ = some (.string ⟨(acc[n - 1]'(by omega)).toArray⟩) := by
              obtain ⟨g, q, h1, _, h2⟩ := HA.out (n - 1) (by omega)
              exact ⟨g, q, h1, cell_later HW.out h2⟩
            obtain ⟨g, q, rfl, hu4⟩ := hu3
            have hyl := HAL.out (n - 1) (by omega)
            have HC := Hid.mk' (rcomp_any x (acc[n - 1]'(by omega)) (by omega) (by omega))
            have HZ := Hid.mk' (fun (h : comp x (acc[n - 1]'(by omega)) < 0) => HH.out.step hg2 (fun hh => h))
            have HY := Hid.mk' (fun (h : ¬ comp x (acc[n - 1]'(by omega)) < 0) => (⟨fun _ hh => h⟩ : Lo x acc n))
            have hnn : (((n : Int) - 1)).toNat = n - 1 := by omega
            have hw1 : IntKind.i64.wrap ((n : Int) - 1) = (n : Int) - 1 := by rw [IntKind.wrap_i64]; omega
            have hlen : ((n : Int) - 1) < (acc.length : Int) := by omega
            generalize acc[n - 1]'(by omega) = y at *
            by_cases hz : comp x y < 0
            · have HN := Hid.mk' (HZ.out hz)
              have hcast : ((n - 1 : Nat) : Int) = (n : Int) - 1 := by omega
              generalize comp x y = z at *
              go_wp2_with fail
              go_still_tail 12, (by kernel_rfl)
              go_wp2_with fail
              refine (HC.out _).mono ?_
              rintro e w2 ⟨rfl, h2⟩
              have H2 := Hid.mk' ((HW.out.trans ((Dn.refl _).drew.below _)).trans (h2.mono HW.out.size))
              clear h2
              go_wp2_with fail
              go_roundw
              case rel => exact ⟨n - 1, by omega, by rw [hcast], HN, H2⟩
              case measure => simp [intOf]; omega
            · have HN := Hid.mk' (HY.out hz)
              generalize comp x y = z at *
              go_wp2_with fail
              go_still_tail 12, (by kernel_rfl)
              go_wp2_with fail
              refine (HC.out _).mono ?_
              rintro e w2 ⟨rfl, h2⟩
              have H2 := Hid.mk' ((HW.out.trans ((Dn.refl _).drew.below _)).trans (h2.mono HW.out.size))
              clear h2
              go_wp2_with fail
              go_meet
              exact ⟨n, rfl, HH, HN, H2⟩
      case rest =>
        obtain ⟨n, rfl, HH, HL, HW⟩ := hcut
        have hnn : n ≤ acc.length := HH.out.1
        have HWB := Hid.mk' (bt HB.out HW.out)
        have hu5 : ∀ p : Ups wc, p.nx.cell? ⟨b, o + k, none⟩ = some (.string ⟨x.toArray⟩) := fun q => HU.out q.nx (bt HWB.out q.ok)
        have HM := Hid.mk' (rmatch_any x p hxl hp)
        cases hm : mt x p
        · rw [hm] at HM
          have HN : Hid (IsPick p (l.take (k + 1)) acc) := by show IsPick _ _ _; rw [HT.out]; exact pick_skip HP.out (.inl hm)
          clear hm
          go_wp2_with fail
          refine wp_region_up (by kernel_rfl) (by kernel_rfl) ?_
          repeat (go_big_quiet_step (exact ups_call (HM.out _)))
          refine wpQuiet_nil ?_
          intro _ hw'
          obtain ⟨q, hw''⟩ := hw'
          subst hw''
          go_wp2_with fail
          exact ⟨⟨k + 1, acc, by omega, by go_num, by omega, Hid.mk' (bt HWB.out q.ok), Hid.mk' ((HO.out.up HW.out).up q.ok), HN⟩, by simp [intOf]; omega⟩
        · rw [hm] at HM
          have HMT := Hid.mk' hm
          clear hm
          have HROW := Hid.mk' ((HO.out.up HW.out).ss (by unfold lim; omega)).1
          obtain ⟨a1, c1, hr1, hR1⟩ := row_hi (P := Tryd.prog) (t := 41) Tryd.underlying41 (fun _ => by kernel_rfl) HROW.out n hnn
          obtain ⟨a2, c2, hr2, hR2⟩ := row_lo (P := Tryd.prog) (t := 41) Tryd.underlying41 (fun _ => by kernel_rfl) HROW.out n hnn
          have HR1 := Hid.mk' hR1
          have HR2 := Hid.mk' hR2
          clear hR1 hR2
          by_cases hn0 : n = 0
          · have hg1 : decide (0 < n) = false := by simp; omega
            have hg2 : decide ((0 : Int) < (n : Int)) = false := by simp; omega
            have hg3 : ¬ 0 < n := by omega
            have HN := Hid.mk' (put_ok HP.out HH.out HL.out HMT.out (.inl hn0))
            clear hn0
            go_wp2_with fail
            refine wp_region_up (by kernel_rfl) (by kernel_rfl) ?_
            repeat (go_big_quiet_step (exact ups_call (HM.out _)))
            refine wpQuiet_nil ?_
            intro _ hw'
            obtain ⟨q, hw''⟩ := hw'
            subst hw''
            have HQ := Hid.mk' (bt HWB.out q.ok)
            have hu7 := hu5 q
            have hSZ := HQ.out.size
            have HS1 : Hid (Ss (Lt wc.heap.size) q.nx (.slice a1 n c1) (acc.take n)) := ⟨by rw [List.length_take, Nat.min_eq_left hnn, sv_take]; exact HR1.out.up q.ok, by simp; unfold lim; omega⟩
            have HS2 : Hid (Ss (Lt wc.heap.size) q.nx (.slice a2 (acc.length - n) c2) (acc.drop n)) := ⟨by rw [List.length_drop, sv_drop]; exact HR2.out.up q.ok, by simp; unfold lim; omega⟩
            clear hu5
            go_wp2_with (first
              | (at_builtin; refine app41b (W := q.nx) (l := []) (m := acc.take n) rfl (.tmp 57) (.tmp 60) rfl rfl (up_alloc q.nx (.cells #[] 9)) (so_empty (Nat.le_refl _)) rfl (HS1.out.up (up_alloc q.nx (.cells #[] 9))) (by simp only [List.length_nil, List.length_take]; unfold lim; omega) ?_; intro v1 w1 ho1 hb1; have HO1 := Hid.mk' ho1; have HB1 := Hid.mk' hb1; have hu8 := HU.out w1 (bt HQ.out HB1.out); clear ho1 hb1)
              | (at_builtin; refine app41b (W := q.nx) (l := acc.take n) (m := [x]) rfl (.tmp 62) (.tmp 67) rfl rfl (HB1.out.alloc HB1.out.size (.cells #[.string ⟨x.toArray⟩] 9)) (So.alloc HO1.out (.cells #[.string ⟨x.toArray⟩] 9)) rfl (ss_row [x] rfl rfl (by simp)) (by simp only [List.length_take, List.length_cons, List.length_nil]; unfold lim; omega) ?_; intro v2 w2 ho2 hb2; have HO2 := Hid.mk' ho2; have HB2 := Hid.mk' hb2; clear ho2 hb2)
              | (at_builtin; refine app41b (W := q.nx) (l := acc.take n ++ [x]) (m := acc.drop n) rfl (.tmp 69) (.tmp 72) rfl rfl HB2.out HO2.out rfl (HS2.out.up HB2.out) (by simp only [List.length_take, List.length_cons, List.length_nil, List.length_append, List.length_drop]; unfold lim; omega) ?_; intro v3 w3 ho3 hb3; have HO3 := Hid.mk' ho3; have HB3 := Hid.mk' hb3; clear ho3 hb3))
            go_roundw
            case rel => exact ⟨k + 1, acc.take n ++ [x] ++ acc.drop n, by omega, by go_num, by simp; omega, Hid.mk' (bt HQ.out HB3.out), Hid.mk' (HO3.out.mono hSZ), by rw [HT.out]; exact HN⟩
            case measure => simp [intOf]; omega
          · have hg1 : decide (0 < n) = true := by simp; omega
            have hg2 : decide ((0 : Int) < (n : Int)) = true := by simp; omega
            have hg3 : 0 < n := by omega
            have hn1 : (1 : Int) ≤ (n : Int) := by omega
            have hu3 : ∃ g r, ao = some ⟨g, r, none⟩ ∧ ∀ w', Below wo.heap.size wo w' → w'.cell? ⟨g, r + (n - 1), none⟩ = some (.string ⟨(acc[n - 1]'(by omega)).toArray⟩) := by
              obtain ⟨g, r, h1, _, h2⟩ := HA.out (n - 1) (by omega)
              exact ⟨g, r, h1, fun w' hw => cell_later hw h2⟩
            obtain ⟨g, r, rfl, hu4⟩ := hu3
            have hu6 : ∀ p : Ups wc, p.nx.cell? ⟨g, r + (n - 1), none⟩ = some (.string ⟨(acc[n - 1]'(by omega)).toArray⟩) := fun q => hu4 q.nx (bt HW.out q.ok)
            have hnn1 : (((n : Int) - 1)).toNat = n - 1 := by omega
            have hlen : ((n : Int) - 1) < (acc.length : Int) := by omega
            have HE := Hid.mk' (fun (h : acc[n - 1]'(by omega) ≠ x) => put_ok HP.out HH.out HL.out HMT.out (.inr ⟨by omega, h⟩))
            have HK : Hid (acc[n - 1]'(by omega) = x → IsPick p (l.take k ++ [x]) acc) := fun h => pick_skip HP.out (.inr (h ▸ List.getElem_mem (by omega)))
            clear hu4
            generalize acc[n - 1]'(by omega) = y at *
            by_cases hyx : y = x
            · have hyx' : (y == x) = true := by simp [hyx]
              have HN : Hid (IsPick p (l.take (k + 1)) acc) := by show IsPick _ _ _; rw [HT.out]; exact HK.out hyx
              clear hyx
              go_wp2_with fail
              refine wp_region_up (by kernel_rfl) (by kernel_rfl) ?_
              repeat (go_big_quiet_step (exact ups_call (HM.out _)))
              refine wpQuiet_nil ?_
              intro _ hw'
              obtain ⟨q, hw''⟩ := hw'
              subst hw''
              go_wp2_with fail
              exact ⟨⟨k + 1, acc, by omega, by go_num, by omega, Hid.mk' (bt HWB.out q.ok), Hid.mk' ((HO.out.up HW.out).up q.ok), HN⟩, by simp [intOf]; omega⟩
            · have hyx' : (y == x) = false := by simp [hyx]
              have HN := Hid.mk' (HE.out hyx)
              clear hyx
              go_wp2_with fail
              refine wp_region_up (by kernel_rfl) (by kernel_rfl) ?_
              repeat (go_big_quiet_step (exact ups_call (HM.out _)))
              refine wpQuiet_nil ?_
              intro _ hw'
              obtain ⟨q, hw''⟩ := hw'
              subst hw''
              have HQ := Hid.mk' (bt HWB.out q.ok)
              have hu7 := hu5 q
              have hSZ := HQ.out.size
              have HS1 : Hid (Ss (Lt wc.heap.size) q.nx (.slice a1 n c1) (acc.take n)) := ⟨by rw [List.length_take, Nat.min_eq_left hnn, sv_take]; exact HR1.out.up q.ok, by simp; unfold lim; omega⟩
              have HS2 : Hid (Ss (Lt wc.heap.size) q.nx (.slice a2 (acc.length - n) c2) (acc.drop n)) := ⟨by rw [List.length_drop, sv_drop]; exact HR2.out.up q.ok, by simp; unfold lim; omega⟩
              clear hu5
              go_wp2_with (first
                | (at_builtin; refine app41b (W := q.nx) (l := []) (m := acc.take n) rfl (.tmp 57) (.tmp 60) rfl rfl (up_alloc q.nx (.cells #[] 9)) (so_empty (Nat.le_refl _)) rfl (HS1.out.up (up_alloc q.nx (.cells #[] 9))) (by simp only [List.length_nil, List.length_take]; unfold lim; omega) ?_; intro v1 w1 ho1 hb1; have HO1 := Hid.mk' ho1; have HB1 := Hid.mk' hb1; have hu8 := HU.out w1 (bt HQ.out HB1.out); clear ho1 hb1)
                | (at_builtin; refine app41b (W := q.nx) (l := acc.take n) (m := [x]) rfl (.tmp 62) (.tmp 67) rfl rfl (HB1.out.alloc HB1.out.size (.cells #[.string ⟨x.toArray⟩] 9)) (So.alloc HO1.out (.cells #[.string ⟨x.toArray⟩] 9)) rfl (ss_row [x] rfl rfl (by simp)) (by simp only [List.length_take, List.length_cons, List.length_nil]; unfold lim; omega) ?_; intro v2 w2 ho2 hb2; have HO2 := Hid.mk' ho2; have HB2 := Hid.mk' hb2; clear ho2 hb2)
                | (at_builtin; refine app41b (W := q.nx) (l := acc.take n ++ [x]) (m := acc.drop n) rfl (.tmp 69) (.tmp 72) rfl rfl HB2.out HO2.out rfl (HS2.out.up HB2.out) (by simp only [List.length_take, List.length_cons, List.length_nil, List.length_append, List.length_drop]; unfold lim; omega) ?_; intro v3 w3 ho3 hb3; have HO3 := Hid.mk' ho3; have HB3 := Hid.mk' hb3; clear ho3 hb3))
              go_roundw
              case rel => exact ⟨k + 1, acc.take n ++ [x] ++ acc.drop n, by omega, by go_num, by simp; omega, Hid.mk' (bt HQ.out HB3.out), Hid.mk' (HO3.out.mono hSZ), by rw [HT.out]; exact HN⟩
              case measure => simp [intOf]; omega
    · obtain rfl : k = l.length := by omega
      have HN : Hid (IsPick p l acc) := by have := HP.out; rwa [List.take_length] at this
      go_wp2_with fail
      go_ret
      exact ⟨_, _, rfl, HN.out, HO.out, HB.out⟩
end Go.Proofs.YtahmihlpnlfefaaDoor
