/- Walks: the law LabelSorts. -/
import Derived.Test.YtahmihlpnlfefaaDoorLP
import Derived.StillTailTactics
import Derived.Deep.RegionLaw
import Derived.Test.YtahmihlpnlfefaaDoorUP
set_option linter.unusedVariables false
set_option linter.unusedSimpArgs false
namespace Go.Proofs.YtahmihlpnlfefaaDoor
open Go.RowKit
open PL
theorem idx_of (k n : Nat) (t : Int) (hk : k < n) (hn : n ≤ 40) (h1 : t < n) (h2 : -(n : Int) < t) : ∃ m : Nat, m < n ∧ ((k : Int) + t + n) % n = (m : Int) := by
  have h3 := Int.emod_nonneg ((k : Int) + t + n) (b := (n : Int)) (by omega)
  have h4 := Int.emod_lt_of_pos ((k : Int) + t + n) (b := (n : Int)) (by omega)
  exact ⟨(((k : Int) + t + n) % n).toNat, by omega, by omega⟩
theorem step_app41 {w W : World} {ops : Array Oper} {o : Oper} {a : Act} {K : Act → World → Prop} {Q : Exit → Act → World → Prop} {E : Prop} {v : Value} {l : List (List UInt8)} {A : Nat → Prop} {u : Value} {m : List (List UInt8)} (hgd : o.guard = none) (s x : Operand)
    (ho : o.op = .call { callee := .builtin .append, args := #[s, x], argTypes := #[41, 41] }) (hs : a.eval s = v) (hW : Below W.heap.size W w) (hown : So 9 W.heap.size w v l)
    (hx : a.eval x = u) (hsrc : Ss A w u m) (hlen : (l.length + m.length) * 16 ≤ lim)
    (h : ∀ v' w', So 9 W.heap.size w' v' (l ++ m) → Below W.heap.size W w' → K (a.put o.dst v') w') :
    if Region.wanted o (yielded ops a.tmps) = true then Oper.wp Tryd.prog o a w K Q else E := by
  have hw : Region.wanted o (yielded ops a.tmps) = true := by simp [Region.wanted, hgd]
  rw [if_pos hw]
  unfold lim at hlen
  obtain ⟨v', w', hr, h2, h3, h4, h5⟩ := run_app (P := Tryd.prog) (w := w) 41 o.type Tryd.underlying41 Tryd.info9 rfl (by decide) hown hsrc.1 (sv_one m) (by unfold maxLen; omega) (by omega) hW.size
  unfold Oper.wp execOp
  simp only [ho, resolve, invoke, builtin, Sem.run_bind, Sem.run_pure, Result.andThen_ok, List.map_toArray, List.map_cons, List.map_nil, hs, hx, hr]
  exact h v' w' (by unfold So; rw [List.length_append, sv_append]; exact h2) (below_appS hW hown h3 (Nat.le_refl _) hW.size)
/-- what 'other' holds behind k rounds -/
structure OI (s : List (List UInt8)) (k : Nat) (ol : List (List UInt8)) : Prop where
  sub : ∀ x ∈ ol, x ∈ s
  sup : ∀ j (hj : j < s.length), j < k → s[j] ∈ ol
  len : ol.length = 2 * k
theorem OI.start (s : List (List UInt8)) : OI s 0 [] := ⟨fun x h => by simp at h, fun j hj h => by omega, rfl⟩
theorem OI.step {s ol : List (List UInt8)} {k m : Nat} (h : OI s k ol) (hk : k < s.length) (hm : m < s.length) : OI s (k + 1) ([s[m], s[k]] ++ ol) := by
  refine ⟨fun x hx => ?_, fun j hj hjk => ?_, by simp [h.len]; omega⟩
  · rcases List.mem_append.1 hx with h1 | h1
    · simp at h1
      rcases h1 with rfl | rfl <;> exact List.getElem_mem _
    · exact h.sub x h1
  · by_cases e : j = k
    · subst e; simp
    · exact List.mem_append_right _ (h.sup j hj (by omega))
theorem OI.mem {s ol : List (List UInt8)} (h : OI s s.length ol) (x : List UInt8) : x ∈ ol ↔ x ∈ s := by
  refine ⟨h.sub x, fun hx => ?_⟩
  obtain ⟨j, hj, rfl⟩ := List.mem_iff_getElem.1 hx
  exact h.sup j hj hj
set_option maxRecDepth 100000 in
set_option maxHeartbeats 8000000 in
/-- LabelSorts -/
theorem sorts_any {A : Nat → Prop} (v : Value) (l0 : List (List UInt8)) (turn : Int) (w : World) (h : Ss A w v l0) (hs0 : ∀ x ∈ l0, x.length ≤ maxLen) (ht0 : -9223372036854775808 ≤ turn) (ht1 : turn ≤ 9223372036854775807) : Calls Tryd.prog 9 #[v, .int .i64 turn] w fun e w' => e = .returned (.bool true) ∧ Below w.heap.size w w' := by
  obtain ⟨a0, c0, rfl, hc0, _, _⟩ := h.at
  have HH := Hid.mk' h
  have HS0 := Hid.mk' hs0
  clear h hs0
  go_enter Tryd.func9, Tryd.ntmps9
  go_wp2_with fail
  refine (awake_any _).mono ?_
  rintro e w1 ⟨rfl, h1⟩
  have H1 := Hid.mk' h1
  clear h1
  go_upto_if 20 with fail
  go_cut [0] (fun u wx => ∃ (a : Option Addr) (c : Nat), u = .slice a (l0.take 40).length c ∧ Hid (Ss A w1 (.slice a (l0.take 40).length c) (l0.take 40)) ∧ Hid (Eqw w1 wx))
  case first =>
    have HR := Hid.mk' (HH.out.up H1.out)
    by_cases hlt : 40 < l0.length
    · have hlt' : (40 : Int) < (l0.length : Int) := by omega
      obtain ⟨a1, c1, hr1, hR1⟩ := row_hi (P := Tryd.prog) (t := 41) Tryd.underlying41 (fun _ => by kernel_rfl) HR.out.1 40 (by omega)
      have hr2 : ∀ w, (Instr.slice 41 (.slice a0 l0.length c0) none (some (.int .i64 40)) none).run Tryd.prog w = .ok (.slice a1 40 c1) w := hr1
      have HR1 := Hid.mk' hR1
      have hl60 : (l0.take 40).length = 40 := by simp; omega
      have HL60 := Hid.mk' hl60
      clear hr1 hR1 hl60
      go_wp2_with fail
      go_meet
      exact ⟨a1, c1, by rw [HL60.out], ⟨by rw [HL60.out, sv_take]; exact HR1.out, by rw [HL60.out]; decide⟩, rfl⟩
    · have hlt' : ¬ (40 : Int) < (l0.length : Int) := by omega
      have ht : l0.take 40 = l0 := List.take_of_length_le (by omega)
      have HT := Hid.mk' ht
      clear ht
      go_wp2_with fail
      go_meet
      exact ⟨a0, c0, by rw [HT.out], by rw [HT.out]; exact HR, rfl⟩
  case rest =>
    obtain ⟨a, c, rfl, HN, hwc⟩ := hcut
    obtain rfl : w1 = wc := hwc.out
    have hl60 : (l0.take 40).length ≤ 40 := by simp; omega
    have HX : Hid (∀ x ∈ l0.take 40, x.length ≤ maxLen) := fun x hx => HS0.out x (List.mem_of_mem_take hx)
    clear HH HS0 hc0
    generalize l0.take 40 = l at *
    obtain ⟨a', c', he, hcc, _, HA⟩ := HN.out.at
    cases he
    have HA := Hid.mk' HA
    go_wp2_with fail
    go_loopw [5, 8, 25] (fun o x i wr => ∃ k : Nat, k ≤ l.length ∧ i = .int .i64 k ∧ Hid (Below w1.heap.size w1 wr) ∧ Hid (So 9 w1.heap.size wr o ((l.take k).map (·.take 60)))) (fun _ _ i _ => l.length - (intOf i).toNat)
    case atStart => exact ⟨0, by omega, rfl, Hid.mk' (Below.refl _ _), Hid.mk' so_nil⟩
    case round =>
      obtain ⟨k, hk, rfl, HB, HO⟩ := hrel
      by_cases hlt : k < l.length
      · have hlt' : (k : Int) < (l.length : Int) := by omega
        have hlim : (l.length : Int) ≤ 40 := by omega
        have hu1 : ∃ b o, a = some ⟨b, o, none⟩ ∧ wr.cell? ⟨b, o + k, none⟩ = some (.string ⟨l[k].toArray⟩) := by
          obtain ⟨b, o, hp, _, hu⟩ := HA.out k hlt
          exact ⟨b, o, hp, cell_later HB.out hu⟩
        obtain ⟨b, o, rfl, hu⟩ := hu1
        have HT := Hid.mk' (cut_take l k hlt)
        have KC := Hid.mk' (cut_any l[k] 60 (HX.out _ (List.getElem_mem hlt)) (by decide))
        generalize l[k] = x at *
        generalize x.take 60 = y at *
        go_wp2_with fail
        refine (KC.out _).mono ?_
        rintro e w2 ⟨rfl, rfl⟩
        go_wp2_with (at_builtin; refine app41b (W := w1) (v := u5) (l := (l.take k).map (·.take 60)) (m := [y]) rfl (.tmp 29) (.tmp 32) rfl rfl (HB.out.alloc HB.out.size (.cells #[.string ⟨y.toArray⟩] 9)) (So.alloc HO.out (.cells #[.string ⟨y.toArray⟩] 9)) rfl (ss_row [y] rfl rfl (by simp)) (by simp only [List.length_map, List.length_take, List.length_cons, List.length_nil]; unfold lim; omega) ?_; intro v2 w2 ho2 hb2; have HO2 := Hid.mk' ho2; have HB2 := Hid.mk' hb2; clear ho2 hb2)
        go_roundw
        case rel => exact ⟨k + 1, by omega, by go_num, HB2, by rw [HT.out]; exact HO2⟩
        case measure => simp [intOf]; omega
      · obtain rfl : k = l.length := by omega
        rw [List.take_length] at HO
        have hsl : (l.map (·.take 60)).length ≤ 40 := by simp; omega
        have HSX : Hid (∀ x ∈ l.map (·.take 60), x.length ≤ 1000) := fun x hx => by
          obtain ⟨y, _, rfl⟩ := List.mem_map.1 hx
          simp; omega
        clear HA HX hcc hlt
        generalize l.map (·.take 60) = s at *
        have HSS := Hid.mk' (HO.out.ss (by unfold lim; omega))
        obtain ⟨au, nu, cu, rfl⟩ := HO.out.slice
        obtain ⟨_, _, he, hcu, _, HAU⟩ := HSS.out.at
        cases he
        have HAU := Hid.mk' HAU
        go_wp2_with fail
        obtain ⟨wo, rfl⟩ : ∃ wo : World, wo = wr := ⟨_, rfl⟩
        go_loopw [6, 9, 10, 37] (fun o _ _ i wr => ∃ (k : Nat) (ol : List (List UInt8)), k ≤ s.length ∧ i = .int .i64 k ∧ Hid (Below wo.heap.size wo wr) ∧ Hid (So 9 wo.heap.size wr o ol) ∧ Hid (OI s k ol)) (fun _ _ _ i _ => s.length - (intOf i).toNat)
        case atStart => exact ⟨0, [], by omega, rfl, Hid.mk' (Below.refl _ _), Hid.mk' so_nil, Hid.mk' (OI.start s)⟩
        case round =>
          obtain ⟨k, ol, hk, rfl, HB2, HO2, HI⟩ := hrel
          by_cases hlt : k < s.length
          · have hlt' : (k : Int) < (s.length : Int) := by omega
            have hlim : (s.length : Int) ≤ 40 := by omega
            have hpos : (0 : Int) < (s.length : Int) := by omega
            have hpos1 : (1 : Int) ≤ (s.length : Int) := by omega
            have hnz : ((s.length : Int) == 0) = false := by rw [beq_eq_false_iff_ne]; omega
            have t1 : turn.tmod (s.length : Int) < (s.length : Int) := Int.tmod_lt_of_pos _ hpos
            have t2 : -(s.length : Int) < turn.tmod (s.length : Int) := by
              have := Int.lt_tmod_of_pos turn hpos; omega
            have hE := idx_of k s.length (turn.tmod (s.length : Int)) hlt (by omega) t1 t2
            obtain ⟨m, hm, hE⟩ := hE
            have HE := Hid.mk' hE
            clear hE
            go_wp2_with fail
            rw [HE.out]
            have hm' : (m : Int) < (s.length : Int) := by omega
            have hu3 : ∃ b o, au = some ⟨b, o, none⟩ ∧ wr.cell? ⟨b, o + m, none⟩ = some (.string ⟨s[m].toArray⟩) ∧ wr.cell? ⟨b, o + k, none⟩ = some (.string ⟨s[k].toArray⟩) := by
              obtain ⟨b, o, hp, _, hu⟩ := HAU.out m hm
              obtain ⟨b', o', hp', _, hu'⟩ := HAU.out k hlt
              cases hp.symm.trans hp'
              exact ⟨b, o, hp, cell_later HB2.out hu, cell_later HB2.out hu'⟩
            obtain ⟨b, o, rfl, hu, hu'⟩ := hu3
            have HN := Hid.mk' (HI.out.step hlt hm)
            have hoc := HI.out.len
            generalize s[m] = x at *
            generalize s[k] = y at *
            have HSO := Hid.mk' (HO2.out.ss (by unfold lim; omega))
            have HBB := Hid.mk' ((HB2.out.trans ((Dn.refl wr).drew.below _)).alloc HB2.out.size (.cells #[.string ⟨x.toArray⟩, .string ⟨y.toArray⟩] 9))
            have HSA := Hid.mk' (so_row (w := wr.drew) (xs := #[.string ⟨x.toArray⟩, .string ⟨y.toArray⟩]) (e := 9) [x, y] rfl rfl (by simp) (B := wo.heap.size) HB2.out.size)
            have HSU := Hid.mk' ((HSO.out.up ((Dn.refl wr).drew.below _)).up (up_alloc wr.drew (.cells #[.string ⟨x.toArray⟩, .string ⟨y.toArray⟩] 9)))
            go_region_law (refine step_app41 (W := wo) (u := u6) (l := [x, y]) (m := ol) rfl (.tmp 64) (.tmp 65) rfl rfl (by exact HBB.out) (by exact HSA.out) rfl (by exact HSU.out) (by simp only [List.length_cons, List.length_nil]; unfold lim; omega) ?_; intro v2 w2 ho2 hb2; have HO3 := Hid.mk' ho2; have HB3 := Hid.mk' hb2; clear ho2 hb2)
            all_goals simp only [Act.put, List.getElem_toArray, List.getElem_cons_succ, List.getElem_cons_zero, List.setIfInBounds_toArray, List.set_cons_succ, List.set_cons_zero]
            all_goals go_wp2_with fail
            all_goals exact ⟨⟨k + 1, [x, y] ++ ol, by omega, by go_num, HB3, HO3, HN⟩, by simp [intOf]; omega⟩
          · obtain rfl : k = s.length := by omega
            have HMEM := Hid.mk' HI.out.mem
            have HOC := Hid.mk' HI.out.len
            have holl : ol.length ≤ 80 := by have := HOC.out; omega
            have HOX : Hid (∀ x ∈ ol, x.length ≤ 1000) := fun x hx => HSX.out x ((HMEM.out x).1 hx)
            have hio : Hid (∀ x, x ∈ s ↔ x ∈ ol) := fun x => (HMEM.out x).symm
            obtain ⟨ao, no, co, rfl⟩ := HO2.out.slice
            have HSO := Hid.mk' (HO2.out.ss (by unfold lim; omega))
            obtain ⟨_, _, he, hco, _, _⟩ := HSO.out.at
            cases he
            have HSU := Hid.mk' (HSS.out.up HB2.out)
            go_wp2_with fail
            refine (pick_any [42] s _ _ HSU.out (by simp) HSX.out (by omega)).mono ?_
            rintro e w3 ⟨v3, out, rfl, hp3, ho3, hb3⟩
            have HP := Hid.mk' hp3
            have HO3 := Hid.mk' ho3
            have HB3 := Hid.mk' (bt HB2.out hb3)
            have HSO3 := Hid.mk' (HSO.out.up hb3)
            clear hp3 ho3 hb3
            go_wp2_with fail
            refine (pick_any [42] ol _ _ HSO3.out (by simp) HOX.out (by omega)).mono ?_
            rintro e w4 ⟨v4, out', rfl, hp4, ho4, hb4⟩
            obtain rfl : out = out' := (HP.out.congr hio.out).unique hp4
            have HO4 := Hid.mk' ho4
            have HB4 := Hid.mk' (bt HB3.out hb4)
            have HO34 := Hid.mk' (HO3.out.up hb4)
            have HSO4 := Hid.mk' (HSO3.out.up hb4)
            clear hp4 ho4 hb4
            obtain ⟨a3, n3, c3, rfl⟩ := HO34.out.slice
            obtain ⟨a4, n4, c4, rfl⟩ := HO4.out.slice
            have hol : out.length ≤ 40 := by have := pick_len HP.out; omega
            obtain ⟨_, _, he, hc3, _, HA3⟩ := (HO34.out.ss (by unfold lim; omega)).at
            cases he
            obtain ⟨_, _, he, hc4, _, HA4⟩ := (HO4.out.ss (by unfold lim; omega)).at
            cases he
            have HA3 := Hid.mk' HA3
            have HA4 := Hid.mk' HA4
            have hnn : ((out.length : Int) != (out.length : Int)) = false := by simp
            have HLX : Hid (∀ x ∈ out, x.length ≤ 1000) := fun x hx => HSX.out x ((HP.out.2 x).1 hx).1
            go_wp2_with fail
            obtain ⟨wq, rfl⟩ : ∃ wq : World, wq = w4 := ⟨_, rfl⟩
            go_loopw [13, 79] (fun _ i wr => ∃ k : Nat, k ≤ out.length ∧ i = .int .i64 k ∧ Hid (Below wq.heap.size wq wr)) (fun _ i _ => out.length - (intOf i).toNat)
            case atStart => exact ⟨0, by omega, rfl, Hid.mk' (Below.refl _ _)⟩
            case round =>
              obtain ⟨k, hk, rfl, HW⟩ := hrel
              by_cases hlt : k < out.length
              · have hlt' : (k : Int) < (out.length : Int) := by omega
                have hlim : (out.length : Int) ≤ 40 := by omega
                have hu3 : ∃ b o, a3 = some ⟨b, o, none⟩ ∧ (∀ p : Ups wr, p.nx.cell? ⟨b, o + k, none⟩ = some (.string ⟨out[k].toArray⟩)) ∧ (∀ (h : k - 1 < out.length) (p : Ups wr), p.nx.cell? ⟨b, o + (k - 1), none⟩ = some (.string ⟨out[k - 1].toArray⟩)) := by
                  obtain ⟨b, o, hp, _, hu⟩ := HA3.out k hlt
                  obtain ⟨b', o', hp', _, hu'⟩ := HA3.out (k - 1) (by omega)
                  cases hp.symm.trans hp'
                  exact ⟨b, o, hp, fun p => cell_later (bt HW.out p.ok) hu, fun _ p => cell_later (bt HW.out p.ok) hu'⟩
                have hu4 : ∃ b o, a4 = some ⟨b, o, none⟩ ∧ ∀ p : Ups wr, p.nx.cell? ⟨b, o + k, none⟩ = some (.string ⟨out[k].toArray⟩) := by
                  obtain ⟨b, o, hp, _, hu⟩ := HA4.out k hlt
                  exact ⟨b, o, hp, fun p => cell_later (bt HW.out p.ok) hu⟩
                obtain ⟨b3, o3, rfl, hu3, hu5⟩ := hu3
                obtain ⟨b4, o4, rfl, hu4⟩ := hu4
                have hxl := HLX.out _ (List.getElem_mem hlt)
                by_cases hk0 : k = 0
                · clear hu5
                  generalize out[k] = x at *
                  have hxx : (x != x) = false := by simp
                  have hg1 : decide (0 < k) = false := decide_eq_false (by omega)
                  have hg2 : decide ((0 : Int) < (k : Int)) = false := decide_eq_false (by omega)
                  have hg3 : ¬ 0 < k := by omega
                  clear hk0
                  go_wp2_with fail
                  refine wp_region_up (by kernel_rfl) (by kernel_rfl) ?_
                  repeat (go_big_quiet_step (fail))
                  refine wpQuiet_nil ?_
                  intro _ hw'
                  obtain ⟨q, hw''⟩ := hw'
                  subst hw''
                  go_wp2_with fail
                  exact ⟨⟨k + 1, by omega, by go_num, Hid.mk' (bt HW.out q.ok)⟩, by simp [intOf]; omega⟩
                · have hg1 : decide (0 < k) = true := by simp; omega
                  have hg2 : decide ((0 : Int) < (k : Int)) = true := by simp; omega
                  have hg3 : 0 < k := by omega
                  have hn1 : (1 : Int) ≤ (k : Int) := by omega
                  have hnn1 : (((k : Int) - 1)).toNat = k - 1 := by omega
                  have hlen : ((k : Int) - 1) < (out.length : Int) := by omega
                  have hu6 := hu5 (by omega)
                  have hyl := HLX.out _ (List.getElem_mem (show k - 1 < out.length by omega))
                  have hcm : comp (out[k - 1]'(by omega)) out[k] = -1 := by
                    have h1 := List.pairwise_iff_getElem.1 HP.out.1 (k - 1) k (by omega) hlt (by omega)
                    have h2 := comp_tri (out[k - 1]'(by omega)) out[k]
                    unfold Tri at h2; omega
                  clear hu5
                  generalize out[k - 1]'(by omega) = y at *
                  generalize out[k] = x at *
                  have hxx : (x != x) = false := by simp
                  have HC := Hid.mk' (comp_gr y x (by unfold maxLen; omega) (by unfold maxLen; omega))
                  rw [hcm] at HC
                  clear hcm
                  go_wp2_with fail
                  refine wp_region_up (by kernel_rfl) (by kernel_rfl) ?_
                  repeat (go_big_quiet_step (exact ups_call ((HC.out _).mono fun _ _ h => ⟨h.1, h.2.below⟩)))
                  refine wpQuiet_nil ?_
                  intro _ hw'
                  obtain ⟨q, hw''⟩ := hw'
                  subst hw''
                  go_wp2_with fail
                  exact ⟨⟨k + 1, by omega, by go_num, Hid.mk' (bt HW.out q.ok)⟩, by simp [intOf]; omega⟩
              · have HB5 := Hid.mk' (bt HB4.out HW.out)
                have HSO5 := Hid.mk' (HSO4.out.up HW.out)
                go_wp2_with fail
                refine (latest_any ol _ _ HSO5.out HOX.out (by omega)).mono ?_
                rintro e w6 ⟨m, rfl, hm, hb6⟩
                have HM := Hid.mk' hm
                have HB6 := Hid.mk' (bt HB5.out hb6)
                have HE : Hid (Below w.heap.size w w6) := bt H1.out (bt HB.out HB6.out)
                rcases Nat.eq_zero_or_pos out.length with h0 | h0
                · have hs0 := (pick_all_nil HP.out).1 h0
                  have hd : decide (0 < ol.length) = false := decide_eq_false (by have := HOC.out; omega)
                  have hd2 : decide (0 < out.length) = false := decide_eq_false (by omega)
                  have hd3 : decide ((0 : Int) < (out.length : Int)) = false := decide_eq_false (by omega)
                  rw [hd]
                  clear hb6 hm
                  go_wp2_with fail
                  go_ret
                  exact ⟨rfl, HE.out⟩
                · have hs0 : 0 < s.length := by
                    have := (pick_all_nil HP.out).2
                    omega
                  have hm0 := HM.out
                  rw [if_pos (by have := HOC.out; omega)] at hm0
                  have hla := pick_all_last (HP.out.congr hio.out) hm0 (by omega)
                  have hd : decide (0 < ol.length) = true := decide_eq_true (by have := HOC.out; omega)
                  have hd2 : decide (0 < out.length) = true := decide_eq_true (by omega)
                  have hd3 : decide ((0 : Int) < (out.length : Int)) = true := decide_eq_true (by omega)
                  have hu5 : ∃ b o, a3 = some ⟨b, o, none⟩ ∧ w6.cell? ⟨b, o + (out.length - 1), none⟩ = some (.string ⟨m.toArray⟩) := by
                    obtain ⟨b, o, hp, _, hu⟩ := HA3.out (out.length - 1) (by omega)
                    exact ⟨b, o, hp, by rw [← hla]; exact cell_later (bt HW.out hb6) hu⟩
                  obtain ⟨b5, o5, rfl, hu5⟩ := hu5
                  have h1 : ((out.length : Int) - 1).toNat = out.length - 1 := by omega
                  have h2 : (1 : Int) ≤ (out.length : Int) := by omega
                  have hlim : (out.length : Int) ≤ 40 := by omega
                  have hmm : (m == m) = true := by simp
                  rw [hd]
                  clear hm0 hla hm hb6
                  go_wp2_with fail
                  go_ret
                  exact ⟨rfl, HE.out⟩
end Go.Proofs.YtahmihlpnlfefaaDoor
