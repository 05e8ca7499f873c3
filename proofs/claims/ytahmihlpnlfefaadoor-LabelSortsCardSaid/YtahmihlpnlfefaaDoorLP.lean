/- Walks: the law LabelPicks. -/
import Derived.Test.YtahmihlpnlfefaaDoorRQ
import Derived.Test.YtahmihlpnlfefaaDoorO1
import Derived.Test.YtahmihlpnlfefaaDoorQ1
set_option linter.unusedVariables false
set_option linter.unusedSimpArgs false
namespace Go.Proofs.YtahmihlpnlfefaaDoor
open Go.RowKit
open PL
theorem pick_all_nil {l out : List (List UInt8)} (h : IsPick [42] l out) : out.length = 0 ↔ l.length = 0 := by
  rw [List.length_eq_zero_iff, List.length_eq_zero_iff]
  constructor
  · rintro rfl
    cases l with
    | nil => rfl
    | cons x l => have := (h.2 x).2 ⟨List.mem_cons_self .., mt_all x⟩; cases this
  · rintro rfl
    cases out with
    | nil => rfl
    | cons x l => have := (h.2 x).1 (List.mem_cons_self ..); cases this.1
theorem pick_all_last {l out : List (List UInt8)} {m : List UInt8} (h : IsPick [42] l out) (hb : Best l m) (hn : out.length - 1 < out.length) : out[out.length - 1] = m := by
  obtain ⟨i, hi, he⟩ := List.mem_iff_getElem.1 ((h.2 m).2 ⟨hb.1, mt_all m⟩)
  rcases Nat.lt_or_ge i (out.length - 1) with h1 | h1
  · have h2 := List.pairwise_iff_getElem.1 h.1 i (out.length - 1) hi hn h1
    rw [he] at h2
    have h3 := hb.2 _ ((h.2 _).1 (List.getElem_mem hn)).1
    have := comp_ord.anti m out[out.length - 1]
    omega
  · have : i = out.length - 1 := by omega
    subst this; exact he
theorem pick_len {p : List UInt8} {n out : List (List UInt8)} (h : IsPick p n out) : out.length ≤ n.length := by
  have : ∀ (a b : List (List UInt8)), Rise a → (∀ x ∈ a, x ∈ b) → a.length ≤ b.length := by
    intro a
    induction a with
    | nil => intro b _ _; simp
    | cons x a ih =>
      intro b ha hs
      obtain ⟨h1, h2⟩ := List.pairwise_cons.1 ha
      have hx := hs x (List.mem_cons_self ..)
      have h3 := ih (b.erase x) h2 (fun y hy => by
        have hne : y ≠ x := by rintro rfl; have := h1 y hy; rw [comp_self] at this; omega
        exact (List.mem_erase_of_ne hne).2 (hs y (List.mem_cons_of_mem _ hy)))
      rw [List.length_erase_of_mem hx] at h3
      have := List.length_pos_of_mem hx
      simp only [List.length_cons]; omega
  exact this out n h.1 fun x hx => ((h.2 x).1 hx).1
theorem cut_take (l : List (List UInt8)) (k : Nat) (h : k < l.length) : (l.take (k + 1)).map (·.take 60) = (l.take k).map (·.take 60) ++ [l[k].take 60] := by
  rw [List.take_succ_eq_append_getElem h, List.map_append]; rfl
set_option maxRecDepth 100000 in
set_option maxHeartbeats 8000000 in
/-- LabelPicks -/
theorem picks_any {A : Nat → Prop} (p0 : List UInt8) (v : Value) (l0 : List (List UInt8)) (w : World) (hp0 : p0.length ≤ maxLen) (h : Ss A w v l0) (hs0 : ∀ x ∈ l0, x.length ≤ maxLen) : Calls Tryd.prog 8 #[.string ⟨p0.toArray⟩, v] w fun e w' => e = .returned (.bool true) ∧ Below w.heap.size w w' := by
  have KP := Hid.mk' (cut_any p0 60 hp0 (by decide))
  have hp : (p0.take 60).length ≤ 60 := by simp; omega
  clear hp0
  generalize p0.take 60 = p at *
  obtain ⟨a0, c0, rfl, hc0, _, _⟩ := h.at
  have HH := Hid.mk' h
  have HS0 := Hid.mk' hs0
  clear h hs0
  go_enter Tryd.func8, Tryd.ntmps8
  go_wp2_with fail
  refine (awake_any _).mono ?_
  rintro e w1 ⟨rfl, h1⟩
  have H1 := Hid.mk' h1
  clear h1
  go_upto_if 20 with fail
  go_cut [1] (fun u wx => ∃ (a : Option Addr) (c : Nat), u = .slice a (l0.take 60).length c ∧ Hid (Ss A w1 (.slice a (l0.take 60).length c) (l0.take 60)) ∧ Hid (Eqw w1 wx))
  case first =>
    have HR := Hid.mk' (HH.out.up H1.out)
    by_cases hlt : 60 < l0.length
    · have hlt' : (60 : Int) < (l0.length : Int) := by omega
      obtain ⟨a1, c1, hr1, hR1⟩ := row_hi (P := Tryd.prog) (t := 41) Tryd.underlying41 (fun _ => by kernel_rfl) HR.out.1 60 (by omega)
      have hr2 : ∀ w, (Instr.slice 41 (.slice a0 l0.length c0) none (some (.int .i64 60)) none).run Tryd.prog w = .ok (.slice a1 60 c1) w := hr1
      have HR1 := Hid.mk' hR1
      have hl60 : (l0.take 60).length = 60 := by simp; omega
      have HL60 := Hid.mk' hl60
      clear hr1 hR1 hl60
      go_wp2_with fail
      go_meet
      exact ⟨a1, c1, by rw [HL60.out], ⟨by rw [HL60.out, sv_take]; exact HR1.out, by rw [HL60.out]; decide⟩, rfl⟩
    · have hlt' : ¬ (60 : Int) < (l0.length : Int) := by omega
      have ht : l0.take 60 = l0 := List.take_of_length_le (by omega)
      have HT := Hid.mk' ht
      clear ht
      go_wp2_with fail
      go_meet
      exact ⟨a0, c0, by rw [HT.out], by rw [HT.out]; exact HR, rfl⟩
  case rest =>
    obtain ⟨a, c, rfl, HN, hwc⟩ := hcut
    obtain rfl : w1 = wc := hwc.out
    have hl60 : (l0.take 60).length ≤ 60 := by simp; omega
    have HX : Hid (∀ x ∈ l0.take 60, x.length ≤ maxLen) := fun x hx => HS0.out x (List.mem_of_mem_take hx)
    clear HH HS0 hc0
    generalize l0.take 60 = l at *
    obtain ⟨a', c', he, hcc, _, HA⟩ := HN.out.at
    cases he
    have HA := Hid.mk' HA
    go_wp2_with fail
    refine (KP.out _).mono ?_
    rintro e w2 ⟨rfl, rfl⟩
    go_wp2_with fail
    go_loopw [5, 7, 27] (fun o x i wr => ∃ k : Nat, k ≤ l.length ∧ i = .int .i64 k ∧ Hid (Below w1.heap.size w1 wr) ∧ Hid (So 9 w1.heap.size wr o ((l.take k).map (·.take 60)))) (fun _ _ i _ => l.length - (intOf i).toNat)
    case atStart => exact ⟨0, by omega, rfl, Hid.mk' (Below.refl _ _), Hid.mk' so_nil⟩
    case round =>
      obtain ⟨k, hk, rfl, HB, HO⟩ := hrel
      by_cases hlt : k < l.length
      · have hlt' : (k : Int) < (l.length : Int) := by omega
        have hlim : (l.length : Int) ≤ 60 := by omega
        have hu1 : ∃ b o, a = some ⟨b, o, none⟩ ∧ wr.cell? ⟨b, o + k, none⟩ = some (.string ⟨l[k].toArray⟩) := by
          obtain ⟨b, o, hp, _, hu⟩ := HA.out k hlt
          exact ⟨b, o, hp, cell_later HB.out hu⟩
        obtain ⟨b, o, rfl, hu⟩ := hu1
        have HT := Hid.mk' (cut_take l k hlt)
        have KC := Hid.mk' (cut_any l[k] 60 (HX.out _ (List.getElem_mem hlt)) (by decide))
        generalize l[k] = x at *
        generalize x.take 60 = y at *
        go_wp2_with fail
        refine (KC.out _).mono ?_
        rintro e w2 ⟨rfl, rfl⟩
        go_wp2_with (at_builtin; refine app41b (W := w1) (v := u5) (l := (l.take k).map (·.take 60)) (m := [y]) rfl (.tmp 31) (.tmp 34) rfl rfl (HB.out.alloc HB.out.size (.cells #[.string ⟨y.toArray⟩] 9)) (So.alloc HO.out (.cells #[.string ⟨y.toArray⟩] 9)) rfl (ss_row [y] rfl rfl (by simp)) (by simp only [List.length_map, List.length_take, List.length_cons, List.length_nil]; unfold lim; omega) ?_; intro v2 w2 ho2 hb2; have HO2 := Hid.mk' ho2; have HB2 := Hid.mk' hb2; clear ho2 hb2)
        go_roundw
        case rel => exact ⟨k + 1, by omega, by go_num, HB2, by rw [HT.out]; exact HO2⟩
        case measure => simp [intOf]; omega
      · obtain rfl : k = l.length := by omega
        rw [List.take_length] at HO
        have hsl : (l.map (·.take 60)).length ≤ 60 := by simp; omega
        have HSX : Hid (∀ x ∈ l.map (·.take 60), x.length ≤ 1000) := fun x hx => by
          obtain ⟨y, _, rfl⟩ := List.mem_map.1 hx
          simp; omega
        clear HA HX hcc hlt
        generalize l.map (·.take 60) = s at *
        have HSS := Hid.mk' (HO.out.ss (by unfold lim; omega))
        obtain ⟨au, nu, cu, rfl⟩ := HO.out.slice
        obtain ⟨_, _, he, hcu, _, HAU⟩ := HSS.out.at
        cases he
        have HAU := Hid.mk' HAU
        go_wp2_with (at_builtin; refine app41b (W := wr)  (l := []) (m := s) rfl (.tmp 37) (.tmp 38) rfl rfl (up_alloc wr (.cells #[] 9)) (so_empty (Nat.le_refl _)) rfl (HSS.out.up (up_alloc wr (.cells #[] 9))) (by simp only [List.length_nil]; unfold lim; omega) ?_; intro v2 w2 ho2 hb2; have HG := Hid.mk' (show So 9 wr.heap.size w2 v2 s from ho2); have HB2 := Hid.mk' hb2; clear ho2 hb2)
        refine (pick_any p s v2 _ (HG.out.ss (by unfold lim; omega)) (by omega) HSX.out (by omega)).mono ?_
        rintro e w3 ⟨v3, out, rfl, hp3, ho3, hb3⟩
        have HP := Hid.mk' hp3
        have HO3 := Hid.mk' ho3
        have HB3 := Hid.mk' (bt HB2.out hb3)
        have HG3 := Hid.mk' (HG.out.up hb3)
        clear hp3 ho3 hb3
        go_wp2_with fail
        refine (rpick_any p s _ _ (HSS.out.up HB3.out) (by omega) HSX.out (by omega)).mono ?_
        rintro e w4 ⟨v4, out', rfl, hp4, ho4, hb4⟩
        obtain rfl : out = out' := HP.out.unique hp4
        have HO4 := Hid.mk' ho4
        have HB4 := Hid.mk' (bt HB3.out hb4)
        have HO34 := Hid.mk' (HO3.out.up hb4)
        have HG4 := Hid.mk' (HG3.out.up hb4)
        clear hp4 ho4 hb4
        obtain ⟨a3, n3, c3, rfl⟩ := HO34.out.slice
        obtain ⟨a4, n4, c4, rfl⟩ := HO4.out.slice
        have hol : out.length ≤ 1000 := by have := pick_len HP.out; omega
        obtain ⟨_, _, he, hc3, _, HA3⟩ := (HO34.out.ss (by unfold lim; omega)).at
        cases he
        obtain ⟨_, _, he, hc4, _, HA4⟩ := (HO4.out.ss (by unfold lim; omega)).at
        cases he
        have HA3 := Hid.mk' HA3
        have HA4 := Hid.mk' HA4
        have hnn : ((out.length : Int) != (out.length : Int)) = false := by simp
        go_wp2_with fail
        obtain ⟨wo, rfl⟩ : ∃ wo : World, wo = w4 := ⟨_, rfl⟩
        go_loopw [11, 53] (fun _ i wr => ∃ k : Nat, k ≤ out.length ∧ i = .int .i64 k ∧ Hid (Dn wo wr)) (fun _ i _ => out.length - (intOf i).toNat)
        case atStart => exact ⟨0, by omega, rfl, Hid.mk' (Dn.refl _)⟩
        case round =>
          obtain ⟨k, hk, rfl, HW⟩ := hrel
          by_cases hlt : k < out.length
          · have hlt' : (k : Int) < (out.length : Int) := by omega
            have hlim : (out.length : Int) ≤ 1000 := by omega
            have hu3 : ∃ b o, a3 = some ⟨b, o, none⟩ ∧ wr.cell? ⟨b, o + k, none⟩ = some (.string ⟨out[k].toArray⟩) := by
              obtain ⟨b, o, hp, _, hu⟩ := HA3.out k hlt
              exact ⟨b, o, hp, cell_later (HW.out.below _) hu⟩
            have hu4 : ∃ b o, a4 = some ⟨b, o, none⟩ ∧ wr.cell? ⟨b, o + k, none⟩ = some (.string ⟨out[k].toArray⟩) := by
              obtain ⟨b, o, hp, _, hu⟩ := HA4.out k hlt
              exact ⟨b, o, hp, cell_later (HW.out.below _) hu⟩
            obtain ⟨b3, o3, rfl, hu3⟩ := hu3
            obtain ⟨b4, o4, rfl, hu4⟩ := hu4
            generalize out[k] = x at *
            have hxx : (x != x) = false := by simp
            go_wp2_with fail
            go_quiet (fail)
            go_wp2_with fail
            go_roundw
            case rel => exact ⟨k + 1, by omega, by go_num, Hid.mk' (HW.out.trans ⟨_, rfl⟩)⟩
            case measure => simp [intOf]; omega
          · have HG5 := Hid.mk' (HG4.out.up (HW.out.below _))
            have HB5 := Hid.mk' (HB4.out.trans (HW.out.below _))
            clear HA3 HA4 HO3 HO4 HO34 HG HG3 HG4
            go_wp2_with fail
            refine (latest_any s v2 _ (HG5.out.ss (by unfold lim; omega)) HSX.out (by omega)).mono ?_
            rintro e w6 ⟨m, rfl, hm, hb6⟩
            have HM := Hid.mk' hm
            have HB6 := Hid.mk' (bt HB5.out hb6)
            have HG6 := Hid.mk' (HG5.out.up hb6)
            clear hm hb6
            go_wp2_with fail
            refine (rpick_any [42] s _ _ (HSS.out.up HB6.out) (by simp) HSX.out (by omega)).mono ?_
            rintro e w7 ⟨v7, all, rfl, hp7, ho7, hb7⟩
            have HPA := Hid.mk' hp7
            have HO7 := Hid.mk' ho7
            have HB7 := Hid.mk' (bt HB6.out hb7)
            have HG7 := Hid.mk' (HG6.out.up hb7)
            have HSS7 := Hid.mk' (HSS.out.up HB7.out)
            clear hp7 ho7 hb7
            have hal : all.length ≤ 60 := by have := pick_len HPA.out; omega
            obtain ⟨ag, ng, cg, rfl⟩ := HG7.out.slice
            obtain ⟨_, _, he, hcg, _, HAG⟩ := (HG7.out.ss (by unfold lim; omega)).at
            cases he
            obtain ⟨aa, na, ca, rfl⟩ := HO7.out.slice
            obtain ⟨_, _, he, hca, _, HAA⟩ := (HO7.out.ss (by unfold lim; omega)).at
            cases he
            obtain ⟨_, _, he, _, _, HAS⟩ := HSS7.out.at
            cases he
            have HAG := Hid.mk' HAG
            have HAA := Hid.mk' HAA
            have HAS := Hid.mk' HAS
            go_wp2_with fail
            obtain ⟨wq, rfl⟩ : ∃ wo : World, wo = w7 := ⟨_, rfl⟩
            go_loopw [15, 75] (fun _ i wr => ∃ k : Nat, k ≤ s.length ∧ i = .int .i64 k ∧ Hid (Dn wq wr)) (fun _ i _ => s.length - (intOf i).toNat)
            case atStart => exact ⟨0, by omega, rfl, Hid.mk' (Dn.refl _)⟩
            case round =>
              obtain ⟨k, hk, rfl, HW2⟩ := hrel
              by_cases hlt : k < s.length
              · have hlt' : (k : Int) < (s.length : Int) := by omega
                have hlim : (s.length : Int) ≤ 1000 := by omega
                have hu3 : ∃ b o, ag = some ⟨b, o, none⟩ ∧ wr.cell? ⟨b, o + k, none⟩ = some (.string ⟨s[k].toArray⟩) := by
                  obtain ⟨b, o, hp, _, hu⟩ := HAG.out k hlt
                  exact ⟨b, o, hp, cell_later (HW2.out.below _) hu⟩
                have hu4 : ∃ b o, au = some ⟨b, o, none⟩ ∧ wr.cell? ⟨b, o + k, none⟩ = some (.string ⟨s[k].toArray⟩) := by
                  obtain ⟨b, o, hp, _, hu⟩ := HAS.out k hlt
                  exact ⟨b, o, hp, cell_later (HW2.out.below _) hu⟩
                obtain ⟨b3, o3, rfl, hu3⟩ := hu3
                obtain ⟨b4, o4, rfl, hu4⟩ := hu4
                generalize s[k] = x at *
                have hxx : (x != x) = false := by simp
                go_wp2_with fail
                go_quiet (fail)
                go_wp2_with fail
                go_roundw
                case rel => exact ⟨k + 1, by omega, by go_num, Hid.mk' (HW2.out.trans ⟨_, rfl⟩)⟩
                case measure => simp [intOf]; omega
              · have HB8 := Hid.mk' (HB7.out.trans (HW2.out.below _))
                have HE : Hid (Below w.heap.size w wr) := bt H1.out (bt HB.out HB8.out)
                rcases Nat.eq_zero_or_pos all.length with h0 | h0
                · have hs0 := (pick_all_nil HPA.out).1 h0
                  have hm0 := HM.out
                  rw [if_neg (by omega)] at hm0
                  subst hm0
                  have hd : decide (0 < s.length) = false := decide_eq_false (by omega)
                  have hd2 : ¬ 0 < s.length := by omega
                  have ha0 : ((all.length : Int) == 0) = true := by rw [beq_iff_eq]; omega
                  clear h0 hs0
                  go_wp2_with fail
                  go_ret
                  exact ⟨rfl, HE.out⟩
                · have hs0 : 0 < s.length := by
                    have := (pick_all_nil HPA.out).2
                    omega
                  have hm0 := HM.out
                  rw [if_pos hs0] at hm0
                  have hla := pick_all_last HPA.out hm0 (by omega)
                  have hd : decide (0 < s.length) = true := by simpa using hs0
                  have ha0 : ((all.length : Int) == 0) = false := by rw [beq_eq_false_iff_ne]; omega
                  have hu5 : ∃ b o, aa = some ⟨b, o, none⟩ ∧ wr.cell? ⟨b, o + (all.length - 1), none⟩ = some (.string ⟨m.toArray⟩) := by
                    obtain ⟨b, o, hp, _, hu⟩ := HAA.out (all.length - 1) (by omega)
                    exact ⟨b, o, hp, by rw [← hla]; exact cell_later (HW2.out.below _) hu⟩
                  obtain ⟨b5, o5, rfl, hu5⟩ := hu5
                  have h1 : ((all.length : Int) - 1).toNat = all.length - 1 := by omega
                  have h2 : (1 : Int) ≤ (all.length : Int) := by omega
                  have hlim : (all.length : Int) ≤ 60 := by omega
                  have hmm : (m == m) = true := by simp
                  clear hm0 hla
                  go_wp2_with fail
                  go_ret
                  exact ⟨rfl, HE.out⟩
end Go.Proofs.YtahmihlpnlfefaaDoor
