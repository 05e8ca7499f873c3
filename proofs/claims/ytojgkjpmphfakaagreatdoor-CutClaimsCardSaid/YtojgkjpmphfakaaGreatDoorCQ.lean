/- Rows of origins; the reference's Path. -/
import Derived.Test.YtojgkjpmphfakaaGreatDoorCI
set_option linter.unusedVariables false
set_option linter.unusedSimpArgs false
namespace Go.Proofs.YtojgkjpmphfakaaGreatDoor
open Go.RowKit
attribute [local go_sem ↓] Go.wp_at_zero Go.wp_at_succ
/-- the cells of origins -/
def ocs (l : List Og) : List Value := l.flatMap fun o => [.int .u64 (o.1 : Int), .int .u64 (o.2.1 : Int), .string ⟨o.2.2.toArray⟩]
theorem ocs_len (l : List Og) : (ocs l).length = l.length * 3 := by
  induction l with
  | nil => rfl
  | cons p ps ih => unfold ocs at *; rw [List.flatMap_cons, List.length_append, ih, List.length_cons]; simp; omega
theorem ocs_append (l m : List Og) : ocs (l ++ m) = ocs l ++ ocs m := by unfold ocs; rw [List.flatMap_append]
theorem ocs_one (o : Og) : ocs [o] = [.int .u64 (o.1 : Int), .int .u64 (o.2.1 : Int), .string ⟨o.2.2.toArray⟩] := rfl
theorem ocs_get (l : List Og) (k : Nat) (h : k < l.length) : (ocs l)[k * 3]? = some (.int .u64 (l[k].1 : Int)) ∧ (ocs l)[k * 3 + 1]? = some (.int .u64 (l[k].2.1 : Int)) ∧ (ocs l)[k * 3 + 2]? = some (.string ⟨l[k].2.2.toArray⟩) := by
  have e : ocs l = ocs (l.take k) ++ ([.int .u64 (l[k].1 : Int), .int .u64 (l[k].2.1 : Int), .string ⟨l[k].2.2.toArray⟩] ++ ocs (l.drop (k + 1))) := by
    have e0 : l.take k ++ l[k] :: l.drop (k + 1) = l := by rw [← List.drop_eq_getElem_cons h, List.take_append_drop]
    have e1 := congrArg ocs e0
    rw [ocs_append] at e1
    rw [← e1]; rfl
  have hl : (ocs (l.take k)).length = k * 3 := by rw [ocs_len, List.length_take]; congr 1; omega
  refine ⟨?_, ?_, ?_⟩
  all_goals
    rw [e, List.getElem?_append_right (by omega), hl]
    simp [Nat.add_sub_cancel_left]
/-- v reads as the origins l -/
def OgR (A : Nat → Prop) (w : World) (v : Value) (l : List Og) : Prop := Row 3 A w v l.length (ocs l) ∧ (∀ o ∈ l, o.1 < 18446744073709551616 ∧ o.2.1 < 18446744073709551616 ∧ o.2.2.length ≤ maxLen) ∧ l.length * 32 ≤ lim
theorem OgR.up {A : Nat → Prop} {w w' : World} {v : Value} {l : List Og} (h : OgR A w v l) (hb : Below w.heap.size w w') : OgR A w' v l := ⟨h.1.up hb, h.2⟩
theorem row3_at {A : Nat → Prop} {w : World} {v : Value} {l : List Og} (h : Row 3 A w v l.length (ocs l)) : ∃ (a : Option Addr) (c : Nat), v = .slice a l.length c ∧ l.length ≤ c ∧ ∀ k (hk : k < l.length), ∃ b o, a = some ⟨b, o, none⟩ ∧ A b ∧
    (w.cell? ⟨b, o + k * 3, none⟩ = some (.int .u64 (l[k].1 : Int)) ∧ w.cell? ⟨b, o + k * 3 + 1, none⟩ = some (.int .u64 (l[k].2.1 : Int)) ∧ w.cell? ⟨b, o + k * 3 + 2, none⟩ = some (.string ⟨l[k].2.2.toArray⟩)) := by
  obtain ⟨hl, a, c, hv, hc, ha, H⟩ := h
  refine ⟨a, c, hv, hc, fun k hk => ?_⟩
  obtain ⟨g0, g1, g2⟩ := ocs_get l k hk
  obtain ⟨b, o, e0, hA, c0⟩ := H _ _ g0
  obtain ⟨_, _, e1, _, c1⟩ := H _ _ g1
  obtain ⟨_, _, e2, _, c2⟩ := H _ _ g2
  rw [e0] at e1 e2
  cases e1
  cases e2
  exact ⟨b, o, e0, hA, c0, by rw [Nat.add_assoc]; exact c1, by rw [Nat.add_assoc]; exact c2⟩
theorem orig_at {os : List Og} {n : Nat} (h : 1 ≤ n ∧ n ≤ os.length) : ∃ o, orig os n = some o := by
  unfold orig
  rw [if_neg (by omega)]
  exact ⟨os[n - 1]'(by omega), by simp⟩
theorem Tryz.info52 : (Tryz.prog.info? 52).map (fun i => (i.zero, i.size, i.bytes)) = some (some (.agg #[.int .u64 0, .int .u64 0, .string ⟨#[]⟩]), 3, 32) := by kernel_rfl
set_option maxRecDepth 100000 in
set_option maxHeartbeats 4000000 in
/-- the reference's Path -/
theorem rpath_any {A : Nat → Prop} {w : World} {v : Value} {os : List Og} (n : Nat) (h : OgR A w v os) (hf : os.length ≤ 1000) (hi : n < 18446744073709551616) : Calls Tryz.prog 22 #[v, .int .u64 (n : Int)] w fun e w' => ∃ u, e = .returned u ∧ Un w.heap.size w' u (pth os n) ∧ Below w.heap.size w w' := by
  obtain ⟨va, vc, rfl, hvc, H⟩ := row3_at h.1
  have HR := Hid.mk' H
  have HBD := Hid.mk' h.2.1
  have HFW : Hid ((pth os n).length ≤ 1000) := Nat.le_trans (pth_few os n) hf
  have hfi : (os.length : Int) ≤ 1000 := by omega
  have HO0 : Hid (Un w.heap.size w (.slice none 0 0) []) := un_nil
  have HB0 : Hid (Below w.heap.size w w) := Below.refl _ _
  have HE0 : Hid (pth os n = [] ++ (if okB [] n then pth os n else [])) := by show _ = _; simp [okB]
  have HJ0 : Hid (n < 18446744073709551616) := hi
  clear h H hf hi
  go_enter Tryz.func22, Tryz.ntmps22
  go_wp2_with fail
  go_loopw [5, 1] (fun y i wr => ∃ (O : List Nat) (j : Nat) (oa : Option Addr) (oc m : Nat), i = .int .u64 (j : Int) ∧ y = .slice oa m oc ∧ Hid (m = O.length) ∧ Hid (j < 18446744073709551616) ∧ Hid (pth os n = O ++ (if okB O j then pth os j else [])) ∧ Hid (Un w.heap.size wr (.slice oa m oc) O) ∧ Hid (Below w.heap.size w wr)) (fun y _ _ => (pth os n).length + 1 - lenOf y)
  case atStart => exact ⟨[], n, none, 0, 0, rfl, rfl, rfl, HJ0, HE0, HO0, HB0⟩
  case round =>
    clear HO0 HB0 HE0 HJ0
    obtain ⟨O, j, oa, oc, m, rfl, rfl, HM, HJ, HE, HO, HBK⟩ := hrel
    rename World => wk
    cases ho : orig os j with
    | none =>
      have HF : Hid (pth os n = O) := by show _ = _; rw [HE.out, pth_none ho]; simp
      have hj : ¬ (1 ≤ j ∧ j ≤ os.length) := fun h => by obtain ⟨o, h2⟩ := orig_at h; rw [ho] at h2; cases h2
      clear ho
      by_cases h1 : 1 ≤ j
      · have h2 : ¬ ((j : Int) ≤ (os.length : Int)) := by omega
        have h1' : (1 : Int) ≤ (j : Int) := by omega
        clear hj h1
        go_wp2_with fail
        go_ret
        exact ⟨_, rfl, by rw [HF.out]; exact HO.out, HBK.out⟩
      · have h1' : ¬ ((1 : Int) ≤ (j : Int)) := by omega
        clear hj h1
        go_wp2_with fail
        go_ret
        exact ⟨_, rfl, by rw [HF.out]; exact HO.out, HBK.out⟩
    | some o =>
      obtain ⟨pa, od, nm⟩ := o
      have hol := orig_le ho
      obtain ⟨i, rfl⟩ : ∃ i, j = i + 1 := ⟨j - 1, by omega⟩
      have hio : i < os.length := by omega
      obtain ⟨b0, o0, rfl, _, p0, -, -⟩ := HR.out i hio
      have hoi : os[i] = (pa, od, nm) := by
        have := ho
        unfold orig at this
        rw [if_neg (by omega), Nat.add_sub_cancel, List.getElem?_eq_getElem hio] at this
        exact Option.some.inj this
      rw [hoi] at p0
      have p0 : w.cell? ⟨b0, o0 + i * 3, none⟩ = some (.int .u64 (pa : Int)) := p0
      have HPT : Hid (pth os (i + 1) = (i + 1) :: (if pa < i + 1 then pth os pa else [])) := pth_some ho
      have HPA : Hid (pa < 18446744073709551616) := (HBD.out _ hol.2.2).1
      have hb1 : (1 : Int) ≤ (i : Int) + 1 := by omega
      have hb2 : (i : Int) + 1 ≤ (os.length : Int) := by omega
      have hb3 : (i : Int) < (os.length : Int) := by omega
      have q0 := cell_later HBK.out p0
      rw [show ((i + 1 : Nat) : Int) = (i : Int) + 1 by omega]
      clear ho hol hoi hio
      by_cases hok : okB O (i + 1) = true
      case neg =>
        have HNE : Hid (pth os n = O) := by show _ = _; rw [HE.out, if_neg hok]; simp
        cases m with
        | zero =>
          have := HM.out
          rw [List.eq_nil_of_length_eq_zero this.symm] at hok
          exact absurd rfl hok
        | succ m =>
          obtain ⟨b1, o1, x, rfl, c1, hx⟩ := un_last HO.out HM.out
          have hjx : ¬ ((i : Int) + 1 < (x : Int)) := by
            intro h
            rw [hx, okB_snoc] at hok
            exact hok (decide_eq_true (by omega))
          have hml : (((m : Int) + 1) == 0) = false := by rw [beq_eq_false_iff_ne]; omega
          have hmb : (m : Int) ≤ 1000 := by
            have h1 := congrArg List.length HE.out
            have h2 := HFW.out
            have h3 := HM.out
            rw [List.length_append] at h1
            omega
          clear hx hok
          go_wp2_with fail
          go_ret
          exact ⟨_, rfl, by rw [HNE.out]; exact HO.out, HBK.out⟩
      have HNE : Hid (pth os n = (O ++ [i + 1]) ++ (if okB (O ++ [i + 1]) pa then pth os pa else [])) := by
        show _ = _
        rw [HE.out, if_pos hok, HPT.out, okB_snoc, List.append_assoc]
        congr 1
        by_cases h : pa < i + 1
        · rw [if_pos h, if_pos (by simpa using h)]; rfl
        · rw [if_neg h, if_neg (by simpa using h)]; rfl
      have hmb : (m : Int) + 1 ≤ 1000 := by
        have h1 := congrArg List.length HNE.out
        have h2 := HFW.out
        have h3 := HM.out
        rw [List.length_append, List.length_append] at h1
        simp at h1
        omega
      have HML : Hid ((pth os n).length + 1 - (m + 1) < (pth os n).length + 1 - m) := by
        have h1 := congrArg List.length HNE.out
        have h3 := HM.out
        rw [List.length_append, List.length_append] at h1
        simp at h1
        show _ < _; omega
      have HMS : Hid (m + 1 = (O ++ [i + 1]).length) := by show _ = _; rw [HM.out]; simp
      have HOM : Hid (wk.ownsRow w.heap.size 23 1 (.slice oa m oc) m (uv O)) := by have := HO.out; unfold Un at this; rwa [← HM.out] at this
      have hup := up_alloc wk (.cells #[.int .u64 ((i + 1 : Nat) : Int)] 23)
      have HOA := Hid.mk' (own_keep HOM.out hup (Nat.le_refl _))
      have HBA := Hid.mk' (bt HBK.out hup)
      rw [show ((i + 1 : Nat) : Int) = (i : Int) + 1 by omega] at HOA HBA
      have HMB : Hid (m ≤ 1000) := by show _ ≤ _; omega
      clear hup
      cases m with
      | zero =>
        clear hok hmb
        go_wp2_with (at_builtin; go_must (refine wpl_app rfl (.tmp 30) (.tmp 32) 30 rfl Tryz.underlying30 Tryz.info23 rfl (by decide) rfl HOA.out rfl row_one (by intro u hu; simp only [List.mem_cons, List.not_mem_nil, or_false] at hu; subst hu; rfl) (by have := HMB.out; unfold maxLen; omega) (by have := HMB.out; omega) HBA.out.size ?_); intro v6 w6 ho hg hn2 hbb; have HB6 : Hid (Below w.heap.size w w6) := below_app HBA.out HOA.out hg (Nat.le_refl _) HBA.out.size; obtain ⟨a6, c6, e6⟩ := own_slice ho; have HO6 : Hid (Un w.heap.size w6 v6 (O ++ [i + 1])) := (by unfold Hid Un; rw [← HMS.out, uv_append]; exact ho); subst e6; have f6 := cell_later HB6.out p0; clear ho hg hn2 hbb)
        go_roundw
        case rel => exact ⟨O ++ [i + 1], pa, a6, c6, 0 + 1, rfl, rfl, HMS, HPA, HNE, HO6, HB6⟩
        case measure => simp [lenOf]
      | succ m =>
        obtain ⟨b1, o1, x, rfl, c1, hx⟩ := un_last HO.out HM.out
        have hjx : (i : Int) + 1 < (x : Int) := by
          rw [hx, okB_snoc] at hok
          have := of_decide_eq_true hok
          omega
        have hml : (((m : Int) + 1) == 0) = false := by rw [beq_eq_false_iff_ne]; omega
        have hmb : (m : Int) + 1 + 1 ≤ 1000 := by simpa using hmb
        clear hx hok
        go_wp2_with (at_builtin; go_must (refine wpl_app rfl (.tmp 30) (.tmp 32) 30 rfl Tryz.underlying30 Tryz.info23 rfl (by decide) rfl HOA.out rfl row_one (by intro u hu; simp only [List.mem_cons, List.not_mem_nil, or_false] at hu; subst hu; rfl) (by have := HMB.out; unfold maxLen; omega) (by have := HMB.out; omega) HBA.out.size ?_); intro v6 w6 ho hg hn2 hbb; have HB6 : Hid (Below w.heap.size w w6) := below_app HBA.out HOA.out hg (Nat.le_refl _) HBA.out.size; obtain ⟨a6, c6, e6⟩ := own_slice ho; have HO6 : Hid (Un w.heap.size w6 v6 (O ++ [i + 1])) := (by unfold Hid Un; rw [← HMS.out, uv_append]; exact ho); subst e6; have f6 := cell_later HB6.out p0; clear ho hg hn2 hbb)
        go_roundw
        case rel => exact ⟨O ++ [i + 1], pa, a6, c6, m + 1 + 1, rfl, rfl, HMS, HPA, HNE, HO6, HB6⟩
        case measure => simp [lenOf]; have := HML.out; omega
end Go.Proofs.YtojgkjpmphfakaaGreatDoor
