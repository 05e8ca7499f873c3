/- cut.Path. -/
import Derived.Test.YtojgkjpmphfakaaGreatDoorCH
set_option linter.unusedVariables false
set_option linter.unusedSimpArgs false
namespace Go.Proofs.YtojgkjpmphfakaaGreatDoor
open Go.RowKit
attribute [local go_sem ↓] Go.wp_at_zero Go.wp_at_succ
/-- an origin: the parent, the number, the name -/
abbrev Og := Nat × Nat × List UInt8
def orig (os : List Og) (n : Nat) : Option Og := if n = 0 then none else os[n - 1]?
/-- it, its parent, and so on -/
def pth (os : List Og) (n : Nat) : List Nat := match orig os n with
  | none => []
  | some o => n :: (if h : o.1 < n then pth os o.1 else [])
termination_by n
theorem pth_none {os : List Og} {n : Nat} (h : orig os n = none) : pth os n = [] := by rw [pth]; rw [h]
theorem pth_some {os : List Og} {n : Nat} {o : Og} (h : orig os n = some o) : pth os n = n :: (if o.1 < n then pth os o.1 else []) := by
  rw [pth]; rw [h]
  simp only
  by_cases h1 : o.1 < n
  · rw [dif_pos h1, if_pos h1]
  · rw [dif_neg h1, if_neg h1]
theorem orig_le {os : List Og} {n : Nat} {o : Og} (h : orig os n = some o) : 1 ≤ n ∧ n ≤ os.length ∧ o ∈ os := by
  unfold orig at h
  split at h
  · cases h
  · have := (List.getElem?_eq_some_iff.1 h)
    obtain ⟨h1, h2⟩ := this
    exact ⟨by omega, by omega, h2 ▸ List.getElem_mem h1⟩
theorem pth_len (os : List Og) (n : Nat) : (pth os n).length ≤ n := by
  induction n using Nat.strongRecOn with
  | _ n ih =>
    cases h : orig os n with
    | none => rw [pth_none h]; simp
    | some o =>
      have h1 := orig_le h
      rw [pth_some h]
      split
      · rename_i h2
        have := ih o.1 h2
        simp only [List.length_cons]; omega
      · simp only [List.length_cons, List.length_nil]; omega
theorem pth_few (os : List Og) (n : Nat) : (pth os n).length ≤ os.length := by
  cases h : orig os n with
  | none => rw [pth_none h]; simp
  | some o => have h1 := orig_le h; have := pth_len os n; omega
/-- what lies of incarnations -/
structure Inc (l : List Th) (p : List UInt8) (os : List Og) : Prop where
  get : ∀ n, n < 18446744073709551616 → tget l (ikey p n) = (orig os n).map fun o => enc [o.1, o.2.1] o.2.2
  bnd : ∀ o ∈ os, o.1 < 18446744073709551616 ∧ o.2.1 < 18446744073709551616 ∧ o.2.2.length ≤ 1000
  few : os.length ≤ 1000
def okB (O : List Nat) (j : Nat) : Bool := O.getLast?.all fun x => decide (j < x)
theorem okB_snoc (O : List Nat) (x j : Nat) : okB (O ++ [x]) j = decide (j < x) := by unfold okB; simp
theorem un_last {B m : Nat} {w : World} {oa : Option Addr} {oc : Nat} {O : List Nat} (h : Un B w (.slice oa (m + 1) oc) O) (hm : m + 1 = O.length) : ∃ b o x, oa = some ⟨b, o, none⟩ ∧ w.cell? ⟨b, o + m, none⟩ = some (.int .u64 ((x : Nat) : Int)) ∧ O = O.take m ++ [x] := by
  obtain ⟨a, c, e, _, _, H⟩ := (Row.of_own h).at1
  obtain ⟨rfl, _, rfl⟩ := Value.slice.inj e
  have hlt : m < O.length := by omega
  obtain ⟨b, o, e, _, c1⟩ := H m hlt
  refine ⟨b, o, O[m], e, ?_, ?_⟩
  · rw [c1]; simp [uv, hlt]
  · rw [← List.take_succ_eq_append_getElem hlt, hm, List.take_length]
def lenOf (v : Value) : Nat := match v with | .slice _ n _ => n | _ => 0
set_option maxRecDepth 100000 in
set_option maxHeartbeats 4000000 in
/-- Path -/
theorem path_of {V : Nat → Prop} {B b : Nat} {w : World} {l : List Th} {os : List Og} (p : List UInt8) (n : Nat) (hI : VaultIs B V w b (tget l) l.length) (hl : p.length ≤ 100) (hi : n < 18446744073709551616) (hO : Inc l p os) :
    Calls Tryz.prog 21 #[.agg #[.pointer (some ⟨b, 0, none⟩), .string ⟨p.toArray⟩], .int .u64 (n : Int)] w fun e w' => ∃ v, e = .returned v ∧ Un w.heap.size w' v (pth os n) ∧ Below w.heap.size w w' := by
  obtain ⟨W, hW⟩ : ∃ W, W = w.alloc (.cells #[.pointer (some ⟨b, 0, none⟩), .string ⟨p.toArray⟩] 29) := ⟨_, rfl⟩
  have HB : Hid (Below w.heap.size w W) := by rw [hW]; exact up_alloc _ _
  have hc : W.cell? ⟨w.heap.size, 0, none⟩ = some (.pointer (some ⟨b, 0, none⟩)) ∧ W.cell? ⟨w.heap.size, 1, none⟩ = some (.string ⟨p.toArray⟩) := by rw [hW]; exact two_cells
  obtain ⟨hc0, hc1⟩ := hc
  have HI := Hid.mk' (hI.up HB.out)
  have HPL : Hid (p.length ≤ 100) := hl
  have HIN := Hid.mk' hO
  have HFW : Hid ((pth os n).length ≤ 1000) := Nat.le_trans (pth_few os n) hO.few
  have HO0 : Hid (Un W.heap.size W (.slice none 0 0) []) := un_nil
  have HB0 : Hid (Below W.heap.size W W) := Below.refl _ _
  have HE0 : Hid (pth os n = [] ++ (if okB [] n then pth os n else [])) := by show _ = _; simp [okB]
  have HJ0 : Hid (n < 18446744073709551616) := hi
  clear hI hl hi hO
  go_enter Tryz.func21, Tryz.ntmps21
  go_upto_region 1 with fail
  rw [← hW]
  clear hW
  go_wp2_with fail
  go_loopw [5, 1] (fun y i wr => ∃ (O : List Nat) (j : Nat) (oa : Option Addr) (oc m : Nat), i = .int .u64 (j : Int) ∧ y = .slice oa m oc ∧ Hid (m = O.length) ∧ Hid (j < 18446744073709551616) ∧ Hid (pth os n = O ++ (if okB O j then pth os j else [])) ∧ Hid (Un W.heap.size wr (.slice oa m oc) O) ∧ Hid (Below W.heap.size W wr)) (fun y _ _ => (pth os n).length + 1 - lenOf y)
  case atStart => exact ⟨[], n, none, 0, 0, rfl, rfl, rfl, HJ0, HE0, HO0, HB0⟩
  case round =>
    clear HO0 HB0 HE0 HJ0
    obtain ⟨O, j, oa, oc, m, rfl, rfl, HM, HJ, HE, HO, HBK⟩ := hrel
    rename World => wk
    have hc0 := cell_later HBK.out hc0
    have hc1 := cell_later HBK.out hc1
    have HIK := Hid.mk' (HI.out.up HBK.out)
    have HWK := Hid.mk' (bt HB.out HBK.out)
    have HG := Hid.mk' (HIN.out.get j HJ.out)
    cases ho : orig os j with
    | none =>
      rw [ho] at HG
      have HN := Hid.mk' (where_none p j HIK.out HPL.out HJ.out HG.out)
      have HF : Hid (pth os n = O) := by show _ = _; rw [HE.out, pth_none ho]; simp
      clear ho
      go_wp2_with fail
      refine HN.out.mono ?_
      rintro e w5 ⟨rfl, hb5⟩
      have HO5 := Hid.mk' (Un.up HO.out hb5)
      have HB5 := Hid.mk' (bt HWK.out hb5)
      clear hb5 HN
      go_wp2_with fail
      go_ret
      exact ⟨_, rfl, by rw [HF.out]; exact (HO5.out.up (up_alloc _ _)).mono HB.out.size, bt HB5.out (up_alloc _ _)⟩
    | some o =>
      obtain ⟨pa, od, nm⟩ := o
      rw [ho] at HG
      have hoo := (orig_le ho).2.2
      have hob := HIN.out.bnd _ hoo
      have HN := Hid.mk' (where_some (par := pa) (id := od) (nm := nm) p j HIK.out HPL.out HJ.out HG.out hob.1 hob.2.1 hob.2.2)
      have HPT : Hid (pth os j = j :: (if pa < j then pth os pa else [])) := pth_some ho
      have HPA : Hid (pa < 18446744073709551616) := hob.1
      clear ho hoo hob HG
      go_wp2_with fail
      refine HN.out.mono ?_
      rintro e w5 ⟨rfl, hb5⟩
      have hup := up_alloc w5 (.cells #[.int .u64 (pa : Int), .int .u64 (od : Int), .string ⟨nm.toArray⟩] 55)
      have HK5 := Hid.mk' (bt hb5 hup)
      have HO5 := Hid.mk' (Un.up HO.out HK5.out)
      have HB5 := Hid.mk' (bt HBK.out HK5.out)
      obtain ⟨f0, f1, f2⟩ := box3 (w := w5) (x := .int .u64 (pa : Int)) (y := .int .u64 (od : Int)) (z := .string ⟨nm.toArray⟩) (e := 55)
      have HNE5 : Hid (∀ k, (Value.slice oa m oc).ownBlock = some k → k ≠ w5.heap.size) := fun k hk => Nat.ne_of_lt (World.ownsRow.lt (Un.up HO.out hb5) k hk).2
      clear hb5 hup HN HO hc0 hc1
      obtain ⟨W5, hW5⟩ : ∃ W5, W5 = w5.alloc (.cells #[.int .u64 (pa : Int), .int .u64 (od : Int), .string ⟨nm.toArray⟩] 55) := ⟨_, rfl⟩
      rw [← hW5] at HK5 HO5 HB5 f0 f1 f2
      go_upto_region 3 with fail
      rw [← hW5]
      clear hW5 f1 f2
      generalize w5.heap.size = g5 at *
      by_cases hok : okB O j = true
      case neg =>
        have HNE : Hid (pth os n = O) := by show _ = _; rw [HE.out, if_neg hok]; simp
        cases m with
        | zero =>
          have := HM.out
          rw [List.eq_nil_of_length_eq_zero this.symm] at hok
          exact absurd rfl hok
        | succ m =>
          obtain ⟨b1, o1, x, rfl, c1, hx⟩ := un_last HO5.out HM.out
          have hjx : ¬ ((j : Int) < (x : Int)) := by
            intro h
            rw [hx, okB_snoc] at hok
            exact hok (decide_eq_true (by omega))
          have hjx2 : (x : Int) ≤ (j : Int) := by omega
          have HX := Hid.mk' hx
          have hml : (0 : Int) < (m : Int) + 1 := by omega
          have hmb : (m : Int) ≤ 1000 := by
            have h1 := congrArg List.length HE.out
            have h2 := HFW.out
            have h3 := HM.out
            rw [List.length_append] at h1
            omega
          clear hx hok
          go_wp2_with fail
          go_ret
          exact ⟨_, rfl, by rw [HNE.out]; exact HO5.out.mono HB.out.size, bt HB.out HB5.out⟩
      have HNE : Hid (pth os n = (O ++ [j]) ++ (if okB (O ++ [j]) pa then pth os pa else [])) := by
        show _ = _
        rw [HE.out, if_pos hok, HPT.out, okB_snoc, List.append_assoc]
        congr 1
        by_cases h : pa < j
        · rw [if_pos h, if_pos (by simpa using h)]; rfl
        · rw [if_neg h, if_neg (by simpa using h)]; rfl
      have hmb : (m : Int) + 1 ≤ 1000 := by
        have h1 := congrArg List.length HNE.out
        have h2 := HFW.out
        have h3 := HM.out
        rw [List.length_append, List.length_append] at h1
        simp at h1
        omega
      have HML : Hid ((pth os n).length + 1 - (m + 1) < (pth os n).length + 1 - m) := by
        have h1 := congrArg List.length HNE.out
        have h3 := HM.out
        rw [List.length_append, List.length_append] at h1
        simp at h1
        show _ < _; omega
      have HMS : Hid (m + 1 = (O ++ [j]).length) := by show _ = _; rw [HM.out]; simp
      have HOM : Hid (W5.ownsRow W.heap.size 23 1 (.slice oa m oc) m (uv O)) := by have := HO5.out; unfold Un at this; rwa [← HM.out] at this
      have hup := up_alloc W5 (.cells #[.int .u64 (j : Int)] 23)
      have HOA := Hid.mk' (own_keep HOM.out hup (Nat.le_refl _))
      have HBA := Hid.mk' (bt HB5.out hup)
      have HMB : Hid (m ≤ 1000) := by show _ ≤ _; omega
      have HGG : Hid (g5 < W5.heap.size) := World.block_lt_of_cell? W5 ⟨g5, 0, none⟩ f0
      have f0A := cell_later hup f0
      clear hup
      cases m with
      | zero =>
        clear hok hmb
        go_wp2_with (at_builtin; go_must (refine wpl_app rfl (.tmp 32) (.tmp 34) 30 rfl Tryz.underlying30 Tryz.info23 rfl (by decide) rfl HOA.out rfl row_one (by intro u hu; simp only [List.mem_cons, List.not_mem_nil, or_false] at hu; subst hu; rfl) (by have := HMB.out; unfold maxLen; omega) (by have := HMB.out; omega) HBA.out.size ?_); intro v6 w6 ho hg hn2 hbb; have f6 : w6.cell? ⟨g5, 0, none⟩ = some (.int .u64 (pa : Int)) := (World.cell?_of_block (a := ⟨g5, 0, none⟩) (hg.block g5 (by have := HGG.out; simp; omega) (fun e => HNE5.out g5 e.symm rfl))).trans f0A; have HB6 : Hid (Below W.heap.size W w6) := below_app HBA.out HOA.out hg (Nat.le_refl _) HBA.out.size; obtain ⟨a6, c6, e6⟩ := own_slice ho; have HO6 : Hid (Un W.heap.size w6 v6 (O ++ [j])) := (by unfold Hid Un; rw [← HMS.out, uv_append]; exact ho); subst e6; clear ho hg hn2 hbb)
        go_roundw
        case rel => exact ⟨O ++ [j], pa, a6, c6, 0 + 1, rfl, rfl, HMS, HPA, HNE, HO6, HB6⟩
        case measure => simp [lenOf]
      | succ m =>
        obtain ⟨b1, o1, x, rfl, c1, hx⟩ := un_last HO5.out HM.out
        have hjx : (j : Int) < (x : Int) := by
          rw [hx, okB_snoc] at hok
          have := of_decide_eq_true hok
          omega
        have hjx2 : ¬ ((x : Int) ≤ (j : Int)) := by omega
        have hml : (0 : Int) < (m : Int) + 1 := by omega
        have hmb : (m : Int) + 1 + 1 ≤ 1000 := by simpa using hmb
        clear hx hok
        go_wp2_with (at_builtin; go_must (refine wpl_app rfl (.tmp 32) (.tmp 34) 30 rfl Tryz.underlying30 Tryz.info23 rfl (by decide) rfl HOA.out rfl row_one (by intro u hu; simp only [List.mem_cons, List.not_mem_nil, or_false] at hu; subst hu; rfl) (by have := HMB.out; unfold maxLen; omega) (by have := HMB.out; omega) HBA.out.size ?_); intro v6 w6 ho hg hn2 hbb; have f6 : w6.cell? ⟨g5, 0, none⟩ = some (.int .u64 (pa : Int)) := (World.cell?_of_block (a := ⟨g5, 0, none⟩) (hg.block g5 (by have := HGG.out; simp; omega) (fun e => HNE5.out g5 e.symm rfl))).trans f0A; have HB6 : Hid (Below W.heap.size W w6) := below_app HBA.out HOA.out hg (Nat.le_refl _) HBA.out.size; obtain ⟨a6, c6, e6⟩ := own_slice ho; have HO6 : Hid (Un W.heap.size w6 v6 (O ++ [j])) := (by unfold Hid Un; rw [← HMS.out, uv_append]; exact ho); subst e6; clear ho hg hn2 hbb)
        go_roundw
        case rel => exact ⟨O ++ [j], pa, a6, c6, m + 1 + 1, rfl, rfl, HMS, HPA, HNE, HO6, HB6⟩
        case measure => simp [lenOf]; have := HML.out; omega
end Go.Proofs.YtojgkjpmphfakaaGreatDoor
