/- groyneref11: Held, Release. -/
import Derived.Test.YteejlmeinndlhaaNR
set_option linter.unusedVariables false
set_option linter.unusedSimpArgs false
namespace Go.Proofs.Yteejlmeinndlhaa
open Go.RowKit Go.Maps
attribute [local go_sem ↓] Go.wp_at_zero Go.wp_at_succ
theorem tgz_first : ∀ {T : Tb} {x : Tx} {k : Nat} (h : k < T.length), (∀ p ∈ T.take k, p.1 ≠ x) → T[k].1 = x → tgz T x = T[k].2
  | (y, m) :: r, x, 0, h, _, e => by
    have e : y = x := e
    simp [tgz, tget, e]
  | (y, m) :: r, x, k + 1, h, hn, e => by
    have h1 : y ≠ x := hn (y, m) (by simp)
    have h2 := tgz_first (T := r) (x := x) (k := k) (by simpa using h) (fun p hp => hn p (by simp [hp])) e
    simp only [List.getElem_cons_succ]
    rw [← h2]
    simp [tgz, tget, Ne.symm h1]
theorem tgz_none : ∀ {T : Tb} {x : Tx}, (∀ p ∈ T, p.1 ≠ x) → tgz T x = []
  | [], x, _ => rfl
  | (y, m) :: r, x, hn => by
    have h1 : y ≠ x := hn (y, m) (by simp)
    have h2 := tgz_none (T := r) (x := x) fun p hp => hn p (by simp [hp])
    rw [← h2]
    simp [tgz, tget, Ne.symm h1]
set_option maxRecDepth 100000 in
set_option maxHeartbeats 4000000 in
theorem rheld_any {A : Nat → Prop} {w : World} {v : Value} {T : Tb} {x : Tx} (h : Nws A w v T) (hn : T.length ≤ 1000000) : Calls Try.prog 28 #[v, tv x] w fun e w' => ∃ u, e = .returned u ∧ Rgs A w' u (tgz T x) ∧ Below w.heap.size w w' := by
  obtain ⟨va, vc, rfl, hvc, hvz, hat⟩ := h.at
  obtain ⟨W, hW, hbW, hcW⟩ := one_box w (.int .u64 (x.1.toNat : Int)) (.int .u64 (x.2.1.toNat : Int)) (.int .u64 (x.2.2.toNat : Int)) 30
  have hT' : (T.length : Int) ≤ 1000000 := by omega
  have HAT := Hid.mk' hat
  have HB := Hid.mk' hbW
  have HC := Hid.mk' hcW
  have HR0 : Hid (Below W.heap.size W W) := Below.refl _ _
  have HM0 : Hid (∀ p ∈ T.take 0, p.1 ≠ x) := fun p hp => by simp at hp
  clear h hat hvz hbW hcW
  show Calls Try.prog 28 #[.slice va T.length vc, .agg #[.int .u64 (x.1.toNat : Int), .int .u64 (x.2.1.toNat : Int), .int .u64 (x.2.2.toNat : Int)]] w _
  go_enter Try.func28, Try.ntmps28
  go_wp2_with fail
  rw [← hW]
  clear hW
  go_loopw [5] (fun i wr => ∃ k : Nat, k ≤ T.length ∧ i = .int .i64 k ∧ Hid (∀ p ∈ T.take k, p.1 ≠ x) ∧ Hid (Below W.heap.size W wr)) (fun i _ => T.length - (intOf i).toNat)
  case atStart => exact ⟨0, by omega, rfl, HM0, HR0⟩
  case round =>
    clear HR0
    clear HM0
    obtain ⟨k, hk, rfl, HM, HB1⟩ := hrel
    by_cases hlt : k < T.length
    case neg =>
      obtain rfl : k = T.length := by omega
      have HE := Hid.mk' (bt HB.out HB1.out)
      have HF : Hid (tgz T x = []) := tgz_none (by have := HM.out; rwa [List.take_length] at this)
      go_wp2_with fail
      go_ret
      exact ⟨_, rfl, by rw [HF.out]; exact rgs_nil, HE.out⟩
    have hlt' : (k : Int) < (T.length : Int) := by omega
    obtain ⟨bb, of, ra, rcp, rfl, _, ⟨c0, c1, c2, c3⟩, hrs⟩ := HAT.out k hlt
    rename World => wz
    have c0 := cell_up c0 (bt HB.out HB1.out)
    have c1 := cell_up c1 (bt HB.out HB1.out)
    have c2 := cell_up c2 (bt HB.out HB1.out)
    have c3 := cell_up c3 (bt HB.out HB1.out)
    obtain ⟨x0, x1, x2⟩ := HC.out wz HB1.out
    have HRS := Hid.mk' hrs
    have s0 : ∀ q : Kp (fun _ => False) wz, q.nx.cell? ⟨bb, of + k * 4, none⟩ = some _ := fun q => q.cell c0 id
    have s1 : ∀ q : Kp (fun _ => False) wz, q.nx.cell? ⟨bb, of + k * 4 + 1, none⟩ = some _ := fun q => q.cell c1 id
    have s2 : ∀ q : Kp (fun _ => False) wz, q.nx.cell? ⟨bb, of + k * 4 + 2, none⟩ = some _ := fun q => q.cell c2 id
    have t0 : ∀ q : Kp (fun _ => False) wz, q.nx.cell? ⟨w.heap.size, 0, none⟩ = some _ := fun q => q.cell x0 id
    have t1 : ∀ q : Kp (fun _ => False) wz, q.nx.cell? ⟨w.heap.size, 1, none⟩ = some _ := fun q => q.cell x1 id
    have t2 : ∀ q : Kp (fun _ => False) wz, q.nx.cell? ⟨w.heap.size, 2, none⟩ = some _ := fun q => q.cell x2 id
    have HYX : Hid ((decide (T[k].1 = x) = true ∧ tgz T x = T[k].2) ∨ (decide (T[k].1 = x) = false ∧ ∀ p ∈ T.take (k + 1), p.1 ≠ x)) := by
      by_cases h : T[k].1 = x
      · exact .inl ⟨decide_eq_true h, tgz_first hlt HM.out h⟩
      · refine .inr ⟨decide_eq_false h, fun p hp => ?_⟩
        rw [List.take_succ_eq_append_getElem hlt, List.mem_append, List.mem_singleton] at hp
        rcases hp with hp | rfl
        · exact HM.out p hp
        · exact h
    clear hrs HM
    generalize T[k] = P at *
    go_upto_region 4 with fail
    refine wp_region_mox 7 (fun w' => ∃ q : Kp (fun _ => False) wz, w' = q.nx) (by kernel_rfl) (by kernel_rfl) (kp_first _ wz) ?_
    simp only [List.take_succ_cons, List.take_zero, List.drop_succ_cons, List.drop_zero]
    refine mx_take 6 rfl ?_
    simp only [List.take_succ_cons, List.take_zero, List.drop_succ_cons, List.drop_zero]
    repeat (go_big_quiet_step (fail))
    refine wpQuiet_nil ?_
    refine mx_val (u := .bool (decide (P.1 = x))) rfl (by kernel_rfl) (fun _ _ => exec_eq30 rfl rfl rfl) ?_
    simp only [Act.put, List.setIfInBounds_toArray, List.set_cons_succ, List.set_cons_zero]
    simp only [wpMix]
    generalize decide (P.1 = x) = dd at *
    clear s0 s1 s2 t0 t1 t2
    have hbt' := World.block_lt_of_cell? wz ⟨bb, of + k * 4, none⟩ c0
    have HBN := Hid.mk' (bt HB1.out (drew_blx wz wz.heap.size))
    rcases HYX.out with ⟨rfl, hz⟩ | ⟨rfl, hz⟩
    · have HF := Hid.mk' hz
      have HE := Hid.mk' (bt HB.out HBN.out)
      clear hz HYX
      go_wp2_with fail
      go_ret
      exact ⟨_, rfl, by rw [HF.out]; exact HRS.out.up HE.out, HE.out⟩
    · have HF := Hid.mk' hz
      clear hz HYX
      go_wp2_with fail
      go_roundw
      case rel => exact ⟨k + 1, by omega, by go_num, HF, HBN⟩
      case measure => simp [intOf]; omega
set_option maxRecDepth 100000 in
set_option maxHeartbeats 4000000 in
theorem rrel_any {A : Nat → Prop} {w : World} {v : Value} {T : Tb} {x : Tx} (h : Nws A w v T) (hn : T.length ≤ 1000000) : Calls Try.prog 23 #[v, tv x] w fun e w' => ∃ u, e = .returned u ∧ Nws (fun k => A k ∨ w.heap.size ≤ k ∧ k < w'.heap.size) w' u (delL T x) ∧ Below w.heap.size w w' := by
  obtain ⟨va, vc, rfl, hvc, hvz, hat⟩ := h.at
  obtain ⟨W, hW, hbW, hcW⟩ := one_box w (.int .u64 (x.1.toNat : Int)) (.int .u64 (x.2.1.toNat : Int)) (.int .u64 (x.2.2.toNat : Int)) 30
  have hT' : (T.length : Int) ≤ 1000000 := by omega
  have HAT := Hid.mk' hat
  have HB := Hid.mk' hbW
  have HC := Hid.mk' hcW
  have HR0 : Hid (Below W.heap.size W W) := Below.refl _ _
  have HL0 : Hid (([] : List Nq).length ≤ 0) := Nat.le_refl _
  have HM0 : Hid (([] : List Nq).map (·.1) = delL (T.take 0) x) := rfl
  have HO0 : Hid (W.ownsRow W.heap.size 59 4 (.slice none 0 0) ([] : List Nq).length (nqcs [])) := World.ownsRow_nil W W.heap.size 59 4
  have HQ0 : Hid (∀ q ∈ ([] : List Nq), Rgs A w q.2 q.1.2) := fun q hq => by cases hq
  clear h hat hvz hbW hcW
  show Calls Try.prog 23 #[.slice va T.length vc, .agg #[.int .u64 (x.1.toNat : Int), .int .u64 (x.2.1.toNat : Int), .int .u64 (x.2.2.toNat : Int)]] w _
  go_enter Try.func23, Try.ntmps23
  go_wp2_with fail
  rw [← hW]
  clear hW
  go_loopw [5, 6] (fun y i wr => ∃ (k : Nat) (L : List Nq) (oa : Option Addr) (oc : Nat), k ≤ T.length ∧ i = .int .i64 k ∧ y = .slice oa L.length oc ∧ Hid (L.length ≤ k) ∧ Hid (L.map (·.1) = delL (T.take k) x) ∧ Hid (wr.ownsRow W.heap.size 59 4 (.slice oa L.length oc) L.length (nqcs L)) ∧ Hid (∀ q ∈ L, Rgs A w q.2 q.1.2) ∧ Hid (Below W.heap.size W wr)) (fun y i _ => T.length - (intOf i).toNat)
  case atStart => exact ⟨0, [], none, 0, by omega, rfl, rfl, HL0, HM0, HO0, HQ0, HR0⟩
  case round =>
    clear HR0
    clear HM0 HL0 HO0 HQ0
    obtain ⟨k, L, oa, oc, hk, rfl, rfl, HLk, HM, HO, HQ, HB1⟩ := hrel
    by_cases hlt : k < T.length
    case neg =>
      obtain rfl : k = T.length := by omega
      have HE := Hid.mk' (bt HB.out HB1.out)
      have HF : Hid (L.map (·.1) = delL T x) := by have := HM.out; rwa [List.take_length] at this
      go_wp2_with fail
      go_ret
      refine ⟨_, rfl, ⟨L, HF.out, ((Row.of_ownB HO.out).andLtR).monoS fun k hk => .inr ⟨Nat.le_trans HB.out.size hk.1, hk.2⟩, fun q hq => ((HQ.out q hq).up HE.out).monoS fun k hk => .inl hk, by have := HLk.out; unfold lim; omega⟩, HE.out⟩
    have hlt' : (k : Int) < (T.length : Int) := by omega
    obtain ⟨bb, of, ra, rcp, rfl, _, ⟨c0, c1, c2, c3⟩, hrs⟩ := HAT.out k hlt
    rename World => wz
    have c0 := cell_up c0 (bt HB.out HB1.out)
    have c1 := cell_up c1 (bt HB.out HB1.out)
    have c2 := cell_up c2 (bt HB.out HB1.out)
    have c3 := cell_up c3 (bt HB.out HB1.out)
    obtain ⟨x0, x1, x2⟩ := HC.out wz HB1.out
    have HRS := Hid.mk' hrs
    have s0 : ∀ q : Kp (fun _ => False) wz, q.nx.cell? ⟨bb, of + k * 4, none⟩ = some _ := fun q => q.cell c0 id
    have s1 : ∀ q : Kp (fun _ => False) wz, q.nx.cell? ⟨bb, of + k * 4 + 1, none⟩ = some _ := fun q => q.cell c1 id
    have s2 : ∀ q : Kp (fun _ => False) wz, q.nx.cell? ⟨bb, of + k * 4 + 2, none⟩ = some _ := fun q => q.cell c2 id
    have t0 : ∀ q : Kp (fun _ => False) wz, q.nx.cell? ⟨w.heap.size, 0, none⟩ = some _ := fun q => q.cell x0 id
    have t1 : ∀ q : Kp (fun _ => False) wz, q.nx.cell? ⟨w.heap.size, 1, none⟩ = some _ := fun q => q.cell x1 id
    have t2 : ∀ q : Kp (fun _ => False) wz, q.nx.cell? ⟨w.heap.size, 2, none⟩ = some _ := fun q => q.cell x2 id
    have HTK := Hid.mk' (delL_take (x := x) hlt)
    clear hrs
    generalize T[k] = P at *
    go_upto_region 5 with fail
    refine wp_region_mox 7 (fun w' => ∃ q : Kp (fun _ => False) wz, w' = q.nx) (by kernel_rfl) (by kernel_rfl) (kp_first _ wz) ?_
    simp only [List.take_succ_cons, List.take_zero, List.drop_succ_cons, List.drop_zero]
    refine mx_take 6 rfl ?_
    simp only [List.take_succ_cons, List.take_zero, List.drop_succ_cons, List.drop_zero]
    repeat (go_big_quiet_step (fail))
    refine wpQuiet_nil ?_
    refine mx_val (u := .bool (!decide (P.1 = x))) rfl (by kernel_rfl) (fun _ _ => exec_ne30 rfl rfl rfl) ?_
    simp only [Act.put, List.setIfInBounds_toArray, List.set_cons_succ, List.set_cons_zero]
    simp only [wpMix]
    generalize decide (P.1 = x) = dd at *
    clear s0 s1 s2 t0 t1 t2
    have hbt' := World.block_lt_of_cell? wz ⟨bb, of + k * 4, none⟩ c0
    have HBN := Hid.mk' (bt HB1.out (drew_blx wz wz.heap.size))
    rcases dd with _ | _
    · have HM6 : Hid ((L ++ [((P, .slice ra P.2.length rcp) : Nq)]).map (·.1) = delL (T.take (k + 1)) x) := by
        show _ = _
        rw [List.map_append, HM.out, HTK.out]; rfl
      obtain ⟨⟨p1, p2, p3⟩, P2⟩ := P
      have HO5 := Hid.mk' ((own_keep HO.out (drew_blx wz wz.heap.size) (Nat.le_refl _)))
      have HO5 := Hid.mk' (own_keep HO5.out (up_alloc wz.drew (.cells #[.int .u64 (p1.toNat : Int), .int .u64 (p2.toNat : Int), .int .u64 (p3.toNat : Int), .slice ra P2.length rcp] 59)) (Nat.le_refl _))
      clear HTK
      rw [Bool.not_false]
      simp only at c0 c1 c2 c3
      go_wp2_with (at_builtin; go_must (refine wpl_app rfl (.tmp 20) (.tmp 25) 38 rfl Try.underlying38 Try.info59 rfl (by decide) rfl HO5.out rfl row_one4 (by intro u hu; simp only [List.mem_cons, List.not_mem_nil, or_false] at hu; rcases hu with rfl | rfl | rfl | rfl <;> rfl) (by have := HLk.out; unfold maxLen; omega) (by have := HLk.out; omega) (Nat.le_trans HBN.out.size (up_alloc wz.drew _).size) ?_); intro v6 w6 ho hg hn hbb)
      have hup := up_alloc wz.drew (.cells #[.int .u64 (p1.toNat : Int), .int .u64 (p2.toNat : Int), .int .u64 (p3.toNat : Int), .slice ra P2.length rcp] 59)
      have e1 := (HBN.out).size
      have e2 := hup.size
      have HB6 : Hid (Below W.heap.size W w6) := below_app (HBN.out.trans (hup.mono e1)) HO5.out hg (Nat.le_refl _) (by omega)
      have HO6 : Hid (w6.ownsRow W.heap.size 59 4 v6 (L ++ [((((p1, p2, p3), P2), .slice ra P2.length rcp) : Nq)]).length (nqcs (L ++ [((((p1, p2, p3), P2), .slice ra P2.length rcp) : Nq)]))) := by
        rw [nqcs_app, List.length_append, List.length_singleton]
        exact ho
      have HQ6 : Hid (∀ q ∈ L ++ [((((p1, p2, p3), P2), .slice ra P2.length rcp) : Nq)], Rgs A w q.2 q.1.2) := fun q hq => by
        rw [List.mem_append, List.mem_singleton] at hq
        rcases hq with hq | rfl
        · exact HQ.out q hq
        · exact HRS.out
      have HL6 : Hid ((L ++ [((((p1, p2, p3), P2), .slice ra P2.length rcp) : Nq)]).length ≤ k + 1) := by show _ ≤ _; rw [List.length_append, List.length_singleton]; have := HLk.out; omega
      obtain ⟨a6, c6, e6⟩ := own_sliceN ho
      have E6 : Hid (v6 = .slice a6 (L ++ [((((p1, p2, p3), P2), .slice ra P2.length rcp) : Nq)]).length c6) := by show _ = _; rw [List.length_append]; exact e6
      rw [E6.out] at HO6
      clear ho hg hn hbb hup e1 e2 e6 hbt' c0 c1 c2 c3
      go_wp2_with fail
      go_roundw
      case rel => exact ⟨k + 1, _, a6, c6, by omega, by go_num, E6.out, HL6, HM6, HO6, HQ6, HB6⟩
      case measure => simp [intOf]; omega
    · have HM6 : Hid (L.map (·.1) = delL (T.take (k + 1)) x) := by
        show _ = _
        rw [HM.out, HTK.out]; simp
      have HL6 : Hid (L.length ≤ k + 1) := Nat.le_succ_of_le HLk.out
      have HO6 := Hid.mk' (own_keep HO.out (drew_blx wz wz.heap.size) (Nat.le_refl _))
      clear HTK
      rw [Bool.not_true]
      go_wp2_with fail
      go_roundw
      case rel => exact ⟨k + 1, L, oa, oc, by omega, by go_num, rfl, HL6, HM6, HO6, HQ, HBN⟩
      case measure => simp [intOf]; omega
end Go.Proofs.Yteejlmeinndlhaa
