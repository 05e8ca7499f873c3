/- groyneref11.Rivals. -/
import Derived.Test.YteejlmeinndlhaaNA
set_option linter.unusedVariables false
set_option linter.unusedSimpArgs false
namespace Go.Proofs.Yteejlmeinndlhaa
open Go.RowKit Go.Maps
attribute [local go_sem ↓] Go.wp_at_zero Go.wp_at_succ
theorem clsB_take {L l : List Rg} {m : Nat} (h : m < L.length) : clsB (L.take (m + 1)) l = (clsB (L.take m) l || l.any fun s => clhB L[m] s) := by
  unfold clsB
  rw [List.take_succ_eq_append_getElem h, List.any_append]
  simp
theorem any_take {L : List Rg} {f : Rg → Bool} {m : Nat} (h : m < L.length) : (L.take (m + 1)).any f = ((L.take m).any f || f L[m]) := by
  rw [List.take_succ_eq_append_getElem h, List.any_append]
  simp
set_option maxRecDepth 100000 in
set_option maxHeartbeats 8000000 in
/-- Rivals -/
theorem rrivals_any {A A' : Nat → Prop} {w : World} {v u : Value} {T : Tb} {x : Tx} {l : List Rg} (h : Nws A w v T) (h' : Rgs A' w u l) (hn : T.length ≤ 1000000) : Calls Try.prog 16 #[v, tv x, u] w fun e w' => ∃ v', e = .returned v' ∧ Ot w.heap.size w' v' (rrT T x l) ∧ Below w.heap.size w w' := by
  obtain ⟨va, vc, rfl, hvc, hvz, hat⟩ := h.at
  obtain ⟨ua, uc, rfl, huc, _, huz, hau⟩ := h'.at
  obtain ⟨W, hW, hbW, hcW⟩ := one_box w (.int .u64 (x.1.toNat : Int)) (.int .u64 (x.2.1.toNat : Int)) (.int .u64 (x.2.2.toNat : Int)) 30
  have hl' : (l.length : Int) ≤ 140737488351232 := by unfold lim at huz; omega
  have hT' : (T.length : Int) ≤ 1000000 := by omega
  have HAT := Hid.mk' hat
  have HAU := Hid.mk' hau
  have HB := Hid.mk' hbW
  have HC := Hid.mk' hcW
  have HO0 : Hid (Ot W.heap.size W (.slice none 0 0) (rrT (T.take 0) x l)) := World.ownsRow_nil W W.heap.size 30 3
  have HR0 : Hid (Below W.heap.size W W) := Below.refl _ _
  clear h h' hat hau hvz huz hbW hcW
  show Calls Try.prog 16 #[.slice va T.length vc, .agg #[.int .u64 (x.1.toNat : Int), .int .u64 (x.2.1.toNat : Int), .int .u64 (x.2.2.toNat : Int)], .slice ua l.length uc] w _
  go_enter Try.func16, Try.ntmps16
  go_wp2_with fail
  rw [← hW]
  clear hW
  go_loopw [7, 8] (fun y i wr => ∃ (k : Nat) (oa : Option Addr) (oc : Nat), k ≤ T.length ∧ i = .int .i64 k ∧ y = .slice oa (rrT (T.take k) x l).length oc ∧ Hid (Ot W.heap.size wr (.slice oa (rrT (T.take k) x l).length oc) (rrT (T.take k) x l)) ∧ Hid (Below W.heap.size W wr)) (fun _ i _ => T.length - (intOf i).toNat)
  case atStart => exact ⟨0, none, 0, by omega, rfl, rfl, HO0, HR0⟩
  case round =>
    clear HO0 HR0
    obtain ⟨k, oa, oc, hk, rfl, rfl, HO, HB1⟩ := hrel
    by_cases hlt : k < T.length
    case neg =>
      obtain rfl : k = T.length := by omega
      rw [List.take_length] at HO ⊢
      have HE := Hid.mk' (bt HB.out HB1.out)
      go_wp2_with fail
      go_ret
      exact ⟨_, rfl, HO.out.mono HB.out.size, HE.out⟩
    have hlt' : (k : Int) < (T.length : Int) := by omega
    rename World => wk
    obtain ⟨bb, of, ra, rcp, rfl, _, ⟨c0, c1, c2, c3⟩, hrs⟩ := HAT.out k hlt
    have HCK : Hid (∀ wz, Below W.heap.size W wz → wz.cell? ⟨bb, of + k * 4, none⟩ = some (.int .u64 (T[k].1.1.toNat : Int)) ∧ wz.cell? ⟨bb, of + k * 4 + 1, none⟩ = some (.int .u64 (T[k].1.2.1.toNat : Int)) ∧ wz.cell? ⟨bb, of + k * 4 + 2, none⟩ = some (.int .u64 (T[k].1.2.2.toNat : Int)) ∧ wz.cell? ⟨bb, of + k * 4 + 3, none⟩ = some (.slice ra T[k].2.length rcp)) := fun wz hz => ⟨cell_up c0 (bt HB.out hz), cell_up c1 (bt HB.out hz), cell_up c2 (bt HB.out hz), cell_up c3 (bt HB.out hz)⟩
    obtain ⟨_, _, er, hrc, _, hrz, hatr⟩ := hrs.at
    cases er
    have HATR := Hid.mk' hatr
    have hrl : (T[k].2.length : Int) ≤ 140737488351232 := by unfold lim at hrz; omega
    have HTK := Hid.mk' (rrT_take (x := x) (l := l) hlt)
    have HBD0 : Hid (false = clsB (T[k].2.take 0) l) := rfl
    have HK0 : Hid (Below wk.heap.size wk wk) := Below.refl _ _
    clear hrs hrz hatr c0 c1 c2 c3
    generalize hP : T[k] = P at *
    have HP := Hid.mk' hP
    clear hP
    obtain ⟨y, R⟩ := P
    go_wp2_with fail
    go_loopw [9, 10] (fun bd j wr => ∃ (m : Nat) (bb : Bool), m ≤ R.length ∧ j = .int .i64 m ∧ bd = .bool bb ∧ Hid (bb = clsB (R.take m) l) ∧ Hid (Below wk.heap.size wk wr)) (fun _ i _ => R.length - (intOf i).toNat)
    case atStart => exact ⟨0, false, by omega, rfl, rfl, HBD0, HK0⟩
    case round =>
      clear HBD0 HK0
      obtain ⟨m, bd, hm, rfl, rfl, HBD, HB2⟩ := hrel
      by_cases hlm : m < R.length
      case neg =>
        obtain rfl : m = R.length := by omega
        have HF : Hid (bd = clsB R l) := by have := HBD.out; rwa [List.take_length] at this
        rename World => wz
        obtain ⟨c0, c1, c2, c3⟩ := HCK.out wz (bt HB1.out HB2.out)
        obtain ⟨x0, x1, x2⟩ := HC.out wz (bt HB1.out HB2.out)
        have s0 : ∀ q : Kp (fun _ => False) wz, q.nx.cell? ⟨bb, of + k * 4, none⟩ = some _ := fun q => q.cell c0 id
        have s1 : ∀ q : Kp (fun _ => False) wz, q.nx.cell? ⟨bb, of + k * 4 + 1, none⟩ = some _ := fun q => q.cell c1 id
        have s2 : ∀ q : Kp (fun _ => False) wz, q.nx.cell? ⟨bb, of + k * 4 + 2, none⟩ = some _ := fun q => q.cell c2 id
        have t0 : ∀ q : Kp (fun _ => False) wz, q.nx.cell? ⟨w.heap.size, 0, none⟩ = some _ := fun q => q.cell x0 id
        have t1 : ∀ q : Kp (fun _ => False) wz, q.nx.cell? ⟨w.heap.size, 1, none⟩ = some _ := fun q => q.cell x1 id
        have t2 : ∀ q : Kp (fun _ => False) wz, q.nx.cell? ⟨w.heap.size, 2, none⟩ = some _ := fun q => q.cell x2 id
        clear HBD
        go_upto_region 13 with fail
        refine wp_region_mox 10 (fun w' => ∃ q : Kp (fun _ => False) wz, w' = q.nx) (by kernel_rfl) (by kernel_rfl) (kp_first _ wz) ?_
        simp only [List.take_succ_cons, List.take_zero, List.drop_succ_cons, List.drop_zero]
        rcases bd with _ | _
        · have HTK2 : Hid (rrT (T.take (k + 1)) x l = rrT (T.take k) x l) := by show _ = _; rw [HTK.out, ← HF.out]; simp
          refine mx_take 10 rfl ?_
          simp only [List.take_succ_cons, List.take_zero, List.drop_succ_cons, List.drop_zero]
          repeat (go_big_quiet_step (fail))
          refine wpQuiet_nil ?_
          simp only [wpMix]
          clear s0 s1 s2 t0 t1 t2
          have HRN : Hid (Ot W.heap.size wz.drew (.slice oa (rrT (T.take (k + 1)) x l).length oc) (rrT (T.take (k + 1)) x l)) := by rw [HTK2.out]; exact (HO.out.up HB2.out).up (drew_blx _ _)
          have HV : Hid (Value.slice oa (rrT (T.take k) x l).length oc = .slice oa (rrT (T.take (k + 1)) x l).length oc) := by rw [HTK2.out]; rfl
          have HBN := Hid.mk' (bt (bt HB1.out HB2.out) (drew_blx wz wz.heap.size))
          go_wp2_with fail
          go_roundw
          case rel => exact ⟨k + 1, oa, oc, by omega, by go_num, HV.out, HRN, HBN⟩
          case measure => simp [intOf]; omega
        · have HTK1 : Hid (rrT (T.take (k + 1)) x l = rrT (T.take k) x l ++ if !decide (y = x) then [y] else []) := by show _ = _; rw [HTK.out, ← HF.out, Bool.true_and]
          refine mx_take 8 rfl ?_
          simp only [List.take_succ_cons, List.take_zero, List.drop_succ_cons, List.drop_zero]
          repeat (go_big_quiet_step (fail))
          refine wpQuiet_nil ?_
          refine mx_val (u := .bool (!decide (y = x))) rfl (by kernel_rfl) (fun _ _ => exec_ne30 rfl rfl rfl) ?_
          simp only [Act.put, List.setIfInBounds_toArray, List.set_cons_succ, List.set_cons_zero]
          by_cases hyx : y = x
          · have hd : decide (y = x) = true := decide_eq_true hyx
            have HTK2 : Hid (rrT (T.take (k + 1)) x l = rrT (T.take k) x l) := by show _ = _; rw [HTK1.out, hd]; simp
            rw [hd, Bool.not_true]
            clear hd hyx
            refine mx_take 1 rfl ?_
            simp only [List.take_succ_cons, List.take_zero, List.drop_succ_cons, List.drop_zero]
            repeat (go_big_quiet_step (fail))
            refine wpQuiet_nil ?_
            simp only [wpMix]
            clear s0 s1 s2 t0 t1 t2
            have HRN : Hid (Ot W.heap.size wz.drew (.slice oa (rrT (T.take (k + 1)) x l).length oc) (rrT (T.take (k + 1)) x l)) := by rw [HTK2.out]; exact (HO.out.up HB2.out).up (drew_blx _ _)
            have HV : Hid (Value.slice oa (rrT (T.take k) x l).length oc = .slice oa (rrT (T.take (k + 1)) x l).length oc) := by rw [HTK2.out]; rfl
            have HBN := Hid.mk' (bt (bt HB1.out HB2.out) (drew_blx wz wz.heap.size))
            go_wp2_with fail
            go_roundw
            case rel => exact ⟨k + 1, oa, oc, by omega, by go_num, HV.out, HRN, HBN⟩
            case measure => simp [intOf]; omega
          · have hd : decide (y = x) = false := decide_eq_false hyx
            have HTK2 : Hid (rrT (T.take (k + 1)) x l = rrT (T.take k) x l ++ [y]) := by show _ = _; rw [HTK1.out, hd]; simp
            rw [hd, Bool.not_false]
            clear hd hyx
            refine mx_take 1 rfl ?_
            simp only [List.take_succ_cons, List.take_zero, List.drop_succ_cons, List.drop_zero]
            repeat (go_big_quiet_step (fail))
            refine wpQuiet_nil ?_
            simp only [wpMix]
            clear s0 s1 s2 t0 t1 t2
            have HLN : Hid ((rrT (T.take k) x l).length ≤ k) := by
              unfold rrT
              rw [List.length_map]
              exact Nat.le_trans (List.length_filter_le _ _) (by rw [List.length_take]; omega)
            have HO5 := Hid.mk' (((HO.out.up HB2.out).up (drew_blx _ _)).up (up_alloc wz.drew (.cells #[.int .u64 (y.1.toNat : Int), .int .u64 (y.2.1.toNat : Int), .int .u64 (y.2.2.toNat : Int)] 30)))
            have hbt' := World.block_lt_of_cell? wz ⟨bb, of + k * 4, none⟩ c0
            have HBN := Hid.mk' (bt (bt HB1.out HB2.out) (drew_blx wz wz.heap.size))
            go_wp2_with (at_builtin; go_must (refine wpl_app rfl (.tmp 60) (.tmp 66) 25 rfl Try.underlying25 Try.info30 rfl (by decide) rfl HO5.out rfl row_one3 (by intro u hu; simp only [List.mem_cons, List.not_mem_nil, or_false] at hu; rcases hu with rfl | rfl | rfl <;> rfl) (by have := HLN.out; unfold maxLen; omega) (by have := HLN.out; omega) (Nat.le_trans HBN.out.size (up_alloc wz.drew _).size) ?_); intro v6 w6 ho hg hn hbb)
            have hup := up_alloc wz.drew (.cells #[.int .u64 (y.1.toNat : Int), .int .u64 (y.2.1.toNat : Int), .int .u64 (y.2.2.toNat : Int)] 30)
            have e1 := (HBN.out).size
            have e2 := hup.size
            have HB6 : Hid (Below W.heap.size W w6) := below_app (HBN.out.trans (hup.mono e1)) HO5.out hg (Nat.le_refl _) (by omega)
            have HL6 : Hid ((rrT (T.take k) x l).length + 1 = (rrT (T.take (k + 1)) x l).length) := by show _ = _; rw [HTK2.out, List.length_append]; rfl
            have HO6 : Hid (Ot W.heap.size w6 v6 (rrT (T.take (k + 1)) x l)) := by
              unfold Hid Ot
              rw [← HL6.out, HTK2.out, show txs (rrT (T.take k) x l ++ [y]) = txs (rrT (T.take k) x l) ++ [.int .u64 (y.1.toNat : Int), .int .u64 (y.2.1.toNat : Int), .int .u64 (y.2.2.toNat : Int)] by simp [txs, tc]]
              exact ho
            obtain ⟨a6, c6, e6⟩ := own_sliceN ho
            have E6 : Hid (v6 = .slice a6 (rrT (T.take (k + 1)) x l).length c6) := by show _ = _; rw [← HL6.out]; exact e6
            rw [E6.out] at HO6
            clear ho hg hn hbb hup e1 e2 e6 hbt'
            go_wp2_with fail
            go_roundw
            case rel => exact ⟨k + 1, a6, c6, by omega, by go_num, E6.out, HO6, HB6⟩
            case measure => simp [intOf]; omega
      have hlm' : (m : Int) < (R.length : Int) := by omega
      obtain ⟨b2, o2, fa, fc, ta, tc', rfl, _, ⟨d0, d1, d2⟩, hlo, hhi⟩ := HATR.out m hlm
      have HDK : Hid (∀ wz, Below wk.heap.size wk wz → wz.cell? ⟨b2, o2 + m * 3, none⟩ = some (.slice fa R[m].lo.length fc) ∧ wz.cell? ⟨b2, o2 + m * 3 + 1, none⟩ = some (.slice ta R[m].hi.length tc') ∧ wz.cell? ⟨b2, o2 + m * 3 + 2, none⟩ = some (.bool R[m].xc)) := fun wz hz => ⟨cell_up d0 (bt HB.out (bt HB1.out hz)), cell_up d1 (bt HB.out (bt HB1.out hz)), cell_up d2 (bt HB.out (bt HB1.out hz))⟩
      have HBD0 : Hid (bd = (clsB (R.take m) l || (l.take 0).any fun s => clhB R[m] s)) := by show _ = _; rw [HBD.out]; simp
      have HTM := Hid.mk' (clsB_take (l := l) hlm)
      have HRI : Hid (∀ wz, Below wk.heap.size wk wz → RgIs A wz (.agg #[.slice fa R[m].lo.length fc, .slice ta R[m].hi.length tc', .bool R[m].xc]) R[m]) := fun wz hz => ⟨_, _, rfl, (hlo.up HB.out).up (bt HB1.out hz), (hhi.up HB.out).up (bt HB1.out hz)⟩
      have HB20 : Hid (Below wk.heap.size wk wr) := HB2
      clear hlo hhi d0 d1 d2 HBD
      generalize R[m] = h at *
      obtain ⟨c0, c1, c2, c3⟩ := HCK.out wr (bt HB1.out HB2.out)
      go_wp2_with fail
      clear c0 c1 c2 c3
      go_loopw [9, 11] (fun bd j wr => ∃ (r : Nat) (b3 : Bool), r ≤ l.length ∧ j = .int .i64 r ∧ bd = .bool b3 ∧ Hid (b3 = (clsB (R.take m) l || (l.take r).any fun s => clhB h s)) ∧ Hid (Below wk.heap.size wk wr)) (fun _ i _ => l.length - (intOf i).toNat)
      case atStart => exact ⟨0, bd, by omega, rfl, rfl, HBD0, HB20⟩
      case round =>
        clear HBD0 HB20 HB2
        obtain ⟨r, b3, hr, rfl, rfl, HBD, HB2⟩ := hrel
        by_cases hlr : r < l.length
        case neg =>
          obtain rfl : r = l.length := by omega
          have HF : Hid (b3 = clsB (R.take (m + 1)) l) := by have := HBD.out; rw [List.take_length] at this; show _ = _; rw [HTM.out]; exact this
          go_wp2_with fail
          go_roundw
          case rel => exact ⟨m + 1, b3, by omega, by go_num, rfl, HF, HB2⟩
          case measure => simp [intOf]; omega
        have hlr' : (r : Int) < (l.length : Int) := by omega
        rename World => wz
        obtain ⟨b4, o4, ga, gc, ha, hc, rfl, _, ⟨e0, e1, e2⟩, hlo, hhi⟩ := HAU.out r hlr
        have e0 := cell_up e0 (bt HB.out (bt HB1.out HB2.out))
        have e1 := cell_up e1 (bt HB.out (bt HB1.out HB2.out))
        have e2 := cell_up e2 (bt HB.out (bt HB1.out HB2.out))
        obtain ⟨d0, d1, d2⟩ := HDK.out wz HB2.out
        obtain ⟨c0, c1, c2, c3⟩ := HCK.out wz (bt HB1.out HB2.out)
        have HRC : Hid (Calls Try.prog 10 #[.agg #[.slice fa h.lo.length fc, .slice ta h.hi.length tc', .bool h.xc], .agg #[.slice ga l[r].lo.length gc, .slice ha l[r].hi.length hc, .bool l[r].xc]] wz.drew fun e w' => e = .returned (.bool (clhB h l[r])) ∧ Below wz.drew.heap.size wz.drew w') := by
          have := rclash_any (r := h) (s := l[r]) (HRI.out wz.drew (bt HB2.out (drew_blx _ _))) (⟨_, _, rfl, ((hlo.up HB.out).up (bt HB1.out HB2.out)).up (drew_blx _ _), ((hhi.up HB.out).up (bt HB1.out HB2.out)).up (drew_blx _ _)⟩ : RgIs A' wz.drew (.agg #[.slice ga l[r].lo.length gc, .slice ha l[r].hi.length hc, .bool l[r].xc]) l[r])
          rw [← clh_eq] at this
          exact this
        have HAN := Hid.mk' (any_take (f := fun s => clhB h s) hlr)
        have s3 : ∀ q : Kp (fun _ => False) wz, q.nx.cell? ⟨bb, of + k * 4 + 3, none⟩ = some _ := fun q => q.cell c3 id
        have t0 : ∀ q : Kp (fun _ => False) wz, q.nx.cell? ⟨b2, o2 + m * 3, none⟩ = some _ := fun q => q.cell d0 id
        have t1 : ∀ q : Kp (fun _ => False) wz, q.nx.cell? ⟨b2, o2 + m * 3 + 1, none⟩ = some _ := fun q => q.cell d1 id
        have t2 : ∀ q : Kp (fun _ => False) wz, q.nx.cell? ⟨b2, o2 + m * 3 + 2, none⟩ = some _ := fun q => q.cell d2 id
        have u0 : ∀ q : Kp (fun _ => False) wz, q.nx.cell? ⟨b4, o4 + r * 3, none⟩ = some _ := fun q => q.cell e0 id
        have u1 : ∀ q : Kp (fun _ => False) wz, q.nx.cell? ⟨b4, o4 + r * 3 + 1, none⟩ = some _ := fun q => q.cell e1 id
        have u2 : ∀ q : Kp (fun _ => False) wz, q.nx.cell? ⟨b4, o4 + r * 3 + 2, none⟩ = some _ := fun q => q.cell e2 id
        clear c0 c1 c2 c3 d0 d1 d2 e0 e1 e2 hlo hhi
        generalize l[r] = g at *
        generalize clhB h g = hg at *
        generalize h.lo.length = n1 at *
        generalize h.hi.length = n2 at *
        generalize h.xc = n3 at *
        generalize g.lo.length = n4 at *
        generalize g.hi.length = n5 at *
        generalize g.xc = n6 at *
        go_upto_region 12 with fail
        refine wp_region_mox 17 (fun w' => ∃ q : Kp (fun _ => False) wz, w' = q.nx) (by kernel_rfl) (by kernel_rfl) (kp_first _ wz) ?_
        simp only [List.take_succ_cons, List.take_zero, List.drop_succ_cons, List.drop_zero]
        rcases b3 with _ | _
        · have HF : Hid (hg = (clsB (R.take m) l || (l.take (r + 1)).any fun s => clhB h s)) := by show _ = _; rw [HAN.out, ← Bool.or_assoc, ← HBD.out]; rfl
          refine mx_take 14 rfl ?_
          simp only [List.take_succ_cons, List.take_zero, List.drop_succ_cons, List.drop_zero]
          repeat (go_big_quiet_step (fail))
          refine wpQuiet_nil ?_
          refine mx_call (vals := [.agg #[.slice fa n1 fc, .slice ta n2 tc', .bool n3], .agg #[.slice ga n4 gc, .slice ha n5 hc, .bool n6]]) Try.func10 (by kernel_rfl) rfl rfl (by kernel_rfl) (by kernel_rfl) HRC.out (fun E wc hc => ?_)
          obtain ⟨rfl, hdc⟩ := hc
          have HBC := Hid.mk' (bt (drew_blx wz wz.heap.size) hdc)
          refine ⟨_, rfl, kp_mk HBC.out.size fun b hb hx => HBC.out.block b hb, ?_⟩
          simp only [Act.put, List.setIfInBounds_toArray, List.set_cons_succ, List.set_cons_zero]
          refine mx_take 2 rfl ?_
          simp only [List.take_succ_cons, List.take_zero, List.drop_succ_cons, List.drop_zero]
          repeat (go_big_quiet_step (fail))
          refine wpQuiet_nil ?_
          simp only [wpMix]
          clear s3 t0 t1 t2 u0 u1 u2 hdc
          have HBN := Hid.mk' (bt HB2.out HBC.out)
          go_wp2_with fail
          go_roundw
          case rel => exact ⟨r + 1, hg, by omega, by go_num, rfl, HF, HBN⟩
          case measure => simp [intOf]; omega
        · have HF : Hid (true = (clsB (R.take m) l || (l.take (r + 1)).any fun s => clhB h s)) := by show _ = _; rw [HAN.out, ← Bool.or_assoc, ← HBD.out]; rfl
          refine mx_take 14 rfl ?_
          simp only [List.take_succ_cons, List.take_zero, List.drop_succ_cons, List.drop_zero]
          repeat (go_big_quiet_step (fail))
          refine wpQuiet_nil ?_
          with_reducible refine mx_skip (by kernel_rfl) ?_
          simp only [Act.put, List.setIfInBounds_toArray, List.set_cons_succ, List.set_cons_zero]
          refine mx_take 2 rfl ?_
          simp only [List.take_succ_cons, List.take_zero, List.drop_succ_cons, List.drop_zero]
          repeat (go_big_quiet_step (fail))
          refine wpQuiet_nil ?_
          simp only [wpMix]
          clear s3 t0 t1 t2 u0 u1 u2
          have HBN := Hid.mk' (bt HB2.out (drew_blx wz wz.heap.size))
          go_wp2_with fail
          go_roundw
          case rel => exact ⟨r + 1, true, by omega, by go_num, rfl, HF, HBN⟩
          case measure => simp [intOf]; omega
end Go.Proofs.Yteejlmeinndlhaa
