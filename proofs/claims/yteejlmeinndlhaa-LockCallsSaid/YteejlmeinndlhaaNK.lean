/- groyneref11.Ask. -/
import Derived.Test.YteejlmeinndlhaaNP
import Derived.Deep.CutBlock
set_option linter.unusedVariables false
set_option linter.unusedSimpArgs false
namespace Go.Proofs.Yteejlmeinndlhaa
open Go.RowKit Go.Maps
attribute [local go_sem ↓] Go.wp_at_zero Go.wp_at_succ
theorem Try.size38 (w : World) : (sizeOf (Try.prog.elem 38)).run Try.prog w = .ok 4 w := by kernel_rfl
theorem nq_one {A : Nat → Prop} {w : World} {L : List Nq} (h : ∀ q ∈ L, Rgs A w q.2 q.1.2) : ∀ u ∈ nqcs L, u.oneCell' = true := by
  intro u hu
  unfold nqcs at hu
  obtain ⟨c, hc, hu⟩ := List.mem_flatten.1 hu
  obtain ⟨q, hq, rfl⟩ := List.mem_map.1 hc
  obtain ⟨a, k, e⟩ := (h q hq).sl
  simp only [nqc, tc, e, List.cons_append, List.nil_append, List.mem_cons, List.not_mem_nil, or_false] at hu
  rcases hu with rfl | rfl | rfl | rfl <;> rfl
theorem box4_fr {w : World} {b : Nat} {c0 c1 c2 c3 : Value} {e : TypeId} (h : w.heap[b]? = some (.cells #[c0, c1, c2, c3] e (0, 0))) (j : Nat) : w.frozen? ⟨b, j, none⟩ = false := by simp [World.frozen?, h]
theorem box4_set {w : World} {b : Nat} {c0 c1 c2 c3 : Value} {e : TypeId} (h : w.heap[b]? = some (.cells #[c0, c1, c2, c3] e (0, 0))) (u : Value) : (w.setCell ⟨b, 3, none⟩ u).heap[b]? = some (.cells #[c0, c1, c2, u] e (0, 0)) := heap_setCell_same w b 3 _ e u h
def RaP (A A' : Nat → Prop) (w : World) (r : Int × Tb) (e : Ending) (w' : World) : Prop := ∃ v', e = .returned (.tuple #[v', .int .i64 r.1]) ∧ Nws (fun k => (A k ∨ A' k) ∨ w.heap.size ≤ k ∧ k < w'.heap.size) w' v' r.2 ∧ Below w.heap.size w w'
set_option maxRecDepth 100000 in
set_option maxHeartbeats 8000000 in
/-- Ask -/
theorem rask_any {A A' : Nat → Prop} {w : World} {v u : Value} {T : Tb} {x : Tx} {l : List Rg} (h : Nws A w v T) (h' : Rgs A' w u l) (hs : Tsrt T) (hn : T.length ≤ 1000) (hm : (tgz T x).length ≤ 10000) : Calls Try.prog 20 #[v, tv x, u] w (RaP A A' w (raskT T x l)) := by
  obtain ⟨va, vc, rfl, hvc, hvz, hat⟩ := h.at
  obtain ⟨ua, uc, rfl, huc, _, huz, hau⟩ := h'.at
  obtain ⟨W, hW, hbW, hcW⟩ := one_box w (.int .u64 (x.1.toNat : Int)) (.int .u64 (x.2.1.toNat : Int)) (.int .u64 (x.2.2.toNat : Int)) 30
  have hl' : (l.length : Int) ≤ 140737488351232 := by unfold lim at huz; omega
  have hT' : (T.length : Int) ≤ 1000 := by omega
  have HCK : Hid (∀ wz, Below w.heap.size w wz → Calls Try.prog 22 #[.slice ua l.length uc] wz fun e w' => e = .returned (.int .i64 (rck l)) ∧ Dn wz w') := fun wz hz => rcheck_any (h'.up hz)
  have HRV : Hid (∀ wz, Below w.heap.size w wz → Calls Try.prog 16 #[.slice va T.length vc, .agg #[.int .u64 (x.1.toNat : Int), .int .u64 (x.2.1.toNat : Int), .int .u64 (x.2.2.toNat : Int)], .slice ua l.length uc] wz fun e w' => ∃ v', e = .returned v' ∧ Ot wz.heap.size w' v' (rrT T x l) ∧ Below wz.heap.size wz w') := fun wz hz => rrivals_any (h.up hz) (h'.up hz) (by omega)
  have HRET : Hid (∀ wz z, Below w.heap.size w wz → RaP A A' w (z, T) (.returned (.tuple #[.slice va T.length vc, .int .i64 z])) wz) := fun wz z hz => ⟨_, rfl, (h.up hz).monoS fun k hk => .inl (.inl hk), hz⟩
  have HR : Hid (raskT T x l = if rck l ≠ 0 then (rck l, T) else if 0 < (rrT T x l).length then (11, T) else (0, tput T x (growR (tgz T x) l))) := rfl
  obtain ⟨L0, hL0, hrow, hq0, hz0⟩ := id h
  have HL0 := Hid.mk' hL0
  have HROW := Hid.mk' hrow
  have HQ0 := Hid.mk' hq0
  have HAT := Hid.mk' hat
  have HAU := Hid.mk' hau
  have HB := Hid.mk' hbW
  have HC := Hid.mk' hcW
  have HS := Hid.mk' hs
  have HM := Hid.mk' hm
  have HSW : Hid (w.heap.size ≤ W.heap.size) := hbW.size
  clear h h' hat hau hvz hbW hcW hL0 hrow hq0 hz0 hs hm
  generalize raskT T x l = rr at *
  show Calls Try.prog 20 #[.slice va T.length vc, .agg #[.int .u64 (x.1.toNat : Int), .int .u64 (x.2.1.toNat : Int), .int .u64 (x.2.2.toNat : Int)], .slice ua l.length uc] w _
  go_enter Try.func20, Try.ntmps20
  go_wp2_with fail
  rw [← hW]
  clear hW
  refine (HCK.out W HB.out).mono ?_
  rintro e w1 ⟨rfl, hd⟩
  have HB1 : Hid (Below W.heap.size W w1) := hd.below _
  clear hd HCK
  by_cases hz : rck l = 0
  case neg =>
    have hz' : (rck l == 0) = false := by simpa using hz
    have hz'' : (rck l != 0) = true := by simpa using hz
    have HF : Hid (rr = (rck l, T)) := by show _ = _; rw [HR.out, if_pos hz]
    have HE := Hid.mk' (bt HB.out HB1.out)
    clear hz HR
    generalize rck l = z at *
    go_wp2_with fail
    (try simp only [Exit.inBlock, Exit.then])
    refine bodyPost_ret (v := .tuple #[.slice va T.length vc, .int .i64 z]) (by simp [results, Try.results20, go_sem]) rfl ?_
    rw [HF.out]
    exact HRET.out _ _ HE.out
  have HR2 : Hid (rr = if 0 < (rrT T x l).length then (11, T) else (0, tput T x (growR (tgz T x) l))) := by show _ = _; rw [HR.out, if_neg (by simpa using hz)]
  rw [hz]
  have HL64 : Hid (l.length ≤ 64) := by unfold rck at hz; split at hz; cases hz; show _ ≤ _; omega
  clear hz HR
  obtain ⟨x0, x1, x2⟩ := HC.out w1 HB1.out
  go_wp2_with fail
  refine (HRV.out w1 (bt HB.out HB1.out)).mono ?_
  rintro e w2 ⟨u2, rfl, ho2, hb2⟩
  obtain ⟨ra, rcc, rfl⟩ := own_sliceN ho2
  have HB2 := Hid.mk' (bt HB1.out hb2)
  clear ho2 hb2 x0 x1 x2 HRV
  by_cases hr0 : 0 < (rrT T x l).length
  case pos =>
    have hr0' : (0 : Int) < ((rrT T x l).length : Int) := by omega
    have HF : Hid (rr = (11, T)) := by show _ = _; rw [HR2.out, if_pos hr0]
    have HE := Hid.mk' (bt HB.out HB2.out)
    clear HR2 hr0
    generalize (rrT T x l).length = nr at *
    go_wp2_with fail
    (try simp only [Exit.inBlock, Exit.then])
    refine bodyPost_ret (v := .tuple #[.slice va T.length vc, .int .i64 11]) (by simp [results, Try.results20, go_sem]) rfl ?_
    rw [HF.out]
    exact HRET.out _ _ HE.out
  have hr0' : ¬ (0 : Int) < ((rrT T x l).length : Int) := by omega
  have HF : Hid (rr = (0, tput T x (growR (tgz T x) l))) := by show _ = _; rw [HR2.out, if_neg hr0]
  clear HR2 hr0 HRET
  generalize (rrT T x l).length = nr at *
  have hd0 : decide ((0 : Int) < (nr : Int)) = false := decide_eq_false hr0'
  have hd1 : decide (0 < nr) = false := decide_eq_false (by omega)
  go_upto_block 0 with fail
  go_cut [9] (fun i wx => ∃ n : Nat, n ≤ T.length ∧ i = .int .i64 n ∧ Hid (∀ p ∈ T.take n, tltB p.1 x = true) ∧ Hid (∀ hn : n < T.length, tltB T[n].1 x = false) ∧ Hid (Below W.heap.size W wx))
  case first =>
    have HM0 : Hid (∀ p ∈ T.take 0, tltB p.1 x = true) := fun p hp => by simp at hp
    go_wp2_with fail
    go_loopw [9] (fun i wr => ∃ n : Nat, n ≤ T.length ∧ i = .int .i64 n ∧ Hid (∀ p ∈ T.take n, tltB p.1 x = true) ∧ Hid (Below W.heap.size W wr)) (fun i _ => T.length - (intOf i).toNat)
    case atStart => exact ⟨0, by omega, rfl, HM0, HB2⟩
    case round =>
      clear HM0 HB2
      obtain ⟨n, hn, rfl, HM1, HB3⟩ := hrel
      rename World => wz
      by_cases hlt : n < T.length
      case neg =>
        have hlt' : ¬ (n : Int) < (T.length : Int) := by omega
        have HST : Hid (∀ hn : n < T.length, tltB T[n].1 x = false) := fun h => absurd h hlt
        go_upto_region 7 with fail
        refine wp_region_mox 13 (fun w' => ∃ q : Kp (fun _ => False) wz, w' = q.nx) (by kernel_rfl) (by kernel_rfl) (kp_first _ wz) ?_
        simp only [List.take_succ_cons, List.take_zero, List.drop_succ_cons, List.drop_zero]
        refine mx_take 11 rfl ?_
        simp only [List.take_succ_cons, List.take_zero, List.drop_succ_cons, List.drop_zero]
        repeat (go_big_quiet_step (fail))
        refine wpQuiet_nil ?_
        with_reducible refine mx_skip (by kernel_rfl) ?_
        simp only [Act.put, List.setIfInBounds_toArray, List.set_cons_succ, List.set_cons_zero]
        refine mx_take 1 rfl ?_
        simp only [List.take_succ_cons, List.take_zero, List.drop_succ_cons, List.drop_zero]
        repeat (go_big_quiet_step (fail))
        refine wpQuiet_nil ?_
        simp only [wpMix]
        have HBN := Hid.mk' (bt HB3.out (drew_blx wz wz.heap.size))
        go_wp2_with fail
        go_meet
        exact ⟨n, hn, rfl, HM1, HST, HBN⟩
      have hlt' : (n : Int) < (T.length : Int) := by omega
      obtain ⟨bb, of, qa, qc, rfl, _, ⟨c0, c1, c2, c3⟩, hrs⟩ := HAT.out n hlt
      have c0 := cell_up c0 (bt HB.out HB3.out)
      have c1 := cell_up c1 (bt HB.out HB3.out)
      have c2 := cell_up c2 (bt HB.out HB3.out)
      obtain ⟨x0, x1, x2⟩ := HC.out wz HB3.out
      have s0 : ∀ q : Kp (fun _ => False) wz, q.nx.cell? ⟨bb, of + n * 4, none⟩ = some _ := fun q => q.cell c0 id
      have s1 : ∀ q : Kp (fun _ => False) wz, q.nx.cell? ⟨bb, of + n * 4 + 1, none⟩ = some _ := fun q => q.cell c1 id
      have s2 : ∀ q : Kp (fun _ => False) wz, q.nx.cell? ⟨bb, of + n * 4 + 2, none⟩ = some _ := fun q => q.cell c2 id
      have t0 : ∀ q : Kp (fun _ => False) wz, q.nx.cell? ⟨w.heap.size, 0, none⟩ = some _ := fun q => q.cell x0 id
      have t1 : ∀ q : Kp (fun _ => False) wz, q.nx.cell? ⟨w.heap.size, 1, none⟩ = some _ := fun q => q.cell x1 id
      have t2 : ∀ q : Kp (fun _ => False) wz, q.nx.cell? ⟨w.heap.size, 2, none⟩ = some _ := fun q => q.cell x2 id
      have HBF : Hid (Calls Try.prog 14 #[.agg #[.int .u64 (T[n].1.1.toNat : Int), .int .u64 (T[n].1.2.1.toNat : Int), .int .u64 (T[n].1.2.2.toNat : Int)], .agg #[.int .u64 (x.1.toNat : Int), .int .u64 (x.2.1.toNat : Int), .int .u64 (x.2.2.toNat : Int)]] wz.drew fun e w' => e = .returned (.bool (tltB T[n].1 x)) ∧ Below wz.drew.heap.size wz.drew w') := before_any T[n].1 x wz.drew
      have HST : Hid (tltB T[n].1 x = true ∧ (∀ p ∈ T.take (n + 1), tltB p.1 x = true) ∨ tltB T[n].1 x = false ∧ ∀ hn : n < T.length, tltB T[n].1 x = false) := by
        cases hd : tltB T[n].1 x
        · exact .inr ⟨rfl, fun _ => hd⟩
        · refine .inl ⟨rfl, fun p hp => ?_⟩
          rw [List.take_succ_eq_append_getElem hlt, List.mem_append, List.mem_singleton] at hp
          rcases hp with hp | rfl
          · exact HM1.out p hp
          · exact hd
      clear hrs c0 c1 c2 c3 x0 x1 x2
      generalize hP : tltB T[n].1 x = bd at *
      clear hP
      go_upto_region 7 with fail
      refine wp_region_mox 13 (fun w' => ∃ q : Kp (fun _ => False) wz, w' = q.nx) (by kernel_rfl) (by kernel_rfl) (kp_first _ wz) ?_
      simp only [List.take_succ_cons, List.take_zero, List.drop_succ_cons, List.drop_zero]
      refine mx_take 11 rfl ?_
      simp only [List.take_succ_cons, List.take_zero, List.drop_succ_cons, List.drop_zero]
      repeat (go_big_quiet_step (fail))
      refine wpQuiet_nil ?_
      refine mx_call (vals := [.agg #[.int .u64 (T[n].1.1.toNat : Int), .int .u64 (T[n].1.2.1.toNat : Int), .int .u64 (T[n].1.2.2.toNat : Int)], .agg #[.int .u64 (x.1.toNat : Int), .int .u64 (x.2.1.toNat : Int), .int .u64 (x.2.2.toNat : Int)]]) Try.func14 (by kernel_rfl) rfl rfl (by kernel_rfl) (by kernel_rfl) HBF.out (fun E wc hc => ?_)
      obtain ⟨rfl, hdc⟩ := hc
      have HBC := Hid.mk' (bt (drew_blx wz wz.heap.size) hdc)
      refine ⟨_, rfl, kp_mk HBC.out.size fun b hb hx => HBC.out.block b hb, ?_⟩
      simp only [Act.put, List.setIfInBounds_toArray, List.set_cons_succ, List.set_cons_zero]
      refine mx_take 1 rfl ?_
      simp only [List.take_succ_cons, List.take_zero, List.drop_succ_cons, List.drop_zero]
      repeat (go_big_quiet_step (fail))
      refine wpQuiet_nil ?_
      simp only [wpMix]
      clear s0 s1 s2 t0 t1 t2 hdc HBF
      have HBN := Hid.mk' (bt HB3.out HBC.out)
      rcases HST.out with ⟨rfl, h⟩ | ⟨rfl, h⟩
      · have HM2 := Hid.mk' h
        clear h HST
        go_wp2_with fail
        go_roundw
        case rel => exact ⟨n + 1, by omega, by go_num, HM2, HBN⟩
        case measure => simp [intOf]; omega
      · have HM2 := Hid.mk' h
        clear h HST
        go_wp2_with fail
        go_meet
        exact ⟨n, hn, rfl, HM1, HM2, HBN⟩
  case rest =>
  obtain ⟨n, hnT, rfl, HM1, HST, HB3⟩ := hcut
  clear HB2 HB1
  rename World => w3
  clear hd0 hd1
  have HLT : Hid (L0.length = T.length) := by show _ = _; rw [← HL0.out, List.length_map]
  have HRW : Hid (Row 4 A w (.slice va T.length vc) T.length (nqcs L0)) := by have := HROW.out; rwa [HLT.out] at this
  obtain ⟨x0, x1, x2⟩ := HC.out w3 HB3.out
  obtain ⟨W4, hW4⟩ : ∃ W4, W4 = w3.alloc (.cells #[.int .u64 (x.1.toNat : Int), .int .u64 (x.2.1.toNat : Int), .int .u64 (x.2.2.toNat : Int), .slice none 0 0] 59) := ⟨_, rfl⟩
  have HE4 : Hid (W4.heap[w3.heap.size]? = some (.cells #[.int .u64 (x.1.toNat : Int), .int .u64 (x.2.1.toNat : Int), .int .u64 (x.2.2.toNat : Int), .slice none 0 0] 59 (0, 0))) := by rw [hW4]; exact heap_alloc_new _ _
  have HB4 : Hid (Below w3.heap.size w3 W4) := by rw [hW4]; exact up_alloc _ _
  have HS4 : Hid (W4.heap.size = w3.heap.size + 1) := by show _ = _; rw [hW4]; simp
  obtain ⟨sa, sc, S1, hrd⟩ := row_loN (t := 38) (by kernel_rfl) Try.size38 (by decide) HRW.out n hnT
  have HLD : Hid ((L0.drop n).length = T.length - n) := by show _ = _; rw [List.length_drop, HLT.out]
  have HRD : Hid (Row 4 A w (.slice sa (L0.drop n).length sc) (L0.drop n).length (nqcs (L0.drop n))) := by rw [HLD.out, ← nqcs_drop]; exact hrd
  have HQD : Hid (∀ q ∈ L0.drop n, Rgs A w q.2 q.1.2) := fun q hq => HQ0.out q (List.mem_of_mem_drop hq)
  clear hrd
  go_upto_region 11 with fail
  rw [← hW4]
  clear hW4 x0 x1 x2 S1
  obtain ⟨x0, x1, x2⟩ := HC.out W4 (HB3.out.trans (HB4.out.mono HB3.out.size))
  go_cut [64] (fun u wx => ∃ hit : Bool, u = .bool hit ∧ Hid ((hit = true ∧ ∃ hlt : n < T.length, T[n].1 = x) ∨ (hit = false ∧ ∀ hlt : n < T.length, T[n].1 ≠ x)) ∧ Hid (wx.heap[w3.heap.size]? = some (.cells #[.int .u64 (x.1.toNat : Int), .int .u64 (x.2.1.toNat : Int), .int .u64 (x.2.2.toNat : Int), .slice none 0 0] 59 (0, 0))) ∧ Hid (Below w3.heap.size w3 wx) ∧ Hid (wx.heap.size = w3.heap.size + 1))
  case first =>
    have HEM : Hid (W4.drew.heap[w3.heap.size]? = some (.cells #[.int .u64 (x.1.toNat : Int), .int .u64 (x.2.1.toNat : Int), .int .u64 (x.2.2.toNat : Int), .slice none 0 0] 59 (0, 0))) := HE4
    have HBM : Hid (Below w3.heap.size w3 W4.drew) := bt HB4.out (drew_blx _ _)
    have HSM : Hid (W4.drew.heap.size = w3.heap.size + 1) := HS4
    rename World => wz
    by_cases hlt : n < T.length
    case neg =>
      have hlt' : ¬ (n : Int) < (T.length : Int) := by omega
      have HNH : Hid (∀ hlt : n < T.length, T[n].1 ≠ x) := fun h => absurd h hlt
      refine wp_region_mox 13 (fun w' => ∃ q : Kp (fun _ => False) wz, w' = q.nx) (by kernel_rfl) (by kernel_rfl) (kp_first _ wz) ?_
      simp only [List.take_succ_cons, List.take_zero, List.drop_succ_cons, List.drop_zero]
      refine mx_take 13 rfl ?_
      simp only [List.take_succ_cons, List.take_zero, List.drop_succ_cons, List.drop_zero]
      repeat (go_big_quiet_step (fail))
      refine wpQuiet_nil ?_
      simp only [wpMix]
      go_wp2_with fail
      go_meet
      exact ⟨false, rfl, Hid.mk' (.inr ⟨rfl, HNH.out⟩), HEM, HBM, HSM⟩
    have hlt' : (n : Int) < (T.length : Int) := by omega
    obtain ⟨bb, of, qa, qc, rfl, _, ⟨c0, c1, c2, c3⟩, hrs⟩ := HAT.out n hlt
    have HBW4 := Hid.mk' (bt HB.out (HB3.out.trans (HB4.out.mono HB3.out.size)))
    have c0 := cell_up c0 HBW4.out
    have c1 := cell_up c1 HBW4.out
    have c2 := cell_up c2 HBW4.out
    have s0 : ∀ q : Kp (fun _ => False) wz, q.nx.cell? ⟨bb, of + n * 4, none⟩ = some _ := fun q => q.cell c0 id
    have s1 : ∀ q : Kp (fun _ => False) wz, q.nx.cell? ⟨bb, of + n * 4 + 1, none⟩ = some _ := fun q => q.cell c1 id
    have s2 : ∀ q : Kp (fun _ => False) wz, q.nx.cell? ⟨bb, of + n * 4 + 2, none⟩ = some _ := fun q => q.cell c2 id
    have t0 : ∀ q : Kp (fun _ => False) wz, q.nx.cell? ⟨w.heap.size, 0, none⟩ = some _ := fun q => q.cell x0 id
    have t1 : ∀ q : Kp (fun _ => False) wz, q.nx.cell? ⟨w.heap.size, 1, none⟩ = some _ := fun q => q.cell x1 id
    have t2 : ∀ q : Kp (fun _ => False) wz, q.nx.cell? ⟨w.heap.size, 2, none⟩ = some _ := fun q => q.cell x2 id
    refine wp_region_mox 13 (fun w' => ∃ q : Kp (fun _ => False) wz, w' = q.nx) (by kernel_rfl) (by kernel_rfl) (kp_first _ wz) ?_
    simp only [List.take_succ_cons, List.take_zero, List.drop_succ_cons, List.drop_zero]
    refine mx_take 11 rfl ?_
    simp only [List.take_succ_cons, List.take_zero, List.drop_succ_cons, List.drop_zero]
    repeat (go_big_quiet_step (fail))
    refine wpQuiet_nil ?_
    refine mx_val (u := .bool (decide (T[n].1 = x))) rfl (by kernel_rfl) (fun _ _ => exec_eq30 rfl rfl rfl) ?_
    simp only [Act.put, List.setIfInBounds_toArray, List.set_cons_succ, List.set_cons_zero]
    have HIT : Hid ((decide (T[n].1 = x) = true ∧ ∃ hlt : n < T.length, T[n].1 = x) ∨ (decide (T[n].1 = x) = false ∧ ∀ hlt : n < T.length, T[n].1 ≠ x)) := by
      by_cases hyx : T[n].1 = x
      · exact .inl ⟨decide_eq_true hyx, hlt, hyx⟩
      · exact .inr ⟨decide_eq_false hyx, fun _ => hyx⟩
    generalize decide (T[n].1 = x) = dd at *
    refine mx_take 1 rfl ?_
    simp only [List.take_succ_cons, List.take_zero, List.drop_succ_cons, List.drop_zero]
    repeat (go_big_quiet_step (fail))
    refine wpQuiet_nil ?_
    simp only [wpMix]
    clear s0 s1 s2 t0 t1 t2
    go_wp2_with fail
    go_meet
    exact ⟨dd, rfl, HIT, HEM, HBM, HSM⟩
  case rest =>
  obtain ⟨hit, rfl, HIT, HE5, HB5, HS5⟩ := hcut
  clear x0 x1 x2 HE4 HB4 HS4
  rename World => wz
  have HDP : Hid ((L0.drop n).map (·.1) = T.drop n) := by show _ = _; rw [List.map_drop, HL0.out]
  go_upto_if 64 with fail
  go_cut [11] (fun u wx => ∃ (Tr : List Nq) (sa : Option Addr) (sc : Nat) (H : List Rq) (ha : Option Addr) (hc : Nat), u = .slice sa Tr.length sc ∧ Hid (Row 4 A w (.slice sa Tr.length sc) Tr.length (nqcs Tr)) ∧ Hid (∀ q ∈ Tr, Rgs A w q.2 q.1.2) ∧ Hid (∀ G, tput T x G = T.take n ++ [(x, G)] ++ Tr.map (·.1)) ∧ Hid (wx.heap[w3.heap.size]? = some (.cells #[.int .u64 (x.1.toNat : Int), .int .u64 (x.2.1.toNat : Int), .int .u64 (x.2.2.toNat : Int), .slice ha H.length hc] 59 (0, 0))) ∧ Hid (wx.ownsRow (w3.heap.size + 1) 24 3 (.slice ha H.length hc) H.length (rcs H)) ∧ Hid (∀ q ∈ H, Rqi A w q) ∧ Hid (H.map (·.1) = tgz T x) ∧ Hid (Below w3.heap.size w3 wx))
  case first =>
    rcases HIT.out with ⟨rfl, hlt, hyx⟩ | ⟨rfl, hyx⟩
    case inr =>
      have HPM : Hid (∀ G, tput T x G = T.take n ++ [(x, G)] ++ (L0.drop n).map (·.1)) := fun G => by rw [HDP.out]; exact (put_miss HS.out hnT G HM1.out fun h => ⟨HST.out h, hyx h⟩).1
      have HZM : Hid (([] : List Rq).map (·.1) = tgz T x) := ((put_miss HS.out hnT [] HM1.out fun h => ⟨HST.out h, hyx h⟩).2).symm
      have HOM : Hid (wz.ownsRow (w3.heap.size + 1) 24 3 (.slice none 0 0) ([] : List Rq).length (rcs [])) := World.ownsRow_nil _ _ 24 3
      have HQM : Hid (∀ q ∈ ([] : List Rq), Rqi A w q) := fun q hq => by cases hq
      have HEM : Hid (wz.heap[w3.heap.size]? = some (.cells #[.int .u64 (x.1.toNat : Int), .int .u64 (x.2.1.toNat : Int), .int .u64 (x.2.2.toNat : Int), .slice none ([] : List Rq).length 0] 59 (0, 0))) := HE5
      clear hyx HIT
      go_wp2_with fail
      go_meet
      exact ⟨L0.drop n, sa, sc, [], none, 0, by rw [HLD.out], HRD, HQD, HPM, HEM, HOM, HQM, HZM, HB5⟩
    clear HIT
    have hlt' : (n : Int) < (T.length : Int) := by omega
    obtain ⟨bb, of, qa, qc, rfl, _, ⟨c0, c1, c2, c3⟩, hrs⟩ := HAT.out n hlt
    have HBW4 := Hid.mk' (bt HB.out (HB3.out.trans (HB5.out.mono HB3.out.size)))
    have c0 := cell_up c0 HBW4.out
    have c3 := cell_up c3 HBW4.out
    have HPH := fun G => put_hit hlt G HM1.out hyx
    obtain ⟨ta', tc', S2, hrd⟩ := row_loN (t := 38) (by kernel_rfl) Try.size38 (by decide) HRW.out (n + 1) hlt
    have S2 : ∀ w, (Instr.slice 38 (.slice (some ⟨bb, of, none⟩) T.length vc) (some (.int .i64 ((n : Int) + 1))) none none).run Try.prog w = .ok (.slice ta' (T.length - (n + 1)) tc') w := S2
    have HLD2 : Hid ((L0.drop (n + 1)).length = T.length - (n + 1)) := by show _ = _; rw [List.length_drop, HLT.out]
    have HRD2 : Hid (Row 4 A w (.slice ta' (L0.drop (n + 1)).length tc') (L0.drop (n + 1)).length (nqcs (L0.drop (n + 1)))) := by rw [HLD2.out, ← nqcs_drop]; exact hrd
    have HQD2 : Hid (∀ q ∈ L0.drop (n + 1), Rgs A w q.2 q.1.2) := fun q hq => HQ0.out q (List.mem_of_mem_drop hq)
    have HPM : Hid (∀ G, tput T x G = T.take n ++ [(x, G)] ++ (L0.drop (n + 1)).map (·.1)) := fun G => by rw [List.map_drop, HL0.out]; exact (HPH G).1
    have HZH : Hid (tgz T x = T[n].2) := (HPH []).2
    have HML : Hid (T[n].2.length ≤ 10000) := by have := HM.out; rwa [HZH.out] at this
    obtain ⟨R, hR, hrR, hqR, hzR⟩ := hrs
    have hRl : R.length = T[n].2.length := by rw [← hR, List.length_map]
    have HRL := Hid.mk' hRl
    have HRR : Hid (Row 3 A w (.slice qa T[n].2.length qc) R.length (rcs R)) := hrR
    have HQR := Hid.mk' hqR
    have HRM := Hid.mk' hR
    have hbt2 := World.block_lt_of_cell? wz ⟨bb, of + n * 4, none⟩ c0
    have HE1 : Hid ((wz.alloc (.cells #[] 24)).ownsRow (w3.heap.size + 1) 24 3 (.slice (some ⟨wz.heap.size, 0, none⟩) 0 0) 0 []) := own_empty3 (Nat.le_of_eq HS5.out.symm)
    have HSR : Hid (Row 3 A (wz.alloc (.cells #[] 24)) (.slice qa T[n].2.length qc) R.length (rcs R)) := HRR.out.up (bt HBW4.out (up_alloc _ _))
    have H1 := Hid.mk' (rcs_one hqR)
    clear hrd hR hrR hqR hzR hRl HPH hyx
    have hn1 : IntKind.i64.wrap ((n : Int) + 1) = (n : Int) + 1 := by rw [IntKind.wrap_i64]; omega
    have HUP := Hid.mk' (up_alloc wz (.cells #[] 24))
    have HQ1 : Hid (w3.heap.size < wz.heap.size) := by show _ < _; rw [HS5.out]; omega
    go_wp2_with (at_builtin; go_must (refine wpl_app rfl (.tmp 65) (.tmp 70) 40 rfl Try.underlying40 Try.info24 rfl (by decide) rfl HE1.out rfl HSR.out H1.out (by have := HRL.out; have := HML.out; unfold maxLen; omega) (by have := HRL.out; have := HML.out; omega) (Nat.le_trans (Nat.le_of_eq HS5.out.symm) (up_alloc wz _).size) ?_); intro v6 w6 ho hg hn2 hbb; obtain ⟨a6, c6, e6⟩ := own_sliceN ho; rw [Nat.zero_add] at e6; subst e6; clear hn2 hbb; have HE6 : Hid (w6.heap[w3.heap.size]? = some (.cells #[.int .u64 (x.1.toNat : Int), .int .u64 (x.2.1.toNat : Int), .int .u64 (x.2.2.toNat : Int), .slice none 0 0] 59 (0, 0))) := (hg.block _ (Nat.lt_of_lt_of_le HQ1.out HUP.out.size) (fun e => Nat.ne_of_lt HQ1.out (Option.some.inj e))).trans ((HUP.out.block _ HQ1.out).trans HE5.out); obtain ⟨y0, y1, y2, y3⟩ := box4 HE6.out; have f3 := box4_fr HE6.out 3)
    have HB6 : Hid (Below w3.heap.size w3 w6) := below_app (bt HB5.out HUP.out) HE1.out hg (Nat.le_succ _) (Nat.le_trans (Nat.le_of_lt HQ1.out) HUP.out.size)
    have HO6 : Hid (w6.ownsRow (w3.heap.size + 1) 24 3 (.slice a6 R.length c6) R.length (rcs R)) := by have := ho; rwa [Nat.zero_add, List.nil_append] at this
    have hw7 := Wb.set (X := fun k => k = w3.heap.size) w6 w3.heap.size 3 (.slice a6 R.length c6) rfl
    have HE7 : Hid ((w6.setCell ⟨w3.heap.size, 3, none⟩ (.slice a6 R.length c6)).heap[w3.heap.size]? = some (.cells #[.int .u64 (x.1.toNat : Int), .int .u64 (x.2.1.toNat : Int), .int .u64 (x.2.2.toNat : Int), .slice a6 R.length c6] 59 (0, 0))) := box4_set HE6.out _
    have HO7 : Hid ((w6.setCell ⟨w3.heap.size, 3, none⟩ (.slice a6 R.length c6)).ownsRow (w3.heap.size + 1) 24 3 (.slice a6 R.length c6) R.length (rcs R)) := own_wb HO6.out hw7 fun k hk e => by subst hk; have := (World.ownsRow.lt HO6.out _ e.symm).1; omega
    have HB7 : Hid (Below w3.heap.size w3 (w6.setCell ⟨w3.heap.size, 3, none⟩ (.slice a6 R.length c6))) := HB6.out.trans (hw7.below HB6.out.size fun k hk => by subst hk; exact Nat.le_refl _)
    have HRM2 : Hid (R.map (·.1) = tgz T x) := by show _ = _; rw [HRM.out, HZH.out]
    clear ho hg hw7 c0 c3 HE1 HSR H1
    (try go_wp2_with fail)
    go_meet
    exact ⟨L0.drop (n + 1), ta', tc', R, a6, c6, by rw [HLD2.out], HRD2, HQD2, HPM, HE7, HO7, HQR, HRM2, HB7⟩
  case rest =>
  obtain ⟨Tr, ra2, rc2, H0, ha0, hc0, rfl, HRT, HQT, HPM, HE7, HO7, HQH, HHM, HB7⟩ := hcut
  clear HIT HE5 HB5 HS5 HDP HRD HQD HLD HM1 HST HAT
  have HQH0 : Hid (∀ q ∈ H0, Rqi (fun k => A k ∨ A' k) w q) := fun q hq => ⟨(HQH.out q hq).1.monoS fun k hk => .inl hk, (HQH.out q hq).2.monoS fun k hk => .inl hk⟩
  have HG0 : Hid (growR (tgz T x) l = growR (H0.map (·.1)) (l.drop 0)) := by show _ = _; rw [HHM.out]; rfl
  have HL0' : Hid (H0.length ≤ 10000 + 0) := by have h := HM.out; rw [← HHM.out, List.length_map] at h; exact h
  have hl64 : (l.length : Int) ≤ 64 := by have := HL64.out; omega
  clear HQH HHM hl'
  generalize growR (tgz T x) l = G at *
  go_wp2_with fail
  go_loopw [12] (fun i wr => ∃ (k : Nat) (H : List Rq) (ha : Option Addr) (hc : Nat), k ≤ l.length ∧ i = .int .i64 k ∧ Hid (wr.heap[w3.heap.size]? = some (.cells #[.int .u64 (x.1.toNat : Int), .int .u64 (x.2.1.toNat : Int), .int .u64 (x.2.2.toNat : Int), .slice ha H.length hc] 59 (0, 0))) ∧ Hid (wr.ownsRow (w3.heap.size + 1) 24 3 (.slice ha H.length hc) H.length (rcs H)) ∧ Hid (∀ q ∈ H, Rqi (fun k => A k ∨ A' k) w q) ∧ Hid (G = growR (H.map (·.1)) (l.drop k)) ∧ Hid (H.length ≤ 10000 + k) ∧ Hid (Below w3.heap.size w3 wr)) (fun i _ => l.length - (intOf i).toNat)
  case atStart => exact ⟨0, H0, ha0, hc0, by omega, rfl, HE7, HO7, HQH0, HG0, HL0', HB7⟩
  case round =>
    clear HE7 HO7 HQH0 HG0 HL0' HB7
    obtain ⟨k, H, ha, hc, hk, rfl, HE, HO, HQ, HG, HLH, HBK⟩ := hrel
    rename World => wk
    by_cases hlt : k < l.length
    case neg =>
      obtain rfl : k = l.length := by omega
      have HGE : Hid (G = H.map (·.1)) := by show _ = _; rw [HG.out, List.drop_length]; rfl
      have HTL : Hid (n + 1 + Tr.length ≤ 1001) := by
        have h := congrArg List.length (HPM.out [])
        have h2 := len_tput T HS.out x []
        rw [List.length_append, List.length_append, List.length_take, List.length_map, Nat.min_eq_left hnT, List.length_singleton] at h
        show _ ≤ _
        split at h2 <;> omega
      have HSU : Hid (w3.heap.size < wk.heap.size) := (Array.getElem?_eq_some_iff.1 HE.out).1
      have HBWK := Hid.mk' (bt HB.out (HB3.out.trans (HBK.out.mono HB3.out.size)))
      obtain ⟨sa2, sc2, S3, hrd⟩ := row_hiN (t := 38) (by kernel_rfl) Try.size38 (by decide) HRW.out n hnT
      rw [nqcs_take] at hrd
      have HUPA := Hid.mk' (up_alloc wk (.cells #[] 59))
      have HE1 : Hid ((wk.alloc (.cells #[] 59)).ownsRow wk.heap.size 59 4 (.slice (some ⟨wk.heap.size, 0, none⟩) 0 0) 0 []) := own_empty3 (Nat.le_refl _)
      have HSR : Hid (Row 4 A (wk.alloc (.cells #[] 59)) (.slice sa2 n sc2) n (nqcs (L0.take n))) := hrd.up (bt HBWK.out HUPA.out)
      have HQ1' : Hid (∀ q ∈ L0.take n, Rgs A w q.2 q.1.2) := fun q hq => HQ0.out q (List.mem_of_mem_take hq)
      have H1 := Hid.mk' (nq_one HQ1'.out)
      have HTN : Hid ((L0.take n).length = n) := by show _ = _; rw [List.length_take, HLT.out]; omega
      clear hrd
      go_upto_region 25 with (at_builtin; go_must (refine wpl_app rfl (.tmp 114) (.tmp 117) 38 rfl Try.underlying38 Try.info59 rfl (by decide) rfl HE1.out rfl HSR.out H1.out (by unfold maxLen; omega) (by omega) HUPA.out.size ?_); intro v6 w6 ho hg hn2 hbb; obtain ⟨a6, c6, e6⟩ := own_sliceN ho; rw [Nat.zero_add] at e6; subst e6; clear hn2 hbb)
      clear S3
      have HB6 : Hid (Below wk.heap.size wk w6) := below_app HUPA.out HE1.out hg (Nat.le_refl _) HUPA.out.size
      have HO6 : Hid (w6.ownsRow wk.heap.size 59 4 (.slice a6 n c6) n (nqcs (L0.take n))) := by have := ho; rw [List.nil_append, Nat.zero_add] at this; exact this
      have HE6 : Hid (w6.heap[w3.heap.size]? = some (.cells #[.int .u64 (x.1.toNat : Int), .int .u64 (x.2.1.toNat : Int), .int .u64 (x.2.2.toNat : Int), .slice ha H.length hc] 59 (0, 0))) := (HB6.out.block _ HSU.out).trans HE.out
      have HUP6 := Hid.mk' (up_alloc w6 (.cells #[.int .u64 (x.1.toNat : Int), .int .u64 (x.2.1.toNat : Int), .int .u64 (x.2.2.toNat : Int), .slice ha H.length hc] 59))
      have HO7 := Hid.mk' (own_keep HO6.out HUP6.out (Nat.le_refl _))
      have HB7 := Hid.mk' (bt HB6.out HUP6.out)
      obtain ⟨y0, y1, y2, y3⟩ := box4 HE6.out
      clear ho hg HE1 HSR H1
      go_upto_region 26 with (at_builtin; go_must (refine wpl_app rfl (.tmp 119) (.tmp 121) 38 rfl Try.underlying38 Try.info59 rfl (by decide) rfl HO7.out rfl row_one4 (by intro u hu; simp only [List.mem_cons, List.not_mem_nil, or_false] at hu; rcases hu with rfl | rfl | rfl | rfl <;> rfl) (by have := HTL.out; unfold maxLen; omega) (by have := HTL.out; omega) HB7.out.size ?_); intro v8 w8 ho hg hn2 hbb; obtain ⟨a8, c8, e8⟩ := own_sliceN ho; subst e8; clear hn2 hbb)
      have HB8 : Hid (Below wk.heap.size wk w8) := below_app HB7.out HO7.out hg (Nat.le_refl _) HB7.out.size
      have HO8 := Hid.mk' ho
      have HBW8 := Hid.mk' (bt HBWK.out HB8.out)
      have HSR8 : Hid (Row 4 A w8 (.slice ra2 Tr.length rc2) Tr.length (nqcs Tr)) := HRT.out.up HBW8.out
      have H1T := Hid.mk' (nq_one HQT.out)
      clear ho hg y0 y1 y2 y3
      go_wp2_with (at_builtin; go_must (refine wpl_app rfl (.tmp 123) (.tmp 124) 38 rfl Try.underlying38 Try.info59 rfl (by decide) rfl HO8.out rfl HSR8.out H1T.out (by have := HTL.out; unfold maxLen; omega) (by have := HTL.out; omega) HB8.out.size ?_); intro v10 w10 ho hg hn2 hbb; obtain ⟨a10, c10, e10⟩ := own_sliceN ho; subst e10; clear hn2 hbb)
      have HB10 : Hid (Below wk.heap.size wk w10) := below_app HB8.out HO8.out hg (Nat.le_refl _) HB8.out.size
      (try simp only [Exit.inBlock, Exit.then])
      refine bodyPost_ret (v := .tuple #[.slice a10 (n + 1 + Tr.length) c10, .int .i64 0]) (by simp [results, Try.results20, go_sem]) rfl ?_
      rw [HF.out]
      have hbw := bt HBWK.out HB10.out
      have hmap : (L0.take n ++ [((((x, H.map (·.1)), .slice ha H.length hc) : Nq))] ++ Tr).map (·.1) = tput T x G := by
        rw [HPM.out G, List.map_append, List.map_append, List.map_take, HL0.out, HGE.out]; rfl
      have hll : (L0.take n ++ [((((x, H.map (·.1)), .slice ha H.length hc) : Nq))] ++ Tr).length = n + 1 + Tr.length := by
        rw [List.length_append, List.length_append, HTN.out]; rfl
      refine ⟨_, rfl, ⟨_, hmap, ?_, fun q hq => ?_, by rw [hll]; have := HTL.out; unfold lim; omega⟩, hbw⟩
      · rw [hll, nqcs_app, nqcs_app]
        refine ((Row.of_ownB ho).andLtR).monoS fun k hk => .inr ⟨?_, hk.2⟩
        have := HBWK.out.size
        omega
      · rw [List.mem_append, List.mem_append, List.mem_singleton] at hq
        rcases hq with (hq | rfl) | hq
        · exact ((HQ1'.out q hq).up hbw).monoS fun k hk => .inl (.inl hk)
        · have hrow := (((Row.of_ownB HO.out).andLtR).up HB10.out)
          refine ⟨H, rfl, hrow.monoS fun k hk => .inr ⟨?_, Nat.lt_of_lt_of_le hk.2 HB10.out.size⟩, fun q hq => ⟨((HQ.out q hq).1.up hbw).monoS fun k hk => .inl hk, ((HQ.out q hq).2.up hbw).monoS fun k hk => .inl hk⟩, by have := HLH.out; unfold lim; omega⟩
          have h1 := hk.1
          have h2 := HB3.out.size
          have h3 := HSW.out
          omega
        · exact ((HQT.out q hq).up hbw).monoS fun k hk => .inl (.inl hk)
    have hlt' : (k : Int) < (l.length : Int) := by omega
    obtain ⟨b4, o4, ga, gc, gd, gf, rfl, _, ⟨e0, e1, e2⟩, hlo, hhi⟩ := HAU.out k hlt
    have HBWK := Hid.mk' (bt HB.out (HB3.out.trans (HBK.out.mono HB3.out.size)))
    have HEK : Hid (∀ wz, Below wk.heap.size wk wz → wz.cell? ⟨b4, o4 + k * 3, none⟩ = some (.slice ga l[k].lo.length gc) ∧ wz.cell? ⟨b4, o4 + k * 3 + 1, none⟩ = some (.slice gd l[k].hi.length gf) ∧ wz.cell? ⟨b4, o4 + k * 3 + 2, none⟩ = some (.bool l[k].xc)) := fun wz hz => ⟨cell_up e0 (bt HBWK.out hz), cell_up e1 (bt HBWK.out hz), cell_up e2 (bt HBWK.out hz)⟩
    have HRK : Hid (∀ wz, Below wk.heap.size wk wz → RgIs A' wz (.agg #[.slice ga l[k].lo.length gc, .slice gd l[k].hi.length gf, .bool l[k].xc]) l[k]) := fun wz hz => ⟨_, _, rfl, hlo.up (bt HBWK.out hz), hhi.up (bt HBWK.out hz)⟩
    have HLO : Hid (Bs A' w (.slice ga l[k].lo.length gc) l[k].lo ∧ Bs A' w (.slice gd l[k].hi.length gf) l[k].hi) := ⟨hlo, hhi⟩
    have HBX : Hid (∀ wz, Below wk.heap.size wk wz → wz.heap[w3.heap.size]? = some (.cells #[.int .u64 (x.1.toNat : Int), .int .u64 (x.2.1.toNat : Int), .int .u64 (x.2.2.toNat : Int), .slice ha H.length hc] 59 (0, 0))) := fun wz hz => (hz.block _ (Array.getElem?_eq_some_iff.1 HE.out).1).trans HE.out
    have hHR : Rgs (fun _ => True) wk (.slice ha H.length hc) (H.map (·.1)) := ⟨H, rfl, (Row.of_ownB HO.out).monoS fun _ _ => trivial, fun q hq => ⟨((HQ.out q hq).1.up HBWK.out).monoS fun _ _ => trivial, ((HQ.out q hq).2.up HBWK.out).monoS fun _ _ => trivial⟩, by have := HLH.out; unfold lim; omega⟩
    obtain ⟨_, _, eh, _, _, _, hath⟩ := hHR.at
    obtain ⟨rfl, -, rfl⟩ := Value.slice.inj eh
    clear eh
    have HATH := Hid.mk' hath
    have HHL : Hid ((H.map (·.1)).length = H.length) := List.length_map ..
    have HGS : Hid (G = growR (if (H.map (·.1)).any (fun h => cvB h l[k]) then H.map (·.1) else H.map (·.1) ++ [l[k]]) (l.drop (k + 1))) := by
      show _ = _
      rw [HG.out, List.drop_eq_getElem_cons hlt]; rfl
    have HC0 : Hid (false = ((H.map (·.1)).take 0).any fun h => cvB h l[k]) := by show _ = _; simp
    have HKK : Hid (Below wk.heap.size wk wk) := Below.refl _ _
    have hHl : (H.length : Int) ≤ 10064 := by have := HLH.out; omega
    clear hlo hhi e0 e1 e2 hHR hath HG HE
    go_wp2_with fail
    go_loopw [13, 14] (fun bd j wr => ∃ (m : Nat) (b : Bool), m ≤ H.length ∧ j = .int .i64 m ∧ bd = .bool b ∧ Hid (b = ((H.map (·.1)).take m).any fun h => cvB h l[k]) ∧ Hid (Below wk.heap.size wk wr)) (fun _ j _ => H.length - (intOf j).toNat)
    case atStart => exact ⟨0, false, by omega, rfl, rfl, HC0, HKK⟩
    case round =>
      clear HC0 HKK
      obtain ⟨m, b, hm, rfl, rfl, HCV, HB2'⟩ := hrel
      rename World => wz
      obtain ⟨y0, y1, y2, y3⟩ := box4 (HBX.out wz HB2'.out)
      obtain ⟨e0, e1, e2⟩ := HEK.out wz HB2'.out
      have s3 : ∀ q : Kp (fun _ => False) wz, q.nx.cell? ⟨w3.heap.size, 3, none⟩ = some _ := fun q => q.cell y3 id
      have u0 : ∀ q : Kp (fun _ => False) wz, q.nx.cell? ⟨b4, o4 + k * 3, none⟩ = some _ := fun q => q.cell e0 id
      have u1 : ∀ q : Kp (fun _ => False) wz, q.nx.cell? ⟨b4, o4 + k * 3 + 1, none⟩ = some _ := fun q => q.cell e1 id
      have u2 : ∀ q : Kp (fun _ => False) wz, q.nx.cell? ⟨b4, o4 + k * 3 + 2, none⟩ = some _ := fun q => q.cell e2 id
      by_cases hlm : m < H.length
      case neg =>
        obtain rfl : m = H.length := by omega
        have HF : Hid (b = (H.map (·.1)).any fun h => cvB h l[k]) := by have := HCV.out; rwa [List.take_of_length_le (Nat.le_of_eq HHL.out)] at this
        clear HCV
        rcases b with _ | _
        case «true» =>
          have HG2 : Hid (G = growR (H.map (·.1)) (l.drop (k + 1))) := by show _ = _; rw [HGS.out, ← HF.out]; rfl
          have HE2 := Hid.mk' (HBX.out wz HB2'.out)
          have HO2 := Hid.mk' (own_keep HO.out HB2'.out (Nat.le_refl _))
          have HL2 : Hid (H.length ≤ 10000 + (k + 1)) := by have := HLH.out; show _ ≤ _; omega
          have HB2'' := Hid.mk' (HBK.out.trans (HB2'.out.mono HBK.out.size))
          clear s3 u0 u1 u2 e0 e1 e2
          go_wp2_with fail
          go_roundw
          case rel => exact ⟨k + 1, H, ha, hc, by omega, by go_num, HE2, HO2, HQ, HG2, HL2, HB2''⟩
          case measure => simp [intOf]; omega
        have HG2 : Hid (G = growR (H.map (·.1) ++ [l[k]]) (l.drop (k + 1))) := by show _ = _; rw [HGS.out, ← HF.out]; rfl
        generalize l[k] = g at *
        generalize hn4 : g.lo.length = n4 at *
        generalize hn5 : g.hi.length = n5 at *
        generalize hn6 : g.xc = n6 at *
        have HN6 := Hid.mk' hn6
        clear hn4 hn5 hn6
        go_upto_region 23 with fail
        refine wp_region_mox 7 (fun w' => ∃ q : Kp (fun _ => False) wz, w' = q.nx) (by kernel_rfl) (by kernel_rfl) (kp_first _ wz) ?_
        simp only [List.take_succ_cons, List.take_zero, List.drop_succ_cons, List.drop_zero]
        refine mx_take 6 rfl ?_
        simp only [List.take_succ_cons, List.take_zero, List.drop_succ_cons, List.drop_zero]
        repeat (go_big_quiet_step (fail))
        refine wpQuiet_nil ?_
        have hupb := up_alloc wz.drew (.cells #[.slice ga n4 gc, .slice gd n5 gf, .bool n6] 24)
        refine mx_make (w' := wz.drew.alloc (.cells #[.slice ga n4 gc, .slice gd n5 gf, .bool n6] 24)) (by kernel_rfl) (by kernel_rfl) (exec_bs rfl rfl) (kp_mk (Nat.le_trans (drew_blx wz wz.heap.size).size hupb.size) fun b hb hx => (bt (drew_blx wz wz.heap.size) hupb).block b hb) ?_
        simp only [Act.put, List.setIfInBounds_toArray, List.set_cons_succ, List.set_cons_zero]
        simp only [wpMix]
        have HBU := Hid.mk' (bt HB2'.out (bt (drew_blx wz wz.heap.size) hupb))
        have HOU := Hid.mk' (own_keep HO.out HBU.out (Nat.le_refl _))
        have HEU := Hid.mk' (HBX.out _ HBU.out)
        have HSU : Hid (w3.heap.size + 1 ≤ wk.heap.size) := (Array.getElem?_eq_some_iff.1 (HBX.out wk (Below.refl _ _))).1
        have HLTU : Hid (w3.heap.size < (wz.drew.alloc (.cells #[.slice ga n4 gc, .slice gd n5 gf, .bool n6] 24)).heap.size) := Nat.lt_of_lt_of_le HSU.out HBU.out.size
        have HNB : Hid (∀ i, (Value.slice ha H.length hc).ownBlock = some i → w3.heap.size + 1 ≤ i) := fun i hi => (World.ownsRow.lt HO.out i hi).1
        have HBN := Hid.mk' (HBK.out.trans (HBU.out.mono HBK.out.size))
        clear s3 u0 u1 u2 e0 e1 e2 y0 y1 y2 y3 hupb
        go_wp2_with (at_builtin; go_must (refine wpl_app rfl (.tmp 106) (.tmp 111) 40 rfl Try.underlying40 Try.info24 rfl (by decide) rfl HOU.out rfl row_one3 (by intro u hu; simp only [List.mem_cons, List.not_mem_nil, or_false] at hu; rcases hu with rfl | rfl | rfl <;> rfl) (by have := HLH.out; unfold maxLen; omega) (by have := HLH.out; omega) (Nat.le_trans HSU.out HBU.out.size) ?_); intro v6 w6 ho hg hn2 hbb; obtain ⟨a6, c6, e6⟩ := own_sliceN ho; subst e6; clear hn2 hbb; have HE6 : Hid (w6.heap[w3.heap.size]? = some (.cells #[.int .u64 (x.1.toNat : Int), .int .u64 (x.2.1.toNat : Int), .int .u64 (x.2.2.toNat : Int), .slice ha H.length hc] 59 (0, 0))) := (hg.block _ HLTU.out (fun e => by have := HNB.out _ e.symm; omega)).trans HEU.out; obtain ⟨y0, y1, y2, y3⟩ := box4 HE6.out; have f3 := box4_fr HE6.out 3)
        have HB6 : Hid (Below w3.heap.size w3 w6) := below_app HBN.out HOU.out hg (Nat.le_succ _) (Nat.le_of_lt HLTU.out)
        have HL6 : Hid (H.length + 1 = (H ++ [((g, .slice ga n4 gc, .slice gd n5 gf) : Rq)]).length) := by show _ = _; rw [List.length_append]; rfl
        have HO6 : Hid (w6.ownsRow (w3.heap.size + 1) 24 3 (.slice a6 (H.length + 1) c6) (H ++ [((g, .slice ga n4 gc, .slice gd n5 gf) : Rq)]).length (rcs (H ++ [((g, .slice ga n4 gc, .slice gd n5 gf) : Rq)]))) := by
          rw [rcs_app, ← HL6.out, show rcs [((g, .slice ga n4 gc, .slice gd n5 gf) : Rq)] = [.slice ga n4 gc, .slice gd n5 gf, .bool n6] by rw [← HN6.out]; rfl]
          exact ho
        have hw7 := Wb.set (X := fun k => k = w3.heap.size) w6 w3.heap.size 3 (.slice a6 (H.length + 1) c6) rfl
        have HE7 : Hid ((w6.setCell ⟨w3.heap.size, 3, none⟩ (.slice a6 (H.length + 1) c6)).heap[w3.heap.size]? = some (.cells #[.int .u64 (x.1.toNat : Int), .int .u64 (x.2.1.toNat : Int), .int .u64 (x.2.2.toNat : Int), .slice a6 (H ++ [((g, .slice ga n4 gc, .slice gd n5 gf) : Rq)]).length c6] 59 (0, 0))) := by rw [← HL6.out]; exact box4_set HE6.out _
        have HO7 : Hid ((w6.setCell ⟨w3.heap.size, 3, none⟩ (.slice a6 (H.length + 1) c6)).ownsRow (w3.heap.size + 1) 24 3 (.slice a6 (H ++ [((g, .slice ga n4 gc, .slice gd n5 gf) : Rq)]).length c6) (H ++ [((g, .slice ga n4 gc, .slice gd n5 gf) : Rq)]).length (rcs (H ++ [((g, .slice ga n4 gc, .slice gd n5 gf) : Rq)]))) := by
          have h := own_wb HO6.out hw7 fun k hk e => by subst hk; have := (World.ownsRow.lt HO6.out _ e.symm).1; omega
          rw [← HL6.out] at h ⊢
          exact h
        have HB7 : Hid (Below w3.heap.size w3 (w6.setCell ⟨w3.heap.size, 3, none⟩ (.slice a6 (H.length + 1) c6))) := HB6.out.trans (hw7.below HB6.out.size fun k hk => by subst hk; exact Nat.le_refl _)
        have HQ7 : Hid (∀ q ∈ H ++ [((g, .slice ga n4 gc, .slice gd n5 gf) : Rq)], Rqi (fun k => A k ∨ A' k) w q) := fun q hq => by
          rw [List.mem_append, List.mem_singleton] at hq
          rcases hq with hq | rfl
          · exact HQ.out q hq
          · exact ⟨HLO.out.1.monoS fun k hk => .inr hk, HLO.out.2.monoS fun k hk => .inr hk⟩
        have HG7 : Hid (G = growR ((H ++ [((g, .slice ga n4 gc, .slice gd n5 gf) : Rq)]).map (·.1)) (l.drop (k + 1))) := by show _ = _; rw [List.map_append]; exact HG2.out
        have HL7 : Hid ((H ++ [((g, .slice ga n4 gc, .slice gd n5 gf) : Rq)]).length ≤ 10000 + (k + 1)) := by have := HLH.out; show _ ≤ _; rw [← HL6.out]; omega
        clear ho hg hw7
        (try go_wp2_with fail)
        go_roundw
        case rel => exact ⟨k + 1, _, a6, c6, by omega, by go_num, HE7, HO7, HQ7, HG7, HL7, HB7⟩
        case measure => simp [intOf]; omega
      have hlm' : (m : Int) < (H.length : Int) := by omega
      obtain ⟨b2, o2, fa, fc, ta, tc', rfl, _, ⟨d0, d1, d2⟩, hlo, hhi⟩ := HATH.out m (by rw [HHL.out]; exact hlm)
      have d0 := cell_up d0 HB2'.out
      have d1 := cell_up d1 HB2'.out
      have d2 := cell_up d2 HB2'.out
      have t0 : ∀ q : Kp (fun _ => False) wz, q.nx.cell? ⟨b2, o2 + m * 3, none⟩ = some _ := fun q => q.cell d0 id
      have t1 : ∀ q : Kp (fun _ => False) wz, q.nx.cell? ⟨b2, o2 + m * 3 + 1, none⟩ = some _ := fun q => q.cell d1 id
      have t2 : ∀ q : Kp (fun _ => False) wz, q.nx.cell? ⟨b2, o2 + m * 3 + 2, none⟩ = some _ := fun q => q.cell d2 id
      have hmm : m < (H.map (·.1)).length := by rw [HHL.out]; exact hlm
      have HRC : Hid (Calls Try.prog 12 #[.agg #[.slice fa ((List.map (fun q : Rq => q.1) H)[m]'hmm).lo.length fc, .slice ta ((List.map (fun q : Rq => q.1) H)[m]'hmm).hi.length tc', .bool ((List.map (fun q : Rq => q.1) H)[m]'hmm).xc], .agg #[.slice ga l[k].lo.length gc, .slice gd l[k].hi.length gf, .bool l[k].xc]] wz.drew fun e w' => e = .returned (.bool (cvB ((List.map (fun q : Rq => q.1) H)[m]'hmm) l[k])) ∧ Below wz.drew.heap.size wz.drew w') := by
        have := rcovers_any (r := (List.map (fun q : Rq => q.1) H)[m]'hmm) (s := l[k]) (⟨_, _, rfl, (hlo.up HB2'.out).up (drew_blx _ _), (hhi.up HB2'.out).up (drew_blx _ _)⟩ : RgIs (fun _ => True) wz.drew (.agg #[.slice fa ((List.map (fun q : Rq => q.1) H)[m]'hmm).lo.length fc, .slice ta ((List.map (fun q : Rq => q.1) H)[m]'hmm).hi.length tc', .bool ((List.map (fun q : Rq => q.1) H)[m]'hmm).xc]) ((List.map (fun q : Rq => q.1) H)[m]'hmm)) (HRK.out wz.drew (bt HB2'.out (drew_blx _ _)))
        rw [← cv_eq] at this
        exact this
      have HAN := Hid.mk' (any_take (f := fun h => cvB h l[k]) hmm)
      clear d0 d1 d2 e0 e1 e2 y0 y1 y2 hlo hhi
      generalize (List.map (fun q : Rq => q.1) H)[m]'hmm = h at *
      generalize hrr : l[k] = g at *
      clear hrr
      generalize cvB h g = hg at *
      generalize h.lo.length = n1 at *
      generalize h.hi.length = n2 at *
      generalize h.xc = n3 at *
      generalize g.lo.length = n4 at *
      generalize g.hi.length = n5 at *
      generalize g.xc = n6 at *
      go_upto_region 21 with fail
      refine wp_region_mox 14 (fun w' => ∃ q : Kp (fun _ => False) wz, w' = q.nx) (by kernel_rfl) (by kernel_rfl) (kp_first _ wz) ?_
      simp only [List.take_succ_cons, List.take_zero, List.drop_succ_cons, List.drop_zero]
      rcases b with _ | _
      · have HF : Hid (hg = ((H.map (·.1)).take (m + 1)).any fun h => cvB h g) := by show _ = _; rw [HAN.out, ← HCV.out]; rfl
        refine mx_take 11 rfl ?_
        simp only [List.take_succ_cons, List.take_zero, List.drop_succ_cons, List.drop_zero]
        repeat (go_big_quiet_step (fail))
        refine wpQuiet_nil ?_
        refine mx_call (vals := [.agg #[.slice fa n1 fc, .slice ta n2 tc', .bool n3], .agg #[.slice ga n4 gc, .slice gd n5 gf, .bool n6]]) Try.func12 (by kernel_rfl) rfl rfl (by kernel_rfl) (by kernel_rfl) HRC.out (fun E wc hc => ?_)
        obtain ⟨rfl, hdc⟩ := hc
        have HBC := Hid.mk' (bt (drew_blx wz wz.heap.size) hdc)
        refine ⟨_, rfl, kp_mk HBC.out.size fun b hb hx => HBC.out.block b hb, ?_⟩
        simp only [Act.put, List.setIfInBounds_toArray, List.set_cons_succ, List.set_cons_zero]
        refine mx_take 2 rfl ?_
        simp only [List.take_succ_cons, List.take_zero, List.drop_succ_cons, List.drop_zero]
        repeat (go_big_quiet_step (fail))
        refine wpQuiet_nil ?_
        simp only [wpMix]
        clear s3 t0 t1 t2 u0 u1 u2 hdc
        have HBN := Hid.mk' (bt HB2'.out HBC.out)
        go_wp2_with fail
        go_roundw
        case rel => exact ⟨m + 1, hg, by omega, by go_num, rfl, HF, HBN⟩
        case measure => simp [intOf]; omega
      · have HF : Hid (true = ((H.map (·.1)).take (m + 1)).any fun h => cvB h g) := by show _ = _; rw [HAN.out, ← HCV.out]; rfl
        refine mx_take 11 rfl ?_
        simp only [List.take_succ_cons, List.take_zero, List.drop_succ_cons, List.drop_zero]
        repeat (go_big_quiet_step (fail))
        refine wpQuiet_nil ?_
        with_reducible refine mx_skip (by kernel_rfl) ?_
        simp only [Act.put, List.setIfInBounds_toArray, List.set_cons_succ, List.set_cons_zero]
        refine mx_take 2 rfl ?_
        simp only [List.take_succ_cons, List.take_zero, List.drop_succ_cons, List.drop_zero]
        repeat (go_big_quiet_step (fail))
        refine wpQuiet_nil ?_
        simp only [wpMix]
        clear s3 t0 t1 t2 u0 u1 u2
        have HBN := Hid.mk' (bt HB2'.out (drew_blx wz wz.heap.size))
        go_wp2_with fail
        go_roundw
        case rel => exact ⟨m + 1, true, by omega, by go_num, rfl, HF, HBN⟩
        case measure => simp [intOf]; omega
end Go.Proofs.Yteejlmeinndlhaa
