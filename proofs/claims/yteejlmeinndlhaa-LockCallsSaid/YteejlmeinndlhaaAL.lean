/- The law LockApart. -/
import Derived.Test.YteejlmeinndlhaaFE
import Derived.Test.YteejlmeinndlhaaAP
set_option linter.unusedVariables false
set_option linter.unusedSimpArgs false
namespace Go.Proofs.Yteejlmeinndlhaa
open Go.RowKit Go.Maps
attribute [local go_sem ↓] Go.wp_at_zero Go.wp_at_succ
theorem Aks.up {A : Nat → Prop} {w w' : World} {v : Value} {l : List Ak} (h : Aks A w v l) (hb : Below w.heap.size w w') : Aks A w' v l := by
  obtain ⟨L, h1, h2, h3, h4⟩ := h
  exact ⟨L, h1, h2.up hb, fun q hq => (h3 q hq).up hb, h4⟩
theorem Aks.monoS {A A' : Nat → Prop} {w : World} {v : Value} {l : List Ak} (h : Aks A w v l) (hA : ∀ k, A k → A' k) : Aks A' w v l := by
  obtain ⟨L, h1, h2, h3, h4⟩ := h
  exact ⟨L, h1, h2.monoS hA, fun q hq => (h3 q hq).monoS hA, h4⟩
theorem Fw.aks {A : Nat → Prop} {S0 : Nat} {w wz : World} {v : Value} {L : List Kq} (h : Fw A S0 w wz v L) (hb : Below w.heap.size w wz) (hn : L.length ≤ 30) : Aks (fun k => S0 ≤ k ∨ A k) wz v (L.map (·.1)) :=
  ⟨L, rfl, (Row.of_ownB h.1).monoS fun k hk => .inl hk, fun q hq => ((h.2 q hq).up hb).monoS fun k hk => .inr hk, by unfold lim; omega⟩
theorem Oi.rgs {S0 : Nat} {w : World} {v : Value} {L : List Rq} (h : Oi S0 w v L) : Rgs (fun _ => True) w v (L.map (·.1)) :=
  ⟨L, rfl, (Row.of_ownB h.1).monoS fun _ _ => trivial, fun q hq => let ⟨a, b, c1, c2, _⟩ := h.2.1 q hq; ⟨(a.bs c1).monoS fun _ _ => trivial, (b.bs c2).monoS fun _ _ => trivial⟩, h.2.2⟩
theorem AwS.rgs {A : Nat → Prop} {W wz : World} {b : Nat} {T : Tb} {v : Value} {l : List Rg} (h : AwS W wz b T) (hv : Rgs A W v l) (hA : ∀ k, A k → k ≠ b) : Rgs A wz v l := by
  obtain ⟨L, h1, h2, h3, h4⟩ := hv
  have hX : ∀ k, k = b → ¬ A k := fun k hk hA' => hA k hA' hk
  exact ⟨L, h1, h2.wb h.wb hX, fun q hq => ⟨(h3 q hq).1.wb h.wb hX, (h3 q hq).2.wb h.wb hX⟩, h4⟩
theorem AwS.all {W wz : World} {b : Nat} {T : Tb} (h : AwS W wz b T) (hn : T.length ≤ 1000000) : Calls Try.prog 25 #[.pointer (some ⟨b, 0, none⟩)] wz fun e w' => ∃ v, e = .returned v ∧ Ot wz.heap.size w' v (T.map (·.1)) ∧ Below wz.heap.size wz w' := by
  obtain ⟨M, D, _, _, h3, _⟩ := h
  exact all_any h3 hn
theorem AwS.held {W wz : World} {b : Nat} {T : Tb} {x : Tx} (h : AwS W wz b T) (hm : (tgz T x).length ≤ 1000000) : Calls Try.prog 27 #[.pointer (some ⟨b, 0, none⟩), tv x] wz fun e w' => ∃ v, e = .returned v ∧ Rgs (fun _ => True) w' v (tgz T x) ∧ Below wz.heap.size wz w' := by
  obtain ⟨M, D, _, _, h3, _⟩ := h
  refine (held_any h3 hm).mono ?_
  rintro e w' ⟨v, L, rfl, hL, ho, hb⟩
  exact ⟨v, rfl, by rw [← hL]; exact ho.rgs, hb⟩
theorem tx1_row {w : World} {n1 n2 n3 : Int} (x : Tx) (h1 : (x.1.toNat : Int) = n1) (h2 : (x.2.1.toNat : Int) = n2) (h3 : (x.2.2.toNat : Int) = n3) : Txr (fun k => k = w.heap.size) (w.alloc (.cells #[.int .u64 n1, .int .u64 n2, .int .u64 n3] 30)) (.slice (some ⟨w.heap.size, 0, none⟩) 1 1) [x] := by
  subst h1 h2 h3
  refine ⟨⟨rfl, _, _, rfl, Nat.le_refl _, by simp, fun j u hj => ⟨_, _, rfl, rfl, ?_⟩⟩, by unfold lim; simp⟩
  match j, hj with
  | 0, hj => simp [txs, tc] at hj; subst hj; simp
  | 1, hj => simp [txs, tc] at hj; subst hj; simp
  | 2, hj => simp [txs, tc] at hj; subst hj; simp
theorem s25_hio' (w : World) (b o n c h : Nat) (h1 : h ≤ n) (h2 : n ≤ c) (h3 : 0 < c) : (Instr.slice 25 (.slice (some ⟨b, o, none⟩) n c) none (some (.int .i64 (h : Int))) none).run Try.prog w = .ok (.slice (some ⟨b, o, none⟩) h c) w := by
  rw [run_slice_h w 25 _ n c (by kernel_rfl) .i64 (h : Int) (by omega) (by omega), Try.size25]
  simp only [Result.andThen, Int.toNat_natCast, Go.sliced, Nat.sub_zero]
  rw [if_neg (by omega), Option.map_some, Nat.zero_mul, addr_add]; rfl
set_option maxRecDepth 100000 in
set_option maxHeartbeats 8000000 in
theorem lockApart_any {w : World} {va : Value} {l0 : List Ak} (ha : Aks (Lt w.heap.size) w va l0) : Calls Try.prog 5 #[va] w fun e w' => e = .returned (.bool true) ∧ Below w.heap.size w w' := by
  obtain ⟨aa, ac, rfl, _, _, _⟩ := ha.at
  have HA := Hid.mk' ha
  clear ha
  go_enter Try.func5, Try.ntmps5
  go_wp2_with fail
  refine (awake_any w).mono ?_
  rintro e w1 ⟨rfl, hb1⟩
  obtain ⟨W, hW⟩ : ∃ W, W = w1.alloc (.cells #[.map none] 37) := ⟨_, rfl⟩
  have hbW : Below w1.heap.size w1 W := by rw [hW]; exact up_alloc _ _
  have he0 : W.heap[w1.heap.size]? = some (.cells #[.map none] 37 (0, 0)) := by rw [hW]; exact heap_alloc_new _ _
  have hsW : W.heap.size = w1.heap.size + 1 := by rw [hW]; simp
  have HBW := Hid.mk' (bt hb1 hbW)
  have HFW := Hid.mk' (few_any (HA.out.up (bt hb1 hbW)))
  have HE0 := Hid.mk' he0
  have HSW := Hid.mk' hsW
  have HS1 : Hid (w.heap.size ≤ w1.heap.size) := hb1.size
  clear hb1 hbW he0 hsW
  go_wp2_with fail
  rw [← hW]
  clear hW HA
  refine HFW.out.mono ?_
  rintro e w2 ⟨va2, L, rfl, hL, hfw, hb2⟩
  have hfl : (fewK l0).length ≤ 30 := by unfold fewK; rw [List.length_map, List.length_take]; omega
  have hLl : L.length = (fewK l0).length := by rw [← hL, List.length_map]
  have hfa := (hfw.aks hb2 (by omega)).monoS (A' := fun k => k ≠ w1.heap.size) fun k hk => by
    have := HSW.out
    rcases hk with hk | hk
    · omega
    · have hk : k < w.heap.size := hk
      have := HS1.out
      omega
  rw [hL] at hfa
  have h70 : ∀ a ∈ fewK l0, a.rs.length ≤ 70 := fun a ha => by
    unfold fewK at ha
    obtain ⟨b, _, rfl⟩ := List.mem_map.1 ha
    show (b.rs.take 70).length ≤ 70
    rw [List.length_take]; omega
  have haw : AwS w2 w2 w1.heap.size [] := ⟨fun _ => False, fun _ => False, fun _ h => h.elim, fun _ h => h.elim, ⟨⟨none, (hb2.block _ (by rw [HSW.out]; omega)).trans HE0.out, .inl ⟨rfl, rfl⟩⟩, fun _ h => h.elim, fun _ h => h.elim⟩, Wb.refl _ _⟩
  have HAW := Hid.mk' haw
  have HB2 := Hid.mk' (bt HBW.out hb2)
  have HBL : Hid (w1.heap.size < w2.heap.size) := by have := hb2.size; rw [HSW.out] at this; exact this
  have HAP : Hid (Apt (70 * 0) 0 []) := Apt.nil
  have H70 := Hid.mk' h70
  obtain ⟨xa, xc, rfl, hxc, hxz, hat⟩ := hfa.at
  have HAT := Hid.mk' hat
  have hfl' : ((fewK l0).length : Int) ≤ 30 := by omega
  generalize fewK l0 = l at *
  generalize w1.heap.size = b at *
  have HEND : Hid (∀ wz, Wb (fun k => k = b) w2 wz → Below w.heap.size w wz) := fun wz hz => HB2.out.trans (hz.below HB2.out.size fun k hk => by have := HS1.out; omega)
  clear hL hfw hb2 hLl hfa h70 haw hat hxz HE0 HSW HBW HFW
  go_wp2_with fail
  go_loopw [20] (fun i wr => ∃ (k : Nat) (T : Tb), k ≤ l.length ∧ i = .int .i64 k ∧ Hid (AwS w2 wr b T) ∧ Hid (Apt (70 * k) k T)) (fun i _ => l.length - (intOf i).toNat)
  case atStart => exact ⟨0, [], by omega, rfl, HAW, HAP⟩
  case round =>
    clear HAW HAP
    obtain ⟨k, T, hk, rfl, HAW, HAP⟩ := hrel
    by_cases hlt : k < l.length
    case neg =>
      obtain rfl : k = l.length := by omega
      have HE := Hid.mk' (HEND.out _ HAW.out.wb)
      go_wp2_with fail
      go_ret
      exact ⟨rfl, HE.out⟩
    have hlt' : (k : Int) < (l.length : Int) := by omega
    obtain ⟨bb, of, u, rfl, hbb, ⟨c0, c1, c2, c3, c4, c5, c6, c7⟩, hrs⟩ := HAT.out k hlt
    have c0 := HAW.out.cell hbb c0
    have c1 := HAW.out.cell hbb c1
    have c2 := HAW.out.cell hbb c2
    have c3 := HAW.out.cell hbb c3
    have c4 := HAW.out.cell hbb c4
    have c5 := HAW.out.cell hbb c5
    have c6 := HAW.out.cell hbb c6
    have c7 := HAW.out.cell hbb c7
    have HRS := Hid.mk' (HAW.out.rgs hrs fun k hk => hk)
    have H7 : Hid (l[k].rs.length ≤ 70) := H70.out _ (List.getElem_mem hlt)
    generalize l[k] = ak at *
    obtain ⟨ua, uc, rfl⟩ := hrs.sl
    obtain ⟨W3, hW3⟩ : ∃ W, W = wr.alloc (.cells #[.int .i64 ak.kind, .int .u64 (ak.x.1.toNat : Int), .int .u64 (ak.x.2.1.toNat : Int), .int .u64 (ak.x.2.2.toNat : Int), .int .u64 (ak.y.1.toNat : Int), .int .u64 (ak.y.2.1.toNat : Int), .int .u64 (ak.y.2.2.toNat : Int), .slice ua ak.rs.length uc] 42) := ⟨_, rfl⟩
    have hE3 : W3.heap[wr.heap.size]? = some (.cells #[.int .i64 ak.kind, .int .u64 (ak.x.1.toNat : Int), .int .u64 (ak.x.2.1.toNat : Int), .int .u64 (ak.x.2.2.toNat : Int), .int .u64 (ak.y.1.toNat : Int), .int .u64 (ak.y.2.1.toNat : Int), .int .u64 (ak.y.2.2.toNat : Int), .slice ua ak.rs.length uc] 42 (0, 0)) := by rw [hW3]; exact heap_alloc_new _ _
    have hBW3 : Below wr.heap.size wr W3 := by rw [hW3]; exact up_alloc _ _
    have HAW3 := Hid.mk' (HAW.out.up hBW3)
    have HRS3 := Hid.mk' (HRS.out.up hBW3)
    have HTL : Hid (T.length < 1000000 ∧ (∀ x, (tgz T x).length ≤ 1000000)) := ⟨by have := HAP.out.len; omega, fun x => by have := HAP.out.tgzl x; omega⟩
    have HAK : Hid (∀ x (rs : List Rg), rs.length ≤ 70 → Apt (70 * (k + 1)) (k + 1) (askT T x rs).2) := fun x rs h => (HAP.out.ask x rs h).mono (by omega) (by omega)
    have HRL : Hid (∀ x, Apt (70 * (k + 1)) (k + 1) (relT T [x])) := fun x => (HAP.out.rel [x]).mono (by omega) (by omega)
    obtain ⟨x0, x1, x2, x3, x4, x5, x6, x7⟩ := box8 hE3
    have HASK : Hid (∀ wz v, Below W3.heap.size W3 wz → Rgs (fun _ => True) wz v ak.rs → Calls Try.prog 21 #[.pointer (some ⟨b, 0, none⟩), .agg #[.int .u64 (ak.x.1.toNat : Int), .int .u64 (ak.x.2.1.toNat : Int), .int .u64 (ak.x.2.2.toNat : Int)], v] wz fun e w' => (∃ n : Int, e = .returned (.int .i64 n)) ∧ ∃ T', Hid (AwS w2 w' b T') ∧ Hid (Apt (70 * (k + 1)) (k + 1) T')) := fun wz v hz hv => ((HAW3.out.up hz).ask (x := ak.x) hv HTL.out.1 (HTL.out.2 _)).mono fun e w' ⟨h1, h2, _⟩ => ⟨⟨_, h1⟩, _, h2, HAK.out _ _ H7.out⟩
    have HREL : Hid (∀ (W4 : World), W4 = W3.alloc (.cells #[.int .u64 (ak.x.1.toNat : Int), .int .u64 (ak.x.2.1.toNat : Int), .int .u64 (ak.x.2.2.toNat : Int)] 30) → Calls Try.prog 24 #[.pointer (some ⟨b, 0, none⟩), .slice (some ⟨W3.heap.size, 0, none⟩) 1 1] W4 fun e w' => (∃ n : Int, e = .returned (.int .i64 n)) ∧ ∃ T', Hid (AwS w2 w' b T') ∧ Hid (Apt (70 * (k + 1)) (k + 1) T')) := fun W4 hW4 => by
      subst hW4
      exact (HAW3.out.rel (up_alloc _ _) (tx1_row ak.x rfl rfl rfl) (fun k hk => .inl (Nat.le_of_eq hk.symm)) (Nat.le_of_lt HTL.out.1)).mono fun e w' ⟨h1, h2, _⟩ => ⟨⟨_, h1⟩, _, h2, HRL.out _⟩
    have HOWN : Hid (Calls Try.prog 19 #[.slice ua ak.rs.length uc] W3.drew (OwP W3.drew ak.rs)) := own_any (HRS3.out.up (drew_blx _ _)) (by have := H7.out; omega)
    clear hE3 hBW3 hrs HRS HRS3 HAW HAP HAK HRL HTL HAW3
    generalize ak.rs = rs at *
    generalize ak.kind = kd at *
    generalize (ak.x.1.toNat : Int) = n1 at *
    generalize (ak.x.2.1.toNat : Int) = n2 at *
    generalize (ak.x.2.2.toNat : Int) = n3 at *
    generalize (ak.y.1.toNat : Int) = m1 at *
    generalize (ak.y.2.1.toNat : Int) = m2 at *
    generalize (ak.y.2.2.toNat : Int) = m3 at *
    generalize rs.length = rn at *
    go_upto_if 26 with fail
    rw [← hW3]
    clear hW3 c0 c1 c2 c3 c4 c5 c6 c7
    go_cut [20] (fun i wx => i = .int .i64 k ∧ ∃ T' : Tb, Hid (AwS w2 wx b T') ∧ Hid (Apt (70 * (k + 1)) (k + 1) T'))
    case first =>
      by_cases h2 : kd = 2
      · have h2' : (kd == 2) = true := by simpa using h2
        clear h2
        go_wp2_with fail
        refine (HREL.out _ rfl).mono ?_
        rintro e w4 ⟨⟨nn, rfl⟩, T', h1, h2⟩
        go_wp2_with fail
        go_meet
        exact ⟨rfl, T', h1, h2⟩
      · have h2' : (kd == 2) = false := by simpa using h2
        clear h2
        go_upto_region 9 with fail
        have r1 : ∀ q : Kp (fun _ => False) W3, q.nx.cell? ⟨wr.heap.size, 1, none⟩ = some _ := fun q => q.cell x1 id
        have r2 : ∀ q : Kp (fun _ => False) W3, q.nx.cell? ⟨wr.heap.size, 2, none⟩ = some _ := fun q => q.cell x2 id
        have r3 : ∀ q : Kp (fun _ => False) W3, q.nx.cell? ⟨wr.heap.size, 3, none⟩ = some _ := fun q => q.cell x3 id
        have r7 : ∀ q : Kp (fun _ => False) W3, q.nx.cell? ⟨wr.heap.size, 7, none⟩ = some _ := fun q => q.cell x7 id
        refine wp_region_mox 5 (fun w' => ∃ q : Kp (fun _ => False) W3, w' = q.nx) (by kernel_rfl) (by kernel_rfl) (kp_first _ W3) ?_
        simp only [List.take_succ_cons, List.take_zero, List.drop_succ_cons, List.drop_zero]
        refine mx_take 4 rfl ?_
        simp only [List.take_succ_cons, List.take_zero, List.drop_succ_cons, List.drop_zero]
        repeat (go_big_quiet_step (fail))
        refine wpQuiet_nil ?_
        refine mx_call (vals := [.slice ua rn uc]) Try.func19 (by kernel_rfl) rfl rfl (by kernel_rfl) (by kernel_rfl) HOWN.out (fun E wc hc => ?_)
        obtain ⟨v1, rfl, ho1, hbe⟩ := hc
        have hbc : Below W3.heap.size W3 wc := (drew_blx W3 _).trans hbe
        have HK := Hid.mk' (HASK.out wc v1 hbc (ho1.rgs.monoS fun _ _ => trivial))
        refine ⟨_, rfl, kp_mk hbc.size fun b hb hx => hbc.block b hb, ?_⟩
        simp only [Act.put, List.setIfInBounds_toArray, List.set_cons_succ, List.set_cons_zero]
        simp only [wpMix]
        clear r1 r2 r3 r7 x0 x1 x2 x3 x4 x5 x6 x7 ho1 hbe hbc
        go_wp2_with fail
        refine HK.out.mono ?_
        rintro e w4 ⟨⟨nn, rfl⟩, T', h1, h2⟩
        go_wp2_with fail
        go_meet
        exact ⟨rfl, T', h1, h2⟩
    case rest =>
    obtain ⟨rfl, T', HAW, HAP⟩ := hcut
    clear HASK HREL HOWN H7 x0 x1 x2 x3 x4 x5 x6 x7
    have HTL : Hid (T'.length ≤ 30 ∧ ∀ x, (tgz T' x).length ≤ 2100) := ⟨by have := HAP.out.len; omega, fun x => by have := HAP.out.tgzl x; omega⟩
    rename World => w3
    have HALL := Hid.mk' (HAW.out.all (by have := HTL.out.1; omega))
    have HKS : Hid (∀ i j (hi : i < (T'.map (·.1)).length) (hj : j < i), (T'.map (·.1))[i] ≠ (T'.map (·.1))[j]'(Nat.lt_trans hj hi)) := fun i j hi hj => HAP.out.keys hj hi
    have hkl : ((T'.map (·.1)).length : Int) ≤ 30 := by rw [List.length_map]; have := HTL.out.1; omega
    have HCL : Hid (∀ x y p q, x ≠ y → p ∈ tgz T' x → q ∈ tgz T' y → rclB p q = false) := fun x y p q h hp hq => HAP.out.clash h hp hq
    generalize T'.map (·.1) = ks at *
    go_wp2_with fail
    refine HALL.out.mono ?_
    rintro e w4 ⟨u4, rfl, ho4, hb4⟩
    obtain ⟨ta, tc', rfl, htc, hatt⟩ := ho4.at
    have HAT4 := Hid.mk' hatt
    have HAW4 := Hid.mk' (HAW.out.up hb4)
    have HHT : Hid (∀ x wz, Below w4.heap.size w4 wz → Calls Try.prog 27 #[.pointer (some ⟨b, 0, none⟩), .agg #[.int .u64 (x.1.toNat : Int), .int .u64 (x.2.1.toNat : Int), .int .u64 (x.2.2.toNat : Int)]] wz fun e w' => ∃ v, e = .returned v ∧ Rgs (fun _ => True) w' v (tgz T' x) ∧ Below wz.heap.size wz w') := fun x wz hz => (HAW4.out.up hz).held (x := x) (by have := HTL.out.2 x; omega)
    have HB0 : Hid (Below w4.heap.size w4 w4) := Below.refl _ _
    clear HALL ho4 hb4 hatt
    go_wp2_with fail
    go_loopw [40] (fun i wr => ∃ m : Nat, m ≤ ks.length ∧ i = .int .i64 m ∧ Hid (Below w4.heap.size w4 wr)) (fun i _ => ks.length - (intOf i).toNat)
    case atStart => exact ⟨0, by omega, rfl, HB0⟩
    case round =>
      clear HB0
      obtain ⟨m, hm, rfl, HB1⟩ := hrel
      by_cases hlm : m < ks.length
      case neg =>
        obtain rfl : m = ks.length := by omega
        have HAW5 := Hid.mk' (HAW4.out.up HB1.out)
        go_wp2_with fail
        go_roundw
        case rel => exact ⟨k + 1, T', by omega, by go_num, HAW5, HAP⟩
        case measure => simp [intOf]; omega
      have hlm' : (m : Int) < (ks.length : Int) := by omega
      obtain ⟨g, rfl, _, e0, e1, e2⟩ := HAT4.out m hlm
      have e0 := cell_up e0 HB1.out
      have e1 := cell_up e1 HB1.out
      have e2 := cell_up e2 HB1.out
      obtain ⟨W5, hW5, hbW5, hcW5⟩ := one_box wr (.int .u64 (ks[m].1.toNat : Int)) (.int .u64 (ks[m].2.1.toNat : Int)) (.int .u64 (ks[m].2.2.toNat : Int)) 30
      have hsl := fun w => s25_hio' w g 0 ks.length tc' m (by omega) htc (by omega)
      have HCX : Hid (∀ j (hj : j < m), ∀ p q, p ∈ tgz T' ks[m] → q ∈ tgz T' ks[j] → rclB p q = false) := fun j hj p q hp hq => HCL.out _ _ p q (HKS.out m j hlm hj) hp hq
      have HHX := Hid.mk' (HHT.out ks[m])
      have HPL : Hid ((tgz T' ks[m]).length ≤ 2100) := HTL.out.2 _
      have HB5 := Hid.mk' (bt HB1.out hbW5)
      have HC5 := Hid.mk' hcW5
      have HR5 : Hid (Below W5.heap.size W5 W5) := Below.refl _ _
      clear hbW5 hcW5
      generalize ks[m] = x at *
      generalize tgz T' x = P at *
      generalize (x.1.toNat : Int) = n1 at *
      generalize (x.2.1.toNat : Int) = n2 at *
      generalize (x.2.2.toNat : Int) = n3 at *
      go_wp2_with fail
      rw [← hW5]
      clear hW5 e0 e1 e2 hsl
      go_loopw [49] (fun i wq => ∃ j : Nat, j ≤ m ∧ i = .int .i64 j ∧ Hid (Below W5.heap.size W5 wq)) (fun i _ => m - (intOf i).toNat)
      case atStart => exact ⟨0, by omega, rfl, HR5⟩
      case round =>
        clear HR5
        obtain ⟨j, hj, rfl, HB2⟩ := hrel
        by_cases hlj : j < m
        case neg =>
          obtain rfl : j = m := by omega
          have HBN := Hid.mk' (bt HB5.out HB2.out)
          go_wp2_with fail
          go_roundw
          case rel => exact ⟨j + 1, by omega, by go_num, HBN⟩
          case measure => simp [intOf]; omega
        have hlj' : (j : Int) < (m : Int) := by omega
        have hjk : j < ks.length := by omega
        have hjk' : (j : Int) < (ks.length : Int) := by omega
        obtain ⟨g', he, _, e0, e1, e2⟩ := HAT4.out j hjk
        cases he
        have e0 := cell_up e0 (bt HB5.out HB2.out)
        have e1 := cell_up e1 (bt HB5.out HB2.out)
        have e2 := cell_up e2 (bt HB5.out HB2.out)
        obtain ⟨W6, hW6, hbW6, hcW6⟩ := one_box wr (.int .u64 (ks[j].1.toNat : Int)) (.int .u64 (ks[j].2.1.toNat : Int)) (.int .u64 (ks[j].2.2.toNat : Int)) 30
        have HCY : Hid (∀ p q, p ∈ P → q ∈ tgz T' ks[j] → rclB p q = false) := HCX.out j hlj
        have HHY := Hid.mk' (HHT.out ks[j])
        have HQL : Hid ((tgz T' ks[j]).length ≤ 2100) := HTL.out.2 _
        have HB6 := Hid.mk' (bt (bt HB5.out HB2.out) hbW6)
        have HB26 := Hid.mk' (bt HB2.out hbW6)
        have HC6 := Hid.mk' hcW6
        have HHX6 := Hid.mk' (HHX.out W6 HB6.out)
        obtain ⟨x0, x1, x2⟩ := HC5.out wr HB2.out
        have hlt3 : _ < wr.heap.size := World.block_lt_of_cell? wr ⟨_, 0, none⟩ x0
        clear hbW6 hcW6
        generalize ks[j] = y at *
        generalize tgz T' y = Q at *
        generalize (y.1.toNat : Int) = m1 at *
        generalize (y.2.1.toNat : Int) = m2 at *
        generalize (y.2.2.toNat : Int) = m3 at *
        go_wp2_with fail
        rw [← hW6]
        clear hW6 e0 e1 e2 hlt3 x0 x1 x2
        refine HHX6.out.mono ?_
        rintro e w7 ⟨v7, rfl, hp7, hb7⟩
        obtain ⟨pa, pc, rfl, hpc, _, _, hatp⟩ := hp7.at
        have HAP7 := Hid.mk' hatp
        have hpl : (P.length : Int) ≤ 2100 := by have := HPL.out; omega
        have HB7 := Hid.mk' (bt HB6.out hb7)
        have HB27 := Hid.mk' (bt HB26.out hb7)
        have HB67 := Hid.mk' hb7
        have HR7 : Hid (Below w7.heap.size w7 w7) := Below.refl _ _
        clear hp7 hb7 hatp HHX6
        go_wp2_with fail
        go_loopw [56] (fun i wp => ∃ r : Nat, r ≤ P.length ∧ i = .int .i64 r ∧ Hid (Below w7.heap.size w7 wp)) (fun i _ => P.length - (intOf i).toNat)
        case atStart => exact ⟨0, by omega, rfl, HR7⟩
        case round =>
          clear HR7
          obtain ⟨r, hr, rfl, HB3⟩ := hrel
          by_cases hlr : r < P.length
          case neg =>
            obtain rfl : r = P.length := by omega
            have HBN := Hid.mk' (bt HB27.out HB3.out)
            go_wp2_with fail
            go_roundw
            case rel => exact ⟨j + 1, by omega, by go_num, HBN⟩
            case measure => simp [intOf]; omega
          have hlr' : (r : Int) < (P.length : Int) := by omega
          obtain ⟨gb, go', fa, fc, fb, fd, rfl, _, ⟨d0, d1, d2⟩, hlo, hhi⟩ := HAP7.out r hlr
          have d0 := cell_up d0 HB3.out
          have d1 := cell_up d1 HB3.out
          have d2 := cell_up d2 HB3.out
          obtain ⟨W8, hW8, hbW8, hcW8⟩ := one_box wr (.slice fa P[r].lo.length fc) (.slice fb P[r].hi.length fd) (.bool P[r].xc) 24
          have HPM : Hid (∀ wz vq q, Below w7.heap.size w7 wz → q ∈ Q → RgIs (fun _ => True) wz vq q → Calls Try.prog 10 #[.agg #[.slice fa P[r].lo.length fc, .slice fb P[r].hi.length fd, .bool P[r].xc], vq] wz fun e w' => e = .returned (.bool false) ∧ Below wz.heap.size wz w') := fun wz vq q hz hq hv => by
            have h := rclash_any (r := P[r]) (s := q) (⟨_, _, rfl, hlo.up hz, hhi.up hz⟩ : RgIs _ wz (.agg #[.slice fa P[r].lo.length fc, .slice fb P[r].hi.length fd, .bool P[r].xc]) P[r]) hv
            rw [HCY.out _ q (List.getElem_mem hlr) hq] at h
            exact h
          have HB8 := Hid.mk' (bt (bt HB7.out HB3.out) hbW8)
          have HB38 := Hid.mk' (bt HB3.out hbW8)
          have HC8 := Hid.mk' hcW8
          have HHY8 := Hid.mk' (HHY.out W8 HB8.out)
          obtain ⟨x0, x1, x2⟩ := HC6.out wr (bt HB67.out HB3.out)
          have hlt3 : _ < wr.heap.size := World.block_lt_of_cell? wr ⟨_, 0, none⟩ x0
          clear hbW8 hcW8 hlo hhi
          generalize P[r].lo.length = k1 at *
          generalize P[r].hi.length = k2 at *
          generalize P[r].xc = kx at *
          go_wp2_with fail
          rw [← hW8]
          clear hW8 d0 d1 d2 hlt3 x0 x1 x2
          refine HHY8.out.mono ?_
          rintro e w9 ⟨v9, rfl, hp9, hb9⟩
          obtain ⟨qa, qc, rfl, hqc, _, _, hatq⟩ := hp9.at
          have HAQ := Hid.mk' hatq
          have hql : (Q.length : Int) ≤ 2100 := by have := HQL.out; omega
          have HB9 := Hid.mk' (bt HB38.out hb9)
          have HB89 := Hid.mk' hb9
          have HR9 : Hid (Below w9.heap.size w9 w9) := Below.refl _ _
          clear hp9 hb9 hatq HHY8
          go_wp2_with fail
          go_loopw [63] (fun i wo => ∃ s : Nat, s ≤ Q.length ∧ i = .int .i64 s ∧ Hid (Below w9.heap.size w9 wo)) (fun i _ => Q.length - (intOf i).toNat)
          case atStart => exact ⟨0, by omega, rfl, HR9⟩
          case round =>
            clear HR9
            obtain ⟨s, hs, rfl, HB4⟩ := hrel
            by_cases hls : s < Q.length
            case neg =>
              obtain rfl : s = Q.length := by omega
              have HBN := Hid.mk' (bt HB9.out HB4.out)
              go_wp2_with fail
              go_roundw
              case rel => exact ⟨r + 1, by omega, by go_num, HBN⟩
              case measure => simp [intOf]; omega
            have hls' : (s : Int) < (Q.length : Int) := by omega
            obtain ⟨hb', ho', ga, gc, gd, gf, rfl, _, ⟨d0, d1, d2⟩, hlo, hhi⟩ := HAQ.out s hls
            have d0 := cell_up d0 HB4.out
            have d1 := cell_up d1 HB4.out
            have d2 := cell_up d2 HB4.out
            obtain ⟨W10, hW10, hbW10, hcW10⟩ := one_box wr (.slice ga Q[s].lo.length gc) (.slice gd Q[s].hi.length gf) (.bool Q[s].xc) 24
            have HC10 : Hid (Calls Try.prog 10 #[.agg #[.slice fa k1 fc, .slice fb k2 fd, .bool kx], .agg #[.slice ga Q[s].lo.length gc, .slice gd Q[s].hi.length gf, .bool Q[s].xc]] W10 fun e w' => e = .returned (.bool false) ∧ Below W10.heap.size W10 w') := HPM.out W10 _ Q[s] (bt (bt HB9.out HB4.out) hbW10) (List.getElem_mem hls) ⟨_, _, rfl, (hlo.up HB4.out).up hbW10, (hhi.up HB4.out).up hbW10⟩
            have HB410 := Hid.mk' (bt HB4.out hbW10)
            obtain ⟨x0, x1, x2⟩ := HC8.out wr (bt HB89.out HB4.out)
            have hlt3 : _ < wr.heap.size := World.block_lt_of_cell? wr ⟨_, 0, none⟩ x0
            clear hbW10 hcW10 hlo hhi
            generalize Q[s].lo.length = k3 at *
            generalize Q[s].hi.length = k4 at *
            generalize Q[s].xc = ky at *
            go_wp2_with fail
            rw [← hW10]
            clear hW10 d0 d1 d2 hlt3 x0 x1 x2
            refine HC10.out.mono ?_
            rintro e w11 ⟨rfl, hb11⟩
            have HBN := Hid.mk' (bt HB410.out hb11)
            clear hb11 HC10
            go_wp2_with fail
            go_roundw
            case rel => exact ⟨s + 1, by omega, by go_num, HBN⟩
            case measure => simp [intOf]; omega
end Go.Proofs.Yteejlmeinndlhaa
