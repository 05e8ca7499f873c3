/- The law LockMirrors. -/
import Derived.Test.YteejlmeinndlhaaMT
import Derived.Test.YteejlmeinndlhaaOQ
import Derived.BigRegion
set_option linter.unusedVariables false
set_option linter.unusedSimpArgs false
namespace Go.Proofs.Yteejlmeinndlhaa
open Go.RowKit Go.Maps
attribute [local go_sem ↓] Go.wp_at_zero Go.wp_at_succ
def Bx2 (w wx : World) (g h : Nat) (x y : Tx) : Prop := Below w.heap.size w wx ∧ w.heap.size ≤ g ∧ w.heap.size ≤ h ∧ wx.heap[g]? = some (.cells (tc x).toArray 30 (0, 0)) ∧ wx.heap[h]? = some (.cells (tc y).toArray 30 (0, 0))
theorem bx2_a (w : World) (x y : Tx) : Bx2 w ((w.alloc (.cells #[.int .u64 (x.1.toNat : Int), .int .u64 (x.2.1.toNat : Int), .int .u64 (x.2.2.toNat : Int)] 30)).alloc (.cells #[.int .u64 (y.1.toNat : Int), .int .u64 (y.2.1.toNat : Int), .int .u64 (y.2.2.toNat : Int)] 30)).drew w.heap.size (w.heap.size + 1) x y := by
  have h1 := heap_alloc_new w (.cells #[.int .u64 (x.1.toNat : Int), .int .u64 (x.2.1.toNat : Int), .int .u64 (x.2.2.toNat : Int)] 30)
  have h2 := heap_alloc_new (w.alloc (.cells #[.int .u64 (x.1.toNat : Int), .int .u64 (x.2.1.toNat : Int), .int .u64 (x.2.2.toNat : Int)] 30)) (.cells #[.int .u64 (y.1.toNat : Int), .int .u64 (y.2.1.toNat : Int), .int .u64 (y.2.2.toNat : Int)] 30)
  rw [World.size_alloc] at h2
  exact ⟨bt (up_alloc _ _) (bt (up_alloc _ _) (drew_blx _ _)), Nat.le_refl _, Nat.le_succ _, ((up_alloc _ _).block _ (by simp)).trans h1, h2⟩
theorem bx2_b (w : World) (x y : Tx) : Bx2 w ((w.alloc (.cells #[.int .u64 (y.1.toNat : Int), .int .u64 (y.2.1.toNat : Int), .int .u64 (y.2.2.toNat : Int)] 30)).alloc (.cells #[.int .u64 (x.1.toNat : Int), .int .u64 (x.2.1.toNat : Int), .int .u64 (x.2.2.toNat : Int)] 30)).drew (w.heap.size + 1) w.heap.size x y := by
  obtain ⟨h1, h2, h3, h4, h5⟩ := bx2_a w y x
  exact ⟨h1, h3, h2, h5, h4⟩
theorem exec_ne30_self {w : World} {o : Oper} {a : Act} {p q : Operand} {x : Tx} (ho : o.op = .binOp .neq 30 p q 30) (hp : a.eval p = tv x) (hq : a.eval q = tv x) : (execOp a.eval o).run Try.prog w = .ok (.value (.bool false)) w := by
  rw [exec_ne30 ho hp hq]; simp
theorem txr_one {w : World} (x : Tx) : Txr (fun k => k = w.heap.size) (w.alloc (.cells #[.int .u64 (x.1.toNat : Int), .int .u64 (x.2.1.toNat : Int), .int .u64 (x.2.2.toNat : Int)] 30)) (.slice (some ⟨w.heap.size, 0, none⟩) 1 1) [x] := by
  refine ⟨⟨rfl, _, _, rfl, Nat.le_refl _, by simp, fun j u hj => ⟨_, _, rfl, rfl, ?_⟩⟩, by unfold lim; simp⟩
  match j, hj with
  | 0, hj => simp [txs, tc] at hj; subst hj; simp
  | 1, hj => simp [txs, tc] at hj; subst hj; simp
  | 2, hj => simp [txs, tc] at hj; subst hj; simp
set_option maxRecDepth 100000 in
set_option maxHeartbeats 8000000 in
theorem lockMirrors_any {w : World} {va vb vt : Value} {a b : List Rg} {l : List Tx} (ha : Rgs (Lt w.heap.size) w va a) (hb : Rgs (Lt w.heap.size) w vb b) (ht : Txr (Lt w.heap.size) w vt l) : Calls Try.prog 7 #[va, vb, vt] w fun e w' => e = .returned (.bool true) ∧ Below w.heap.size w w' := by
  obtain ⟨aa, ac, rfl, hac, _, haz, hata⟩ := ha.at
  obtain ⟨ba, bc, rfl, hbc, _, hbz, hatb⟩ := hb.at
  obtain ⟨ta, tc', rfl, htc, hatt⟩ := ht.at
  have hal : (a.length : Int) ≤ 140737488351232 := by unfold lim at haz; omega
  have hbl : (b.length : Int) ≤ 140737488351232 := by unfold lim at hbz; omega
  have htl : (l.length : Int) ≤ 140737488351232 := by have := ht.2; unfold lim at this; omega
  have HA := Hid.mk' ha
  have HB := Hid.mk' hb
  have HT := Hid.mk' ht
  have HAA := Hid.mk' hata
  have HAB := Hid.mk' hatb
  have HAT := Hid.mk' hatt
  clear ha hb ht hata hatb hatt haz hbz
  go_enter Try.func7, Try.ntmps7
  go_wp2_with fail
  refine (awake_any w).mono ?_
  rintro e w1 ⟨rfl, hb1⟩
  have HB1 := Hid.mk' hb1
  clear hb1
  go_upto_if 19 with fail
  go_cut [0] (fun u wx => ∃ (oa : Option Addr) (oc : Nat), u = .slice oa (a.take 20).length oc ∧ Hid (w1 = wx) ∧ Hid (Rgs (Lt w.heap.size) w1 (.slice oa (a.take 20).length oc) (a.take 20)))
  case first =>
    by_cases hlt : 20 < a.length
    · have hlt' : (20 : Int) < (a.length : Int) := by omega
      obtain ⟨b0, o0, _, _, _, _, rfl, _⟩ := HAA.out 0 (by omega)
      have S1 : ∀ w, (Instr.slice 40 (.slice (some ⟨b0, o0, none⟩) a.length ac) none (some (.int .i64 20)) none).run Try.prog w = .ok (.slice (some ⟨b0, o0, none⟩) 20 ac) w := fun w => s40_hio w b0 o0 a.length ac 20 (by omega) hac (by omega)
      have hl20 : (a.take 20).length = 20 := by rw [List.length_take]; omega
      have HX : Hid (Rgs (Lt w.heap.size) w1 (.slice (some ⟨b0, o0, none⟩) (a.take 20).length ac) (a.take 20)) := by rw [hl20]; exact (HA.out.cut 20 (by omega)).up HB1.out
      have HL := Hid.mk' hl20
      clear hl20
      go_wp2_with fail
      go_meet
      exact ⟨_, _, by rw [HL.out], rfl, HX⟩
    · have hlt' : ¬ (20 : Int) < (a.length : Int) := by omega
      have HE : Hid (a.take 20 = a) := List.take_of_length_le (by omega)
      have HX : Hid (Rgs (Lt w.heap.size) w1 (.slice aa (a.take 20).length ac) (a.take 20)) := by rw [HE.out]; exact HA.out.up HB1.out
      go_wp2_with fail
      go_meet
      exact ⟨_, _, by rw [HE.out], rfl, HX⟩
  case rest =>
  obtain ⟨oa, oc, rfl, hwx, Ha⟩ := hcut
  obtain rfl := hwx.out
  clear hwx HA HAA hac hal
  have hla : (a.take 20).length ≤ 20 := by rw [List.length_take]; omega
  generalize a.take 20 = a' at *
  clear a
  rename List Rg => a
  go_upto_if 24 with fail
  go_cut [1] (fun u wx => ∃ (oa : Option Addr) (oc : Nat), u = .slice oa (b.take 20).length oc ∧ Hid (w1 = wx) ∧ Hid (Rgs (Lt w.heap.size) w1 (.slice oa (b.take 20).length oc) (b.take 20)))
  case first =>
    by_cases hlt : 20 < b.length
    · have hlt' : (20 : Int) < (b.length : Int) := by omega
      obtain ⟨b0, o0, _, _, _, _, rfl, _⟩ := HAB.out 0 (by omega)
      have S1 : ∀ w, (Instr.slice 40 (.slice (some ⟨b0, o0, none⟩) b.length bc) none (some (.int .i64 20)) none).run Try.prog w = .ok (.slice (some ⟨b0, o0, none⟩) 20 bc) w := fun w => s40_hio w b0 o0 b.length bc 20 (by omega) hbc (by omega)
      have hl20 : (b.take 20).length = 20 := by rw [List.length_take]; omega
      have HX : Hid (Rgs (Lt w.heap.size) w1 (.slice (some ⟨b0, o0, none⟩) (b.take 20).length bc) (b.take 20)) := by rw [hl20]; exact (HB.out.cut 20 (by omega)).up HB1.out
      have HL := Hid.mk' hl20
      clear hl20
      go_wp2_with fail
      go_meet
      exact ⟨_, _, by rw [HL.out], rfl, HX⟩
    · have hlt' : ¬ (20 : Int) < (b.length : Int) := by omega
      have HE : Hid (b.take 20 = b) := List.take_of_length_le (by omega)
      have HX : Hid (Rgs (Lt w.heap.size) w1 (.slice ba (b.take 20).length bc) (b.take 20)) := by rw [HE.out]; exact HB.out.up HB1.out
      go_wp2_with fail
      go_meet
      exact ⟨_, _, by rw [HE.out], rfl, HX⟩
  case rest =>
  obtain ⟨ob, od, rfl, hwx, Hb⟩ := hcut
  obtain rfl := hwx.out
  clear hwx HB HAB hbc hbl
  have hlb : (b.take 20).length ≤ 20 := by rw [List.length_take]; omega
  generalize b.take 20 = b' at *
  clear b
  rename List Rg => b
  have HLA := Hid.mk' hla
  have HLB := Hid.mk' hlb
  have hla : (a.length : Int) ≤ 20 := by omega
  have hlb : (b.length : Int) ≤ 20 := by omega
  have HCA : Hid (∀ wz, Below w1.heap.size w1 wz → Calls Try.prog 22 #[.slice oa a.length oc] wz fun e w' => e = .returned (.int .i64 (rck a)) ∧ Dn wz w') := fun wz hz => rcheck_any (Ha.out.up hz)
  have HCB : Hid (∀ wz, Below w1.heap.size w1 wz → Calls Try.prog 22 #[.slice ob b.length od] wz fun e w' => e = .returned (.int .i64 (rck b)) ∧ Dn wz w') := fun wz hz => rcheck_any (Hb.out.up hz)
  have HD0 : Hid (Below w1.heap.size w1 w1.drew) := drew_blx w1 _
  go_upto_region 7 with fail
  refine wp_region_mox 22 (fun w' => ∃ q : Kp (fun _ => False) w1, w' = q.nx) (by kernel_rfl) (by kernel_rfl) (kp_first _ w1) ?_
  simp only [List.take_succ_cons, List.take_zero, List.drop_succ_cons, List.drop_zero]
  refine mx_take 1 rfl ?_
  simp only [List.take_succ_cons, List.take_zero, List.drop_succ_cons, List.drop_zero]
  repeat (go_big_quiet_step (fail))
  refine wpQuiet_nil ?_
  refine mx_call (vals := [.slice oa a.length oc]) Try.func22 (by kernel_rfl) rfl rfl (by kernel_rfl) (by kernel_rfl) (HCA.out _ HD0.out) (fun E wc hc => ?_)
  obtain ⟨rfl, hdc⟩ := hc
  have HD1 : Hid (Below w1.heap.size w1 wc) := bt HD0.out (hdc.below _)
  clear hdc
  refine ⟨_, rfl, kp_mk HD1.out.size fun b hb hx => HD1.out.block b hb, ?_⟩
  simp only [Act.put, List.setIfInBounds_toArray, List.set_cons_succ, List.set_cons_zero]
  by_cases hza : rck a = 0
  case neg =>
    have hza' : (rck a == 0) = false := by simpa using hza
    have hza'' : (rck a != 0) = true := by simpa using hza
    clear hza
    generalize rck a = ra at *
    refine mx_take 3 rfl ?_
    simp only [List.take_succ_cons, List.take_zero, List.drop_succ_cons, List.drop_zero]
    repeat (go_big_quiet_step (fail))
    refine wpQuiet_nil ?_
    with_reducible refine mx_skip (by kernel_rfl) ?_
    simp only [Act.put, List.setIfInBounds_toArray, List.set_cons_succ, List.set_cons_zero]
    refine mx_take 16 rfl ?_
    simp only [List.take_succ_cons, List.take_zero, List.drop_succ_cons, List.drop_zero]
    repeat (go_big_quiet_step (fail))
    refine wpQuiet_nil ?_
    simp only [wpMix]
    have HE := Hid.mk' (bt HB1.out HD1.out)
    go_wp2_with fail
    go_ret
    exact ⟨rfl, HE.out⟩
  have HZA := Hid.mk' hza
  rw [hza]
  clear hza HCA
  refine mx_take 3 rfl ?_
  simp only [List.take_succ_cons, List.take_zero, List.drop_succ_cons, List.drop_zero]
  repeat (go_big_quiet_step (fail))
  refine wpQuiet_nil ?_
  refine mx_call (vals := [.slice ob b.length od]) Try.func22 (by kernel_rfl) rfl rfl (by kernel_rfl) (by kernel_rfl) (HCB.out _ HD1.out) (fun E wc hc => ?_)
  obtain ⟨rfl, hdc⟩ := hc
  have HD2 : Hid (Below w1.heap.size w1 wc) := bt HD1.out (hdc.below _)
  clear hdc
  refine ⟨_, rfl, kp_mk HD2.out.size fun b hb hx => HD2.out.block b hb, ?_⟩
  simp only [Act.put, List.setIfInBounds_toArray, List.set_cons_succ, List.set_cons_zero]
  by_cases hzb : rck b = 0
  case neg =>
    have hzb' : (rck b == 0) = false := by simpa using hzb
    have hzb'' : (rck b != 0) = true := by simpa using hzb
    clear hzb
    generalize rck b = rb at *
    refine mx_take 16 rfl ?_
    simp only [List.take_succ_cons, List.take_zero, List.drop_succ_cons, List.drop_zero]
    repeat (go_big_quiet_step (fail))
    refine wpQuiet_nil ?_
    simp only [wpMix]
    have HE := Hid.mk' (bt HB1.out HD2.out)
    go_wp2_with fail
    go_ret
    exact ⟨rfl, HE.out⟩
  have HZB := Hid.mk' hzb
  rw [hzb]
  clear hzb HCB
  by_cases hl2 : l.length < 2
  case pos =>
    have hl2' : (l.length : Int) < 2 := by omega
    refine mx_take 16 rfl ?_
    simp only [List.take_succ_cons, List.take_zero, List.drop_succ_cons, List.drop_zero]
    repeat (go_big_quiet_step (fail))
    refine wpQuiet_nil ?_
    simp only [wpMix]
    have HE := Hid.mk' (bt HB1.out HD2.out)
    go_wp2_with fail
    go_ret
    exact ⟨rfl, HE.out⟩
  have hl2' : ¬ (l.length : Int) < 2 := by omega
  have hl0' : (0 : Int) < (l.length : Int) := by omega
  have hl1' : (1 : Int) < (l.length : Int) := by omega
  obtain ⟨bt', ot, rfl, hbt, c0, c1, c2⟩ := HAT.out 0 (by omega)
  obtain ⟨_, _, he, _, d0, d1, d2⟩ := HAT.out 1 (by omega)
  cases he
  rw [Nat.zero_mul, Nat.add_zero] at c0 c1 c2
  rw [Nat.one_mul] at d0 d1 d2
  generalize l[0] = x at *
  generalize l[1] = y at *
  have c0 := cell_up c0 HB1.out
  have c1 := cell_up c1 HB1.out
  have c2 := cell_up c2 HB1.out
  have d0 := cell_up d0 HB1.out
  have d1 := cell_up d1 HB1.out
  have d2 := cell_up d2 HB1.out
  have rc0 : ∀ q : Kp (fun _ => False) w1, q.nx.cell? ⟨bt', ot, none⟩ = some _ := fun q => q.cell c0 id
  have rc1 : ∀ q : Kp (fun _ => False) w1, q.nx.cell? ⟨bt', ot + 1, none⟩ = some _ := fun q => q.cell c1 id
  have rc2 : ∀ q : Kp (fun _ => False) w1, q.nx.cell? ⟨bt', ot + 2, none⟩ = some _ := fun q => q.cell c2 id
  have rd0 : ∀ q : Kp (fun _ => False) w1, q.nx.cell? ⟨bt', ot + 3, none⟩ = some _ := fun q => q.cell d0 id
  have rd1 : ∀ q : Kp (fun _ => False) w1, q.nx.cell? ⟨bt', ot + 3 + 1, none⟩ = some _ := fun q => q.cell d1 id
  have rd2 : ∀ q : Kp (fun _ => False) w1, q.nx.cell? ⟨bt', ot + 3 + 2, none⟩ = some _ := fun q => q.cell d2 id
  refine mx_take 14 rfl ?_
  simp only [List.take_succ_cons, List.take_zero, List.drop_succ_cons, List.drop_zero]
  repeat (go_big_quiet_step (fail))
  refine wpQuiet_nil ?_
  refine mx_val (u := .bool (decide (x = y))) rfl (by kernel_rfl) (fun _ _ => exec_eq30 rfl rfl rfl) ?_
  simp only [Act.put, List.setIfInBounds_toArray, List.set_cons_succ, List.set_cons_zero]
  have HXY : Hid ((decide (x = y) = true) ∨ (decide (x = y) = false ∧ x ≠ y)) := by
    by_cases h : x = y
    · exact .inl (decide_eq_true h)
    · exact .inr ⟨decide_eq_false h, h⟩
  generalize decide (x = y) = dxy at *
  refine mx_take 1 rfl ?_
  simp only [List.take_succ_cons, List.take_zero, List.drop_succ_cons, List.drop_zero]
  repeat (go_big_quiet_step (fail))
  refine wpQuiet_nil ?_
  simp only [wpMix]
  rcases HXY.out with rfl | ⟨rfl, hxy⟩
  · have HE := Hid.mk' (bt HB1.out HD2.out)
    go_wp2_with fail
    go_ret
    exact ⟨rfl, HE.out⟩
  have HN := Hid.mk' hxy
  clear hxy HXY rc0 rc1 rc2 rd0 rd1 rd2
  have c0 := cell_up c0 HD2.out
  have c1 := cell_up c1 HD2.out
  have c2 := cell_up c2 HD2.out
  have d0 := cell_up d0 HD2.out
  have d1 := cell_up d1 HD2.out
  have d2 := cell_up d2 HD2.out
  have Ha2 := Hid.mk' (Ha.out.up HD2.out)
  have Hb2 := Hid.mk' (Hb.out.up HD2.out)
  have HB2 := Hid.mk' (bt HB1.out HD2.out)
  rename World => w2
  clear HD0 HD1 HD2 Ha Hb HB1
  have d1 : w2.cell? ⟨bt', ot + 4, none⟩ = some (.int .u64 (y.2.1.toNat : Int)) := d1
  have d2 : w2.cell? ⟨bt', ot + 5, none⟩ = some (.int .u64 (y.2.2.toNat : Int)) := d2
  have hbt2 : bt' < w2.heap.size := World.block_lt_of_cell? w2 ⟨bt', ot, none⟩ c0
  go_upto_region 9 with fail
  go_cut [7, 8] (fun p q wx => ∃ g h : Nat, p = .pointer (some ⟨g, 0, none⟩) ∧ q = .pointer (some ⟨h, 0, none⟩) ∧ Hid (Bx2 w2 wx g h x y))
  case first =>
    have HX1 := Hid.mk' (bx2_a w2 x y)
    have HX2 := Hid.mk' (bx2_b w2 x y)
    go_big_region
    · go_wp2_with fail
      go_meet
      exact ⟨_, _, rfl, rfl, HX1⟩
    · go_wp2_with fail
      go_meet
      exact ⟨_, _, rfl, rfl, HX2⟩
  case rest =>
  obtain ⟨bx, by', rfl, rfl, HBX⟩ := hcut
  clear c0 c1 c2 d0 d1 d2 hbt2 hl2' hl0' hl1' hl2 HT HAT hbt htc htl
  rename World => w3
  obtain ⟨W, hW⟩ : ∃ W, W = (w3.alloc (.cells #[.map none] 37)).alloc (.cells #[.map none] 37) := ⟨_, rfl⟩
  go_upto_region 11 with fail
  rw [← hW]
  have hTw := tw2_new w3
  rw [← hW] at hTw
  have hb3 : Below w3.heap.size w3 W := by rw [hW]; exact bt (up_alloc _ _) (up_alloc _ _)
  obtain ⟨hb23, hg1, hg2, he1, he2⟩ := HBX.out
  have HBW := Hid.mk' (bt HB2.out (bt hb23 hb3))
  have Ha3 := Hid.mk' ((Ha2.out.up hb23).up hb3)
  have Hb3 := Hid.mk' ((Hb2.out.up hb23).up hb3)
  have hbx := (Array.getElem?_eq_some_iff.1 he1).1
  have hby := (Array.getElem?_eq_some_iff.1 he2).1
  obtain ⟨x0, x1, x2⟩ := box3 ((hb3.block bx hbx).trans he1)
  obtain ⟨y0, y1, y2⟩ := box3 ((hb3.block by' hby).trans he2)
  have HLT : Hid (w.heap.size ≤ w3.heap.size ∧ bx < w3.heap.size ∧ by' < w3.heap.size ∧ W.heap.size = w3.heap.size + 1 + 1 ∧ bx ≠ w3.heap.size ∧ by' ≠ w3.heap.size ∧ bx ≠ w3.heap.size + 1 ∧ by' ≠ w3.heap.size + 1) := by
    have h1 := HB2.out.size
    have h2 := hb23.size
    have h3 := hbx
    have h4 := hby
    exact ⟨by omega, h3, h4, by rw [hW]; simp, by omega, by omega, by omega, by omega⟩
  have HS0 : Hid (w.heap.size ≤ w3.heap.size) := HLT.out.1
  generalize hbs : w3.heap.size = bs at *
  generalize hbu : bs + 1 = bu at *
  have HTW := Hid.mk' hTw
  have hxb : ¬ (bx = bs ∨ bx = bu) := fun h => by have := HLT.out; omega
  have hyb : ¬ (by' = bs ∨ by' = bu) := fun h => by have := HLT.out; omega
  have HXC : Hid (∀ wz, Wb (fun k => k = bs ∨ k = bu) W wz → (wz.cell? ⟨bx, 0, none⟩ = some (.int .u64 (x.1.toNat : Int)) ∧ wz.cell? ⟨bx, 1, none⟩ = some (.int .u64 (x.2.1.toNat : Int)) ∧ wz.cell? ⟨bx, 2, none⟩ = some (.int .u64 (x.2.2.toNat : Int)))) := fun wz hz => by
    have hc : ∀ j v, W.cell? ⟨bx, j, none⟩ = some v → wz.cell? ⟨bx, j, none⟩ = some v := fun j v hj => (World.cell?_of_block (w := W) (a := ⟨bx, j, none⟩) (hz.block bx (World.block_lt_of_cell? W ⟨bx, j, none⟩ hj) hxb)).trans hj
    exact ⟨hc _ _ x0, hc _ _ x1, hc _ _ x2⟩
  have HYC : Hid (∀ wz, Wb (fun k => k = bs ∨ k = bu) W wz → (wz.cell? ⟨by', 0, none⟩ = some (.int .u64 (y.1.toNat : Int)) ∧ wz.cell? ⟨by', 1, none⟩ = some (.int .u64 (y.2.1.toNat : Int)) ∧ wz.cell? ⟨by', 2, none⟩ = some (.int .u64 (y.2.2.toNat : Int)))) := fun wz hz => by
    have hc : ∀ j v, W.cell? ⟨by', j, none⟩ = some v → wz.cell? ⟨by', j, none⟩ = some v := fun j v hj => (World.cell?_of_block (w := W) (a := ⟨by', j, none⟩) (hz.block by' (World.block_lt_of_cell? W ⟨by', j, none⟩ hj) hyb)).trans hj
    exact ⟨hc _ _ y0, hc _ _ y1, hc _ _ y2⟩
  have rx0 : ∀ q : Kp (fun k => k = bs ∨ k = bu) W, q.nx.cell? ⟨bx, 0, none⟩ = some (.int .u64 (x.1.toNat : Int)) := fun q => q.cell x0 hxb
  have rx1 : ∀ q : Kp (fun k => k = bs ∨ k = bu) W, q.nx.cell? ⟨bx, 1, none⟩ = some (.int .u64 (x.2.1.toNat : Int)) := fun q => q.cell x1 hxb
  have rx2 : ∀ q : Kp (fun k => k = bs ∨ k = bu) W, q.nx.cell? ⟨bx, 2, none⟩ = some (.int .u64 (x.2.2.toNat : Int)) := fun q => q.cell x2 hxb
  have ry0 : ∀ q : Kp (fun k => k = bs ∨ k = bu) W, q.nx.cell? ⟨by', 0, none⟩ = some (.int .u64 (y.1.toNat : Int)) := fun q => q.cell y0 hyb
  have ry1 : ∀ q : Kp (fun k => k = bs ∨ k = bu) W, q.nx.cell? ⟨by', 1, none⟩ = some (.int .u64 (y.2.1.toNat : Int)) := fun q => q.cell y1 hyb
  have ry2 : ∀ q : Kp (fun k => k = bs ∨ k = bu) W, q.nx.cell? ⟨by', 2, none⟩ = some (.int .u64 (y.2.2.toNat : Int)) := fun q => q.cell y2 hyb
  have HEND : Hid (∀ wz, Wb (fun k => k = bs ∨ k = bu) W wz → Below w.heap.size w wz) := fun wz hz => HBW.out.trans (hz.below HBW.out.size fun k hk => by have := HS0.out; have := HLT.out; omega)
  have HRA : Hid (∀ wz S T, Tw2 W wz bs bu S T → Calls Try.prog 19 #[.slice oa a.length oc] wz (OwP wz a)) := fun wz S T hz => own_any (hz.rgs Ha3.out fun k hk => ⟨fun e => by have : k < w.heap.size := hk; have := HS0.out; omega, fun e => by have : k < w.heap.size := hk; have := HS0.out; omega⟩) (by have := HLA.out; omega)
  have HRB : Hid (∀ wz S T, Tw2 W wz bs bu S T → Calls Try.prog 19 #[.slice ob b.length od] wz (OwP wz b)) := fun wz S T hz => own_any (hz.rgs Hb3.out fun k hk => ⟨fun e => by have : k < w.heap.size := hk; have := HS0.out; omega, fun e => by have : k < w.heap.size := hk; have := HS0.out; omega⟩) (by have := HLB.out; omega)
  have HAK1 := Hid.mk' (mir_ask0 x HZA.out)
  have HAK2 := Hid.mk' (mir_ask0 y HZB.out)
  have HAK3 := Hid.mk' (mir_ask1 (growR [] a) HZB.out HN.out)
  have HAK4 := Hid.mk' (mir_ask1 (growR [] b) HZA.out (Ne.symm HN.out))
  have HRV1 := Hid.mk' (rivT_one (l := growR [] a) (b := b) HN.out)
  have HRV2 := Hid.mk' (rivT_one (l := growR [] b) (b := a) (Ne.symm HN.out))
  have HCL : Hid (clsB (growR [] b) a = clsB (growR [] a) b) := by show _ = _; rw [grow_cls, grow_cls, clsB_symm b a]; rfl
  rw [HCL.out] at HAK4 HRV2
  have HGL : Hid ((growR [] b).length ≤ 20) := by have h1 := growR_len b []; have h2 := HLB.out; rw [List.length_nil, Nat.zero_add] at h1; exact Nat.le_trans h1 h2
  have HBK := Hid.mk' (mir_ask3 y (growR [] b) HZB.out)
  have HRL := Hid.mk' (mir_rel (growR [] a) (growR [] b) HN.out)
  have HRL1 := Hid.mk' (mir_rel1 x (growR [] a))
  clear he1 he2 hb3 hb23 hg1 hg2 hbx hby x0 x1 x2 y0 y1 y2 hTw HBX HB2 HBW Ha2 Hb2 HZA HZB HCL hbs hbu hxb hyb
  generalize growR [] a = A at *
  generalize growR [] b = B at *
  generalize clsB A b = d at *
  clear hW
  have HW0 : Hid (Tw2 W W.drew bs bu [] []) := HTW.out.up (drew_blx W _)
  refine wp_region_mox 12 (fun w' => ∃ q : Kp (fun k => k = bs ∨ k = bu) W, w' = q.nx) (by kernel_rfl) (by kernel_rfl) HW0.out.kp ?_
  simp only [List.take_succ_cons, List.take_zero, List.drop_succ_cons, List.drop_zero]
  refine mx_take 2 rfl ?_
  simp only [List.take_succ_cons, List.take_zero, List.drop_succ_cons, List.drop_zero]
  repeat (go_big_quiet_step (fail))
  refine wpQuiet_nil ?_
  refine mx_call (vals := [.slice oa a.length oc]) Try.func19 (by kernel_rfl) rfl rfl (by kernel_rfl) (by kernel_rfl) (HRA.out _ _ _ HW0.out) (fun E wc hc => ?_)
  obtain ⟨v1, rfl, ho1, hbe1⟩ := hc
  have HW1 := Hid.mk' (HW0.out.up hbe1)
  have HO1 := Hid.mk' ho1
  have HBE1 := Hid.mk' hbe1
  clear ho1 hbe1
  refine ⟨_, rfl, HW1.out.kp, ?_⟩
  simp only [Act.put, List.setIfInBounds_toArray, List.set_cons_succ, List.set_cons_zero]
  have hk2 := HW1.out.ask (x := x) HO1.out.rgs (by simp) (by simp [tgz, tget])
  rw [HAK1.out] at hk2
  have HK2 := Hid.mk' hk2
  clear hk2 HO1
  refine mx_call (vals := [.pointer (some ⟨bs, 0, none⟩), .agg #[.int .u64 (x.1.toNat : Int), .int .u64 (x.2.1.toNat : Int), .int .u64 (x.2.2.toNat : Int)], v1]) Try.func21 (by kernel_rfl) rfl rfl (by kernel_rfl) (by kernel_rfl) (HK2.out) (fun E wc hc => ?_)
  obtain ⟨rfl, ht2⟩ := hc
  have HW2 := Hid.mk' ht2
  clear ht2 HK2
  refine ⟨_, rfl, HW2.out.kp, ?_⟩
  simp only [Act.put, List.setIfInBounds_toArray, List.set_cons_succ, List.set_cons_zero]
  refine mx_take 4 rfl ?_
  simp only [List.take_succ_cons, List.take_zero, List.drop_succ_cons, List.drop_zero]
  repeat (go_big_quiet_step (fail))
  refine wpQuiet_nil ?_
  refine mx_call (vals := [.slice ob b.length od]) Try.func19 (by kernel_rfl) rfl rfl (by kernel_rfl) (by kernel_rfl) (HRB.out _ _ _ HW2.out) (fun E wc hc => ?_)
  obtain ⟨v3, rfl, ho3, hbe3⟩ := hc
  have HW3 := Hid.mk' (HW2.out.up hbe3)
  have HO3 := Hid.mk' ho3
  have HBE3 := Hid.mk' hbe3
  clear ho3 hbe3
  refine ⟨_, rfl, HW3.out.kp, ?_⟩
  simp only [Act.put, List.setIfInBounds_toArray, List.set_cons_succ, List.set_cons_zero]
  have hk4 := HW3.out.ask' (x := y) HO3.out.rgs (by simp) (by simp [tgz, tget])
  rw [HAK2.out] at hk4
  have HK4 := Hid.mk' hk4
  clear hk4 HO3
  refine mx_call (vals := [.pointer (some ⟨bu, 0, none⟩), .agg #[.int .u64 (y.1.toNat : Int), .int .u64 (y.2.1.toNat : Int), .int .u64 (y.2.2.toNat : Int)], v3]) Try.func21 (by kernel_rfl) rfl rfl (by kernel_rfl) (by kernel_rfl) (HK4.out) (fun E wc hc => ?_)
  obtain ⟨rfl, ht4⟩ := hc
  have HW4 := Hid.mk' ht4
  clear ht4 HK4
  refine ⟨_, rfl, HW4.out.kp, ?_⟩
  simp only [Act.put, List.setIfInBounds_toArray, List.set_cons_succ, List.set_cons_zero]
  refine mx_take 2 rfl ?_
  simp only [List.take_succ_cons, List.take_zero, List.drop_succ_cons, List.drop_zero]
  repeat (go_big_quiet_step (fail))
  refine wpQuiet_nil ?_
  simp only [wpMix]
  clear HW0 HTW HAK1
  have HD : Hid (d = true ∨ d = false) := by cases d <;> first | exact .inl rfl | exact .inr rfl
  go_upto_region 13 with fail
  rcases HD.out with rfl | rfl
  · simp only [if_true] at HAK3 HAK4 HRV1 HRV2
    have HW6 := Hid.mk' (HW4.out.up (drew_blx _ _))
    refine wp_region_mox 10 (fun w' => ∃ q : Kp (fun k => k = bs ∨ k = bu) W, w' = q.nx) (by kernel_rfl) (by kernel_rfl) HW6.out.kp ?_
    simp only [List.take_succ_cons, List.take_zero, List.drop_succ_cons, List.drop_zero]
    refine mx_take 2 rfl ?_
    simp only [List.take_succ_cons, List.take_zero, List.drop_succ_cons, List.drop_zero]
    repeat (go_big_quiet_step (fail))
    refine wpQuiet_nil ?_
    refine mx_call (vals := [.slice ob b.length od]) Try.func19 (by kernel_rfl) rfl rfl (by kernel_rfl) (by kernel_rfl) (HRB.out _ _ _ HW6.out) (fun E wc hc => ?_)
    obtain ⟨v7, rfl, ho7, hbe7⟩ := hc
    have HW7 := Hid.mk' (HW6.out.up hbe7)
    have HO7 := Hid.mk' ho7
    have HBE7 := Hid.mk' hbe7
    clear ho7 hbe7
    refine ⟨_, rfl, HW7.out.kp, ?_⟩
    simp only [Act.put, List.setIfInBounds_toArray, List.set_cons_succ, List.set_cons_zero]
    have hk8 := (HW7.out).riv (x := y) HO7.out.rgs (by simp)
    rw [HRV1.out] at hk8
    have HK8 := Hid.mk' hk8
    clear hk8 HO7
    refine mx_call (vals := [.pointer (some ⟨bs, 0, none⟩), .agg #[.int .u64 (y.1.toNat : Int), .int .u64 (y.2.1.toNat : Int), .int .u64 (y.2.2.toNat : Int)], v7]) Try.func18 (by kernel_rfl) rfl rfl (by kernel_rfl) (by kernel_rfl) (HK8.out) (fun E wc hc => ?_)
    obtain ⟨u8, rfl, ho8, hbe8⟩ := hc
    obtain ⟨g8, k8, rfl, _, _, _⟩ := ho8.form (by simp)
    have HO8 := Hid.mk' ho8
    have HW8 := Hid.mk' (HW7.out.up hbe8)
    have HBE8 := Hid.mk' hbe8
    clear ho8 hbe8 HK8
    refine ⟨_, rfl, HW8.out.kp, ?_⟩
    simp only [Act.put, List.setIfInBounds_toArray, List.set_cons_succ, List.set_cons_zero]
    refine mx_take 2 rfl ?_
    simp only [List.take_succ_cons, List.take_zero, List.drop_succ_cons, List.drop_zero]
    repeat (go_big_quiet_step (fail))
    refine wpQuiet_nil ?_
    refine mx_call (vals := [.slice oa a.length oc]) Try.func19 (by kernel_rfl) rfl rfl (by kernel_rfl) (by kernel_rfl) (HRA.out _ _ _ HW8.out) (fun E wc hc => ?_)
    obtain ⟨v9, rfl, ho9, hbe9⟩ := hc
    have HW9 := Hid.mk' (HW8.out.up hbe9)
    have HO9 := Hid.mk' ho9
    have HBE9 := Hid.mk' hbe9
    clear ho9 hbe9
    refine ⟨_, rfl, HW9.out.kp, ?_⟩
    simp only [Act.put, List.setIfInBounds_toArray, List.set_cons_succ, List.set_cons_zero]
    have hk10 := (HW9.out.swap).riv (x := x) HO9.out.rgs (by simp)
    rw [HRV2.out] at hk10
    have HK10 := Hid.mk' hk10
    clear hk10 HO9
    refine mx_call (vals := [.pointer (some ⟨bu, 0, none⟩), .agg #[.int .u64 (x.1.toNat : Int), .int .u64 (x.2.1.toNat : Int), .int .u64 (x.2.2.toNat : Int)], v9]) Try.func18 (by kernel_rfl) rfl rfl (by kernel_rfl) (by kernel_rfl) (HK10.out) (fun E wc hc => ?_)
    obtain ⟨u10, rfl, ho10, hbe10⟩ := hc
    obtain ⟨g10, k10, rfl, _, _, _⟩ := ho10.form (by simp)
    have HO10 := Hid.mk' ho10
    have HW10 := Hid.mk' (HW9.out.up hbe10)
    have HBE10 := Hid.mk' hbe10
    clear ho10 hbe10 HK10
    refine ⟨_, rfl, HW10.out.kp, ?_⟩
    simp only [Act.put, List.setIfInBounds_toArray, List.set_cons_succ, List.set_cons_zero]
    refine mx_take 2 rfl ?_
    simp only [List.take_succ_cons, List.take_zero, List.drop_succ_cons, List.drop_zero]
    repeat (go_big_quiet_step (fail))
    refine wpQuiet_nil ?_
    simp only [wpMix]
    go_upto_region 14 with fail
    obtain ⟨z0, z1, z2⟩ := (HO8.out.up (bt HBE9.out HBE10.out)).cells 0 (by simp)
    obtain ⟨p0, p1, p2⟩ := HO10.out.cells 0 (by simp)
    rw [Nat.zero_mul] at z0 z1 z2 p0 p1 p2
    obtain ⟨x0, x1, x2⟩ := HXC.out _ HW10.out.wb
    obtain ⟨y0, y1, y2⟩ := HYC.out _ HW10.out.wb
    have sz0 : ∀ q : Kp (fun _ => False) wc, q.nx.cell? ⟨g8, 0, none⟩ = some _ := fun q => q.cell z0 id
    have sz1 : ∀ q : Kp (fun _ => False) wc, q.nx.cell? ⟨g8, 1, none⟩ = some _ := fun q => q.cell z1 id
    have sz2 : ∀ q : Kp (fun _ => False) wc, q.nx.cell? ⟨g8, 2, none⟩ = some _ := fun q => q.cell z2 id
    have sp0 : ∀ q : Kp (fun _ => False) wc, q.nx.cell? ⟨g10, 0, none⟩ = some _ := fun q => q.cell p0 id
    have sp1 : ∀ q : Kp (fun _ => False) wc, q.nx.cell? ⟨g10, 1, none⟩ = some _ := fun q => q.cell p1 id
    have sp2 : ∀ q : Kp (fun _ => False) wc, q.nx.cell? ⟨g10, 2, none⟩ = some _ := fun q => q.cell p2 id
    have sx0 : ∀ q : Kp (fun _ => False) wc, q.nx.cell? ⟨bx, 0, none⟩ = some _ := fun q => q.cell x0 id
    have sx1 : ∀ q : Kp (fun _ => False) wc, q.nx.cell? ⟨bx, 1, none⟩ = some _ := fun q => q.cell x1 id
    have sx2 : ∀ q : Kp (fun _ => False) wc, q.nx.cell? ⟨bx, 2, none⟩ = some _ := fun q => q.cell x2 id
    have sy0 : ∀ q : Kp (fun _ => False) wc, q.nx.cell? ⟨by', 0, none⟩ = some _ := fun q => q.cell y0 id
    have sy1 : ∀ q : Kp (fun _ => False) wc, q.nx.cell? ⟨by', 1, none⟩ = some _ := fun q => q.cell y1 id
    have sy2 : ∀ q : Kp (fun _ => False) wc, q.nx.cell? ⟨by', 2, none⟩ = some _ := fun q => q.cell y2 id
    refine wp_region_mox 29 (fun w' => ∃ q : Kp (fun _ => False) wc, w' = q.nx) (by kernel_rfl) (by kernel_rfl) (kp_first _ wc) ?_
    simp only [List.take_succ_cons, List.take_zero, List.drop_succ_cons, List.drop_zero]
    refine mx_take 19 rfl ?_
    simp only [List.take_succ_cons, List.take_zero, List.drop_succ_cons, List.drop_zero]
    repeat (go_big_quiet_step (fail))
    refine wpQuiet_nil ?_
    refine mx_val (u := .bool false) rfl (by kernel_rfl) (fun _ _ => exec_ne30_self (x := x) rfl rfl rfl) ?_
    simp only [Act.put, List.setIfInBounds_toArray, List.set_cons_succ, List.set_cons_zero]
    refine mx_take 5 rfl ?_
    simp only [List.take_succ_cons, List.take_zero, List.drop_succ_cons, List.drop_zero]
    repeat (go_big_quiet_step (fail))
    refine wpQuiet_nil ?_
    refine mx_val (u := .bool false) rfl (by kernel_rfl) (fun _ _ => exec_ne30_self (x := y) rfl rfl rfl) ?_
    simp only [Act.put, List.setIfInBounds_toArray, List.set_cons_succ, List.set_cons_zero]
    refine mx_take 3 rfl ?_
    simp only [List.take_succ_cons, List.take_zero, List.drop_succ_cons, List.drop_zero]
    repeat (go_big_quiet_step (fail))
    refine wpQuiet_nil ?_
    simp only [wpMix]
    clear sz0 sz1 sz2 sp0 sp1 sp2 sx0 sx1 sx2 sy0 sy1 sy2 z0 z1 z2 p0 p1 p2 x0 x1 x2 y0 y1 y2
    have HW11 := Hid.mk' (HW10.out.up (drew_blx _ _))
    go_upto_region 16 with fail
    have HW12 := Hid.mk' (HW11.out.up (drew_blx _ _))
    refine wp_region_mox 10 (fun w' => ∃ q : Kp (fun k => k = bs ∨ k = bu) W, w' = q.nx) (by kernel_rfl) (by kernel_rfl) HW12.out.kp ?_
    simp only [List.take_succ_cons, List.take_zero, List.drop_succ_cons, List.drop_zero]
    refine mx_take 2 rfl ?_
    simp only [List.take_succ_cons, List.take_zero, List.drop_succ_cons, List.drop_zero]
    repeat (go_big_quiet_step (fail))
    refine wpQuiet_nil ?_
    refine mx_call (vals := [.slice ob b.length od]) Try.func19 (by kernel_rfl) rfl rfl (by kernel_rfl) (by kernel_rfl) (HRB.out _ _ _ HW12.out) (fun E wc hc => ?_)
    obtain ⟨v13, rfl, ho13, hbe13⟩ := hc
    have HW13 := Hid.mk' (HW12.out.up hbe13)
    have HO13 := Hid.mk' ho13
    have HBE13 := Hid.mk' hbe13
    clear ho13 hbe13
    refine ⟨_, rfl, HW13.out.kp, ?_⟩
    simp only [Act.put, List.setIfInBounds_toArray, List.set_cons_succ, List.set_cons_zero]
    have hk14 := HW13.out.ask (x := y) HO13.out.rgs (by simp) (by rw [tgz_one_ne _ (Ne.symm HN.out)]; simp)
    rw [HAK3.out] at hk14
    have HK14 := Hid.mk' hk14
    clear hk14 HO13
    refine mx_call (vals := [.pointer (some ⟨bs, 0, none⟩), .agg #[.int .u64 (y.1.toNat : Int), .int .u64 (y.2.1.toNat : Int), .int .u64 (y.2.2.toNat : Int)], v13]) Try.func21 (by kernel_rfl) rfl rfl (by kernel_rfl) (by kernel_rfl) (HK14.out) (fun E wc hc => ?_)
    obtain ⟨rfl, ht14⟩ := hc
    have HW14 := Hid.mk' ht14
    clear ht14 HK14
    refine ⟨_, rfl, HW14.out.kp, ?_⟩
    simp only [Act.put, List.setIfInBounds_toArray, List.set_cons_succ, List.set_cons_zero]
    refine mx_take 2 rfl ?_
    simp only [List.take_succ_cons, List.take_zero, List.drop_succ_cons, List.drop_zero]
    repeat (go_big_quiet_step (fail))
    refine wpQuiet_nil ?_
    refine mx_call (vals := [.slice oa a.length oc]) Try.func19 (by kernel_rfl) rfl rfl (by kernel_rfl) (by kernel_rfl) (HRA.out _ _ _ HW14.out) (fun E wc hc => ?_)
    obtain ⟨v15, rfl, ho15, hbe15⟩ := hc
    have HW15 := Hid.mk' (HW14.out.up hbe15)
    have HO15 := Hid.mk' ho15
    have HBE15 := Hid.mk' hbe15
    clear ho15 hbe15
    refine ⟨_, rfl, HW15.out.kp, ?_⟩
    simp only [Act.put, List.setIfInBounds_toArray, List.set_cons_succ, List.set_cons_zero]
    have hk16 := HW15.out.ask' (x := x) HO15.out.rgs (by simp) (by rw [tgz_one_ne _ HN.out]; simp)
    rw [HAK4.out] at hk16
    have HK16 := Hid.mk' hk16
    clear hk16 HO15
    refine mx_call (vals := [.pointer (some ⟨bu, 0, none⟩), .agg #[.int .u64 (x.1.toNat : Int), .int .u64 (x.2.1.toNat : Int), .int .u64 (x.2.2.toNat : Int)], v15]) Try.func21 (by kernel_rfl) rfl rfl (by kernel_rfl) (by kernel_rfl) (HK16.out) (fun E wc hc => ?_)
    obtain ⟨rfl, ht16⟩ := hc
    have HW16 := Hid.mk' ht16
    clear ht16 HK16
    refine ⟨_, rfl, HW16.out.kp, ?_⟩
    simp only [Act.put, List.setIfInBounds_toArray, List.set_cons_succ, List.set_cons_zero]
    refine mx_take 2 rfl ?_
    simp only [List.take_succ_cons, List.take_zero, List.drop_succ_cons, List.drop_zero]
    repeat (go_big_quiet_step (fail))
    refine wpQuiet_nil ?_
    simp only [wpMix]
    go_upto_region 19 with fail
    obtain ⟨x0, x1, x2⟩ := HXC.out _ HW16.out.wb
    have hk17 := HW16.out.rel (up_alloc _ (.cells #[.int .u64 (x.1.toNat : Int), .int .u64 (x.2.1.toNat : Int), .int .u64 (x.2.2.toNat : Int)] 30)) (txr_one x) (fun k hk => Nat.le_of_eq hk.symm) (by simp)
    rw [HRL1.out] at hk17
    have HK17 := Hid.mk' (hk17.mono fun e w' h => (⟨⟨_, h.1⟩, h.2⟩ : (∃ n : Int, e = .returned (.int .i64 n)) ∧ _))
    clear hk17
    go_wp2_with fail
    refine HK17.out.mono ?_
    rintro e wr ⟨⟨nn, rfl⟩, ht17⟩
    have HW17 := Hid.mk' ht17
    clear ht17 HK17 x0 x1 x2
    go_upto_region 20 with fail
    have HW18 := Hid.mk' (HW17.out.up (drew_blx _ _))
    refine wp_region_mox 20 (fun w' => ∃ q : Kp (fun k => k = bs ∨ k = bu) W, w' = q.nx) (by kernel_rfl) (by kernel_rfl) HW18.out.kp ?_
    simp only [List.take_succ_cons, List.take_zero, List.drop_succ_cons, List.drop_zero]
    refine mx_take 2 rfl ?_
    simp only [List.take_succ_cons, List.take_zero, List.drop_succ_cons, List.drop_zero]
    repeat (go_big_quiet_step (fail))
    refine wpQuiet_nil ?_
    refine mx_call (vals := [.slice ob b.length od]) Try.func19 (by kernel_rfl) rfl rfl (by kernel_rfl) (by kernel_rfl) (HRB.out _ _ _ HW18.out) (fun E wc hc => ?_)
    obtain ⟨v19, rfl, ho19, hbe19⟩ := hc
    have HW19 := Hid.mk' (HW18.out.up hbe19)
    have HO19 := Hid.mk' ho19
    have HBE19 := Hid.mk' hbe19
    clear ho19 hbe19
    refine ⟨_, rfl, HW19.out.kp, ?_⟩
    simp only [Act.put, List.setIfInBounds_toArray, List.set_cons_succ, List.set_cons_zero]
    have hk20 := HW19.out.ask (x := y) HO19.out.rgs (by simp) (by simp [tgz, tget])
    rw [HAK2.out] at hk20
    have HK20 := Hid.mk' hk20
    clear hk20 HO19
    refine mx_call (vals := [.pointer (some ⟨bs, 0, none⟩), .agg #[.int .u64 (y.1.toNat : Int), .int .u64 (y.2.1.toNat : Int), .int .u64 (y.2.2.toNat : Int)], v19]) Try.func21 (by kernel_rfl) rfl rfl (by kernel_rfl) (by kernel_rfl) (HK20.out) (fun E wc hc => ?_)
    obtain ⟨rfl, ht20⟩ := hc
    have HW20 := Hid.mk' ht20
    clear ht20 HK20
    refine ⟨_, rfl, HW20.out.kp, ?_⟩
    simp only [Act.put, List.setIfInBounds_toArray, List.set_cons_succ, List.set_cons_zero]
    refine mx_take 4 rfl ?_
    simp only [List.take_succ_cons, List.take_zero, List.drop_succ_cons, List.drop_zero]
    repeat (go_big_quiet_step (fail))
    refine wpQuiet_nil ?_
    refine mx_call (vals := [.slice oa a.length oc]) Try.func19 (by kernel_rfl) rfl rfl (by kernel_rfl) (by kernel_rfl) (HRA.out _ _ _ HW20.out) (fun E wc hc => ?_)
    obtain ⟨v21, rfl, ho21, hbe21⟩ := hc
    have HW21 := Hid.mk' (HW20.out.up hbe21)
    have HO21 := Hid.mk' ho21
    have HBE21 := Hid.mk' hbe21
    clear ho21 hbe21
    refine ⟨_, rfl, HW21.out.kp, ?_⟩
    simp only [Act.put, List.setIfInBounds_toArray, List.set_cons_succ, List.set_cons_zero]
    have hk22 := (HW21.out).riv (x := y) HO21.out.rgs (by simp)
    rw [riv_self] at hk22
    have HK22 := Hid.mk' hk22
    clear hk22 HO21
    refine mx_call (vals := [.pointer (some ⟨bs, 0, none⟩), .agg #[.int .u64 (y.1.toNat : Int), .int .u64 (y.2.1.toNat : Int), .int .u64 (y.2.2.toNat : Int)], v21]) Try.func18 (by kernel_rfl) rfl rfl (by kernel_rfl) (by kernel_rfl) (HK22.out) (fun E wc hc => ?_)
    obtain ⟨u22, rfl, ho22, hbe22⟩ := hc
    obtain ⟨g22, k22, rfl⟩ := own_sliceN ho22
    have HW22 := Hid.mk' (HW21.out.up hbe22)
    have HBE22 := Hid.mk' hbe22
    clear ho22 hbe22 HK22
    refine ⟨_, rfl, HW22.out.kp, ?_⟩
    simp only [Act.put, List.setIfInBounds_toArray, List.set_cons_succ, List.set_cons_zero]
    refine mx_take 5 rfl ?_
    simp only [List.take_succ_cons, List.take_zero, List.drop_succ_cons, List.drop_zero]
    repeat (go_big_quiet_step (fail))
    refine wpQuiet_nil ?_
    have hk23 := HW22.out.held (x := x) (by rw [tgz_one_ne _ HN.out]; simp)
    rw [tgz_one_ne _ HN.out] at hk23
    have HK23 := Hid.mk' hk23
    clear hk23
    refine mx_call (vals := [.pointer (some ⟨bs, 0, none⟩), .agg #[.int .u64 (x.1.toNat : Int), .int .u64 (x.2.1.toNat : Int), .int .u64 (x.2.2.toNat : Int)]]) Try.func27 (by kernel_rfl) rfl rfl (by kernel_rfl) (by kernel_rfl) (HK23.out) (fun E wc hc => ?_)
    obtain ⟨u23, L23, rfl, hl23, ho23, hbe23⟩ := hc
    obtain rfl : L23 = [] := List.map_eq_nil_iff.1 hl23
    obtain ⟨g23, k23, rfl⟩ := own_sliceN ho23.1
    have HW23 := Hid.mk' (HW22.out.up hbe23)
    clear ho23 hbe23 HK23
    refine ⟨_, rfl, HW23.out.kp, ?_⟩
    simp only [Act.put, List.setIfInBounds_toArray, List.set_cons_succ, List.set_cons_zero]
    refine mx_take 4 rfl ?_
    simp only [List.take_succ_cons, List.take_zero, List.drop_succ_cons, List.drop_zero]
    repeat (go_big_quiet_step (fail))
    refine wpQuiet_nil ?_
    simp only [wpMix]
    have HE := Hid.mk' (HEND.out _ HW23.out.wb)
    go_wp2_with fail
    go_ret
    exact ⟨rfl, HE.out⟩
  · simp only [Bool.false_eq_true, if_false] at HAK3 HAK4 HRV1 HRV2
    have HW25 := Hid.mk' (HW4.out.up (drew_blx _ _))
    refine wp_region_mox 10 (fun w' => ∃ q : Kp (fun k => k = bs ∨ k = bu) W, w' = q.nx) (by kernel_rfl) (by kernel_rfl) HW25.out.kp ?_
    simp only [List.take_succ_cons, List.take_zero, List.drop_succ_cons, List.drop_zero]
    refine mx_take 2 rfl ?_
    simp only [List.take_succ_cons, List.take_zero, List.drop_succ_cons, List.drop_zero]
    repeat (go_big_quiet_step (fail))
    refine wpQuiet_nil ?_
    refine mx_call (vals := [.slice ob b.length od]) Try.func19 (by kernel_rfl) rfl rfl (by kernel_rfl) (by kernel_rfl) (HRB.out _ _ _ HW25.out) (fun E wc hc => ?_)
    obtain ⟨v26, rfl, ho26, hbe26⟩ := hc
    have HW26 := Hid.mk' (HW25.out.up hbe26)
    have HO26 := Hid.mk' ho26
    have HBE26 := Hid.mk' hbe26
    clear ho26 hbe26
    refine ⟨_, rfl, HW26.out.kp, ?_⟩
    simp only [Act.put, List.setIfInBounds_toArray, List.set_cons_succ, List.set_cons_zero]
    have hk27 := (HW26.out).riv (x := y) HO26.out.rgs (by simp)
    rw [HRV1.out] at hk27
    have HK27 := Hid.mk' hk27
    clear hk27 HO26
    refine mx_call (vals := [.pointer (some ⟨bs, 0, none⟩), .agg #[.int .u64 (y.1.toNat : Int), .int .u64 (y.2.1.toNat : Int), .int .u64 (y.2.2.toNat : Int)], v26]) Try.func18 (by kernel_rfl) rfl rfl (by kernel_rfl) (by kernel_rfl) (HK27.out) (fun E wc hc => ?_)
    obtain ⟨u27, rfl, ho27, hbe27⟩ := hc
    obtain ⟨g27, k27, rfl⟩ := own_sliceN ho27
    have HW27 := Hid.mk' (HW26.out.up hbe27)
    have HBE27 := Hid.mk' hbe27
    clear ho27 hbe27 HK27
    refine ⟨_, rfl, HW27.out.kp, ?_⟩
    simp only [Act.put, List.setIfInBounds_toArray, List.set_cons_succ, List.set_cons_zero]
    refine mx_take 2 rfl ?_
    simp only [List.take_succ_cons, List.take_zero, List.drop_succ_cons, List.drop_zero]
    repeat (go_big_quiet_step (fail))
    refine wpQuiet_nil ?_
    refine mx_call (vals := [.slice oa a.length oc]) Try.func19 (by kernel_rfl) rfl rfl (by kernel_rfl) (by kernel_rfl) (HRA.out _ _ _ HW27.out) (fun E wc hc => ?_)
    obtain ⟨v28, rfl, ho28, hbe28⟩ := hc
    have HW28 := Hid.mk' (HW27.out.up hbe28)
    have HO28 := Hid.mk' ho28
    have HBE28 := Hid.mk' hbe28
    clear ho28 hbe28
    refine ⟨_, rfl, HW28.out.kp, ?_⟩
    simp only [Act.put, List.setIfInBounds_toArray, List.set_cons_succ, List.set_cons_zero]
    have hk29 := (HW28.out.swap).riv (x := x) HO28.out.rgs (by simp)
    rw [HRV2.out] at hk29
    have HK29 := Hid.mk' hk29
    clear hk29 HO28
    refine mx_call (vals := [.pointer (some ⟨bu, 0, none⟩), .agg #[.int .u64 (x.1.toNat : Int), .int .u64 (x.2.1.toNat : Int), .int .u64 (x.2.2.toNat : Int)], v28]) Try.func18 (by kernel_rfl) rfl rfl (by kernel_rfl) (by kernel_rfl) (HK29.out) (fun E wc hc => ?_)
    obtain ⟨u29, rfl, ho29, hbe29⟩ := hc
    obtain ⟨g29, k29, rfl⟩ := own_sliceN ho29
    have HW29 := Hid.mk' (HW28.out.up hbe29)
    have HBE29 := Hid.mk' hbe29
    clear ho29 hbe29 HK29
    refine ⟨_, rfl, HW29.out.kp, ?_⟩
    simp only [Act.put, List.setIfInBounds_toArray, List.set_cons_succ, List.set_cons_zero]
    refine mx_take 2 rfl ?_
    simp only [List.take_succ_cons, List.take_zero, List.drop_succ_cons, List.drop_zero]
    repeat (go_big_quiet_step (fail))
    refine wpQuiet_nil ?_
    simp only [wpMix]
    go_upto_region 14 with fail
    refine wp_region_mox 29 (fun w' => ∃ q : Kp (fun _ => False) wc, w' = q.nx) (by kernel_rfl) (by kernel_rfl) (kp_first _ wc) ?_
    simp only [List.take_succ_cons, List.take_zero, List.drop_succ_cons, List.drop_zero]
    refine mx_take 29 rfl ?_
    simp only [List.take_succ_cons, List.take_zero, List.drop_succ_cons, List.drop_zero]
    repeat (go_big_quiet_step (fail))
    refine wpQuiet_nil ?_
    simp only [wpMix]
    have HW30 := Hid.mk' (HW29.out.up (drew_blx _ _))
    go_upto_region 16 with fail
    have HW31 := Hid.mk' (HW30.out.up (drew_blx _ _))
    refine wp_region_mox 10 (fun w' => ∃ q : Kp (fun k => k = bs ∨ k = bu) W, w' = q.nx) (by kernel_rfl) (by kernel_rfl) HW31.out.kp ?_
    simp only [List.take_succ_cons, List.take_zero, List.drop_succ_cons, List.drop_zero]
    refine mx_take 2 rfl ?_
    simp only [List.take_succ_cons, List.take_zero, List.drop_succ_cons, List.drop_zero]
    repeat (go_big_quiet_step (fail))
    refine wpQuiet_nil ?_
    refine mx_call (vals := [.slice ob b.length od]) Try.func19 (by kernel_rfl) rfl rfl (by kernel_rfl) (by kernel_rfl) (HRB.out _ _ _ HW31.out) (fun E wc hc => ?_)
    obtain ⟨v32, rfl, ho32, hbe32⟩ := hc
    have HW32 := Hid.mk' (HW31.out.up hbe32)
    have HO32 := Hid.mk' ho32
    have HBE32 := Hid.mk' hbe32
    clear ho32 hbe32
    refine ⟨_, rfl, HW32.out.kp, ?_⟩
    simp only [Act.put, List.setIfInBounds_toArray, List.set_cons_succ, List.set_cons_zero]
    have hk33 := HW32.out.ask (x := y) HO32.out.rgs (by simp) (by rw [tgz_one_ne _ (Ne.symm HN.out)]; simp)
    rw [HAK3.out] at hk33
    have HK33 := Hid.mk' hk33
    clear hk33 HO32
    refine mx_call (vals := [.pointer (some ⟨bs, 0, none⟩), .agg #[.int .u64 (y.1.toNat : Int), .int .u64 (y.2.1.toNat : Int), .int .u64 (y.2.2.toNat : Int)], v32]) Try.func21 (by kernel_rfl) rfl rfl (by kernel_rfl) (by kernel_rfl) (HK33.out) (fun E wc hc => ?_)
    obtain ⟨rfl, ht33⟩ := hc
    have HW33 := Hid.mk' ht33
    clear ht33 HK33
    refine ⟨_, rfl, HW33.out.kp, ?_⟩
    simp only [Act.put, List.setIfInBounds_toArray, List.set_cons_succ, List.set_cons_zero]
    refine mx_take 2 rfl ?_
    simp only [List.take_succ_cons, List.take_zero, List.drop_succ_cons, List.drop_zero]
    repeat (go_big_quiet_step (fail))
    refine wpQuiet_nil ?_
    refine mx_call (vals := [.slice oa a.length oc]) Try.func19 (by kernel_rfl) rfl rfl (by kernel_rfl) (by kernel_rfl) (HRA.out _ _ _ HW33.out) (fun E wc hc => ?_)
    obtain ⟨v34, rfl, ho34, hbe34⟩ := hc
    have HW34 := Hid.mk' (HW33.out.up hbe34)
    have HO34 := Hid.mk' ho34
    have HBE34 := Hid.mk' hbe34
    clear ho34 hbe34
    refine ⟨_, rfl, HW34.out.kp, ?_⟩
    simp only [Act.put, List.setIfInBounds_toArray, List.set_cons_succ, List.set_cons_zero]
    have hk35 := HW34.out.ask' (x := x) HO34.out.rgs (by simp) (by rw [tgz_one_ne _ HN.out]; simp)
    rw [HAK4.out] at hk35
    have HK35 := Hid.mk' hk35
    clear hk35 HO34
    refine mx_call (vals := [.pointer (some ⟨bu, 0, none⟩), .agg #[.int .u64 (x.1.toNat : Int), .int .u64 (x.2.1.toNat : Int), .int .u64 (x.2.2.toNat : Int)], v34]) Try.func21 (by kernel_rfl) rfl rfl (by kernel_rfl) (by kernel_rfl) (HK35.out) (fun E wc hc => ?_)
    obtain ⟨rfl, ht35⟩ := hc
    have HW35 := Hid.mk' ht35
    clear ht35 HK35
    refine ⟨_, rfl, HW35.out.kp, ?_⟩
    simp only [Act.put, List.setIfInBounds_toArray, List.set_cons_succ, List.set_cons_zero]
    refine mx_take 2 rfl ?_
    simp only [List.take_succ_cons, List.take_zero, List.drop_succ_cons, List.drop_zero]
    repeat (go_big_quiet_step (fail))
    refine wpQuiet_nil ?_
    simp only [wpMix]
    go_upto_region 19 with fail
    obtain ⟨x0, x1, x2⟩ := HXC.out _ HW35.out.wb
    have hk36 := HW35.out.rel (up_alloc _ (.cells #[.int .u64 (x.1.toNat : Int), .int .u64 (x.2.1.toNat : Int), .int .u64 (x.2.2.toNat : Int)] 30)) (txr_one x) (fun k hk => Nat.le_of_eq hk.symm) (by rw [len_tput _ (by simp [Tsrt])]; split <;> simp)
    rw [HRL.out] at hk36
    have HK36 := Hid.mk' (hk36.mono fun e w' h => (⟨⟨_, h.1⟩, h.2⟩ : (∃ n : Int, e = .returned (.int .i64 n)) ∧ _))
    clear hk36
    go_wp2_with fail
    refine HK36.out.mono ?_
    rintro e wr ⟨⟨nn, rfl⟩, ht36⟩
    have HW36 := Hid.mk' ht36
    clear ht36 HK36 x0 x1 x2
    go_upto_region 20 with fail
    have HW37 := Hid.mk' (HW36.out.up (drew_blx _ _))
    refine wp_region_mox 20 (fun w' => ∃ q : Kp (fun k => k = bs ∨ k = bu) W, w' = q.nx) (by kernel_rfl) (by kernel_rfl) HW37.out.kp ?_
    simp only [List.take_succ_cons, List.take_zero, List.drop_succ_cons, List.drop_zero]
    refine mx_take 2 rfl ?_
    simp only [List.take_succ_cons, List.take_zero, List.drop_succ_cons, List.drop_zero]
    repeat (go_big_quiet_step (fail))
    refine wpQuiet_nil ?_
    refine mx_call (vals := [.slice ob b.length od]) Try.func19 (by kernel_rfl) rfl rfl (by kernel_rfl) (by kernel_rfl) (HRB.out _ _ _ HW37.out) (fun E wc hc => ?_)
    obtain ⟨v38, rfl, ho38, hbe38⟩ := hc
    have HW38 := Hid.mk' (HW37.out.up hbe38)
    have HO38 := Hid.mk' ho38
    have HBE38 := Hid.mk' hbe38
    clear ho38 hbe38
    refine ⟨_, rfl, HW38.out.kp, ?_⟩
    simp only [Act.put, List.setIfInBounds_toArray, List.set_cons_succ, List.set_cons_zero]
    have hk39 := HW38.out.ask (x := y) HO38.out.rgs (by simp) (by rw [tgz_one]; have := HGL.out; omega)
    rw [HBK.out] at hk39
    have HK39 := Hid.mk' hk39
    clear hk39 HO38
    refine mx_call (vals := [.pointer (some ⟨bs, 0, none⟩), .agg #[.int .u64 (y.1.toNat : Int), .int .u64 (y.2.1.toNat : Int), .int .u64 (y.2.2.toNat : Int)], v38]) Try.func21 (by kernel_rfl) rfl rfl (by kernel_rfl) (by kernel_rfl) (HK39.out) (fun E wc hc => ?_)
    obtain ⟨rfl, ht39⟩ := hc
    have HW39 := Hid.mk' ht39
    clear ht39 HK39
    refine ⟨_, rfl, HW39.out.kp, ?_⟩
    simp only [Act.put, List.setIfInBounds_toArray, List.set_cons_succ, List.set_cons_zero]
    refine mx_take 4 rfl ?_
    simp only [List.take_succ_cons, List.take_zero, List.drop_succ_cons, List.drop_zero]
    repeat (go_big_quiet_step (fail))
    refine wpQuiet_nil ?_
    refine mx_call (vals := [.slice oa a.length oc]) Try.func19 (by kernel_rfl) rfl rfl (by kernel_rfl) (by kernel_rfl) (HRA.out _ _ _ HW39.out) (fun E wc hc => ?_)
    obtain ⟨v40, rfl, ho40, hbe40⟩ := hc
    have HW40 := Hid.mk' (HW39.out.up hbe40)
    have HO40 := Hid.mk' ho40
    have HBE40 := Hid.mk' hbe40
    clear ho40 hbe40
    refine ⟨_, rfl, HW40.out.kp, ?_⟩
    simp only [Act.put, List.setIfInBounds_toArray, List.set_cons_succ, List.set_cons_zero]
    have hk41 := (HW40.out).riv (x := y) HO40.out.rgs (by simp)
    rw [riv_self] at hk41
    have HK41 := Hid.mk' hk41
    clear hk41 HO40
    refine mx_call (vals := [.pointer (some ⟨bs, 0, none⟩), .agg #[.int .u64 (y.1.toNat : Int), .int .u64 (y.2.1.toNat : Int), .int .u64 (y.2.2.toNat : Int)], v40]) Try.func18 (by kernel_rfl) rfl rfl (by kernel_rfl) (by kernel_rfl) (HK41.out) (fun E wc hc => ?_)
    obtain ⟨u41, rfl, ho41, hbe41⟩ := hc
    obtain ⟨g41, k41, rfl⟩ := own_sliceN ho41
    have HW41 := Hid.mk' (HW40.out.up hbe41)
    have HBE41 := Hid.mk' hbe41
    clear ho41 hbe41 HK41
    refine ⟨_, rfl, HW41.out.kp, ?_⟩
    simp only [Act.put, List.setIfInBounds_toArray, List.set_cons_succ, List.set_cons_zero]
    refine mx_take 5 rfl ?_
    simp only [List.take_succ_cons, List.take_zero, List.drop_succ_cons, List.drop_zero]
    repeat (go_big_quiet_step (fail))
    refine wpQuiet_nil ?_
    have hk42 := HW41.out.held (x := x) (by rw [tgz_one_ne _ HN.out]; simp)
    rw [tgz_one_ne _ HN.out] at hk42
    have HK42 := Hid.mk' hk42
    clear hk42
    refine mx_call (vals := [.pointer (some ⟨bs, 0, none⟩), .agg #[.int .u64 (x.1.toNat : Int), .int .u64 (x.2.1.toNat : Int), .int .u64 (x.2.2.toNat : Int)]]) Try.func27 (by kernel_rfl) rfl rfl (by kernel_rfl) (by kernel_rfl) (HK42.out) (fun E wc hc => ?_)
    obtain ⟨u42, L42, rfl, hl42, ho42, hbe42⟩ := hc
    obtain rfl : L42 = [] := List.map_eq_nil_iff.1 hl42
    obtain ⟨g42, k42, rfl⟩ := own_sliceN ho42.1
    have HW42 := Hid.mk' (HW41.out.up hbe42)
    clear ho42 hbe42 HK42
    refine ⟨_, rfl, HW42.out.kp, ?_⟩
    simp only [Act.put, List.setIfInBounds_toArray, List.set_cons_succ, List.set_cons_zero]
    refine mx_take 4 rfl ?_
    simp only [List.take_succ_cons, List.take_zero, List.drop_succ_cons, List.drop_zero]
    repeat (go_big_quiet_step (fail))
    refine wpQuiet_nil ?_
    simp only [wpMix]
    have HE := Hid.mk' (HEND.out _ HW42.out.wb)
    go_wp2_with fail
    go_ret
    exact ⟨rfl, HE.out⟩
end Go.Proofs.Yteejlmeinndlhaa
