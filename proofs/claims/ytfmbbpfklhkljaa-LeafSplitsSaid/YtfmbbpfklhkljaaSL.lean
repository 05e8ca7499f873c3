/- leaf.Split. -/
import Derived.Test.YtfmbbpfklhkljaaSR
set_option linter.unusedVariables false
set_option linter.unusedSimpArgs false
namespace Go.Proofs.Ytfmbbpfklhkljaa
open Go.RowKit
theorem exec_max {w : World} {o : Oper} {a : Act} {x y : Operand} {p q m : Nat} (ho : o.op = .call { callee := .builtin .max, args := #[x, y], argTypes := #[3, 3] }) (hx : a.eval x = .int .i64 p) (hy : a.eval y = .int .i64 q) (hm : max p q = m) : (execOp a.eval o).run Try.prog w = .ok (.value (.int .i64 m)) w := by
  subst hm
  unfold execOp
  simp only [ho, resolve, invoke, builtin, List.map_toArray, List.map_cons, List.map_nil, hx, hy]
  simp [go_sem]
  split <;> omega
theorem prt_Sm {n : Nd} (hf : Fm n) (hs : Sm n) (i j : Nat) : Sm (prt n i j) := by
  obtain ⟨h1, h2, h3⟩ := prt_sm hf i j
  refine ⟨by unfold lim; omega, by unfold lim; omega, by unfold lim; omega, ?_⟩
  intro x hx
  cases hl : n.leaf with
  | true => rw [prt_leaf hl] at hx; cases hx
  | false =>
    rw [prt_inner hl] at hx
    exact hs.2.2.2 x (List.mem_of_mem_take (List.mem_of_mem_drop hx))
theorem none_own {B : Nat} {w : World} : OwnN B w (.agg #[.bool false, .slice none 0 0, .slice none 0 0, .slice none 0 0]) none0 := ⟨_, _, _, rfl, obb_nil, obb_nil, World.ownsRow_nil _ _ _ _, fun k hk => by cases hk⟩
def kb (n : Nd) : Nat → Nat
  | 0 => 1
  | c + 1 => bst n c
def bb (n : Nd) : Nat → Nat
  | 0 => 0
  | c + 1 => gr n (bst n c)
theorem own_b {e : TypeId} {B rb : Nat} {w w' : World} {v : Value} {l : List UInt8} (h : Ob e B w v l) (hs : Wb (fun k => k = rb) w w') (hB : rb < B) : Ob e B w' v l :=
  own_wb h hs fun k hk e => by
    subst hk
    have := (h.lt k e.symm).1
    omega
set_option maxRecDepth 100000 in
set_option maxHeartbeats 4000000 in
/-- leaf.Split -/
theorem split_true {A : Nat → Prop} {w : World} {v : Value} {n : Nd} (h : RN A w v n) (hf : Fm n) (hlf : n.leaf = true) : Calls Try.prog 30 #[v] w fun e w' => ∃ v1 v2 v3, e = .returned (.tuple #[v1, v2, v3]) ∧ OwnN w.heap.size w' v1 (spA n) ∧ Bs (Lt w'.heap.size) w' v2 (spK n) ∧ OwnN w.heap.size w' v3 (spB n) ∧ Below w.heap.size w w' := by
  have hsm := h.sm
  obtain ⟨a1, c1, a2, c2, a3, c3, rfl⟩ := h.form
  obtain ⟨_, _, _, eq0, g1, g2, g3⟩ := id h
  simp only [Value.agg.injEq, Array.mk.injEq, List.cons.injEq, and_true, true_and] at eq0
  obtain ⟨rfl, rfl, rfl⟩ := eq0
  rw [hlf] at h ⊢
  have HN := Hid.mk' h
  have HF := Hid.mk' hf
  have HL := Hid.mk' hlf
  have HSM := Hid.mk' hsm
  obtain ⟨_, _, he1, _, _, hkk⟩ := g1.at
  cases he1
  have HK := Hid.mk' hkk
  have hl200 : n.keys.length ≤ 200 := hf.sm
  have hbe : bh n = 0 := by unfold bh; rw [hlf]; rfl
  have HBE := Hid.mk' hbe
  have hv : (n.vals.length : Int) = (n.keys.length : Int) := by rw [HF.out.lf HL.out]
  have hv2 : decide ((n.vals.length : Int) < (n.keys.length : Int)) = false := by simp; omega
  have hv3 : n.keys.length ≤ n.vals.length := by omega
  clear h hf g1 g2 g3 hkk hsm hlf hv hbe
  go_enter Try.func30, Try.ntmps30
  go_upto_if 17 with fail
  go_cut [5, 6] (fun m b wx => m = .int .i64 ((n.keys.length : Int) - 1) ∧ b = .int .i64 0 ∧ Hid (Thr w #[.bool true, .slice a1 n.keys.length c1, .slice a2 n.vals.length c2, .slice a3 n.kids.length c3] #[.bool false, .slice none 0 0, .slice none 0 0, .slice none 0 0] #[.bool false, .slice none 0 0, .slice none 0 0, .slice none 0 0] 37 wx))
  case first =>
    obtain ⟨W0, hW0⟩ : ∃ W, W = ((w.alloc (.cells #[.bool true, .slice a1 n.keys.length c1, .slice a2 n.vals.length c2, .slice a3 n.kids.length c3] 37)).alloc (.cells #[.bool false, .slice none 0 0, .slice none 0 0, .slice none 0 0] 37)).alloc (.cells #[.bool false, .slice none 0 0, .slice none 0 0, .slice none 0 0] 37) := ⟨_, rfl⟩
    rw [← hW0]
    have HT := Hid.mk' (thr_new hW0)
    clear hW0
    obtain ⟨⟨b0, b1, b2, b3⟩, bf⟩ := cells4_get HT.out.h0
    have hm : IntKind.i64.wrap ((n.keys.length : Int) - 1) = (n.keys.length : Int) - 1 := by rw [IntKind.wrap_i64]; omega
    go_wp2_with fail
    go_meet
    exact ⟨rfl, rfl, HT⟩
  case rest =>
    obtain ⟨rfl, rfl, HT⟩ := hcut
    rename World => W
    obtain ⟨⟨b0, b1, b2, b3⟩, bf⟩ := cells4_get HT.out.h0
    rcases Bool.eq_false_or_eq_true (sml n) with hs | hs
    · have HA : Hid (spA n = n ∧ spK n = [] ∧ spB n = none0) := by
        refine ⟨?_, ?_, ?_⟩
        · unfold spA; rw [hs]; rfl
        · unfold spK; rw [hs]; rfl
        · unfold spB; rw [hs]; rfl
      have hs' : n.keys.length < 2 + bh n := by simpa [sml] using hs
      have hs2 : (n.keys.length : Int) - 1 < 1 := by have := HBE.out; omega
      clear hs hs'
      go_wp2_with fail
      refine (twin_any (HN.out.up HT.out.bl)).mono ?_
      rintro e w5 ⟨v5, rfl, n5, h5⟩
      have HT5 := Hid.mk' (HT.out.up h5)
      have N5 := Hid.mk' (n5.mono HT.out.bl.size)
      obtain ⟨p1, q1, p2, q2, p3, q3, rfl⟩ := n5.form
      rw [HL.out] at N5 ⊢
      clear n5 h5 b0 b1 b2 b3 bf
      obtain ⟨⟨d0, d1, d2, d3⟩, df⟩ := cells4_get HT5.out.h1
      obtain ⟨⟨g0, g1, g2, g3⟩, gf⟩ := cells4_get HT5.out.h2
      go_wp2_with fail
      obtain ⟨hq, r1, r2⟩ := put44 (B := w.heap.size) (.bool true) (.slice p1 n.keys.length q1) (.slice p2 n.vals.length q2) (.slice p3 n.kids.length q3) (.bool false) (.slice none 0 0) (.slice none 0 0) (.slice none 0 0) HT5.out.h1 HT5.out.h2 (by omega) (by omega) (by omega)
      obtain ⟨⟨y0, y1, y2, y3⟩, yf⟩ := cells4_get r1
      obtain ⟨⟨z0, z1, z2, z3⟩, zf⟩ := cells4_get r2
      refine bodyPost_ret (v := .tuple #[.agg #[.bool true, .slice p1 n.keys.length q1, .slice p2 n.vals.length q2, .slice p3 n.kids.length q3], .slice none 0 0, .agg #[.bool false, .slice none 0 0, .slice none 0 0, .slice none 0 0]]) (by simp [results, Try.results30, go_sem, y0, y1, y2, y3, z0, z1, z2, z3]) rfl ?_
      obtain ⟨e1, e2, e3⟩ := HA.out
      have hw1 := four_wb w5 (w.heap.size + 1) (.bool true) (.slice p1 n.keys.length q1) (.slice p2 n.vals.length q2) (.slice p3 n.kids.length q3)
      have hz2 := (hw1.block (w.heap.size + 2) (Array.getElem?_eq_some_iff.1 HT5.out.h2).1 (by omega)).trans HT5.out.h2
      exact ⟨_, _, _, rfl, by rw [e1]; exact (N5.out.wbz HT5.out.h1 hw1).wbz hz2 (four_wb _ _ _ _ _ _), by rw [e2]; exact bs_nil, by rw [e3]; exact none_own, HT5.out.bl.trans hq⟩
    · have HKL : Hid (1 ≤ kk n ∧ kk n + 0 < n.keys.length) := by
        have := kk_lt hs
        rw [HBE.out] at this; exact this
      have HKK : Hid (kk n = bst n (n.keys.length - 2)) := by show _ = _; unfold kk; rw [HBE.out]; congr 1
      have HA : Hid (spA n = prt n 0 (kk n) ∧ spK n = n.keys.getD (kk n) [] ∧ spB n = prt n (kk n + 0) n.keys.length) := by
        refine ⟨?_, ?_, ?_⟩
        · unfold spA; rw [hs]; rfl
        · unfold spK; rw [hs]; rfl
        · unfold spB; rw [hs, HBE.out]; rfl
      have hs' : ¬ n.keys.length < 2 + bh n := by simpa [sml] using hs
      have hln : 2 ≤ n.keys.length := by have := HBE.out; omega
      have hs2 : ¬ (n.keys.length : Int) - 1 < 1 := by omega
      have hs3 : decide ((n.keys.length : Int) - 1 < 1) = false := by simp; omega
      clear hs hs'
      go_wp2_with fail
      go_loopw [7, 8, 9] (fun k b i wr => ∃ c : Nat, c ≤ n.keys.length - 1 ∧ i = .int .i64 ((1 + c : Nat) : Int) ∧ k = .int .i64 ((kb n c : Nat) : Int) ∧ b = .int .i64 ((bb n c : Nat) : Int) ∧ Hid (Below W.heap.size W wr)) (fun _ _ i _ => n.keys.length + 2 - (intOf i).toNat)
      case atStart => exact ⟨0, by omega, by simp, by simp [kb], by simp [bb], Below.refl _ _⟩
      case round =>
        obtain ⟨c, hc, rfl, rfl, rfl, HB⟩ := hrel
        have HT := Hid.mk' (HT.out.up HB.out)
        clear b0 b1 b2 b3 bf
        obtain ⟨⟨b0, b1, b2, b3⟩, bf⟩ := cells4_get HT.out.h0
        by_cases hlt : 1 + c ≤ n.keys.length - 1
        · have hlt' : ((1 + c : Nat) : Int) ≤ (n.keys.length : Int) - 1 := by omega
          go_wp2_with fail
          have r0 : ∀ q : Kp (fun _ => False) wr, q.nx.cell? ⟨w.heap.size, 0, none⟩ = some _ := fun q => q.cell b0 id
          have r1 : ∀ q : Kp (fun _ => False) wr, q.nx.cell? ⟨w.heap.size, 1, none⟩ = some _ := fun q => q.cell b1 id
          have r2 : ∀ q : Kp (fun _ => False) wr, q.nx.cell? ⟨w.heap.size, 2, none⟩ = some _ := fun q => q.cell b2 id
          have r3 : ∀ q : Kp (fun _ => False) wr, q.nx.cell? ⟨w.heap.size, 3, none⟩ = some _ := fun q => q.cell b3 id
          have hd := drew_bl wr wr.heap.size
          have HNR := Hid.mk' (HN.out.up HT.out.bl)
          have hj : IntKind.i64.wrap (((1 + c : Nat) : Int) + 0) = ((1 + c + 0 : Nat) : Int) := by rw [IntKind.wrap_i64]; omega
          have HGR : Hid (gr n (1 + c) = max (size (prt n 0 (1 + c))) (size (prt n (1 + c + 0) n.keys.length))) := by show _ = _; unfold gr; rw [HBE.out]
          refine wp_region_mix 14 (fun w' => ∃ q : Kp (fun _ => False) wr, w' = q.nx) (by kernel_rfl) (by kernel_rfl) (kp_first _ wr) ?_
          simp only [List.take_succ_cons, List.take_zero, List.drop_succ_cons, List.drop_zero]
          refine mx_take 2 rfl ?_
          simp only [List.take_succ_cons, List.take_zero, List.drop_succ_cons, List.drop_zero]
          repeat (go_big_quiet_step (fail))
          refine wpQuiet_nil ?_
          refine mx_call (vals := [.agg #[.bool true, .slice a1 n.keys.length c1, .slice a2 n.vals.length c2, .slice a3 n.kids.length c3], .int .i64 ((0 : Nat) : Int), .int .i64 ((1 + c : Nat) : Int)]) Try.func75 (by kernel_rfl) rfl rfl (by kernel_rfl) (by kernel_rfl) (part_any (HNR.out.up hd) (Nat.zero_le _) (by omega) (fun h => by rw [HF.out.lf h]; omega) (fun h => by rw [HF.out.kd h]; omega)) (fun e wa ha => ?_)
          obtain ⟨va, rfl, na, hba⟩ := ha
          have hka := bt hd hba
          refine ⟨_, rfl, kp_mk hka.size fun b hb hx => hka.block b hb, ?_⟩
          simp only [Act.put, List.setIfInBounds_toArray, List.set_cons_succ, List.set_cons_zero]
          refine mx_call (vals := [va]) Try.func23 (by kernel_rfl) rfl rfl (by kernel_rfl) (by kernel_rfl) (size_any (na.rn (prt_Sm HF.out HSM.out _ _)) (prt_sm HF.out _ _).1 (prt_sm HF.out _ _).2.1 (prt_sm HF.out _ _).2.2) (fun e wb hb => ?_)
          obtain ⟨rfl, hbb⟩ := hb
          have hkb := bt hka hbb
          refine ⟨_, rfl, kp_mk hkb.size fun b hb hx => hkb.block b hb, ?_⟩
          simp only [Act.put, List.setIfInBounds_toArray, List.set_cons_succ, List.set_cons_zero]
          refine mx_take 7 rfl ?_
          simp only [List.take_succ_cons, List.take_zero, List.drop_succ_cons, List.drop_zero]
          repeat (go_big_quiet_step (fail))
          refine wpQuiet_nil ?_
          refine mx_call (vals := [.agg #[.bool true, .slice a1 n.keys.length c1, .slice a2 n.vals.length c2, .slice a3 n.kids.length c3], .int .i64 ((1 + c + 0 : Nat) : Int), .int .i64 ((n.keys.length : Nat) : Int)]) Try.func75 (by kernel_rfl) rfl rfl (by kernel_rfl) (by kernel_rfl) (part_any (HNR.out.up hkb) (by omega) (Nat.le_refl _) (fun h => by rw [HF.out.lf h]; exact Nat.le_refl _) (fun h => by rw [HF.out.kd h]; exact Nat.le_refl _)) (fun e wc hc' => ?_)
          obtain ⟨vc, rfl, nc, hbc⟩ := hc'
          have hkc := bt hkb hbc
          refine ⟨_, rfl, kp_mk hkc.size fun b hb hx => hkc.block b hb, ?_⟩
          simp only [Act.put, List.setIfInBounds_toArray, List.set_cons_succ, List.set_cons_zero]
          refine mx_call (vals := [vc]) Try.func23 (by kernel_rfl) rfl rfl (by kernel_rfl) (by kernel_rfl) (size_any (nc.rn (prt_Sm HF.out HSM.out _ _)) (prt_sm HF.out _ _).1 (prt_sm HF.out _ _).2.1 (prt_sm HF.out _ _).2.2) (fun e wd hd' => ?_)
          obtain ⟨rfl, hbd⟩ := hd'
          have HKD := Hid.mk' (bt hkc hbd)
          refine ⟨_, rfl, kp_mk HKD.out.size fun b hb hx => HKD.out.block b hb, ?_⟩
          simp only [Act.put, List.setIfInBounds_toArray, List.set_cons_succ, List.set_cons_zero]
          refine mx_make rfl (by kernel_rfl) (exec_max (m := gr n (1 + c)) rfl rfl rfl HGR.out.symm) (kp_mk HKD.out.size fun b hb hx => HKD.out.block b hb) ?_
          simp only [Act.put, List.setIfInBounds_toArray, List.set_cons_succ, List.set_cons_zero]
          simp only [wpMix]
          have HBE2 := Hid.mk' (bt HB.out HKD.out)
          clear r0 r1 r2 r3 b0 b1 b2 b3 bf hd hka hkb hkc na nc hba hbb hbc hbd hj HGR
          rcases Nat.eq_zero_or_pos c with hc0 | hc0
          · subst hc0
            have hq : (((1 + 0 : Nat) : Int) == 1) = true := rfl
            have HK0 : Hid (kb n 1 = 1 ∧ bb n 1 = gr n (1 + 0)) := ⟨rfl, rfl⟩
            go_wp2_with fail
            go_roundw
            case rel => exact ⟨1, by omega, by go_num, by rw [HK0.out.1] <;> rfl, by rw [HK0.out.2] <;> rfl, HBE2⟩
            case measure => simp [intOf] <;> omega
          · obtain ⟨d, rfl⟩ : ∃ d, c = d + 1 := ⟨c - 1, by omega⟩
            have hq : (((1 + (d + 1) : Nat) : Int) == 1) = false := by rw [beq_eq_false_iff_ne]; omega
            by_cases hg : gr n (1 + (d + 1)) < bb n (d + 1)
            · have HK0 : Hid (kb n (d + 2) = 1 + (d + 1) ∧ bb n (d + 2) = gr n (1 + (d + 1))) := by
                have : bst n (d + 1) = d + 2 := by show (if gr n (d + 2) < gr n (bst n d) then d + 2 else bst n d) = d + 2; rw [if_pos (by rw [show d + 2 = 1 + (d + 1) by omega]; exact hg)]
                exact ⟨by show bst n (d + 1) = _; omega, by show gr n (bst n (d + 1)) = _; rw [this, show d + 2 = 1 + (d + 1) by omega]⟩
              have hg' : ((gr n (1 + (d + 1)) : Nat) : Int) < ((bb n (d + 1) : Nat) : Int) := by omega
              go_wp2_with fail
              go_roundw
              case rel => exact ⟨d + 2, by omega, by go_num, by rw [HK0.out.1] <;> go_num, by rw [HK0.out.2] <;> go_num, HBE2⟩
              case measure => simp [intOf]; omega
            · have HK0 : Hid (kb n (d + 2) = kb n (d + 1) ∧ bb n (d + 2) = bb n (d + 1)) := by
                have : bst n (d + 1) = bst n d := by show (if gr n (d + 2) < gr n (bst n d) then d + 2 else bst n d) = bst n d; rw [if_neg (by rw [show d + 2 = 1 + (d + 1) by omega]; exact hg)]
                exact ⟨this, by show gr n (bst n (d + 1)) = gr n (bst n d); rw [this]⟩
              have hg' : ¬ ((gr n (1 + (d + 1)) : Nat) : Int) < ((bb n (d + 1) : Nat) : Int) := by omega
              go_wp2_with fail
              go_roundw
              case rel => exact ⟨d + 2, by omega, by go_num, by rw [HK0.out.1] <;> go_num, by rw [HK0.out.2] <;> go_num, HBE2⟩
              case measure => simp [intOf]; omega
        · have hlt' : ¬ ((1 + c : Nat) : Int) ≤ (n.keys.length : Int) - 1 := by omega
          have hcc : kb n c = kk n := by
            obtain ⟨d, rfl⟩ : ∃ d, c = d + 1 := ⟨c - 1, by omega⟩
            show bst n d = _
            rw [HKK.out, show n.keys.length - 2 = d by omega]
          rw [hcc]
          have hk2 := HKL.out
          clear hcc HKK
          generalize kk n = k at *
          go_wp2_with fail
          have hk3 : k < n.keys.length := by omega
          have hk3' : (k : Int) < (n.keys.length : Int) := by omega
          obtain ⟨g, o, x, hx0, _, hx1, hx2⟩ := HK.out k hk3
          subst hx0
          have hx1r := cell_later HT.out.bl hx1
          have hgd : n.keys[k] = n.keys.getD k [] := by rw [List.getD_eq_getElem?_getD, List.getElem?_eq_getElem hk3]; rfl
          rw [hgd] at hx2
          have HX := Hid.mk' hx2
          have HNR := Hid.mk' (HN.out.up HT.out.bl)
          clear hx1 hx2 hgd
          have rx : ∀ q : Kp (fun _ => False) wr, q.nx.cell? ⟨g, o + k, none⟩ = some x := fun q => q.cell hx1r id
          have r0 : ∀ q : Kp (fun _ => False) wr, q.nx.cell? ⟨w.heap.size, 0, none⟩ = some _ := fun q => q.cell b0 id
          have r1 : ∀ q : Kp (fun _ => False) wr, q.nx.cell? ⟨w.heap.size, 1, none⟩ = some _ := fun q => q.cell b1 id
          have r2 : ∀ q : Kp (fun _ => False) wr, q.nx.cell? ⟨w.heap.size, 2, none⟩ = some _ := fun q => q.cell b2 id
          have r3 : ∀ q : Kp (fun _ => False) wr, q.nx.cell? ⟨w.heap.size, 3, none⟩ = some _ := fun q => q.cell b3 id
          have hd := drew_bl wr wr.heap.size
          have hj : IntKind.i64.wrap ((k : Int) + 0) = ((k + 0 : Nat) : Int) := by rw [IntKind.wrap_i64]; omega
          refine wp_region_mix 17 (fun w' => ∃ q : Kp (fun _ => False) wr, w' = q.nx) (by kernel_rfl) (by kernel_rfl) (kp_first _ wr) ?_
          simp only [List.take_succ_cons, List.take_zero, List.drop_succ_cons, List.drop_zero]
          refine mx_take 2 rfl ?_
          simp only [List.take_succ_cons, List.take_zero, List.drop_succ_cons, List.drop_zero]
          repeat (go_big_quiet_step (fail))
          refine wpQuiet_nil ?_
          refine mx_call (vals := [.agg #[.bool true, .slice (some ⟨g, o, none⟩) n.keys.length c1, .slice a2 n.vals.length c2, .slice a3 n.kids.length c3], .int .i64 ((0 : Nat) : Int), .int .i64 ((k : Nat) : Int)]) Try.func75 (by kernel_rfl) rfl rfl (by kernel_rfl) (by kernel_rfl) (part_any (HNR.out.up hd) (Nat.zero_le _) (by omega) (fun h => by rw [HF.out.lf h]; omega) (fun h => by rw [HF.out.kd h]; omega)) (fun e wa ha => ?_)
          obtain ⟨va, rfl, na, hba⟩ := ha
          have hka := bt hd hba
          refine ⟨_, rfl, kp_mk hka.size fun b hb hx => hka.block b hb, ?_⟩
          simp only [Act.put, List.setIfInBounds_toArray, List.set_cons_succ, List.set_cons_zero]
          refine mx_take 5 rfl ?_
          simp only [List.take_succ_cons, List.take_zero, List.drop_succ_cons, List.drop_zero]
          repeat (go_big_quiet_step (fail))
          refine wpQuiet_nil ?_
          refine mx_call (vals := [x]) Try.func76 (by kernel_rfl) rfl rfl (by kernel_rfl) (by kernel_rfl) (clone_any _ _ _ (HX.out.up (bt HT.out.bl hka))) (fun e wb hb => ?_)
          obtain ⟨vk, rfl, hbb, ok⟩ := hb
          have hkb := bt hka hbb
          refine ⟨_, rfl, kp_mk hkb.size fun b hb hx => hkb.block b hb, ?_⟩
          simp only [Act.put, List.setIfInBounds_toArray, List.set_cons_succ, List.set_cons_zero]
          refine mx_take 7 rfl ?_
          simp only [List.take_succ_cons, List.take_zero, List.drop_succ_cons, List.drop_zero]
          repeat (go_big_quiet_step (fail))
          refine wpQuiet_nil ?_
          refine mx_call (vals := [.agg #[.bool true, .slice (some ⟨g, o, none⟩) n.keys.length c1, .slice a2 n.vals.length c2, .slice a3 n.kids.length c3], .int .i64 ((k + 0 : Nat) : Int), .int .i64 ((n.keys.length : Nat) : Int)]) Try.func75 (by kernel_rfl) rfl rfl (by kernel_rfl) (by kernel_rfl) (part_any (HNR.out.up hkb) (by omega) (Nat.le_refl _) (fun h => by rw [HF.out.lf h]; exact Nat.le_refl _) (fun h => by rw [HF.out.kd h]; exact Nat.le_refl _)) (fun e wc hc' => ?_)
          obtain ⟨vc, rfl, nc, hbc⟩ := hc'
          have hkc := bt hkb hbc
          refine ⟨_, rfl, kp_mk hkc.size fun b hb hx => hkc.block b hb, ?_⟩
          simp only [Act.put, List.setIfInBounds_toArray, List.set_cons_succ, List.set_cons_zero]
          simp only [wpMix]
          have HTC := Hid.mk' (HT.out.up hkc)
          have hs0 : w.heap.size + 3 ≤ wr.heap.size := (Array.getElem?_eq_some_iff.1 HT.out.h2).1
          have hsa : wr.heap.size ≤ wa.heap.size := hka.size
          have hsb : wr.heap.size ≤ wb.heap.size := hkb.size
          have NA := Hid.mk' ((na.mono (show w.heap.size ≤ wr.drew.heap.size by show _ ≤ wr.heap.size; omega)).up (bt hbb hbc))
          have NC := Hid.mk' (nc.mono (show w.heap.size ≤ wb.heap.size by omega))
          have KO := Hid.mk' ((Ob.keep ok hbc (Nat.le_refl _)).mono (show w.heap.size + 3 ≤ wa.heap.size by omega))
          have HXL := Hid.mk' HX.out.2
          obtain ⟨e1, d1, e2, d2, e3, d3, rfl⟩ := na.form
          obtain ⟨f1, i1, f2, i2, f3, i3, rfl⟩ := nc.form
          obtain ⟨lA, hlA⟩ : ∃ b, b = (prt n 0 k).leaf := ⟨_, rfl⟩
          obtain ⟨lB, hlB⟩ : ∃ b, b = (prt n (k + 0) n.keys.length).leaf := ⟨_, rfl⟩
          rw [← hlA] at NA ⊢
          rw [← hlB] at NC ⊢
          clear hlA hlB rx r0 r1 r2 r3 b0 b1 b2 b3 bf hd hka hkb hkc na nc ok hba hbb hbc hj hx1r hsa hsb hs0 HNR HX
          generalize (prt n 0 k).keys.length = l1 at *
          generalize (prt n 0 k).vals.length = l2 at *
          generalize (prt n 0 k).kids.length = l3 at *
          generalize (prt n (k + 0) n.keys.length).keys.length = l4 at *
          generalize (prt n (k + 0) n.keys.length).vals.length = l5 at *
          generalize (prt n (k + 0) n.keys.length).kids.length = l6 at *
          obtain ⟨⟨y0, y1, y2, y3⟩, yf⟩ := cells4_get HTC.out.h1
          obtain ⟨⟨z0, z1, z2, z3⟩, zf⟩ := cells4_get HTC.out.h2
          go_wp2_with fail
          have hw1 := four_wb wc (w.heap.size + 1) (.bool lA) (.slice e1 l1 d1) (.slice e2 l2 d2) (.slice e3 l3 d3)
          have hz2 := (hw1.block (w.heap.size + 2) (Array.getElem?_eq_some_iff.1 HTC.out.h2).1 (by omega)).trans HTC.out.h2
          obtain ⟨hq, q1, q2⟩ := put44 (B := w.heap.size) (.bool lA) (.slice e1 l1 d1) (.slice e2 l2 d2) (.slice e3 l3 d3) (.bool lB) (.slice f1 l4 i1) (.slice f2 l5 i2) (.slice f3 l6 i3) HTC.out.h1 HTC.out.h2 (by omega) (by omega) (by omega)
          obtain ⟨⟨p0, p1, p2, p3⟩, pf⟩ := cells4_get q1
          obtain ⟨⟨s0, s1, s2, s3⟩, sf⟩ := cells4_get q2
          refine bodyPost_ret (v := .tuple #[.agg #[.bool lA, .slice e1 l1 d1, .slice e2 l2 d2, .slice e3 l3 d3], vk, .agg #[.bool lB, .slice f1 l4 i1, .slice f2 l5 i2, .slice f3 l6 i3]]) (by simp [results, Try.results30, go_sem, p0, p1, p2, p3, s0, s1, s2, s3]) rfl ?_
          obtain ⟨t1, t2, t3⟩ := HA.out
          exact ⟨_, _, _, rfl, by rw [t1]; exact (NA.out.wbz HTC.out.h1 hw1).wbz hz2 (four_wb _ _ _ _ _ _), by rw [t2]; exact (own_b (own_b KO.out hw1 (by omega)) (four_wb _ _ _ _ _ _) (by omega)).bs HXL.out, by rw [t3]; exact (NC.out.wbz HTC.out.h1 hw1).wbz hz2 (four_wb _ _ _ _ _ _), HTC.out.bl.trans hq⟩
set_option maxRecDepth 100000 in
set_option maxHeartbeats 4000000 in
/-- leaf.Split -/
theorem split_false {A : Nat → Prop} {w : World} {v : Value} {n : Nd} (h : RN A w v n) (hf : Fm n) (hlf : n.leaf = false) : Calls Try.prog 30 #[v] w fun e w' => ∃ v1 v2 v3, e = .returned (.tuple #[v1, v2, v3]) ∧ OwnN w.heap.size w' v1 (spA n) ∧ Bs (Lt w'.heap.size) w' v2 (spK n) ∧ OwnN w.heap.size w' v3 (spB n) ∧ Below w.heap.size w w' := by
  have hsm := h.sm
  obtain ⟨a1, c1, a2, c2, a3, c3, rfl⟩ := h.form
  obtain ⟨_, _, _, eq0, g1, g2, g3⟩ := id h
  simp only [Value.agg.injEq, Array.mk.injEq, List.cons.injEq, and_true, true_and] at eq0
  obtain ⟨rfl, rfl, rfl⟩ := eq0
  rw [hlf] at h ⊢
  have HN := Hid.mk' h
  have HF := Hid.mk' hf
  have HL := Hid.mk' hlf
  have HSM := Hid.mk' hsm
  obtain ⟨_, _, he1, _, _, hkk⟩ := g1.at
  cases he1
  have HK := Hid.mk' hkk
  have hl200 : n.keys.length ≤ 200 := hf.sm
  have hbe : bh n = 1 := by unfold bh; rw [hlf]; rfl
  have HBE := Hid.mk' hbe
  have hv : (n.kids.length : Int) = (n.keys.length : Int) + 1 := by rw [HF.out.kd HL.out]; rfl
  have hv2 : decide ((n.kids.length : Int) ≤ (n.keys.length : Int)) = false := by simp; omega
  have hv3 : n.keys.length < n.kids.length := by omega
  clear h hf g1 g2 g3 hkk hsm hlf hv hbe
  go_enter Try.func30, Try.ntmps30
  go_upto_if 17 with fail
  go_cut [5, 6] (fun m b wx => m = .int .i64 ((n.keys.length : Int) - 2) ∧ b = .int .i64 1 ∧ Hid (Thr w #[.bool false, .slice a1 n.keys.length c1, .slice a2 n.vals.length c2, .slice a3 n.kids.length c3] #[.bool false, .slice none 0 0, .slice none 0 0, .slice none 0 0] #[.bool false, .slice none 0 0, .slice none 0 0, .slice none 0 0] 37 wx))
  case first =>
    obtain ⟨W0, hW0⟩ : ∃ W, W = ((w.alloc (.cells #[.bool false, .slice a1 n.keys.length c1, .slice a2 n.vals.length c2, .slice a3 n.kids.length c3] 37)).alloc (.cells #[.bool false, .slice none 0 0, .slice none 0 0, .slice none 0 0] 37)).alloc (.cells #[.bool false, .slice none 0 0, .slice none 0 0, .slice none 0 0] 37) := ⟨_, rfl⟩
    rw [← hW0]
    have HT := Hid.mk' (thr_new hW0)
    clear hW0
    obtain ⟨⟨b0, b1, b2, b3⟩, bf⟩ := cells4_get HT.out.h0
    have hm : IntKind.i64.wrap ((n.keys.length : Int) - 2) = (n.keys.length : Int) - 2 := by rw [IntKind.wrap_i64]; omega
    go_wp2_with fail
    go_meet
    exact ⟨rfl, rfl, HT⟩
  case rest =>
    obtain ⟨rfl, rfl, HT⟩ := hcut
    rename World => W
    obtain ⟨⟨b0, b1, b2, b3⟩, bf⟩ := cells4_get HT.out.h0
    rcases Bool.eq_false_or_eq_true (sml n) with hs | hs
    · have HA : Hid (spA n = n ∧ spK n = [] ∧ spB n = none0) := by
        refine ⟨?_, ?_, ?_⟩
        · unfold spA; rw [hs]; rfl
        · unfold spK; rw [hs]; rfl
        · unfold spB; rw [hs]; rfl
      have hs' : n.keys.length < 2 + bh n := by simpa [sml] using hs
      have hs2 : (n.keys.length : Int) - 2 < 1 := by have := HBE.out; omega
      clear hs hs'
      go_wp2_with fail
      refine (twin_any (HN.out.up HT.out.bl)).mono ?_
      rintro e w5 ⟨v5, rfl, n5, h5⟩
      have HT5 := Hid.mk' (HT.out.up h5)
      have N5 := Hid.mk' (n5.mono HT.out.bl.size)
      obtain ⟨p1, q1, p2, q2, p3, q3, rfl⟩ := n5.form
      rw [HL.out] at N5 ⊢
      clear n5 h5 b0 b1 b2 b3 bf
      obtain ⟨⟨d0, d1, d2, d3⟩, df⟩ := cells4_get HT5.out.h1
      obtain ⟨⟨g0, g1, g2, g3⟩, gf⟩ := cells4_get HT5.out.h2
      go_wp2_with fail
      obtain ⟨hq, r1, r2⟩ := put44 (B := w.heap.size) (.bool false) (.slice p1 n.keys.length q1) (.slice p2 n.vals.length q2) (.slice p3 n.kids.length q3) (.bool false) (.slice none 0 0) (.slice none 0 0) (.slice none 0 0) HT5.out.h1 HT5.out.h2 (by omega) (by omega) (by omega)
      obtain ⟨⟨y0, y1, y2, y3⟩, yf⟩ := cells4_get r1
      obtain ⟨⟨z0, z1, z2, z3⟩, zf⟩ := cells4_get r2
      refine bodyPost_ret (v := .tuple #[.agg #[.bool false, .slice p1 n.keys.length q1, .slice p2 n.vals.length q2, .slice p3 n.kids.length q3], .slice none 0 0, .agg #[.bool false, .slice none 0 0, .slice none 0 0, .slice none 0 0]]) (by simp [results, Try.results30, go_sem, y0, y1, y2, y3, z0, z1, z2, z3]) rfl ?_
      obtain ⟨e1, e2, e3⟩ := HA.out
      have hw1 := four_wb w5 (w.heap.size + 1) (.bool false) (.slice p1 n.keys.length q1) (.slice p2 n.vals.length q2) (.slice p3 n.kids.length q3)
      have hz2 := (hw1.block (w.heap.size + 2) (Array.getElem?_eq_some_iff.1 HT5.out.h2).1 (by omega)).trans HT5.out.h2
      exact ⟨_, _, _, rfl, by rw [e1]; exact (N5.out.wbz HT5.out.h1 hw1).wbz hz2 (four_wb _ _ _ _ _ _), by rw [e2]; exact bs_nil, by rw [e3]; exact none_own, HT5.out.bl.trans hq⟩
    · have HKL : Hid (1 ≤ kk n ∧ kk n + 1 < n.keys.length) := by
        have := kk_lt hs
        rw [HBE.out] at this; exact this
      have HKK : Hid (kk n = bst n (n.keys.length - 3)) := by show _ = _; unfold kk; rw [HBE.out]; congr 1
      have HA : Hid (spA n = prt n 0 (kk n) ∧ spK n = n.keys.getD (kk n) [] ∧ spB n = prt n (kk n + 1) n.keys.length) := by
        refine ⟨?_, ?_, ?_⟩
        · unfold spA; rw [hs]; rfl
        · unfold spK; rw [hs]; rfl
        · unfold spB; rw [hs, HBE.out]; rfl
      have hs' : ¬ n.keys.length < 2 + bh n := by simpa [sml] using hs
      have hln : 3 ≤ n.keys.length := by have := HBE.out; omega
      have hs2 : ¬ (n.keys.length : Int) - 2 < 1 := by omega
      have hs3 : decide ((n.keys.length : Int) - 2 < 1) = false := by simp; omega
      clear hs hs'
      go_wp2_with fail
      go_loopw [7, 8, 9] (fun k b i wr => ∃ c : Nat, c ≤ n.keys.length - 2 ∧ i = .int .i64 ((1 + c : Nat) : Int) ∧ k = .int .i64 ((kb n c : Nat) : Int) ∧ b = .int .i64 ((bb n c : Nat) : Int) ∧ Hid (Below W.heap.size W wr)) (fun _ _ i _ => n.keys.length + 2 - (intOf i).toNat)
      case atStart => exact ⟨0, by omega, by simp, by simp [kb], by simp [bb], Below.refl _ _⟩
      case round =>
        obtain ⟨c, hc, rfl, rfl, rfl, HB⟩ := hrel
        have HT := Hid.mk' (HT.out.up HB.out)
        clear b0 b1 b2 b3 bf
        obtain ⟨⟨b0, b1, b2, b3⟩, bf⟩ := cells4_get HT.out.h0
        by_cases hlt : 1 + c ≤ n.keys.length - 2
        · have hlt' : ((1 + c : Nat) : Int) ≤ (n.keys.length : Int) - 2 := by omega
          go_wp2_with fail
          have r0 : ∀ q : Kp (fun _ => False) wr, q.nx.cell? ⟨w.heap.size, 0, none⟩ = some _ := fun q => q.cell b0 id
          have r1 : ∀ q : Kp (fun _ => False) wr, q.nx.cell? ⟨w.heap.size, 1, none⟩ = some _ := fun q => q.cell b1 id
          have r2 : ∀ q : Kp (fun _ => False) wr, q.nx.cell? ⟨w.heap.size, 2, none⟩ = some _ := fun q => q.cell b2 id
          have r3 : ∀ q : Kp (fun _ => False) wr, q.nx.cell? ⟨w.heap.size, 3, none⟩ = some _ := fun q => q.cell b3 id
          have hd := drew_bl wr wr.heap.size
          have HNR := Hid.mk' (HN.out.up HT.out.bl)
          have hj : IntKind.i64.wrap (((1 + c : Nat) : Int) + 1) = ((1 + c + 1 : Nat) : Int) := by rw [IntKind.wrap_i64]; omega
          have HGR : Hid (gr n (1 + c) = max (size (prt n 0 (1 + c))) (size (prt n (1 + c + 1) n.keys.length))) := by show _ = _; unfold gr; rw [HBE.out]
          refine wp_region_mix 14 (fun w' => ∃ q : Kp (fun _ => False) wr, w' = q.nx) (by kernel_rfl) (by kernel_rfl) (kp_first _ wr) ?_
          simp only [List.take_succ_cons, List.take_zero, List.drop_succ_cons, List.drop_zero]
          refine mx_take 2 rfl ?_
          simp only [List.take_succ_cons, List.take_zero, List.drop_succ_cons, List.drop_zero]
          repeat (go_big_quiet_step (fail))
          refine wpQuiet_nil ?_
          refine mx_call (vals := [.agg #[.bool false, .slice a1 n.keys.length c1, .slice a2 n.vals.length c2, .slice a3 n.kids.length c3], .int .i64 ((0 : Nat) : Int), .int .i64 ((1 + c : Nat) : Int)]) Try.func75 (by kernel_rfl) rfl rfl (by kernel_rfl) (by kernel_rfl) (part_any (HNR.out.up hd) (Nat.zero_le _) (by omega) (fun h => by rw [HF.out.lf h]; omega) (fun h => by rw [HF.out.kd h]; omega)) (fun e wa ha => ?_)
          obtain ⟨va, rfl, na, hba⟩ := ha
          have hka := bt hd hba
          refine ⟨_, rfl, kp_mk hka.size fun b hb hx => hka.block b hb, ?_⟩
          simp only [Act.put, List.setIfInBounds_toArray, List.set_cons_succ, List.set_cons_zero]
          refine mx_call (vals := [va]) Try.func23 (by kernel_rfl) rfl rfl (by kernel_rfl) (by kernel_rfl) (size_any (na.rn (prt_Sm HF.out HSM.out _ _)) (prt_sm HF.out _ _).1 (prt_sm HF.out _ _).2.1 (prt_sm HF.out _ _).2.2) (fun e wb hb => ?_)
          obtain ⟨rfl, hbb⟩ := hb
          have hkb := bt hka hbb
          refine ⟨_, rfl, kp_mk hkb.size fun b hb hx => hkb.block b hb, ?_⟩
          simp only [Act.put, List.setIfInBounds_toArray, List.set_cons_succ, List.set_cons_zero]
          refine mx_take 7 rfl ?_
          simp only [List.take_succ_cons, List.take_zero, List.drop_succ_cons, List.drop_zero]
          repeat (go_big_quiet_step (fail))
          refine wpQuiet_nil ?_
          refine mx_call (vals := [.agg #[.bool false, .slice a1 n.keys.length c1, .slice a2 n.vals.length c2, .slice a3 n.kids.length c3], .int .i64 ((1 + c + 1 : Nat) : Int), .int .i64 ((n.keys.length : Nat) : Int)]) Try.func75 (by kernel_rfl) rfl rfl (by kernel_rfl) (by kernel_rfl) (part_any (HNR.out.up hkb) (by omega) (Nat.le_refl _) (fun h => by rw [HF.out.lf h]; exact Nat.le_refl _) (fun h => by rw [HF.out.kd h]; exact Nat.le_refl _)) (fun e wc hc' => ?_)
          obtain ⟨vc, rfl, nc, hbc⟩ := hc'
          have hkc := bt hkb hbc
          refine ⟨_, rfl, kp_mk hkc.size fun b hb hx => hkc.block b hb, ?_⟩
          simp only [Act.put, List.setIfInBounds_toArray, List.set_cons_succ, List.set_cons_zero]
          refine mx_call (vals := [vc]) Try.func23 (by kernel_rfl) rfl rfl (by kernel_rfl) (by kernel_rfl) (size_any (nc.rn (prt_Sm HF.out HSM.out _ _)) (prt_sm HF.out _ _).1 (prt_sm HF.out _ _).2.1 (prt_sm HF.out _ _).2.2) (fun e wd hd' => ?_)
          obtain ⟨rfl, hbd⟩ := hd'
          have HKD := Hid.mk' (bt hkc hbd)
          refine ⟨_, rfl, kp_mk HKD.out.size fun b hb hx => HKD.out.block b hb, ?_⟩
          simp only [Act.put, List.setIfInBounds_toArray, List.set_cons_succ, List.set_cons_zero]
          refine mx_make rfl (by kernel_rfl) (exec_max (m := gr n (1 + c)) rfl rfl rfl HGR.out.symm) (kp_mk HKD.out.size fun b hb hx => HKD.out.block b hb) ?_
          simp only [Act.put, List.setIfInBounds_toArray, List.set_cons_succ, List.set_cons_zero]
          simp only [wpMix]
          have HBE2 := Hid.mk' (bt HB.out HKD.out)
          clear r0 r1 r2 r3 b0 b1 b2 b3 bf hd hka hkb hkc na nc hba hbb hbc hbd hj HGR
          rcases Nat.eq_zero_or_pos c with hc0 | hc0
          · subst hc0
            have hq : (((1 + 0 : Nat) : Int) == 1) = true := rfl
            have HK0 : Hid (kb n 1 = 1 ∧ bb n 1 = gr n (1 + 0)) := ⟨rfl, rfl⟩
            go_wp2_with fail
            go_roundw
            case rel => exact ⟨1, by omega, by go_num, by rw [HK0.out.1] <;> rfl, by rw [HK0.out.2] <;> rfl, HBE2⟩
            case measure => simp [intOf] <;> omega
          · obtain ⟨d, rfl⟩ : ∃ d, c = d + 1 := ⟨c - 1, by omega⟩
            have hq : (((1 + (d + 1) : Nat) : Int) == 1) = false := by rw [beq_eq_false_iff_ne]; omega
            by_cases hg : gr n (1 + (d + 1)) < bb n (d + 1)
            · have HK0 : Hid (kb n (d + 2) = 1 + (d + 1) ∧ bb n (d + 2) = gr n (1 + (d + 1))) := by
                have : bst n (d + 1) = d + 2 := by show (if gr n (d + 2) < gr n (bst n d) then d + 2 else bst n d) = d + 2; rw [if_pos (by rw [show d + 2 = 1 + (d + 1) by omega]; exact hg)]
                exact ⟨by show bst n (d + 1) = _; omega, by show gr n (bst n (d + 1)) = _; rw [this, show d + 2 = 1 + (d + 1) by omega]⟩
              have hg' : ((gr n (1 + (d + 1)) : Nat) : Int) < ((bb n (d + 1) : Nat) : Int) := by omega
              go_wp2_with fail
              go_roundw
              case rel => exact ⟨d + 2, by omega, by go_num, by rw [HK0.out.1] <;> go_num, by rw [HK0.out.2] <;> go_num, HBE2⟩
              case measure => simp [intOf]; omega
            · have HK0 : Hid (kb n (d + 2) = kb n (d + 1) ∧ bb n (d + 2) = bb n (d + 1)) := by
                have : bst n (d + 1) = bst n d := by show (if gr n (d + 2) < gr n (bst n d) then d + 2 else bst n d) = bst n d; rw [if_neg (by rw [show d + 2 = 1 + (d + 1) by omega]; exact hg)]
                exact ⟨this, by show gr n (bst n (d + 1)) = gr n (bst n d); rw [this]⟩
              have hg' : ¬ ((gr n (1 + (d + 1)) : Nat) : Int) < ((bb n (d + 1) : Nat) : Int) := by omega
              go_wp2_with fail
              go_roundw
              case rel => exact ⟨d + 2, by omega, by go_num, by rw [HK0.out.1] <;> go_num, by rw [HK0.out.2] <;> go_num, HBE2⟩
              case measure => simp [intOf]; omega
        · have hlt' : ¬ ((1 + c : Nat) : Int) ≤ (n.keys.length : Int) - 2 := by omega
          have hcc : kb n c = kk n := by
            obtain ⟨d, rfl⟩ : ∃ d, c = d + 1 := ⟨c - 1, by omega⟩
            show bst n d = _
            rw [HKK.out, show n.keys.length - 3 = d by omega]
          rw [hcc]
          have hk2 := HKL.out
          clear hcc HKK
          generalize kk n = k at *
          go_wp2_with fail
          have hk3 : k < n.keys.length := by omega
          have hk3' : (k : Int) < (n.keys.length : Int) := by omega
          obtain ⟨g, o, x, hx0, _, hx1, hx2⟩ := HK.out k hk3
          subst hx0
          have hx1r := cell_later HT.out.bl hx1
          have hgd : n.keys[k] = n.keys.getD k [] := by rw [List.getD_eq_getElem?_getD, List.getElem?_eq_getElem hk3]; rfl
          rw [hgd] at hx2
          have HX := Hid.mk' hx2
          have HNR := Hid.mk' (HN.out.up HT.out.bl)
          clear hx1 hx2 hgd
          have rx : ∀ q : Kp (fun _ => False) wr, q.nx.cell? ⟨g, o + k, none⟩ = some x := fun q => q.cell hx1r id
          have r0 : ∀ q : Kp (fun _ => False) wr, q.nx.cell? ⟨w.heap.size, 0, none⟩ = some _ := fun q => q.cell b0 id
          have r1 : ∀ q : Kp (fun _ => False) wr, q.nx.cell? ⟨w.heap.size, 1, none⟩ = some _ := fun q => q.cell b1 id
          have r2 : ∀ q : Kp (fun _ => False) wr, q.nx.cell? ⟨w.heap.size, 2, none⟩ = some _ := fun q => q.cell b2 id
          have r3 : ∀ q : Kp (fun _ => False) wr, q.nx.cell? ⟨w.heap.size, 3, none⟩ = some _ := fun q => q.cell b3 id
          have hd := drew_bl wr wr.heap.size
          have hj : IntKind.i64.wrap ((k : Int) + 1) = ((k + 1 : Nat) : Int) := by rw [IntKind.wrap_i64]; omega
          refine wp_region_mix 17 (fun w' => ∃ q : Kp (fun _ => False) wr, w' = q.nx) (by kernel_rfl) (by kernel_rfl) (kp_first _ wr) ?_
          simp only [List.take_succ_cons, List.take_zero, List.drop_succ_cons, List.drop_zero]
          refine mx_take 2 rfl ?_
          simp only [List.take_succ_cons, List.take_zero, List.drop_succ_cons, List.drop_zero]
          repeat (go_big_quiet_step (fail))
          refine wpQuiet_nil ?_
          refine mx_call (vals := [.agg #[.bool false, .slice (some ⟨g, o, none⟩) n.keys.length c1, .slice a2 n.vals.length c2, .slice a3 n.kids.length c3], .int .i64 ((0 : Nat) : Int), .int .i64 ((k : Nat) : Int)]) Try.func75 (by kernel_rfl) rfl rfl (by kernel_rfl) (by kernel_rfl) (part_any (HNR.out.up hd) (Nat.zero_le _) (by omega) (fun h => by rw [HF.out.lf h]; omega) (fun h => by rw [HF.out.kd h]; omega)) (fun e wa ha => ?_)
          obtain ⟨va, rfl, na, hba⟩ := ha
          have hka := bt hd hba
          refine ⟨_, rfl, kp_mk hka.size fun b hb hx => hka.block b hb, ?_⟩
          simp only [Act.put, List.setIfInBounds_toArray, List.set_cons_succ, List.set_cons_zero]
          refine mx_take 5 rfl ?_
          simp only [List.take_succ_cons, List.take_zero, List.drop_succ_cons, List.drop_zero]
          repeat (go_big_quiet_step (fail))
          refine wpQuiet_nil ?_
          refine mx_call (vals := [x]) Try.func76 (by kernel_rfl) rfl rfl (by kernel_rfl) (by kernel_rfl) (clone_any _ _ _ (HX.out.up (bt HT.out.bl hka))) (fun e wb hb => ?_)
          obtain ⟨vk, rfl, hbb, ok⟩ := hb
          have hkb := bt hka hbb
          refine ⟨_, rfl, kp_mk hkb.size fun b hb hx => hkb.block b hb, ?_⟩
          simp only [Act.put, List.setIfInBounds_toArray, List.set_cons_succ, List.set_cons_zero]
          refine mx_take 7 rfl ?_
          simp only [List.take_succ_cons, List.take_zero, List.drop_succ_cons, List.drop_zero]
          repeat (go_big_quiet_step (fail))
          refine wpQuiet_nil ?_
          refine mx_call (vals := [.agg #[.bool false, .slice (some ⟨g, o, none⟩) n.keys.length c1, .slice a2 n.vals.length c2, .slice a3 n.kids.length c3], .int .i64 ((k + 1 : Nat) : Int), .int .i64 ((n.keys.length : Nat) : Int)]) Try.func75 (by kernel_rfl) rfl rfl (by kernel_rfl) (by kernel_rfl) (part_any (HNR.out.up hkb) (by omega) (Nat.le_refl _) (fun h => by rw [HF.out.lf h]; exact Nat.le_refl _) (fun h => by rw [HF.out.kd h]; exact Nat.le_refl _)) (fun e wc hc' => ?_)
          obtain ⟨vc, rfl, nc, hbc⟩ := hc'
          have hkc := bt hkb hbc
          refine ⟨_, rfl, kp_mk hkc.size fun b hb hx => hkc.block b hb, ?_⟩
          simp only [Act.put, List.setIfInBounds_toArray, List.set_cons_succ, List.set_cons_zero]
          simp only [wpMix]
          have HTC := Hid.mk' (HT.out.up hkc)
          have hs0 : w.heap.size + 3 ≤ wr.heap.size := (Array.getElem?_eq_some_iff.1 HT.out.h2).1
          have hsa : wr.heap.size ≤ wa.heap.size := hka.size
          have hsb : wr.heap.size ≤ wb.heap.size := hkb.size
          have NA := Hid.mk' ((na.mono (show w.heap.size ≤ wr.drew.heap.size by show _ ≤ wr.heap.size; omega)).up (bt hbb hbc))
          have NC := Hid.mk' (nc.mono (show w.heap.size ≤ wb.heap.size by omega))
          have KO := Hid.mk' ((Ob.keep ok hbc (Nat.le_refl _)).mono (show w.heap.size + 3 ≤ wa.heap.size by omega))
          have HXL := Hid.mk' HX.out.2
          obtain ⟨e1, d1, e2, d2, e3, d3, rfl⟩ := na.form
          obtain ⟨f1, i1, f2, i2, f3, i3, rfl⟩ := nc.form
          obtain ⟨lA, hlA⟩ : ∃ b, b = (prt n 0 k).leaf := ⟨_, rfl⟩
          obtain ⟨lB, hlB⟩ : ∃ b, b = (prt n (k + 1) n.keys.length).leaf := ⟨_, rfl⟩
          rw [← hlA] at NA ⊢
          rw [← hlB] at NC ⊢
          clear hlA hlB rx r0 r1 r2 r3 b0 b1 b2 b3 bf hd hka hkb hkc na nc ok hba hbb hbc hj hx1r hsa hsb hs0 HNR HX
          generalize (prt n 0 k).keys.length = l1 at *
          generalize (prt n 0 k).vals.length = l2 at *
          generalize (prt n 0 k).kids.length = l3 at *
          generalize (prt n (k + 1) n.keys.length).keys.length = l4 at *
          generalize (prt n (k + 1) n.keys.length).vals.length = l5 at *
          generalize (prt n (k + 1) n.keys.length).kids.length = l6 at *
          obtain ⟨⟨y0, y1, y2, y3⟩, yf⟩ := cells4_get HTC.out.h1
          obtain ⟨⟨z0, z1, z2, z3⟩, zf⟩ := cells4_get HTC.out.h2
          go_wp2_with fail
          have hw1 := four_wb wc (w.heap.size + 1) (.bool lA) (.slice e1 l1 d1) (.slice e2 l2 d2) (.slice e3 l3 d3)
          have hz2 := (hw1.block (w.heap.size + 2) (Array.getElem?_eq_some_iff.1 HTC.out.h2).1 (by omega)).trans HTC.out.h2
          obtain ⟨hq, q1, q2⟩ := put44 (B := w.heap.size) (.bool lA) (.slice e1 l1 d1) (.slice e2 l2 d2) (.slice e3 l3 d3) (.bool lB) (.slice f1 l4 i1) (.slice f2 l5 i2) (.slice f3 l6 i3) HTC.out.h1 HTC.out.h2 (by omega) (by omega) (by omega)
          obtain ⟨⟨p0, p1, p2, p3⟩, pf⟩ := cells4_get q1
          obtain ⟨⟨s0, s1, s2, s3⟩, sf⟩ := cells4_get q2
          refine bodyPost_ret (v := .tuple #[.agg #[.bool lA, .slice e1 l1 d1, .slice e2 l2 d2, .slice e3 l3 d3], vk, .agg #[.bool lB, .slice f1 l4 i1, .slice f2 l5 i2, .slice f3 l6 i3]]) (by simp [results, Try.results30, go_sem, p0, p1, p2, p3, s0, s1, s2, s3]) rfl ?_
          obtain ⟨t1, t2, t3⟩ := HA.out
          exact ⟨_, _, _, rfl, by rw [t1]; exact (NA.out.wbz HTC.out.h1 hw1).wbz hz2 (four_wb _ _ _ _ _ _), by rw [t2]; exact (own_b (own_b KO.out hw1 (by omega)) (four_wb _ _ _ _ _ _) (by omega)).bs HXL.out, by rw [t3]; exact (NC.out.wbz HTC.out.h1 hw1).wbz hz2 (four_wb _ _ _ _ _ _), HTC.out.bl.trans hq⟩
theorem split_any {A : Nat → Prop} {w : World} {v : Value} {n : Nd} (h : RN A w v n) (hf : Fm n) : Calls Try.prog 30 #[v] w fun e w' => ∃ v1 v2 v3, e = .returned (.tuple #[v1, v2, v3]) ∧ OwnN w.heap.size w' v1 (spA n) ∧ Bs (Lt w'.heap.size) w' v2 (spK n) ∧ OwnN w.heap.size w' v3 (spB n) ∧ Below w.heap.size w w' := by
  rcases Bool.eq_false_or_eq_true n.leaf with hl | hl
  · exact split_true h hf hl
  · exact split_false h hf hl
end Go.Proofs.Ytfmbbpfklhkljaa
