/- pack.Number. -/
import Derived.Test.YtojgkjpmphfakaaGreatDoorPA
import Derived.Deep.CutBlock
set_option linter.unusedVariables false
set_option linter.unusedSimpArgs false
namespace Go.Proofs.YtojgkjpmphfakaaGreatDoor
open Go.RowKit
attribute [local go_sem ↓] Go.wp_at_zero Go.wp_at_succ
/-- a number's bytes, the greatest first, no more than it has -/
def be (n : Nat) : List UInt8 := if h : n = 0 then [] else be (n / 256) ++ [UInt8.ofNat (n % 256)]
termination_by n
decreasing_by omega
theorem be_zero : be 0 = [] := by unfold be; simp
theorem be_pos {n : Nat} (h : n ≠ 0) : be n = be (n / 256) ++ [UInt8.ofNat (n % 256)] := by rw [be, dif_neg h]
def nm (n : Nat) : List UInt8 := if n ≤ 247 then [UInt8.ofNat n] else UInt8.ofNat (247 + (be n).length) :: be n
def nms (l : List Nat) : List UInt8 := (l.map nm).flatten
theorem nms_take {l : List Nat} {k : Nat} (h : k < l.length) : nms (l.take (k + 1)) = nms (l.take k) ++ nm l[k] := by
  unfold nms
  rw [List.take_succ_eq_append_getElem h, List.map_append, List.flatten_append]
  simp
def uv (l : List Nat) : List Value := l.map fun n : Nat => Value.int .u64 (n : Int)
/-- v reads as the numbers l -/
def Us (A : Nat → Prop) (w : World) (v : Value) (l : List Nat) : Prop := Row 1 A w v l.length (uv l) ∧ (∀ n ∈ l, n < 18446744073709551616) ∧ l.length * 8 ≤ lim
theorem Us.up {A : Nat → Prop} {w w' : World} {v : Value} {l : List Nat} (h : Us A w v l) (hb : Below w.heap.size w w') : Us A w' v l := ⟨h.1.up hb, h.2⟩
theorem Us.monoS {A A' : Nat → Prop} {w : World} {v : Value} {l : List Nat} (h : Us A w v l) (hA : ∀ b, A b → A' b) : Us A' w v l := ⟨h.1.monoS hA, h.2⟩
theorem Us.at {A : Nat → Prop} {w : World} {v : Value} {l : List Nat} (h : Us A w v l) : ∃ (a : Option Addr) (c : Nat), v = .slice a l.length c ∧ l.length ≤ c ∧ (a = none → c = 0) ∧
    ∀ j (hj : j < l.length), ∃ b o, a = some ⟨b, o, none⟩ ∧ A b ∧ w.cell? ⟨b, o + j, none⟩ = some (.int .u64 (l[j] : Int)) := by
  obtain ⟨⟨hl, a, c, hv, hc, ha, H⟩, _⟩ := h
  exact ⟨a, c, hv, hc, ha, fun j hj => by obtain ⟨b, o, h1, h2, h3⟩ := H j (.int .u64 (l[j] : Int)) (by simp [uv, hj]); exact ⟨b, o, h1, h2, h3⟩⟩
theorem Tryz.info5 : (Tryz.prog.info? 5).map (fun i => (i.zero, i.size, i.bytes)) = some (some (.int .u8 0), 1, 1) := by kernel_rfl
theorem Row.wb {sz n : Nat} {D X : Nat → Prop} {w w' : World} {v : Value} {vs : List Value} (h : Row sz D w v n vs) (hw : Wb X w w') (hX : ∀ k, X k → ¬ D k) : Row sz D w' v n vs := by
  obtain ⟨hl, a, c, rfl, hc, ha, H⟩ := h
  refine ⟨hl, a, c, rfl, hc, ha, fun j u hj => ?_⟩
  obtain ⟨b, o, ha, hB, hu⟩ := H j u hj
  refine ⟨b, o, ha, hB, ?_⟩
  have hlt := World.block_lt_of_cell? w ⟨b, o + j, none⟩ hu
  exact (World.cell?_of_block (w := w) (a := ⟨b, o + j, none⟩) (hw.block b hlt fun e => hX b e hB)).trans hu
theorem Tryz.len101 : Tryz.prog.arrayLen 101 = 8 := by kernel_rfl
theorem Tryz.size101 (w : World) : (sizeOf (Tryz.prog.elem 101)).run Tryz.prog w = .ok 1 w := by kernel_rfl
theorem s101_l (w : World) (g a d : Nat) (h : a < 8) (hd : d = 8 - a) : (Instr.sliceAt 101 (.pointer (some ⟨g, 0, none⟩)) (some (.int .i64 (a : Int))) none none).run Tryz.prog w = .ok (.slice (some ⟨g, a, none⟩) d d) w := by
  have h1 := run_sliceAt_array_l (P := Tryz.prog) w 101 ⟨g, 0, none⟩ (by kernel_rfl) .i64 (a : Int) (by omega) (by rw [Tryz.len101]; omega)
  rw [h1, Tryz.size101, Tryz.len101]
  simp only [Result.andThen, slicedAt, Int.toNat_natCast]
  rw [if_neg (by omega), Nat.mul_one, addr_add, Nat.zero_add, hd]
theorem arr_row {w : World} {g a d : Nat} {cs : List UInt8} {e : TypeId} (h : w.heap[g]? = some (.cells (bv cs).toArray e (0, 0))) (hd : (cs.drop a).length = d) : Row 1 (fun k => k = g) w (.slice (some ⟨g, a, none⟩) d d) d (bv (cs.drop a)) := by
  refine ⟨by simp [← hd], _, _, rfl, Nat.le_refl _, by simp, fun j u hj => ⟨g, a, rfl, rfl, ?_⟩⟩
  have hj : (bv cs)[a + j]? = some u := by
    rw [← hj]; simp [bv]
  simp only [World.cell?, h]
  simpa using hj
set_option maxRecDepth 100000 in
set_option maxHeartbeats 4000000 in
/-- Number -/
theorem pnum_any {A : Nat → Prop} {w : World} {v : Value} {l : List Nat} (h : Us A w v l) (hn : l.length ≤ 1000000) : Calls Tryz.prog 45 #[v] w fun e w' => ∃ v', e = .returned v' ∧ Ob 5 w.heap.size w' v' (nms l) ∧ Below w.heap.size w w' := by
  obtain ⟨a, c, rfl, hc, _, H⟩ := h.at
  have HH := Hid.mk' H
  have HBD := Hid.mk' h.2.1
  have hl : (l.length : Int) ≤ 1000000 := by omega
  have HO0 : Hid (Ob 5 w.heap.size w (.slice none 0 0) (nms (l.take 0))) := ob_nil
  have HR0 : Hid (Below w.heap.size w w) := Below.refl _ _
  have HL0 : Hid ((nms (l.take 0)).length ≤ 9 * 0) := Nat.le_refl _
  clear h H
  go_enter Tryz.func45, Tryz.ntmps45
  go_wp2_with fail
  go_loopw [3, 11] (fun y i wr => ∃ (k n : Nat) (oa : Option Addr) (oc : Nat), k ≤ l.length ∧ i = .int .i64 k ∧ y = .slice oa n oc ∧ Hid (n = (nms (l.take k)).length) ∧ Hid (Ob 5 w.heap.size wr (.slice oa n oc) (nms (l.take k))) ∧ Hid (n ≤ 9 * k) ∧ Hid (Below w.heap.size w wr)) (fun _ i _ => l.length - (intOf i).toNat)
  case atStart => exact ⟨0, 0, none, 0, by omega, rfl, rfl, rfl, HO0, HL0, HR0⟩
  case round =>
    clear HO0 HR0 HL0
    obtain ⟨k, n, oa, oc, hk, rfl, rfl, HNL, HO, HL, HB⟩ := hrel
    rename World => wk
    by_cases hlt : k < l.length
    case neg =>
      obtain rfl : k = l.length := by omega
      go_wp2_with fail
      go_ret
      exact ⟨_, rfl, by have := HO.out; rwa [List.take_length] at this, HB.out⟩
    have hlt' : (k : Int) < (l.length : Int) := by omega
    obtain ⟨b, o, rfl, _, c0⟩ := HH.out k hlt
    have c0 := (World.cell?_of_block (w := w) (a := ⟨b, o + k, none⟩) (HB.out.block b (World.block_lt_of_cell? w ⟨b, o + k, none⟩ c0))).trans c0
    have hz := HBD.out l[k] (List.getElem_mem hlt)
    have HTK := Hid.mk' (nms_take hlt)
    generalize l[k] = z at *
    have HZ := Hid.mk' hz
    by_cases h1 : z ≤ 247
    · have h1' : (z : Int) ≤ 247 := by omega
      have hu : IntKind.u8.wrap (z : Int) = (z : Int) := by rw [IntKind.wrap_u8]; omega
      have HNM : Hid (nms (l.take (k + 1)) = nms (l.take k) ++ [UInt8.ofNat z]) := by show _ = _; rw [HTK.out, nm, if_pos h1]
      have HU : Hid ((UInt8.ofNat z).toNat = z) := by show _ = _; rw [UInt8.toNat_ofNat']; omega
      have HO5 := Hid.mk' (own_keep HO.out (up_alloc wk (.cells #[.int .u8 (z : Int)] 5)) (Nat.le_refl _))
      clear h1 hz
      go_wp2_with (at_builtin; go_must (refine wpl_app rfl (.tmp 17) (.tmp 20) 69 rfl Tryz.underlying69 Tryz.info5 rfl (by decide) rfl HO5.out rfl row_one (by intro u hu; simp only [List.mem_cons, List.not_mem_nil, or_false] at hu; subst hu; rfl) (by have := HL.out; have := HNL.out; unfold maxLen; omega) (by have := HL.out; have := HNL.out; omega) (Nat.le_trans HB.out.size (up_alloc wk _).size) ?_); intro v6 w6 ho hg hn2 hbb)
      have hup := up_alloc wk (.cells #[.int .u8 (z : Int)] 5)
      have e1 := HB.out.size
      have e2 := hup.size
      have HB6 : Hid (Below w.heap.size w w6) := below_app (HB.out.trans (hup.mono e1)) HO5.out hg (Nat.le_refl _) (by omega)
      have HL6 : Hid ((nms (l.take k)).length + 1 = (nms (l.take (k + 1))).length) := by show _ = _; rw [HNM.out, List.length_append]; rfl
      have HO6 : Hid (Ob 5 w.heap.size w6 v6 (nms (l.take (k + 1)))) := by
        unfold Hid Ob
        rw [← HL6.out, HNM.out, show bv (nms (l.take k) ++ [UInt8.ofNat z]) = bv (nms (l.take k)) ++ [.int .u8 (z : Int)] by simp [bv, HU.out]]
        exact ho
      have HLN : Hid ((nms (l.take (k + 1))).length ≤ 9 * (k + 1)) := by have := HL.out; have := HNL.out; show _ ≤ _; rw [← HL6.out]; omega
      obtain ⟨a6, c6, e6⟩ := own_slice ho
      have E6 : Hid (v6 = .slice a6 (nms (l.take (k + 1))).length c6) := by show _ = _; rw [← HL6.out]; exact e6
      rw [E6.out] at HO6
      clear ho hg hn2 hbb hup e1 e2 e6
      go_roundw
      case rel => exact ⟨k + 1, _, a6, c6, by omega, by go_num, E6.out, rfl, HO6, HLN, HB6⟩
      case measure => simp [intOf]; omega
    have h1' : ¬ (z : Int) ≤ 247 := by omega
    have HNM : Hid (nms (l.take (k + 1)) = nms (l.take k) ++ (UInt8.ofNat (247 + (be z).length) :: be z)) := by show _ = _; rw [HTK.out, nm, if_neg h1]
    obtain ⟨W, hW⟩ : ∃ W, W = wk.alloc (.cells #[.int .u8 0, .int .u8 0, .int .u8 0, .int .u8 0, .int .u8 0, .int .u8 0, .int .u8 0, .int .u8 0] 101) := ⟨_, rfl⟩
    have HE : Hid (W.heap[wk.heap.size]? = some (.cells (bv (List.replicate 8 0)).toArray 101 (0, 0))) := by rw [hW]; exact heap_alloc_new _ _
    have HBW : Hid (Below wk.heap.size wk W) := by rw [hW]; exact up_alloc _ _
    clear HTK h1 hz
    go_upto_block 2 with fail
    rw [← hW]
    clear hW c0
    obtain ⟨g, hg⟩ : ∃ n, n = wk.heap.size := ⟨_, rfl⟩
    rw [← hg] at HE ⊢
    have HGK : Hid (g = wk.heap.size) := hg
    clear hg
    go_cut [5, 7] (fun m t wx => ∃ (a : Nat) (cs : List UInt8), t = .int .i64 a ∧ a ≤ 8 ∧ Hid (cs.length = 8) ∧ Hid (wx.heap[g]? = some (.cells (bv cs).toArray 101 (0, 0))) ∧ Hid (be z = cs.drop a) ∧ Hid (Below wk.heap.size wk wx))
    case first =>
      rename World => W
      have HI0 : Hid ((List.replicate 8 (0 : UInt8)).length = 8) := rfl
      have HB0 : Hid (be z = be z ++ (List.replicate 8 (0 : UInt8)).drop 8) := by show _ = _; simp
      have HM0 : Hid (z < 256 ^ 8) := HZ.out
      have hz := HZ.out
      go_wp2_with fail
      go_loopw [5, 7] (fun m t wx => ∃ (n0 a : Nat) (cs : List UInt8), m = .int .u64 n0 ∧ t = .int .i64 a ∧ a ≤ 8 ∧ n0 < 18446744073709551616 ∧ Hid (n0 < 256 ^ a) ∧ Hid (cs.length = 8) ∧ Hid (wx.heap[g]? = some (.cells (bv cs).toArray 101 (0, 0))) ∧ Hid (be z = be n0 ++ cs.drop a) ∧ Hid (Below wk.heap.size wk wx)) (fun m _ _ => (intOf m).toNat)
      case atStart => exact ⟨z, 8, _, rfl, rfl, by omega, hz, HM0, HI0, HE, HB0, HBW⟩
      case round =>
        clear HI0 HB0 HM0 hz HE HBW
        obtain ⟨n0, a, cs, rfl, rfl, ha, hn0, HM, HI, HE, HBE, HBW⟩ := hrel
        by_cases h0 : n0 = 0
        · subst h0
          have HBE2 : Hid (be z = cs.drop a) := by show _ = _; rw [HBE.out, be_zero]; rfl
          go_wp2_with fail
          go_meet
          exact ⟨a, cs, rfl, ha, HI, HE, HBE2, HBW⟩
        have h0' : (0 : Int) < (n0 : Int) := by omega
        obtain ⟨a', rfl⟩ : ∃ a', a = a' + 1 := by
          cases a with
          | zero => have := HM.out; omega
          | succ a => exact ⟨a, rfl⟩
        have ha8 : (a' : Int) < 8 := by omega
        have hacs : a' < cs.length := by rw [HI.out]; omega
        have hw : IntKind.i64.wrap ((a' : Int) + 1 - 1) = (a' : Int) := by rw [IntKind.wrap_i64]; omega
        have hv : IntKind.u8.wrap (n0 : Int) = ((n0 % 256 : Nat) : Int) := by rw [IntKind.wrap_u8]; omega
        have c1 : wr.cell? ⟨g, a', none⟩ = some (.int .u8 ((cs[a']'hacs).toNat : Int)) := by
          simp only [World.cell?, HE.out]
          simp [bv, hacs]
        have f1 : wr.frozen? ⟨g, a', none⟩ = false := by simp [World.frozen?, HE.out]
        generalize (cs[a']'hacs).toNat = old at *
        have hw7 := Wb.set (X := fun k => k = g) wr g a' (.int .u8 ((n0 : Int) % 256)) rfl
        have HX : Hid ((UInt8.ofNat (n0 % 256)).toNat = n0 % 256) := by show _ = _; rw [UInt8.toNat_ofNat']; omega
        have HE2 : Hid ((wr.setCell ⟨g, a', none⟩ (.int .u8 ((n0 : Int) % 256))).heap[g]? = some (.cells (bv (cs.set a' (UInt8.ofNat (n0 % 256)))).toArray 101 (0, 0))) := by
          have h := heap_setCell_same wr g a' _ 101 (.int .u8 ((n0 : Int) % 256)) HE.out
          have e : (bv (cs.set a' (UInt8.ofNat (n0 % 256)))).toArray = (bv cs).toArray.setIfInBounds a' (.int .u8 ((n0 : Int) % 256)) := by
            simp only [bv, List.map_set, HX.out, List.setIfInBounds_toArray]
            rfl
          rw [e]
          exact h
        have HI2 : Hid ((cs.set a' (UInt8.ofNat (n0 % 256))).length = 8) := by show _ = _; rw [List.length_set]; exact HI.out
        have HM2 : Hid (n0 / 256 < 256 ^ a') := by have := HM.out; rw [Nat.pow_succ] at this; exact Nat.div_lt_of_lt_mul (by omega)
        have HB2 : Hid (be z = be (n0 / 256) ++ (cs.set a' (UInt8.ofNat (n0 % 256))).drop a') := by
          show _ = _
          rw [HBE.out, be_pos h0, List.append_assoc, show (cs.set a' (UInt8.ofNat (n0 % 256))).drop a' = UInt8.ofNat (n0 % 256) :: cs.drop (a' + 1) by rw [List.drop_eq_getElem_cons (by rw [List.length_set]; exact hacs), List.getElem_set_self, List.drop_set_of_lt (by omega)]]
          rfl
        have HW2 : Hid (Below wk.heap.size wk (wr.setCell ⟨g, a', none⟩ (.int .u8 ((n0 : Int) % 256)))) := HBW.out.trans (hw7.below HBW.out.size fun k hk => by subst hk; exact Nat.le_of_eq HGK.out.symm)
        clear hw7
        go_wp2_with fail
        go_roundw
        case rel => exact ⟨n0 / 256, a', _, by first | rfl | (congr 1; omega), rfl, by omega, by omega, HM2, HI2, HE2, HB2, HW2⟩
        case measure => simp [intOf]; omega
    case rest =>
    obtain ⟨a, cs, rfl, ha, HI, HE, HBE, HBW⟩ := hcut
    rename World => wm
    have hbz : (be z).length ≠ 0 := by
      rw [be_pos (show z ≠ 0 by omega), List.length_append]
      simp
    have hdl : (be z).length = 8 - a := by rw [HBE.out, List.length_drop, HI.out]
    obtain ⟨d, hd⟩ : ∃ d, d = 8 - a := ⟨_, rfl⟩
    have HDL : Hid ((be z).length = d) := by show _ = _; rw [hd]; exact hdl
    have ha8 : a < 8 := by omega
    have hd8 : (d : Int) ≤ 8 := by omega
    have S1 := fun w => s101_l w g a d ha8 hd
    have HRM : Hid (Row 1 (fun k => k = g) wm (.slice (some ⟨g, a, none⟩) d d) d (bv (be z))) := by
      have h := arr_row (a := a) (d := d) HE.out (by rw [← HBE.out]; exact HDL.out)
      rw [← HBE.out] at h
      exact h
    have hw1 : IntKind.i64.wrap (247 + (d : Int)) = 247 + (d : Int) := by rw [IntKind.wrap_i64]; omega
    have hw2 : IntKind.u8.wrap (247 + (d : Int)) = 247 + (d : Int) := by rw [IntKind.wrap_u8]; omega
    have HOL : Hid (∀ i, (Value.slice oa n oc).ownBlock = some i → i < g) := fun i hi => by rw [HGK.out]; exact (HO.out.lt i hi).2
    have HUP := Hid.mk' (up_alloc wm (.cells #[.int .u8 (247 + (d : Int))] 5))
    have HO5 := Hid.mk' (own_keep (own_keep HO.out HBW.out (Nat.le_refl _)) HUP.out (Nat.le_refl _))
    have HR6 : Hid (∀ w6, (wm.alloc (.cells #[.int .u8 (247 + (d : Int))] 5)).grownBy w6 (Value.slice oa n oc).ownBlock → Row 1 (fun k => k = g) w6 (.slice (some ⟨g, a, none⟩) d d) d (bv (be z))) := fun w6 hg => (HRM.out.up HUP.out).wb (Wb.of_grown hg) fun k hk hk2 => by
      have := HOL.out k hk.symm
      have hk2 : k = g := hk2
      omega
    have HBV : Hid (∀ u ∈ bv (be z), u.oneCell' = true) := fun u hu => by
      obtain ⟨x, _, rfl⟩ := List.mem_map.1 hu
      rfl
    have HBM := Hid.mk' (HB.out.trans ((bt HBW.out HUP.out).mono HB.out.size))
    have HXX : Hid ((UInt8.ofNat (247 + (be z).length)).toNat = 247 + d) := by show _ = _; rw [HDL.out, UInt8.toNat_ofNat']; omega
    clear hbz hdl hd
    go_wp2_with (first
      | (at_builtin; (refine wpl_app rfl (.tmp 34) (.tmp 39) 69 rfl Tryz.underlying69 Tryz.info5 rfl (by decide) rfl HO5.out rfl row_one (by intro u hu; simp only [List.mem_cons, List.not_mem_nil, or_false] at hu; subst hu; rfl) (by have := HL.out; have := HNL.out; unfold maxLen; omega) (by have := HL.out; have := HNL.out; omega) HBM.out.size ?_); intro v6 w6 ho hg1 hn2 hbb; have HO6 := Hid.mk' ho; have HR7 := Hid.mk' (HR6.out w6 hg1); have HB6 : Hid (Below w.heap.size w w6) := below_app HBM.out HO5.out hg1 (Nat.le_refl _) HBM.out.size; clear ho hg1 hn2 hbb)
      | (at_builtin; (refine wpl_app rfl (.tmp 40) (.tmp 41) 69 rfl Tryz.underlying69 Tryz.info5 rfl (by decide) rfl HO6.out rfl HR7.out HBV.out (by have := HL.out; have := HNL.out; unfold maxLen; omega) (by have := HL.out; have := HNL.out; omega) HB6.out.size ?_); intro v8 w8 ho hg1 hn2 hbb))
    have HB8 : Hid (Below w.heap.size w w8) := below_app HB6.out HO6.out hg1 (Nat.le_refl _) HB6.out.size
    have HL8 : Hid ((nms (l.take k)).length + 1 + d = (nms (l.take (k + 1))).length) := by show _ = _; rw [HNM.out, List.length_append, List.length_cons, HDL.out]; omega
    have HO8 : Hid (Ob 5 w.heap.size w8 v8 (nms (l.take (k + 1)))) := by
      unfold Hid Ob
      rw [← HL8.out, HNM.out, show bv (nms (l.take k) ++ (UInt8.ofNat (247 + (be z).length) :: be z)) = (bv (nms (l.take k)) ++ [.int .u8 (247 + (d : Int))]) ++ bv (be z) by simp only [bv, List.map_append, List.map_cons, List.map_nil, HXX.out, List.append_assoc, List.cons_append, List.nil_append]; rfl]
      exact ho
    have HLN : Hid ((nms (l.take (k + 1))).length ≤ 9 * (k + 1)) := by have := HL.out; have := HNL.out; show _ ≤ _; rw [← HL8.out]; omega
    obtain ⟨a8, c8, e8⟩ := own_slice ho
    have E8 : Hid (v8 = .slice a8 (nms (l.take (k + 1))).length c8) := by show _ = _; rw [← HL8.out]; exact e8
    rw [E8.out] at HO8
    clear ho hg1 hn2 hbb e8 S1
    go_roundw
    case rel => exact ⟨k + 1, _, a8, c8, by omega, by go_num, E8.out, rfl, HO8, HLN, HB8⟩
    case measure => simp [intOf]; omega
end Go.Proofs.YtojgkjpmphfakaaGreatDoor
