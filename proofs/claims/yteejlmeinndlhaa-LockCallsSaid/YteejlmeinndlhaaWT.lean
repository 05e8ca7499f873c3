/- worst; slices.Clone of ranges; twin. -/
import Derived.Test.YteejlmeinndlhaaRV
set_option linter.unusedVariables false
set_option linter.unusedSimpArgs false
namespace Go.Proofs.Yteejlmeinndlhaa
open Go.RowKit Go.Maps
attribute [local go_sem ↓] Go.wp_at_zero Go.wp_at_succ
def wst : Int → List Rg → Int
  | o, [] => o
  | o, r :: t => wst (if ckR r ≠ 0 ∧ (o = 0 ∨ ckR r < o) then ckR r else o) t
theorem wst_cons (o : Int) (r : Rg) (t : List Rg) : wst o (r :: t) = wst (if ckR r ≠ 0 ∧ (o = 0 ∨ ckR r < o) then ckR r else o) t := rfl
def worstB (l : List Rg) : Int := if 64 < l.length then 2 else wst 0 l
set_option maxRecDepth 100000 in
set_option maxHeartbeats 4000000 in
/-- worst -/
theorem worst_any {A : Nat → Prop} {w : World} {v : Value} {l : List Rg} (h : Rgs A w v l) : Calls Try.prog 45 #[v] w fun e w' => e = .returned (.int .i64 (worstB l)) ∧ Below w.heap.size w w' := by
  obtain ⟨a, c, rfl, hc, _, hz, H⟩ := h.at
  have H : Hid _ := H
  have HR : Hid (worstB l = if 64 < l.length then 2 else wst 0 l) := rfl
  have hlz : (l.length : Int) ≤ 140737488351232 := by unfold lim at hz; omega
  clear h hz
  generalize worstB l = R at *
  by_cases h64 : 64 < l.length
  · have h64' : (64 : Int) < (l.length : Int) := by omega
    have HR2 : Hid (R = 2) := by show _ = _; rw [HR.out, if_pos h64]
    clear HR
    go_enter Try.func45, Try.ntmps45
    go_wp2_with fail
    go_ret
    exact ⟨by rw [HR2.out] <;> rfl, Below.refl _ _⟩
  have h64' : ¬ (64 : Int) < (l.length : Int) := by omega
  have HR2 : Hid (R = wst 0 l) := by show _ = _; rw [HR.out, if_neg h64]
  clear HR
  go_enter Try.func45, Try.ntmps45
  go_wp2_with fail
  go_loopw [3, 12] (fun x i wr => ∃ (k : Nat) (o : Int), k ≤ l.length ∧ i = .int .i64 k ∧ x = .int .i64 o ∧ Hid (R = wst o (l.drop k)) ∧ Hid (Below w.heap.size w wr)) (fun _ i _ => l.length - (intOf i).toNat)
  case atStart => exact ⟨0, 0, by omega, rfl, rfl, HR2, Below.refl _ _⟩
  case round =>
    clear HR2
    obtain ⟨k, o, hk, rfl, rfl, HF, HB⟩ := hrel
    by_cases hlt : k < l.length
    · have hlt' : (k : Int) < (l.length : Int) := by omega
      obtain ⟨b, of, fa, fc, ta, tc, rfl, _, ⟨c0, c1, c2⟩, h3, h4⟩ := H.out k hlt
      have c0 := cell_up c0 HB.out
      have c1 := cell_up c1 HB.out
      have c2 := cell_up c2 HB.out
      have HT : Hid (R = wst (if ckR l[k] ≠ 0 ∧ (o = 0 ∨ ckR l[k] < o) then ckR l[k] else o) (l.drop (k + 1))) := by
        show _ = _
        rw [HF.out, List.drop_eq_getElem_cons hlt, wst_cons]
      clear HF
      obtain ⟨W, hW, hbW, hcW⟩ := one_box wr (.slice fa l[k].lo.length fc) (.slice ta l[k].hi.length tc) (.bool l[k].xc) 24
      have HBW := Hid.mk' (bt HB.out hbW)
      have HCK : Hid (Calls Try.prog 54 #[.agg #[.slice fa l[k].lo.length fc, .slice ta l[k].hi.length tc, .bool l[k].xc]] W fun e w' => e = .returned (.int .i64 (ckR l[k])) ∧ Below W.heap.size W w') := check_any ⟨_, _, rfl, (h3.up HB.out).up hbW, (h4.up HB.out).up hbW⟩
      obtain ⟨b0, b1, b2⟩ := hcW W (Below.refl _ _)
      clear h3 h4 hbW hcW
      generalize ckR l[k] = z at *
      generalize l[k].lo.length = n at *
      generalize l[k].hi.length = m at *
      generalize l[k].xc = xc at *
      go_wp2_with fail
      rw [← hW]
      clear hW
      go_wp2_with fail
      refine HCK.out.mono ?_
      rintro e w2 ⟨rfl, hb2⟩
      have HB2 := Hid.mk' (bt HBW.out hb2)
      clear hb2 HCK HBW b0 b1 b2 c0 c1 c2
      by_cases h0 : z = 0
      · have h0' : (z == 0) = true := by simpa using h0
        have h0'' : (z != 0) = false := by simpa using h0
        have HT2 : Hid (R = wst o (l.drop (k + 1))) := by show _ = _; rw [HT.out, if_neg (fun h => h.1 h0)]
        clear HT h0
        go_wp2_with fail
        go_roundw
        case rel => exact ⟨k + 1, o, by omega, by go_num, rfl, HT2, HB2⟩
        case measure => simp [intOf]; omega
      have h0' : (z == 0) = false := by simpa using h0
      have h0'' : (z != 0) = true := by simpa using h0
      by_cases h1 : o = 0
      · have h1' : (o == 0) = true := by simpa using h1
        have HT2 : Hid (R = wst z (l.drop (k + 1))) := by show _ = _; rw [HT.out, if_pos ⟨h0, .inl h1⟩]
        clear HT h0 h1
        go_wp2_with fail
        go_roundw
        case rel => exact ⟨k + 1, z, by omega, by go_num, rfl, HT2, HB2⟩
        case measure => simp [intOf]; omega
      have h1' : (o == 0) = false := by simpa using h1
      by_cases h2 : z < o
      · have h2' : decide (z < o) = true := decide_eq_true h2
        have HT2 : Hid (R = wst z (l.drop (k + 1))) := by show _ = _; rw [HT.out, if_pos ⟨h0, .inr h2⟩]
        clear HT h0 h1
        go_wp2_with fail
        go_roundw
        case rel => exact ⟨k + 1, z, by omega, by go_num, rfl, HT2, HB2⟩
        case measure => simp [intOf]; omega
      · have h2' : decide (z < o) = false := decide_eq_false h2
        have HT2 : Hid (R = wst o (l.drop (k + 1))) := by show _ = _; rw [HT.out, if_neg (by rintro ⟨_, h | h⟩; exact h1 h; exact h2 h)]
        clear HT h0 h1
        go_wp2_with fail
        go_roundw
        case rel => exact ⟨k + 1, o, by omega, by go_num, rfl, HT2, HB2⟩
        case measure => simp [intOf]; omega
    · obtain rfl : k = l.length := by omega
      have HT : Hid (R = o) := by have := HF.out; rw [List.drop_length] at this; exact this
      go_wp2_with fail
      go_ret
      exact ⟨by rw [HT.out] <;> rfl, HB.out⟩
/-- a row of ranges of the call's own, whose bytes lie in D -/
def Og (B : Nat) (D : Nat → Prop) (w : World) (v : Value) (l : List Rg) : Prop := ∃ L : List Rq, L.map (·.1) = l ∧ w.ownsRow B 24 3 v L.length (rcs L) ∧ (∀ q ∈ L, Rqi D w q) ∧ L.length * 56 ≤ lim
theorem Og.up {B : Nat} {D : Nat → Prop} {w w' : World} {v : Value} {l : List Rg} (h : Og B D w v l) (hb : Below w.heap.size w w') : Og B D w' v l := by
  obtain ⟨L, h1, h2, h3, h4⟩ := h
  exact ⟨L, h1, own_keep h2 hb (Nat.le_refl _), fun q hq => ⟨(h3 q hq).1.up hb, (h3 q hq).2.up hb⟩, h4⟩
theorem Og.mono {B B' : Nat} {D D' : Nat → Prop} {w : World} {v : Value} {l : List Rg} (h : Og B D w v l) (hB : B' ≤ B) (hD : ∀ k, D k → D' k) : Og B' D' w v l := by
  obtain ⟨L, h1, h2, h3, h4⟩ := h
  exact ⟨L, h1, own_mono h2 hB, fun q hq => ⟨(h3 q hq).1.monoS hD, (h3 q hq).2.monoS hD⟩, h4⟩
theorem Og.sl {B : Nat} {D : Nat → Prop} {w : World} {v : Value} {l : List Rg} (h : Og B D w v l) : ∃ a c, v = .slice a l.length c := by
  obtain ⟨L, rfl, h2, _⟩ := h
  obtain ⟨a, c, e⟩ := own_sliceN h2
  exact ⟨a, c, by rw [e, List.length_map]⟩
theorem Og.rgs {B : Nat} {D : Nat → Prop} {w : World} {v : Value} {l : List Rg} (h : Og B D w v l) : Rgs (fun k => D k ∨ B ≤ k ∧ k < w.heap.size) w v l := by
  obtain ⟨L, h1, h2, h3, h4⟩ := h
  refine ⟨L, h1, ?_, fun q hq => ⟨(h3 q hq).1.monoS fun _ h => .inl h, (h3 q hq).2.monoS fun _ h => .inl h⟩, h4⟩
  have k1 := Row.of_ownB h2
  have k2 := k1.toLtN
  obtain ⟨e0, a, c, e, hc, ha, H⟩ := k1
  obtain ⟨_, a', c', e', _, _, H'⟩ := k2
  rw [e] at e'; cases e'
  refine ⟨e0, a, c, e, hc, ha, fun j u hj => ?_⟩
  obtain ⟨b1, o1, k1, k2, k3⟩ := H j u hj
  obtain ⟨b2, o2, k4, k5, _⟩ := H' j u hj
  rw [k1] at k4; cases k4
  exact ⟨b1, o1, k1, .inr ⟨k2, k5⟩, k3⟩
theorem og_nil {B : Nat} {D : Nat → Prop} {w : World} : Og B D w (.slice none 0 0) [] := ⟨[], rfl, World.ownsRow_nil w B 24 3, fun q hq => by simp at hq, by unfold lim; simp⟩
theorem rcs_one {L : List Rq} {w : World} {D : Nat → Prop} (h : ∀ q ∈ L, Rqi D w q) : ∀ u ∈ rcs L, u.oneCell' = true := by
  intro u hu
  simp only [rcs, List.mem_flatten, List.mem_map] at hu
  obtain ⟨c, ⟨q, hq, rfl⟩, hu⟩ := hu
  obtain ⟨a, c, e, _⟩ := (h q hq).1.at
  obtain ⟨a', c', e', _⟩ := (h q hq).2.at
  simp only [rc, List.mem_cons, List.not_mem_nil, or_false] at hu
  rcases hu with rfl | rfl | rfl
  · rw [e]; rfl
  · rw [e']; rfl
  · rfl
theorem Try.info24 : (Try.prog.info? 24).map (fun i => (i.zero, i.size, i.bytes)) = some (some (.agg #[.slice none 0 0, .slice none 0 0, .bool false]), 3, 56) := by kernel_rfl
theorem own_empty3 {B : Nat} {w : World} {e : TypeId} {sz : Nat} (hB : B ≤ w.heap.size) : (w.alloc (.cells #[] e)).ownsRow B e sz (.slice (some ⟨w.heap.size, 0, none⟩) 0 0) 0 [] :=
  ⟨by simp, .inr ⟨w.heap.size, 0, #[], rfl, hB, heap_alloc_new w _, Nat.le_refl _, by decide, by simp, by simp⟩⟩
theorem eqn40 (w : World) (a : Option Addr) (n c : Nat) : Sem.run Try.prog (binOp BinOp.eql 40 (Value.slice a n c) (Value.slice none 0 0)) w = Result.ok (Value.bool a.isNone) w := Lib.run_eql_slice_nil (P := Try.prog) w 40 24 a n c 0 0 Try.underlying40
set_option maxHeartbeats 1000000 in
/-- slices.Clone of ranges -/
theorem clone46 {D : Nat → Prop} {w : World} {v : Value} {l : List Rg} (h : Rgs D w v l) : Calls Try.prog 46 #[v] w fun e w' => ∃ v', e = .returned v' ∧ Og w.heap.size D w' v' l ∧ Below w.heap.size w w' := by
  have h0 := eqn40
  obtain ⟨L, rfl, hr, hel, hz⟩ := h
  obtain ⟨hl, a, c, rfl, hc, ha, H⟩ := id hr
  cases a with
  | none =>
    have hc0 := ha rfl
    have hQ : L = [] := List.eq_nil_of_length_eq_zero (by omega)
    subst hQ
    clear hr hel hl ha H hz
    go_enter Try.func46, Try.ntmps46
    go_wp2
    go_ret
    exact ⟨_, rfl, og_nil, Below.refl _ _⟩
  | some p =>
    have HR := Hid.mk' hr
    have HEL := Hid.mk' hel
    have HZ := Hid.mk' hz
    have H1 := Hid.mk' (rcs_one hel)
    clear hr hel hl H ha hz
    go_enter Try.func46, Try.ntmps46
    go_wp2_with (at_builtin; go_must (refine wpl_app rfl (.tmp 5) (.tmp 6) 40 rfl Try.underlying40 Try.info24 rfl (by decide) rfl (own_empty3 (Nat.le_refl _)) rfl (HR.out.up (up_alloc _ _)) H1.out (by have := HZ.out; unfold lim at this; unfold maxLen; omega) (by have := HZ.out; unfold lim at this; omega) (by simp) ?_); intro v' w1 ho hg hn hb; clear hn hb)
    go_ret
    have hbl : Below w.heap.size w w1 := below_app ((Below.refl _ _).alloc (Nat.le_refl _) _) (own_empty3 (sz := 3) (Nat.le_refl _)) hg (Nat.le_refl _) (by simp)
    rw [Nat.zero_add, List.nil_append] at ho
    exact ⟨v', rfl, ⟨L, rfl, ho, fun q hq => ⟨(HEL.out q hq).1.up hbl, (HEL.out q hq).2.up hbl⟩, HZ.out⟩, hbl⟩
theorem Try.sz24 : (Try.prog.info? 24).map (·.size) = some 3 := by kernel_rfl
theorem Row.andLtR {sz n : Nat} {A : Nat → Prop} {w : World} {v : Value} {vs : List Value} (h : Row sz A w v n vs) : Row sz (fun k => A k ∧ k < w.heap.size) w v n vs := by
  obtain ⟨hl, a, c, rfl, hc, ha, H⟩ := h
  refine ⟨hl, a, c, rfl, hc, ha, fun j u hj => ?_⟩
  obtain ⟨b, o, h1, h2, h3⟩ := H j u hj
  exact ⟨b, o, h1, ⟨h2, World.block_lt_of_cell? w ⟨b, o + j, none⟩ h3⟩, h3⟩
theorem box3_set {w : World} {b : Nat} {c0 c1 c2 : Value} {e : TypeId} (h : w.heap[b]? = some (.cells #[c0, c1, c2] e (0, 0))) (o : Nat) (u : Value) : (w.setCell ⟨b, o, none⟩ u).heap[b]? = some (.cells (#[c0, c1, c2].setIfInBounds o u) e (0, 0)) := heap_setCell_same w b o _ e u h
theorem box3_fr {w : World} {b : Nat} {c0 c1 c2 : Value} {e : TypeId} (h : w.heap[b]? = some (.cells #[c0, c1, c2] e (0, 0))) (j : Nat) : w.frozen? ⟨b, j, none⟩ = false := by simp [World.frozen?, h]
set_option maxRecDepth 100000 in
set_option maxHeartbeats 2000000 in
/-- twin -/
theorem twin_any {A : Nat → Prop} {w : World} {v : Value} {r : Rg} (h : RgIs A w v r) : Calls Try.prog 49 #[v] w fun e w' => ∃ v', e = .returned v' ∧ RgIs (fun k => w.heap.size ≤ k ∧ k < w'.heap.size) w' v' r ∧ Below w.heap.size w w' := by
  obtain ⟨fa, fc, ta, tc, rfl, hf, ht⟩ := h.form
  obtain ⟨W, hW⟩ : ∃ W, W = (w.alloc (.cells #[.slice fa r.lo.length fc, .slice ta r.hi.length tc, .bool r.xc] 24)).alloc (.cells #[.slice none 0 0, .slice none 0 0, .bool false] 24) := ⟨_, rfl⟩
  have hs : W.heap.size = w.heap.size + 1 + 1 := by rw [hW]; simp
  have hb : Below w.heap.size w W := by rw [hW]; exact bt (up_alloc _ _) (up_alloc _ _)
  have e0 : W.heap[w.heap.size]? = some (.cells #[.slice fa r.lo.length fc, .slice ta r.hi.length tc, .bool r.xc] 24 (0, 0)) := by
    rw [hW, (up_alloc _ _).block _ (by simp)]; exact heap_alloc_new w _
  have e1 : W.heap[w.heap.size + 1]? = some (.cells #[.slice none 0 0, .slice none 0 0, .bool false] 24 (0, 0)) := by
    rw [hW]; have := heap_alloc_new (w.alloc (.cells #[.slice fa r.lo.length fc, .slice ta r.hi.length tc, .bool r.xc] 24)) (.cells #[.slice none 0 0, .slice none 0 0, .bool false] 24); rwa [World.size_alloc] at this
  obtain ⟨x0, x1, x2⟩ := box3 e0
  have r0 : ∀ q : Kp (fun _ => False) W, q.nx.cell? ⟨w.heap.size, 0, none⟩ = some _ := fun q => q.cell x0 id
  have r1 : ∀ q : Kp (fun _ => False) W, q.nx.cell? ⟨w.heap.size, 1, none⟩ = some _ := fun q => q.cell x1 id
  have HC1 := Hid.mk' (clone_any _ _ W.drew ((hf.up hb).up (drew_blx W _)))
  have HC2 : Hid (∀ wz, Below W.heap.size W wz → Calls Try.prog 61 #[.slice ta r.hi.length tc] wz (RetOb 5 wz r.hi)) := fun wz hz => clone_any _ _ wz ((ht.up hb).up hz)
  have HB := Hid.mk' hb
  have HE0 := Hid.mk' e0
  have HE1 := Hid.mk' e1
  have HL1 := Hid.mk' hf.2
  have HL2 := Hid.mk' ht.2
  have HS := Hid.mk' hs
  clear h hf ht hb e0 e1 x0 x1 x2
  generalize hxc : r.xc = xc at *
  have HXC := Hid.mk' hxc
  clear hxc
  go_enter Try.func49, Try.ntmps49
  go_upto_region 1 with fail
  rw [← hW]
  clear hW
  refine wp_region_mix 7 (fun w' => ∃ q : Kp (fun _ => False) W, w' = q.nx) (by kernel_rfl) (by kernel_rfl) (kp_first _ W) ?_
  simp only [List.take_succ_cons, List.take_zero, List.drop_succ_cons, List.drop_zero]
  refine mx_take 2 rfl ?_
  simp only [List.take_succ_cons, List.take_zero, List.drop_succ_cons, List.drop_zero]
  repeat (go_big_quiet_step (fail))
  refine wpQuiet_nil ?_
  refine mx_call (vals := [.slice fa r.lo.length fc]) Try.func61 (by kernel_rfl) rfl rfl (by kernel_rfl) (by kernel_rfl) HC1.out (fun E wa ha => ?_)
  obtain ⟨u1, rfl, hba, ho1⟩ := ha
  have hWa : Below W.heap.size W wa := (drew_blx W _).trans hba
  obtain ⟨a1, k1, rfl⟩ := own_slice ho1
  refine ⟨_, rfl, kp_mk hWa.size fun b hb hx => hWa.block b hb, ?_⟩
  simp only [Act.put, List.setIfInBounds_toArray, List.set_cons_succ, List.set_cons_zero]
  refine mx_take 2 rfl ?_
  simp only [List.take_succ_cons, List.take_zero, List.drop_succ_cons, List.drop_zero]
  repeat (go_big_quiet_step (fail))
  refine wpQuiet_nil ?_
  refine mx_call (vals := [.slice ta r.hi.length tc]) Try.func61 (by kernel_rfl) rfl rfl (by kernel_rfl) (by kernel_rfl) (HC2.out wa hWa) (fun E wb hb => ?_)
  obtain ⟨u2, rfl, hbb, ho2⟩ := hb
  have hWb : Below W.heap.size W wb := bt hWa hbb
  obtain ⟨a2, k2, rfl⟩ := own_slice ho2
  refine ⟨_, rfl, kp_mk hWb.size fun b hb hx => hWb.block b hb, ?_⟩
  simp only [Act.put, List.setIfInBounds_toArray, List.set_cons_succ, List.set_cons_zero]
  refine mx_take 1 rfl ?_
  simp only [List.take_succ_cons, List.take_zero, List.drop_succ_cons, List.drop_zero]
  repeat (go_big_quiet_step (fail))
  refine wpQuiet_nil ?_
  simp only [wpMix]
  clear r0 r1
  have HS2 : Hid (w.heap.size + 1 + 1 ≤ wb.heap.size) := by have := hWb.size; rw [HS.out] at this; exact this
  have e0 : wb.heap[w.heap.size]? = _ := (hWb.block _ (by rw [HS.out]; omega)).trans HE0.out
  have e1 : wb.heap[w.heap.size + 1]? = _ := (hWb.block _ (by rw [HS.out]; omega)).trans HE1.out
  have HO1 : Hid (Bs (fun k => w.heap.size + 1 + 1 ≤ k ∧ k < wb.heap.size) wb (.slice a1 r.lo.length k1) r.lo) := ⟨(Row.of_ownB (own_keep ho1 hbb (Nat.le_refl _))).andLtR.monoS fun k hk => ⟨by have := hk.1; have h2 : W.drew.heap.size = W.heap.size := rfl; rw [h2, HS.out] at this; exact this, hk.2⟩, HL1.out⟩
  have HO2 : Hid (Bs (fun k => w.heap.size + 1 + 1 ≤ k ∧ k < wb.heap.size) wb (.slice a2 r.hi.length k2) r.hi) := ⟨(Row.of_ownB ho2).andLtR.monoS fun k hk => ⟨by have := hk.1; have h3 := hWa.size; rw [HS.out] at h3; omega, hk.2⟩, HL2.out⟩
  have HBB := Hid.mk' (bt HB.out hWb)
  clear ho1 ho2 hba hbb hWa hWb HC1 HC2
  obtain ⟨x0, x1, x2⟩ := box3 e0
  obtain ⟨y0, y1, y2⟩ := box3 e1
  have hx := box3_fr e0
  have hy := box3_fr e1
  have fx0 := hx 0
  have fx1 := hx 1
  have fy0 := hy 0
  have fy1 := hy 1
  have fy2 := hy 2
  have HX := Hid.mk' e0
  have HY := Hid.mk' e1
  clear e0 e1 hx hy
  go_upto_region 2 with fail
  obtain ⟨X, hX⟩ : ∃ X, X = (wb.setCell ⟨w.heap.size, 0, none⟩ (.slice a1 r.lo.length k1)).setCell ⟨w.heap.size, 1, none⟩ (.slice a2 r.hi.length k2) := ⟨_, rfl⟩
  rw [← hX]
  have hwX : Wb (fun k => k = w.heap.size) wb X := by rw [hX]; exact (Wb.set (X := fun k => k = w.heap.size) _ _ _ _ rfl).trans (Wb.set _ _ _ _ rfl)
  have e0 : X.heap[w.heap.size]? = some (.cells #[.slice a1 r.lo.length k1, .slice a2 r.hi.length k2, .bool xc] 24 (0, 0)) := by rw [hX]; exact box3_set (box3_set HX.out 0 _) 1 _
  have e1 : X.heap[w.heap.size + 1]? = some (.cells #[.slice none 0 0, .slice none 0 0, .bool false] 24 (0, 0)) := (hwX.block _ (by have := HS2.out; omega) (by omega)).trans HY.out
  clear hX x0 x1 x2 y0 y1 y2 fx0 fx1 fy0 fy1 fy2
  obtain ⟨x0, x1, x2⟩ := box3 e0
  obtain ⟨y0, y1, y2⟩ := box3 e1
  have hy := box3_fr e1
  have fy0 := hy 0
  have fy1 := hy 1
  have fy2 := hy 2
  have hw3 := wb3 (w.heap.size + 1) 0 1 2 (.slice a1 r.lo.length k1) (.slice a2 r.hi.length k2) (.bool xc) X
  have HW3 : Hid (Wb (fun k => k = w.heap.size ∨ k = w.heap.size + 1) wb (((X.setCell ⟨w.heap.size + 1, 0, none⟩ (.slice a1 r.lo.length k1)).setCell ⟨w.heap.size + 1, 1, none⟩ (.slice a2 r.hi.length k2)).setCell ⟨w.heap.size + 1, 2, none⟩ (.bool xc))) := (hwX.mono fun k hk => .inl hk).trans (hw3.mono fun k hk => .inr hk)
  have HX3 := Hid.mk' (show ((((X.setCell ⟨w.heap.size + 1, 0, none⟩ (.slice a1 r.lo.length k1)).setCell ⟨w.heap.size + 1, 1, none⟩ (.slice a2 r.hi.length k2)).setCell ⟨w.heap.size + 1, 2, none⟩ (.bool xc)).heap[w.heap.size + 1]?) = some (.cells #[.slice a1 r.lo.length k1, .slice a2 r.hi.length k2, .bool xc] 24 (0, 0)) from box3_set (box3_set (box3_set e1 0 _) 1 _) 2 _)
  clear hw3 hwX hy e0 e1
  go_wp2_with fail
  (try simp only [Exit.inBlock, Exit.then])
  refine bodyPost_ret (results_cell_row rfl _ _ (w.heap.size + 1) 24 _ (0, 0) _ rfl HX3.out Try.underlying24 rfl Try.sz24) rfl ?_
  have hsz := HW3.out.size
  refine ⟨_, rfl, ⟨_, _, by rw [HXC.out], (HO1.out.wb HW3.out ?_).monoS ?_, (HO2.out.wb HW3.out ?_).monoS ?_⟩, HBB.out.trans (HW3.out.below (by have := HS2.out; omega) fun k hk => by omega)⟩
  · intro k hk h2; omega
  · intro k hk; exact ⟨by omega, by omega⟩
  · intro k hk h2; omega
  · intro k hk; exact ⟨by omega, by omega⟩
end Go.Proofs.Yteejlmeinndlhaa
