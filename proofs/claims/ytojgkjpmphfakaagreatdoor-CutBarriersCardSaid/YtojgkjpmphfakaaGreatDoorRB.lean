/- The reference's Enter. -/
import Derived.Test.YtojgkjpmphfakaaGreatDoorRA
set_option linter.unusedVariables false
set_option linter.unusedSimpArgs false
namespace Go.Proofs.YtojgkjpmphfakaaGreatDoor
open Go.RowKit
open PL
attribute [local go_sem ↓] Go.wp_at_zero Go.wp_at_succ
theorem drewN_below (w : World) (n : Nat) {B : Nat} : Below B w (w.drewN n) := ((Dn.refl w).more n).below B
theorem insN_cons (z : Bi) (r : List Bi) (id : Nat) : insN (z :: r) id = if id < z.2.1 then 0 else insN r id + 1 := by
  unfold insN
  rw [List.findIdx_cons]
  by_cases h : id < z.2.1 <;> simp [h]
theorem insN_le (r : List Bi) (id : Nat) : insN r id ≤ r.length := List.findIdx_le_length
/-- what Enter answers -/
def REnP (A : Nat → Prop) (w : World) (r : List Bi × Int) (e : Ending) (w' : World) : Prop := ∃ v, e = .returned (.tuple #[v, .int .i64 r.2]) ∧ RbR (fun k => A k ∨ w.heap.size ≤ k) w' v r.1 ∧ Below w.heap.size w w'
theorem REnP.same {A : Nat → Prop} {w w' : World} {v : Value} {L : List Bi} {r : List Bi × Int} {c : Int} (hr : r = (L, c)) (h : RbR A w v L) (hb : Below w.heap.size w w') : REnP A w r (.returned (.tuple #[v, .int .i64 c])) w' := by
  subst hr
  exact ⟨v, rfl, (h.up hb).monoS fun k hk => .inl hk, hb⟩
theorem own_empty4 {B : Nat} {w : World} {e : TypeId} (hB : B ≤ w.heap.size) : (w.alloc (.cells #[] e)).ownsRow B e 4 (.slice (some ⟨w.heap.size, 0, none⟩) 0 0) 0 [] :=
  ⟨rfl, .inr ⟨w.heap.size, 0, #[], rfl, hB, heap_alloc_new w _, Nat.le_refl _, by decide, rfl, rfl⟩⟩
theorem row4_one {w : World} {x y z u : Value} {e : TypeId} : Row 4 (fun k => k = w.heap.size) (w.alloc (.cells #[x, y, z, u] e)) (.slice (some ⟨w.heap.size, 0, none⟩) 1 1) 1 [x, y, z, u] := by
  obtain ⟨h0, h1, h2, h3⟩ := bx4 (heap_alloc_new w (.cells #[x, y, z, u] e))
  refine ⟨rfl, _, _, rfl, Nat.le_refl _, by simp, fun j t hj => ⟨_, _, rfl, rfl, ?_⟩⟩
  match j, hj with
  | 0, hj => simp at hj; subst hj; exact h0
  | 1, hj => simp at hj; subst hj; exact h1
  | 2, hj => simp at hj; subst hj; exact h2
  | 3, hj => simp at hj; subst hj; exact h3
theorem own4_app0 {B n : Nat} {w : World} {v : Value} {xs : List Value} (h : w.ownsRow B 32 4 v (0 + n) ([] ++ xs)) : w.ownsRow B 32 4 v n xs := by
  rwa [Nat.zero_add, List.nil_append] at h
/-- what the three appends make -/
theorem REnP.ins {A : Nat → Prop} {B : Nat} {w w' : World} {v u : Value} {L : List Bi} {y : Bi} {ps : List (Bi × Value)} (he : ps.map (·.1) = L) (hp : ∀ p ∈ ps, Us A w p.2 p.1.2.2.2) (hl : L.length ≤ 1000) (hu : Us A w u y.2.2.2) (hb : Below w.heap.size w w') (hB : w.heap.size ≤ B)
    (ho : w'.ownsRow B 32 4 v (insN L y.2.1 + 1 + (L.length - insN L y.2.1)) ((rcs ps).take (insN L y.2.1 * 4) ++ rcs [(y, u)] ++ (rcs ps).drop (insN L y.2.1 * 4))) : REnP A w (_root_.Go.Proofs.YtojgkjpmphfakaaGreatDoor.ins L y, 0) (.returned (.tuple #[v, .int .i64 0])) w' := by
  have hn := insN_le L y.2.1
  have hlen : (_root_.Go.Proofs.YtojgkjpmphfakaaGreatDoor.ins L y).length = insN L y.2.1 + 1 + (L.length - insN L y.2.1) := by
    unfold _root_.Go.Proofs.YtojgkjpmphfakaaGreatDoor.ins
    rw [List.length_append, List.length_cons, List.length_take, List.length_drop]; omega
  refine ⟨v, rfl, ⟨ps.take (insN L y.2.1) ++ (y, u) :: ps.drop (insN L y.2.1), ?_, ?_, ?_, ?_⟩, hb⟩
  · rw [List.map_append, List.map_cons, List.map_take, List.map_drop, he]; rfl
  · rw [hlen]
    have e : rcs (ps.take (insN L y.2.1) ++ (y, u) :: ps.drop (insN L y.2.1)) = (rcs ps).take (insN L y.2.1 * 4) ++ rcs [(y, u)] ++ (rcs ps).drop (insN L y.2.1 * 4) := by
      rw [rcs_append, rcs_take, List.append_assoc]
      congr 1
      rw [show (y, u) :: ps.drop (insN L y.2.1) = [(y, u)] ++ ps.drop (insN L y.2.1) from rfl, rcs_append, rcs_drop]
    rw [e]
    exact (Row.of_ownB ho).monoS fun k hk => .inr (Nat.le_trans hB hk)
  · intro p hp'
    have : p ∈ ps ∨ p = (y, u) := by
      rcases List.mem_append.1 hp' with h | h
      · exact .inl (List.mem_of_mem_take h)
      · rcases List.mem_cons.1 h with h | h
        · exact .inr h
        · exact .inl (List.mem_of_mem_drop h)
    rcases this with h | rfl
    · exact ((hp p h).up hb).monoS fun k hk => .inl hk
    · exact (hu.up hb).monoS fun k hk => .inl hk
  · rw [hlen]; unfold lim; omega
theorem Tryz.und22 : Tryz.prog.underlying 22 = some (.slice (Tryz.prog.elem 22)) := by kernel_rfl
theorem Tryz.size22 (w : World) : (sizeOf (Tryz.prog.elem 22)).run Tryz.prog w = .ok 4 w := by kernel_rfl
theorem enter4_box {w : World} {y0 y1 y2 y3 : Value} {e : TypeId} : ∃ W, W = w.alloc (.cells #[y0, y1, y2, y3] e) ∧ Below w.heap.size w W ∧ W.heap.size = w.heap.size + 1 ∧ W.heap[w.heap.size]? = some (.cells #[y0, y1, y2, y3] e (0, 0)) :=
  ⟨_, rfl, up_alloc _ _, by simp, heap_alloc_new _ _⟩
set_option maxRecDepth 100000 in
set_option maxHeartbeats 8000000 in
/-- Enter -/
theorem renter_any {A : Nat → Prop} {w : World} {v u : Value} {L : List Bi} (y : Bi) (h : RbR A w v L) (hL : L.length ≤ 1000) (hu : Us A w u y.2.2.2) (hn : y.2.2.1.length ≤ maxLen) :
    Calls Tryz.prog 8 #[v, .agg #[.int .u64 (y.1 : Int), .int .u64 (y.2.1 : Int), .string ⟨y.2.2.1.toArray⟩, u]] w (REnP A w (rEnter L y)) := by
  have HR := Hid.mk' h
  have HU := Hid.mk' hu
  have HL : Hid (L.length ≤ 1000) := hL
  have hll : (L.length : Int) ≤ 1000 := by omega
  obtain ⟨a, c, rfl, hc, hat⟩ := h.at
  have HAT := Hid.mk' hat
  obtain ⟨ua, uc, rfl, _⟩ := hu.at
  obtain ⟨y0, y1, y2, y3⟩ := y
  simp only at hn hu HU ⊢
  obtain ⟨W, hW, hB, hsz, hx⟩ := enter4_box (w := w) (y0 := .int .u64 (y0 : Int)) (y1 := .int .u64 (y1 : Int)) (y2 := .string ⟨y2.toArray⟩) (y3 := .slice ua y3.length uc) (e := 32)
  have HB := Hid.mk' hB
  have HX := Hid.mk' hx
  have HV := Hid.mk' (rvalid_any y2 hn W)
  obtain ⟨x0, x1, x2, x3⟩ := bx4 hx
  cases hv : validB y2 with
  | false =>
    have HRE : Hid (rEnter L (y0, y1, y2, y3) = (L, 3)) := by show _ = _; unfold rEnter; rw [if_neg (by simp [hv])]
    rw [hv] at HV
    clear h hL hat hu hn hB hsz hx hv
    go_enter Tryz.func8, Tryz.ntmps8
    go_upto_region 1 with fail
    rw [← hW]
    clear hW
    go_wp2_with fail
    refine HV.out.mono ?_
    rintro e w1 ⟨rfl, rfl⟩
    clear HV
    go_wp2_with fail
    refine bodyPost_ret (v := .tuple #[.slice a L.length c, .int .i64 3]) (by simp [results, Tryz.results8, go_sem]) rfl ?_
    exact REnP.same HRE.out HR.out HB.out
  | true =>
  have HRE : Hid (rEnter L (y0, y1, y2, y3) = if (y0, y1, y2, y3) ∈ L then (L, 0) else if clash L (y0, y1, y2, y3) then (L, 7) else (ins L (y0, y1, y2, y3), 0)) := by show _ = _; unfold rEnter; rw [if_pos (by simp [hv])]
  rw [hv] at HV
  have HI0 : Hid (L.length = L.length + insN (L.drop L.length) y1) := by show _ = _; rw [List.drop_length]; rfl
  have HN0 : Hid (∀ z ∈ L.drop L.length, z ≠ (y0, y1, y2, y3)) := by show ∀ z ∈ _, _; rw [List.drop_length]; simp
  clear h hL hat hu hn hB hsz hx hv
  go_enter Tryz.func8, Tryz.ntmps8
  go_upto_region 1 with fail
  rw [← hW]
  clear hW
  go_wp2_with fail
  refine HV.out.mono ?_
  rintro e w1 ⟨rfl, rfl⟩
  clear HV
  go_wp2_with fail
  go_loopw [6, 7] (fun n i wr => ∃ m nn : Nat, m ≤ L.length ∧ i = .int .i64 ((m : Int) - 1) ∧ n = .int .i64 (nn : Int) ∧ Hid (nn = m + insN (L.drop m) y1) ∧ Hid (∀ z ∈ L.drop m, z ≠ (y0, y1, y2, y3)) ∧ Hid (Below W.heap.size W wr)) (fun _ i _ => (intOf i + 1).toNat)
  case atStart => exact ⟨L.length, L.length, Nat.le_refl _, rfl, rfl, HI0, HN0, Below.refl _ _⟩
  case round =>
    clear HI0 HN0
    obtain ⟨m, nn, hm, rfl, rfl, HI, HN, HBK⟩ := hrel
    rename World => wk
    clear x0 x1 x2 x3
    have HXK : Hid (wk.heap[w.heap.size]? = some (.cells #[.int .u64 (y0 : Int), .int .u64 (y1 : Int), .string ⟨y2.toArray⟩, .slice ua y3.length uc] 32 (0, 0))) := (HBK.out.block _ (Array.getElem?_eq_some_iff.1 HX.out).1).trans HX.out
    have HWK := Hid.mk' (bt HB.out HBK.out)
    obtain ⟨x0, x1, x2, x3⟩ := bx4 HXK.out
    cases m with
    | zero =>
      have hne : ¬ ((0 : Int) ≤ ((0 : Nat) : Int) - 1) := by omega
      have HNM : Hid ((y0, y1, y2, y3) ∉ L) := fun hm => HN.out _ (by rw [List.drop_zero]; exact hm) rfl
      have HNN : Hid (nn = insN L y1) := by have := HI.out; rwa [Nat.zero_add, List.drop_zero] at this
      have HRE : Hid (rEnter L (y0, y1, y2, y3) = if clash L (y0, y1, y2, y3) then (L, 7) else (ins L (y0, y1, y2, y3), 0)) := by show _ = _; rw [HRE.out, if_neg HNM.out]
      have HC0 : Hid (∀ z ∈ L.take 0, ¬ (z.1 = y0 ∧ (z.2.1 = y1 ∨ z.2.2.1 = y2))) := by show ∀ z ∈ _, _; simp
      have HBZ : Hid (Below wk.heap.size wk wk) := Below.refl _ _
      clear hm HN HI HX
      go_wp2_with fail
      go_loopw [8] (fun i wr => ∃ k : Nat, k ≤ L.length ∧ i = .int .i64 k ∧ Hid (∀ z ∈ L.take k, ¬ (z.1 = y0 ∧ (z.2.1 = y1 ∨ z.2.2.1 = y2))) ∧ Hid (Below wk.heap.size wk wr)) (fun i _ => L.length - (intOf i).toNat)
      case atStart => exact ⟨0, by omega, rfl, HC0, HBZ⟩
      case round =>
        clear HC0 HBZ hne
        obtain ⟨k, hk, rfl, HC, HBM⟩ := hrel
        rename World => wm
        have HXM : Hid (wm.heap[w.heap.size]? = some (.cells #[.int .u64 (y0 : Int), .int .u64 (y1 : Int), .string ⟨y2.toArray⟩, .slice ua y3.length uc] 32 (0, 0))) := (HBM.out.block _ (Array.getElem?_eq_some_iff.1 HXK.out).1).trans HXK.out
        have HWM := Hid.mk' (bt HWK.out HBM.out)
        clear x0 x1 x2 x3
        obtain ⟨x0, x1, x2, x3⟩ := bx4 HXM.out
        by_cases hlt : k < L.length
        · have hkl' : (k : Int) < (L.length : Int) := by omega
          obtain ⟨b1, o1, u1, rfl, _, ⟨e0, e1, e2, e3⟩, hu1⟩ := HAT.out k hlt
          have e0 := cell_later HWM.out e0
          have e1 := cell_later HWM.out e1
          have e2 := cell_later HWM.out e2
          have HZM : Hid (L[k] ∈ L) := List.getElem_mem hlt
          have HTK : Hid (L.take (k + 1) = L.take k ++ [L[k]]) := List.take_succ_eq_append_getElem hlt
          clear hu1 e3
          generalize L[k] = z at *
          obtain ⟨z0, z1, z2, z3⟩ := z
          simp only at e0 e1 e2
          have HYES : Hid (z0 = y0 ∧ (z1 = y1 ∨ z2 = y2) → rEnter L (y0, y1, y2, y3) = (L, 7)) := fun h => by
            rw [HRE.out, if_pos]
            unfold clash
            rw [List.any_eq_true]
            exact ⟨_, HZM.out, by simpa using h⟩
          have HNXT : Hid (¬ (z0 = y0 ∧ (z1 = y1 ∨ z2 = y2)) → ∀ z ∈ L.take (k + 1), ¬ (z.1 = y0 ∧ (z.2.1 = y1 ∨ z.2.2.1 = y2))) := fun h z hz => by
            rw [HTK.out, List.mem_append, List.mem_singleton] at hz
            rcases hz with hz | rfl
            · exact HC.out z hz
            · exact h
          by_cases h0 : z0 = y0
          · have q0 : ((z0 : Int) == (y0 : Int)) = true := by rw [beq_iff_eq]; omega
            by_cases h1 : z1 = y1
            · have q1 : ((z1 : Int) == (y1 : Int)) = true := by rw [beq_iff_eq]; omega
              have HR1 := Hid.mk' (HYES.out ⟨h0, .inl h1⟩)
              clear h0 h1 HYES HNXT
              go_wp2_with fail
              go_quiet (fail)
              go_wp2_with fail
              refine bodyPost_ret (v := .tuple #[.slice (some ⟨b1, o1, none⟩) L.length c, .int .i64 7]) (by simp [results, Tryz.results8, go_sem]) rfl ?_
              exact REnP.same HR1.out HR.out (HWM.out.trans (drewN_below _ _))
            · have q1 : ((z1 : Int) == (y1 : Int)) = false := by rw [beq_eq_false_iff_ne]; omega
              by_cases h2 : z2 = y2
              · have q2 : (z2 == y2) = true := by rw [beq_iff_eq]; exact h2
                have HR1 := Hid.mk' (HYES.out ⟨h0, .inr h2⟩)
                clear h0 h1 h2 HYES HNXT
                go_wp2_with fail
                go_quiet (fail)
                go_wp2_with fail
                refine bodyPost_ret (v := .tuple #[.slice (some ⟨b1, o1, none⟩) L.length c, .int .i64 7]) (by simp [results, Tryz.results8, go_sem]) rfl ?_
                exact REnP.same HR1.out HR.out (HWM.out.trans (drewN_below _ _))
              · have q2 : (z2 == y2) = false := by rw [beq_eq_false_iff_ne]; exact h2
                have HN1 := Hid.mk' (HNXT.out (by simp [h1, h2]))
                clear h0 h1 h2 HYES HNXT
                go_wp2_with fail
                go_quiet (fail)
                go_wp2_with fail
                go_roundw
                case rel => exact ⟨k + 1, by omega, by go_num, HN1, HBM.out.trans (drewN_below _ _)⟩
                case measure => simp [intOf]; omega
          · have q0 : ((z0 : Int) == (y0 : Int)) = false := by rw [beq_eq_false_iff_ne]; omega
            have HN1 := Hid.mk' (HNXT.out (by simp [h0]))
            clear h0 HYES HNXT
            go_wp2_with fail
            go_quiet (fail)
            go_wp2_with fail
            go_roundw
            case rel => exact ⟨k + 1, by omega, by go_num, HN1, HBM.out.trans (drewN_below _ _)⟩
            case measure => simp [intOf]; omega
        · obtain rfl : k = L.length := by omega
          have HR1 : Hid (rEnter L (y0, y1, y2, y3) = (ins L (y0, y1, y2, y3), 0)) := by
            show _ = _
            rw [HRE.out, if_neg]
            intro hc
            unfold clash at hc
            obtain ⟨z, hz, h⟩ := List.any_eq_true.1 hc
            refine HC.out z (by rw [List.take_length]; exact hz) ?_
            simpa using h
          clear hlt hk HC
          obtain ⟨ps, hp1, hp2, hp3, hp4⟩ := HR.out
          have hp2 := hp2.up HWM.out
          have HP1 := Hid.mk' hp1
          have HP3 := Hid.mk' hp3
          have HNL : Hid (nn ≤ L.length) := by show _ ≤ _; rw [HNN.out]; exact insN_le _ _
          obtain ⟨s1, t1, S1, hr1⟩ := row_hiN (P := Tryz.prog) (t := 22) Tryz.und22 Tryz.size22 (by decide) hp2 nn HNL.out
          obtain ⟨s2, t2, S2, hr2⟩ := row_loN (P := Tryz.prog) (t := 22) Tryz.und22 Tryz.size22 (by decide) hp2 nn HNL.out
          have HONE := Hid.mk' (rcs_one hp3)
          have hup := up_alloc wm (.cells #[] 32)
          have HUP := Hid.mk' hup
          have HR1r := Hid.mk' (hr1.up hup)
          have HR2r := Hid.mk' hr2
          have HOE : Hid ((wm.alloc (.cells #[] 32)).ownsRow wm.heap.size 32 4 (.slice (some ⟨wm.heap.size, 0, none⟩) 0 0) 0 []) := own_empty4 (Nat.le_refl _)
          clear hp1 hp2 hp3 hp4 hr1 hr2 hup
          go_wp2_with (at_builtin; (first | ((refine wpl_app rfl (.tmp 75) (.tmp 78) 22 rfl Tryz.underlying22 Tryz.info32 rfl (by decide) rfl HOE.out rfl HR1r.out (fun u hu => HONE.out u (List.mem_of_mem_take hu)) (by have := HNL.out; have := HL.out; unfold maxLen; omega) (by have := HNL.out; have := HL.out; omega) HUP.out.size ?_); intro v6 w6 ho hg _ _; have HO6 := Hid.mk' (own4_app0 ho); have HB6 : Hid (Below wm.heap.size wm w6) := below_app HUP.out HOE.out hg (Nat.le_refl _) HUP.out.size; obtain ⟨a6, c6, e6⟩ := own_sliceN HO6.out; subst e6; have g0 := cell_later HB6.out x0; have g1 := cell_later HB6.out x1; have g2 := cell_later HB6.out x2; have g3 := cell_later HB6.out x3; have HU6 := Hid.mk' (up_alloc w6 (.cells #[.int .u64 (y0 : Int), .int .u64 (y1 : Int), .string ⟨y2.toArray⟩, .slice ua y3.length uc] 32)); have HO6A := Hid.mk' (own_keep HO6.out HU6.out (Nat.le_refl _)); have HB6A := Hid.mk' (bt HB6.out HU6.out); clear ho hg) | ((refine wpl_app rfl (.tmp 80) (.tmp 82) 22 rfl Tryz.underlying22 Tryz.info32 rfl (by decide) rfl HO6A.out rfl row4_one (by intro u hu; simp only [List.mem_cons, List.not_mem_nil, or_false] at hu; rcases hu with rfl | rfl | rfl | rfl <;> rfl) (by have := HNL.out; have := HL.out; unfold maxLen; omega) (by have := HNL.out; have := HL.out; omega) HB6A.out.size ?_); intro v7 w7 ho hg _ _; have HO7 := Hid.mk' ho; have HB7 : Hid (Below wm.heap.size wm w7) := below_app HB6A.out HO6A.out hg (Nat.le_refl _) HB6A.out.size; obtain ⟨a7, c7, e7⟩ := own_sliceN HO7.out; subst e7; have HR7 := Hid.mk' (HR2r.out.up HB7.out); clear ho hg) | ((refine wpl_app rfl (.tmp 84) (.tmp 87) 22 rfl Tryz.underlying22 Tryz.info32 rfl (by decide) rfl HO7.out rfl HR7.out (fun u hu => HONE.out u (List.mem_of_mem_drop hu)) (by have := HNL.out; have := HL.out; unfold maxLen; omega) (by have := HNL.out; have := HL.out; omega) HB7.out.size ?_); intro v8 w8 ho hg _ _; have HO8 := Hid.mk' ho; have HB8 : Hid (Below wm.heap.size wm w8) := below_app HB7.out HO7.out hg (Nat.le_refl _) HB7.out.size; clear ho hg)))
          have HWZ := Hid.mk' (bt HWM.out HB8.out)
          refine bodyPost_ret (v := .tuple #[v8, .int .i64 0]) (by simp [results, Tryz.results8, go_sem]) rfl ?_
          rw [HR1.out]
          refine REnP.ins (B := wm.heap.size) HP1.out HP3.out HL.out HU.out HWZ.out HWM.out.size ?_
          have h := HO8.out
          rw [HNN.out] at h
          exact h
    | succ k =>
      rw [show ((k + 1 : Nat) : Int) - 1 = (k : Int) by omega]
      have hk0 : (0 : Int) ≤ (k : Int) := by omega
      have hkl : k < L.length := by omega
      have hkl' : (k : Int) < (L.length : Int) := by omega
      obtain ⟨b1, o1, u1, rfl, _, ⟨e0, e1, e2, e3⟩, hu1⟩ := HAT.out k hkl
      have e0 := cell_later HWK.out e0
      have e1 := cell_later HWK.out e1
      have e2 := cell_later HWK.out e2
      have e3 := cell_later HWK.out e3
      have HU1 := Hid.mk' (hu1.up HWK.out)
      have HDR : Hid (L.drop k = L[k] :: L.drop (k + 1)) := List.drop_eq_getElem_cons hkl
      have HZM : Hid (L[k] ∈ L) := List.getElem_mem hkl
      obtain ⟨q1, k1, rfl, _⟩ := hu1.at
      clear hu1
      generalize L[k] = z at *
      obtain ⟨z0, z1, z2, z3⟩ := z
      simp only at e0 e1 e2 e3 HU1
      go_upto_region 7 with fail
      have r0 : ∀ q : Kp (fun _ => False) wk, q.nx.cell? ⟨b1, o1 + k * 4, none⟩ = some _ := fun q => q.cell e0 (fun h => h)
      have r1 : ∀ q : Kp (fun _ => False) wk, q.nx.cell? ⟨b1, o1 + k * 4 + 1, none⟩ = some _ := fun q => q.cell e1 (fun h => h)
      have r2 : ∀ q : Kp (fun _ => False) wk, q.nx.cell? ⟨b1, o1 + k * 4 + 2, none⟩ = some _ := fun q => q.cell e2 (fun h => h)
      have r3 : ∀ q : Kp (fun _ => False) wk, q.nx.cell? ⟨b1, o1 + k * 4 + 3, none⟩ = some _ := fun q => q.cell e3 (fun h => h)
      have r4 : ∀ q : Kp (fun _ => False) wk, q.nx.cell? ⟨w.heap.size, 0, none⟩ = some _ := fun q => q.cell x0 (fun h => h)
      have r5 : ∀ q : Kp (fun _ => False) wk, q.nx.cell? ⟨w.heap.size, 1, none⟩ = some _ := fun q => q.cell x1 (fun h => h)
      have r6 : ∀ q : Kp (fun _ => False) wk, q.nx.cell? ⟨w.heap.size, 2, none⟩ = some _ := fun q => q.cell x2 (fun h => h)
      have r7 : ∀ q : Kp (fun _ => False) wk, q.nx.cell? ⟨w.heap.size, 3, none⟩ = some _ := fun q => q.cell x3 (fun h => h)
      have hd := drew_blx wk wk.heap.size
      refine wp_region_mix 6 (fun w' => ∃ q : Kp (fun _ => False) wk, w' = q.nx) (by kernel_rfl) (by kernel_rfl) (kp_first _ wk) ?_
      simp only [List.take_succ_cons, List.take_zero, List.drop_succ_cons, List.drop_zero]
      refine mx_take 5 rfl ?_
      simp only [List.take_succ_cons, List.take_zero, List.drop_succ_cons, List.drop_zero]
      repeat (go_big_quiet_step (fail))
      refine wpQuiet_nil ?_
      refine mx_call (vals := [.agg #[.int .u64 (z0 : Int), .int .u64 (z1 : Int), .string ⟨z2.toArray⟩, .slice q1 z3.length k1], .agg #[.int .u64 (y0 : Int), .int .u64 (y1 : Int), .string ⟨y2.toArray⟩, .slice ua y3.length uc]]) Tryz.func11 (by kernel_rfl) rfl rfl (by kernel_rfl) (by kernel_rfl) (rsame_any (z0, z1, z2, z3) (y0, y1, y2, y3) (HU1.out.up hd) ((HU.out.up HWK.out).up hd)) (fun e wc hwc => ?_)
      obtain ⟨rfl, hbc⟩ := hwc
      have HBC := Hid.mk' (hd.trans hbc)
      refine ⟨_, rfl, kp_mk HBC.out.size fun k hk _ => HBC.out.block k hk, ?_⟩
      simp only [Act.put, List.setIfInBounds_toArray, List.set_cons_succ, List.set_cons_zero]
      simp only [wpMix]
      have HWC := Hid.mk' (bt HWK.out HBC.out)
      have HBKC := Hid.mk' (bt HBK.out HBC.out)
      have f1 := cell_later HBC.out e1
      have f2 := cell_later HBC.out x1
      clear r0 r1 r2 r3 r4 r5 r6 r7 hd hbc e0 e1 e2 e3 x0 x1 x2 x3
      by_cases heq : (z0, z1, z2, z3) = (y0, y1, y2, y3)
      · rw [decide_eq_true heq]
        have HR1 : Hid (rEnter L (y0, y1, y2, y3) = (L, 0)) := by show _ = _; rw [HRE.out, if_pos (by rw [← heq]; exact HZM.out)]
        clear heq
        go_wp2_with fail
        refine bodyPost_ret (v := .tuple #[.slice (some ⟨b1, o1, none⟩) L.length c, .int .i64 0]) (by simp [results, Tryz.results8, go_sem]) rfl ?_
        exact REnP.same HR1.out HR.out HWC.out
      rw [decide_eq_false heq]
      have HN2 : Hid (∀ z ∈ L.drop k, z ≠ (y0, y1, y2, y3)) := by
        show ∀ z ∈ _, _
        rw [HDR.out]
        intro z hz
        rcases List.mem_cons.1 hz with rfl | hz
        · exact heq
        · exact HN.out z hz
      have HI2 : Hid (k + insN (L.drop k) y1 = if y1 < z1 then k else nn) := by
        show _ = _
        rw [HDR.out, insN_cons, HI.out]
        split <;> omega
      clear heq
      by_cases hgt : y1 < z1
      · have hgt' : (y1 : Int) < (z1 : Int) := by omega
        rw [if_pos hgt] at HI2
        clear hgt
        go_wp2_with fail
        go_quiet (fail)
        go_wp2_with fail
        go_roundw
        case rel => exact ⟨k, k, by omega, by first | rfl | (congr 1), rfl, HI2.out.symm, HN2, HBKC.out.trans (drewN_below _ _)⟩
        case measure => simp [intOf]
      · have hgt' : ¬ ((y1 : Int) < (z1 : Int)) := by omega
        rw [if_neg hgt] at HI2
        clear hgt
        go_wp2_with fail
        go_quiet (fail)
        go_wp2_with fail
        go_roundw
        case rel => exact ⟨k, nn, by omega, by first | rfl | (congr 1), rfl, HI2.out.symm, HN2, HBKC.out.trans (drewN_below _ _)⟩
        case measure => simp [intOf]
end Go.Proofs.YtojgkjpmphfakaaGreatDoor
