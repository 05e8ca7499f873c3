/- pack.Reader.Text. -/
import Derived.Test.YtojgkjpmphfakaaGreatDoorPT
set_option linter.unusedVariables false
set_option linter.unusedSimpArgs false
namespace Go.Proofs.YtojgkjpmphfakaaGreatDoor
open Go.RowKit
attribute [local go_sem ↓] Go.wp_at_zero Go.wp_at_succ
theorem Tryz.und69 : Tryz.prog.underlying 69 = some (.slice (Tryz.prog.elem 69)) := by kernel_rfl
theorem rn_put (pre post p : List UInt8) (hp : p.length < 18446744073709551616) : rnP (pre ++ (nm p.length ++ (p ++ post))) pre.length 0 = (p.length, pre.length + (nm p.length).length, 0) := by
  unfold rnP
  rw [if_neg (by simp), tk_nm pre (p ++ post) hp, if_neg (by simp)]
theorem mid_of {α : Type} (A B C : List α) : ((A ++ (B ++ C)).take (A.length + B.length)).drop A.length = B := by
  rw [← List.append_assoc, show A.length + B.length = (A ++ B).length by simp, List.take_left, List.drop_left]
theorem cut_put (pre post p : List UInt8) : ((bv (pre ++ (nm p.length ++ (p ++ post)))).take (pre.length + (nm p.length).length + p.length)).drop (pre.length + (nm p.length).length) = bv p := by
  have h := mid_of (bv (pre ++ nm p.length)) (bv p) (bv post)
  have e1 : (bv (pre ++ nm p.length)).length = pre.length + (nm p.length).length := by simp [bv]
  have e2 : (bv p).length = p.length := by simp [bv]
  rw [e1, e2, ← bv_append, ← bv_append] at h
  rw [← h]
  simp
set_option maxRecDepth 100000 in
set_option maxHeartbeats 4000000 in
/-- Reader.Text, where a text was put -/
theorem rtext_any {g : Nat} {w : World} {pre p post : List UInt8} (h : Rdr w g (pre ++ (nm p.length ++ (p ++ post))) pre.length 0) : Calls Tryz.prog 63 #[.pointer (some ⟨g, 0, none⟩)] w fun e w' => ∃ v', e = .returned v' ∧ Ob 5 w.heap.size w' v' p ∧ Rdr w' g (pre ++ (nm p.length ++ (p ++ post))) (pre.length + (nm p.length).length + p.length) 0 ∧ Wb (fun k => k = g) w w' := by
  have HN := Hid.mk' (rnum_any h)
  have H := Hid.mk' h
  obtain ⟨a, c, h1, h2, h3⟩ := h
  have hl : (pre ++ (nm p.length ++ (p ++ post))).length = pre.length + (nm p.length).length + p.length + post.length := by simp; omega
  have hlm : pre.length + (nm p.length).length + p.length + post.length ≤ 140737488351232 := by have := h2.2; unfold lim at this; omega
  rw [rn_put pre post p (by omega)] at HN
  have HCUT := Hid.mk' (cut_put pre post p)
  generalize pre ++ (nm p.length ++ (p ++ post)) = l at *
  generalize hpre : pre.length = np at *
  generalize (nm p.length).length = nn at *
  have HL := Hid.mk' hl
  obtain ⟨c0, c1, c2⟩ := bx3 h1
  clear h1 h2 h3 hl hpre
  go_enter Tryz.func63, Tryz.ntmps63
  go_wp2_with fail
  refine HN.out.mono ?_
  rintro e w1 ⟨rfl, hr1, hb1⟩
  have HB1 := Hid.mk' hb1
  have HR1 := Hid.mk' hr1
  have HLf := Hid.mk' (rleft_any hr1)
  rw [HL.out] at HLf
  obtain ⟨a1, d1, h1, h2, h3⟩ := hr1
  clear c0 c1 c2
  obtain ⟨c0, c1, c2⟩ := bx3 h1
  have hgs : g < w1.heap.size := (Array.getElem?_eq_some_iff.1 h1).1
  clear h1 h2 h3 hb1 HN
  have hw : IntKind.u64.wrap (((np + nn + p.length + post.length : Nat) : Int) - ((np + nn : Nat) : Int)) = (p.length : Int) + (post.length : Int) := by rw [IntKind.wrap_u64]; omega
  go_wp2_with fail
  refine HLf.out.mono ?_
  rintro e w2 ⟨rfl, hd⟩
  have HB2 := Hid.mk' (HB1.out.trans (Wb.of_below _ (hd.below w1.heap.size)))
  have hr2 := HR1.out.up (hd.below w1.heap.size)
  have HR2 := Hid.mk' hr2
  obtain ⟨a2, d2, h1, h2, h3⟩ := hr2
  have HE2 := Hid.mk' h1
  clear c0 c1 c2
  obtain ⟨c0, c1, c2⟩ := bx3 h1
  have hgs2 : g < w2.heap.size := (Array.getElem?_eq_some_iff.1 h1).1
  have HBS := Hid.mk' h2
  have hnle : ¬ ((p.length : Int) + (post.length : Int) < (p.length : Int)) := by omega
  have hcv : IntKind.i64.wrap (p.length : Int) = (p.length : Int) := by rw [IntKind.wrap_i64]; omega
  have hwad : IntKind.i64.wrap ((np : Int) + (nn : Int) + (p.length : Int)) = (np : Int) + (nn : Int) + (p.length : Int) := by rw [IntKind.wrap_i64]; omega
  obtain ⟨sa, sc, hsl, hsr⟩ := row_lh (P := Tryz.prog) (t := 69) Tryz.und69 Tryz.size69 h2.1 (np + nn) (np + nn + p.length) (by omega) (by have := HL.out; omega)
  have s0 : ∀ q : Kp (fun _ => False) w2, q.nx.cell? ⟨g, 0, none⟩ = some _ := fun q => q.cell c0 id
  have s1 : ∀ q : Kp (fun _ => False) w2, q.nx.cell? ⟨g, 1, none⟩ = some _ := fun q => q.cell c1 id
  rw [show np + nn + p.length - (np + nn) = p.length by omega] at hsl hsr
  rw [HCUT.out] at hsr
  simp only [Int.natCast_add] at hsl
  have HC := Hid.mk' (clone_any _ p w2.drew (show Bs (Lt g) w2.drew (.slice sa p.length sc) p from ⟨hsr.up (drew_blx w2 _), by unfold lim; omega⟩))
  clear hd h1 h2 h3 HLf hsr
  go_upto_region 7 with fail
  refine wp_region_mox 17 (fun w' => ∃ q : Kp (fun _ => False) w2, w' = q.nx) (by kernel_rfl) (by kernel_rfl) (kp_first _ w2) ?_
  simp only [List.take_succ_cons, List.take_zero, List.drop_succ_cons, List.drop_zero]
  refine mx_take 16 rfl ?_
  simp only [List.take_succ_cons, List.take_zero, List.drop_succ_cons, List.drop_zero]
  repeat (go_big_quiet_step (fail))
  refine wpQuiet_nil ?_
  clear hsl s0 s1
  refine mx_call (vals := [.slice sa p.length sc]) Tryz.func55 (by kernel_rfl) rfl rfl (by kernel_rfl) (by kernel_rfl) HC.out (fun E wc hc => ?_)
  obtain ⟨u, rfl, hb3, ho3⟩ := hc
  have HB3 : Hid (Below w2.heap.size w2 wc) := (drew_blx w2 _).trans hb3
  refine ⟨_, rfl, kp_mk HB3.out.size fun b hb hx => HB3.out.block b hb, ?_⟩
  simp only [Act.put, List.setIfInBounds_toArray, List.set_cons_succ, List.set_cons_zero]
  simp only [wpMix]
  have HO3 : Hid (Ob 5 w2.heap.size wc u p) := ho3
  have HE3 : Hid (wc.heap[g]? = some (.cells #[.slice a2 l.length d2, .int .i64 ((np + nn : Nat) : Int), .int .i64 0] 113 (0, 0))) := (HB3.out.block g hgs2).trans HE2.out
  have HBS3 : Hid (Bs (Lt g) wc (.slice a2 l.length d2) l) := HBS.out.up HB3.out
  obtain ⟨a3, d3, e3⟩ := own_slice ho3
  subst e3
  have HG3 : Hid (g < wc.heap.size) := Nat.lt_of_lt_of_le hgs2 HB3.out.size
  have HBG : Hid (Wb (fun k => k = g) w wc) := HB2.out.trans (Wb.of_below _ HB3.out)
  have HSZ : Hid (w.heap.size ≤ w2.heap.size) := HB2.out.size
  clear hb3 ho3 HC c0 c1 c2
  obtain ⟨c0, c1, c2⟩ := bx3 HE3.out
  have f1 := bx3_fr HE3.out 1
  have hw7 := Wb.set (X := fun k => k = g) wc g 1 (.int .i64 ((np + nn + p.length : Nat) : Int)) rfl
  have HR7 : Hid (Rdr (wc.setCell ⟨g, 1, none⟩ (.int .i64 ((np + nn + p.length : Nat) : Int))) g l (np + nn + p.length) 0) := Rdr.set HBS3.out hw7 (bx3_set HE3.out 1 _) (by have := HL.out; omega)
  have HO7 : Hid (Ob 5 w.heap.size (wc.setCell ⟨g, 1, none⟩ (.int .i64 ((np + nn + p.length : Nat) : Int))) (.slice a3 p.length d3) p) := by
    refine Ob.mono (B := w2.heap.size) ?_ HSZ.out
    refine own_wb HO3.out hw7 fun k hk e => ?_
    subst hk
    have := (HO3.out.lt _ e.symm).1
    omega
  have HB7 : Hid (Wb (fun k => k = g) w (wc.setCell ⟨g, 1, none⟩ (.int .i64 ((np + nn + p.length : Nat) : Int)))) := HBG.out.trans hw7
  clear hw7
  simp only [Int.natCast_add] at HR7 HO7 HB7
  go_wp2_with fail
  go_ret
  exact ⟨_, rfl, HO7.out, HR7.out, HB7.out⟩
end Go.Proofs.YtojgkjpmphfakaaGreatDoor
