/- pack.Writer.Text; pack.Join. -/
import Derived.Test.YtojgkjpmphfakaaGreatDoorPW
set_option linter.unusedVariables false
set_option linter.unusedSimpArgs false
namespace Go.Proofs.YtojgkjpmphfakaaGreatDoor
open Go.RowKit
attribute [local go_sem ↓] Go.wp_at_zero Go.wp_at_succ
/-- texts, each behind its length -/
def txt (l : List (List UInt8)) : List UInt8 := (l.map fun p => nm p.length ++ p).flatten
theorem txt_take {l : List (List UInt8)} {k : Nat} (h : k < l.length) : txt (l.take (k + 1)) = txt (l.take k) ++ (nm l[k].length ++ l[k]) := by
  unfold txt
  rw [List.take_succ_eq_append_getElem h, List.map_append, List.flatten_append]
  simp
theorem us_one {w : World} {n : Nat} (h : n < 18446744073709551616) : Us (Lt (w.heap.size + 1)) (w.alloc (.cells #[.int .u64 (n : Int)] 23)) (.slice (some ⟨w.heap.size, 0, none⟩) 1 1) [n] := ⟨row_one, fun m hm => by simp at hm; subst hm; exact h, by unfold lim; simp⟩
theorem nms_one (n : Nat) : nms [n] = nm n := by simp [nms]
theorem be_len : ∀ (k n : Nat), n < 256 ^ k → (be n).length ≤ k
  | 0, n, h => by
    obtain rfl : n = 0 := by simpa using h
    rw [be_zero]; simp
  | k + 1, n, h => by
    by_cases h0 : n = 0
    · subst h0; rw [be_zero]; simp
    · rw [be_pos h0, List.length_append, List.length_singleton]
      have := be_len k (n / 256) (by rw [Nat.pow_succ] at h; exact Nat.div_lt_of_lt_mul (by omega))
      omega
theorem nm_len {n : Nat} (h : n < 18446744073709551616) : (nm n).length ≤ 9 := by
  unfold nm
  split
  · simp
  · have := be_len 8 n h
    rw [List.length_cons]; omega
theorem txt_le (l : List (List UInt8)) (k : Nat) : (txt (l.take k)).length ≤ (txt l).length := by
  have h : txt l = txt (l.take k) ++ txt (l.drop k) := by
    unfold txt
    rw [← List.flatten_append, ← List.map_append, List.take_append_drop]
  rw [h, List.length_append]; omega
set_option maxRecDepth 100000 in
set_option maxHeartbeats 4000000 in
/-- Writer.Text -/
theorem wtext_any {A : Nat → Prop} {S0 b : Nat} {w : World} {v : Value} {l0 : List UInt8} {ls : List (List UInt8)} (h : Wrt S0 w b l0) (hv : Bss A w v ls) (hA : ∀ k, A k → k < b) (hz : l0.length + (txt ls).length ≤ 1000000) (hn : ls.length ≤ 100000) :
    Calls Tryz.prog 58 #[.pointer (some ⟨b, 0, none⟩), v] w fun e w' => e = .returned (.tuple #[]) ∧ Wrt S0 w' b (l0 ++ txt ls) ∧ Below b w w' := by
  have hv2 : Bss (Lt b) w v ls := hv.monoS hA
  obtain ⟨a, c, rfl, hc, _, hat⟩ := hv2.at
  have HAT := Hid.mk' hat
  have hl : (ls.length : Int) ≤ 100000 := by omega
  have HZ := Hid.mk' hz
  have HW0 : Hid (Wrt S0 w b (l0 ++ txt (ls.take 0))) := by show Wrt _ _ _ _; simpa [txt] using h
  have HB0 : Hid (Below b w w) := Below.refl _ _
  clear h hv hv2 hat hz
  go_enter Tryz.func58, Tryz.ntmps58
  go_wp2_with fail
  go_loopw [8] (fun i wr => ∃ k : Nat, k ≤ ls.length ∧ i = .int .i64 k ∧ Hid (Wrt S0 wr b (l0 ++ txt (ls.take k))) ∧ Hid (Below b w wr)) (fun i _ => ls.length - (intOf i).toNat)
  case atStart => exact ⟨0, by omega, rfl, HW0, HB0⟩
  case round =>
    clear HW0 HB0
    obtain ⟨k, hk, rfl, HW, HB⟩ := hrel
    by_cases hlt : k < ls.length
    case neg =>
      obtain rfl : k = ls.length := by omega
      have HW2 : Hid (Wrt S0 wr b (l0 ++ txt ls)) := by have := HW.out; rwa [List.take_length] at this
      go_wp2_with fail
      go_end0
      exact ⟨rfl, HW2.out, HB.out⟩
    have hlt' : (k : Int) < (ls.length : Int) := by omega
    obtain ⟨bb, o, u, rfl, hbb0, c0, hu⟩ := HAT.out k hlt
    have hbb0 : bb < b := hbb0
    have c0 := (World.cell?_of_block (w := w) (a := ⟨bb, o + k, none⟩) (HB.out.block bb hbb0)).trans c0
    have hu := hu.keep HB.out
    have HTK := Hid.mk' (txt_take hlt)
    have HLE := Hid.mk' (txt_le ls (k + 1))
    have hpl := hu.2
    generalize ls[k] = p at *
    obtain ⟨ua, uc, rfl, _, _, _⟩ := hu.at
    have HU := Hid.mk' hu
    have hp64 : p.length < 18446744073709551616 := by unfold lim at hpl; omega
    have hpi : (p.length : Int) ≤ 140737488351232 := by unfold lim at hpl; omega
    have HNL := Hid.mk' (nm_len hp64)
    have hw0 : IntKind.u64.wrap (p.length : Int) = (p.length : Int) := by rw [IntKind.wrap_u64]; omega
    have HTL : Hid (l0.length + (txt (ls.take k)).length + (nm p.length).length + p.length ≤ 1000000) := by
      have h1 := HLE.out; have h2 := HZ.out
      rw [HTK.out, List.length_append, List.length_append] at h1
      show _ ≤ _; omega
    have HWN : Hid (Calls Tryz.prog 57 #[.pointer (some ⟨b, 0, none⟩), .slice (some ⟨wr.heap.size, 0, none⟩) 1 1] (wr.alloc (.cells #[.int .u64 (p.length : Int)] 23)) fun e w' => e = .returned (.tuple #[]) ∧ Wrt S0 w' b ((l0 ++ txt (ls.take k)) ++ nms [p.length]) ∧ Below b (wr.alloc (.cells #[.int .u64 (p.length : Int)] 23)) w') := wnum_any (HW.out.up (up_alloc _ _)) (us_one hp64) (by simp) (by rw [nms_one, List.length_append]; have := HTL.out; omega)
    have HBA : Hid (Below b w (wr.alloc (.cells #[.int .u64 (p.length : Int)] 23))) := HB.out.trans ((up_alloc wr (.cells #[.int .u64 (p.length : Int)] 23)).mono (by obtain ⟨_, _, _, _, h3, h4⟩ := HW.out; omega))
    clear hu hpl hp64 HLE
    go_wp2_with fail
    refine HWN.out.mono ?_
    rintro e w5 ⟨rfl, hw5, hb5⟩
    have HB5 := Hid.mk' (HBA.out.trans hb5)
    rw [nms_one] at hw5
    obtain ⟨xa, xc, h1, h2, h3, h4⟩ := hw5
    have HO5 := Hid.mk' h2
    have HE5 := Hid.mk' h1
    have HS5 : Hid (b < S0 ∧ S0 ≤ w5.heap.size) := ⟨h3, h4⟩
    have HL5 : Hid (((l0 ++ txt (ls.take k)) ++ nm p.length).length = l0.length + (txt (ls.take k)).length + (nm p.length).length) := by show _ = _; rw [List.length_append, List.length_append]
    have HL6 : Hid (((l0 ++ txt (ls.take k)) ++ nm p.length).length + p.length = (l0 ++ txt (ls.take (k + 1))).length) := by show _ = _; rw [HTK.out]; simp only [List.length_append]; omega
    have HB6' : Hid (bv (l0 ++ txt (ls.take (k + 1))) = bv ((l0 ++ txt (ls.take k)) ++ nm p.length) ++ bv p) := by show _ = _; rw [HTK.out]; simp [bv]
    have HR5 : Hid (Row 1 (Lt b) w5 (.slice ua p.length uc) p.length (bv p)) := ((HU.out.keep ((up_alloc wr (.cells #[.int .u64 (p.length : Int)] 23)).mono (by obtain ⟨_, _, _, _, h3, h4⟩ := HW.out; omega))).keep hb5).1
    have HOL : Hid (∀ i, (Value.slice xa ((l0 ++ txt (ls.take k)) ++ nm p.length).length xc).ownBlock = some i → S0 ≤ i) := fun i hi => (HO5.out.lt i hi).1
    obtain ⟨d0, _⟩ := box1 h1
    generalize ((l0 ++ txt (ls.take k)) ++ nm p.length) = q at *
    clear hw0 c0 h1 h2 h3 h4 hb5 HWN HBA
    go_wp2_with (at_builtin; go_must (refine wpl_app rfl (.tmp 22) (.tmp 23) 69 rfl Tryz.underlying69 Tryz.info5 rfl (by decide) rfl HO5.out rfl HR5.out (bv_one _) (by have := HTL.out; have := HL5.out; unfold maxLen; omega) (by have := HTL.out; have := HL5.out; omega) HS5.out.2 ?_); intro v6 w6 ho hg hn2 hbb; obtain ⟨a6, c6, e6⟩ := own_slice ho; subst e6; clear hn2 hbb; have HE6 : Hid (w6.heap[b]? = some (.cells #[.slice xa q.length xc] 104 (0, 0))) := (hg.block _ (Nat.lt_of_lt_of_le HS5.out.1 HS5.out.2) (fun e => by have h1 := HOL.out _ e.symm; have h2 := HS5.out; omega)).trans HE5.out; obtain ⟨c0, f0⟩ := box1 HE6.out; have f00 := f0 0; clear f0)
    have hw7 := Wb.set (X := fun k => k = b) w6 b 0 (.slice a6 (q.length + p.length) c6) rfl
    have HB6 : Hid (Below b w w6) := below_app HB5.out HO5.out hg (Nat.le_of_lt HS5.out.1) (Nat.le_trans (Nat.le_of_lt HS5.out.1) HS5.out.2)
    have HE7 : Hid ((w6.setCell ⟨b, 0, none⟩ (.slice a6 (q.length + p.length) c6)).heap[b]? = some (.cells #[.slice a6 (l0 ++ txt (ls.take (k + 1))).length c6] 104 (0, 0))) := by
      rw [← HL6.out]
      exact heap_setCell_same w6 b 0 _ 104 _ HE6.out
    have HO7 : Hid (Ob 5 S0 (w6.setCell ⟨b, 0, none⟩ (.slice a6 (q.length + p.length) c6)) (.slice a6 (l0 ++ txt (ls.take (k + 1))).length c6) (l0 ++ txt (ls.take (k + 1)))) := by
      unfold Hid Ob
      rw [← HL6.out, HB6'.out]
      refine own_wb ho hw7 fun k hk e => ?_
      subst hk
      have := (World.ownsRow.lt ho _ e.symm).1
      have := HS5.out.1
      omega
    have HSZ : Hid (b < S0 ∧ S0 ≤ (w6.setCell ⟨b, 0, none⟩ (.slice a6 (q.length + p.length) c6)).heap.size) := ⟨HS5.out.1, by rw [size_setCell]; exact Nat.le_trans HS5.out.2 hg.size⟩
    have HB7 : Hid (Below b w (w6.setCell ⟨b, 0, none⟩ (.slice a6 (q.length + p.length) c6))) := HB6.out.trans (hw7.below (Nat.le_trans (Nat.le_trans (Nat.le_of_lt HS5.out.1) HS5.out.2) hg.size) fun k hk => by subst hk; exact Nat.le_refl _)
    have HW7 : Hid (Wrt S0 (w6.setCell ⟨b, 0, none⟩ (.slice a6 (q.length + p.length) c6)) b (l0 ++ txt (ls.take (k + 1)))) := ⟨_, _, HE7.out, HO7.out, HSZ.out⟩
    clear ho hg hw7
    (try go_wp2_with fail)
    go_roundw
    case rel => exact ⟨k + 1, by omega, by go_num, HW7, HB7⟩
    case measure => simp [intOf]; omega
end Go.Proofs.YtojgkjpmphfakaaGreatDoor
