/- cut.Claim, Where, Path, Open, Opened. -/
import Derived.Test.YtojgkjpmphfakaaGreatDoorCF
set_option linter.unusedVariables false
set_option linter.unusedSimpArgs false
namespace Go.Proofs.YtojgkjpmphfakaaGreatDoor
open Go.RowKit
attribute [local go_sem ↓] Go.wp_at_zero Go.wp_at_succ
theorem exec_bs30 {w : World} {o : Oper} {a : Act} {x y : Operand} {i j : Int} (ho : o.op = .buildSlice 30 2 #[(0, x), (1, y)]) (hx : a.eval x = .int .u64 i) (hy : a.eval y = .int .u64 j) :
    (execOp a.eval o).run Tryz.prog w = .ok (.value (.slice (some ⟨w.heap.size, 0, none⟩) 2 2)) (w.alloc (.cells #[.int .u64 i, .int .u64 j] 23)) := by
  unfold execOp
  simp only [ho, List.map_toArray, List.map_cons, List.map_nil, hx, hy]
  simp [go_sem]
theorem us_two {w : World} {x y : Nat} (hx : x < 18446744073709551616) (hy : y < 18446744073709551616) : Us (Lt (w.heap.size + 1)) (w.alloc (.cells #[.int .u64 (x : Int), .int .u64 (y : Int)] 23)) (.slice (some ⟨w.heap.size, 0, none⟩) 2 2) [x, y] := ⟨row_two, by simp [hx, hy], by unfold lim; simp⟩
/-- where an incarnation lies -/
def ikey (p : List UInt8) (n : Nat) : List UInt8 := p ++ incp ++ hex n
def PutT (B : Nat) (V : Nat → Prop) (w : World) (b : Nat) (v : Value) (l : List Th) (e : Ending) (w' : World) : Prop :=
  e = .returned v ∧ Below B w w' ∧ CellsBut b w w' ∧ VaultIs B (fun k => V k ∨ w.heap.size ≤ k) w' b (tget l) l.length
set_option maxRecDepth 100000 in
set_option maxHeartbeats 4000000 in
/-- Claim -/
theorem claim_any {V : Nat → Prop} {B b : Nat} {w : World} {l : List Th} (p : List UInt8) (par id : Nat) (nm : List UInt8) (m : Nat) (hI : VaultIs B V w b (tget l) l.length) (hA : Asc l) (hn : l.length ≤ 100000) (hl : p.length ≤ 100) (hs : ∀ t ∈ l, t.1.length ≤ maxLen) (hm : maxN (allN l (p ++ incp)) = m) (hm1 : m + 1 < 18446744073709551616) (hfree : tget l (ikey p (m + 1)) = none) (hp : par < 18446744073709551616) (hi : id < 18446744073709551616) (hnm : nm.length ≤ 1000) :
    Calls Tryz.prog 17 #[.agg #[.pointer (some ⟨b, 0, none⟩), .string ⟨p.toArray⟩], .agg #[.int .u64 (par : Int), .int .u64 (id : Int), .string ⟨nm.toArray⟩]] w (PutT B V w b (.tuple #[.int .u64 ((m + 1 : Nat) : Int), .int .i64 0]) (tput l (ikey p (m + 1)) (enc [par, id] nm))) := by
  obtain ⟨W, hW, hB, hsz, ⟨hc0, hc1⟩, hd0, hd1, hd2⟩ := enter_box (w := w) (x0 := .pointer (some ⟨b, 0, none⟩)) (x1 := .string ⟨p.toArray⟩) (e := 29) (y0 := .int .u64 (par : Int)) (y1 := .int .u64 (id : Int)) (y2 := .string ⟨nm.toArray⟩) (f := 55)
  have HB := Hid.mk' hB
  have HI := Hid.mk' hI
  have HNW := Hid.mk' (newest_any p (hI.up hB) hA hn (by omega) hs)
  rw [hm] at HNW
  have hbw : b < w.heap.size := by obtain ⟨r, hr⟩ := hI.box; exact (Array.getElem?_eq_some_iff.1 hr).1
  have HBL : Hid (b < w.heap.size) := hbw
  have HVB : Hid (B ≤ w.heap.size) := Nat.le_trans hI.1 (Nat.le_of_lt hbw)
  have HA := Hid.mk' hA
  have HNL : Hid (l.length ≤ 100000) := hn
  have HPL : Hid (p.length ≤ 100) := hl
  have HFR := Hid.mk' hfree
  have HP : Hid (par < 18446744073709551616) := hp
  have HID : Hid (id < 18446744073709551616) := hi
  have HNM : Hid (nm.length ≤ 1000) := hnm
  have HM1 : Hid (m + 1 < 18446744073709551616) := hm1
  have hwr : IntKind.u64.wrap ((m : Int) + 1) = (m : Int) + 1 := by rw [IntKind.wrap_u64]; omega
  have hm0 : (0 : Int) ≤ (m : Int) := by omega
  have hml : (m : Int) + 1 ≤ 18446744073709551615 := by omega
  have hne : (((m : Int) + 1) == 0) = false := by rw [beq_eq_false_iff_ne]; omega
  clear hsz hB hI hA hn hl hs hm hm1 hfree hp hi hnm hbw hwr
  go_enter Tryz.func17, Tryz.ntmps17
  go_upto_region 1 with fail
  rw [← hW]
  clear hW
  go_wp2_with fail
  refine HNW.out.mono ?_
  rintro e wk ⟨rfl, hb1⟩
  have HBW := Hid.mk' hb1
  have HWK := Hid.mk' (bt HB.out hb1)
  have hc0 := cell_later hb1 hc0
  have hc1 := cell_later hb1 hc1
  have hd0 := cell_later hb1 hd0
  have hd1 := cell_later hb1 hd1
  have hd2 := cell_later hb1 hd2
  clear hb1 HNW
  go_wp2_with fail
  have hw1 := gv_of_cell (b := b) hc0 (Nat.ne_of_gt HBL.out)
  have hw2 := gv_of_cell (b := b) hd0 (by have := HBL.out; omega)
  have r0 : ∀ q : Kp (Gv b wk) wk, q.nx.cell? ⟨w.heap.size, 0, none⟩ = some _ := fun q => q.cell hc0 hw1
  have r1 : ∀ q : Kp (Gv b wk) wk, q.nx.cell? ⟨w.heap.size, 1, none⟩ = some _ := fun q => q.cell hc1 hw1
  have r2 : ∀ q : Kp (Gv b wk) wk, q.nx.cell? ⟨w.heap.size + 1, 0, none⟩ = some _ := fun q => q.cell hd0 hw2
  have r3 : ∀ q : Kp (Gv b wk) wk, q.nx.cell? ⟨w.heap.size + 1, 1, none⟩ = some _ := fun q => q.cell hd1 hw2
  have r4 : ∀ q : Kp (Gv b wk) wk, q.nx.cell? ⟨w.heap.size + 1, 2, none⟩ = some _ := fun q => q.cell hd2 hw2
  have hd := drew_blx wk wk.heap.size
  refine wp_region_mix 14 (fun w' => ∃ q : Kp (Gv b wk) wk, w' = q.nx) (by kernel_rfl) (by kernel_rfl) (kp_first _ wk) ?_
  simp only [List.take_succ_cons, List.take_zero, List.drop_succ_cons, List.drop_zero]
  refine mx_take 7 rfl ?_
  simp only [List.take_succ_cons, List.take_zero, List.drop_succ_cons, List.drop_zero]
  repeat (go_big_quiet_step (fail))
  refine wpQuiet_nil ?_
  have hua := up_alloc wk.drew (.cells #[.int .u64 (par : Int), .int .u64 (id : Int)] 23)
  have HBX : Hid (Below wk.heap.size wk (wk.drew.alloc (.cells #[.int .u64 (par : Int), .int .u64 (id : Int)] 23))) := hd.trans hua
  refine mx_make (by rfl) (by kernel_rfl) (exec_bs30 rfl rfl rfl) (kp_mk HBX.out.size fun k hk _ => HBX.out.block k hk) ?_
  simp only [Act.put, List.setIfInBounds_toArray, List.set_cons_succ, List.set_cons_zero]
  clear hua
  refine mx_call (vals := [.string ⟨nm.toArray⟩, .slice (some ⟨wk.drew.heap.size, 0, none⟩) 2 2]) Tryz.func27 (by kernel_rfl) rfl rfl (by kernel_rfl) (by kernel_rfl) (cput_any nm (us_two (w := wk.drew) HP.out HID.out) (by simp) (by have := HNM.out; omega)) (fun e wa hwa => ?_)
  obtain ⟨va1, rfl, hoa, hba⟩ := hwa
  have HBA := Hid.mk' (bt HBX.out hba)
  have HOA : Hid (Ob 5 wk.heap.size wa va1 (enc [par, id] nm)) := Ob.mono hoa HBX.out.size
  obtain ⟨xa, xc, exa⟩ := own_slice hoa
  subst exa
  clear hoa hba
  refine ⟨_, rfl, kp_mk HBA.out.size fun k hk _ => HBA.out.block k hk, ?_⟩
  simp only [Act.put, List.setIfInBounds_toArray, List.set_cons_succ, List.set_cons_zero]
  refine mx_take 1 rfl ?_
  simp only [List.take_succ_cons, List.take_zero, List.drop_succ_cons, List.drop_zero]
  repeat (go_big_quiet_step (fail))
  refine wpQuiet_nil ?_
  refine mx_call (vals := [.int .u64 ((m : Int) + 1)]) Tryz.func29 (by kernel_rfl) rfl rfl (by kernel_rfl) (by kernel_rfl) (number_any (m + 1) HM1.out _) (fun e wc hwc => ?_)
  obtain ⟨rfl, hbc⟩ := hwc
  have HBC := Hid.mk' (bt HBA.out hbc)
  have HOC := Hid.mk' (own_keep HOA.out hbc (Nat.le_refl _))
  refine ⟨_, rfl, kp_mk HBC.out.size fun k hk _ => HBC.out.block k hk, ?_⟩
  simp only [Act.put, List.setIfInBounds_toArray, List.set_cons_succ, List.set_cons_zero]
  have hup := up_alloc wc (.cells #[.string ⟨incp.toArray⟩, .string ⟨(hex (m + 1)).toArray⟩] 9)
  have HBD := Hid.mk' (bt HBC.out hup)
  have HOD := Hid.mk' (own_keep HOC.out hup (Nat.le_refl _))
  clear hbc
  refine mx_make (by rfl) (by kernel_rfl) (exec_bs24 rfl rfl rfl) (kp_mk HBD.out.size fun k hk _ => HBD.out.block k hk) ?_
  simp only [Act.put, List.setIfInBounds_toArray, List.set_cons_succ, List.set_cons_zero]
  have hx16 : (hex (m + 1)).length = 16 := by simp [hex]
  have HSTO := store_any (ps := [incp, hex (m + 1)]) p (enc [par, id] nm) (HI.out.up (bt HWK.out HBD.out)) (by have := HNL.out; unfold maxLen; omega) (two_ss (w := wc) incp (hex (m + 1))) (Ob.bs (show Ob 5 wk.heap.size _ _ _ from HOD.out) (by have := HNM.out; have h1 := enc_len [par, id] nm (by simp [HP.out, HID.out]) (by simp); simp at h1; unfold lim; omega)) (by have := HPL.out; simp [incp, hx16]; omega)
  have hkey : p ++ [incp, hex (m + 1)].flatten = ikey p (m + 1) := by simp [ikey]
  rw [hkey] at HSTO
  have HSTO := Hid.mk' HSTO
  have HPC : Hid (putC (tget l) (ikey p (m + 1)) (enc [par, id] nm) = 0) := by show _ = _; unfold putC; rw [HFR.out]
  clear hkey hup hx16
  refine mx_call (vals := [.agg #[.pointer (some ⟨b, 0, none⟩), .string ⟨p.toArray⟩], .slice xa (enc [par, id] nm).length xc, .slice (some ⟨wc.heap.size, 0, none⟩) 2 2]) Tryz.func26 (by kernel_rfl) rfl rfl (by kernel_rfl) (by kernel_rfl) HSTO.out (fun e wz hz => ?_)
  obtain ⟨hz1, hz2, hz3, hz4⟩ := PutL.of HA.out hz
  rw [HPC.out] at hz1
  subst hz1
  refine ⟨_, rfl, kp_put HBD.out hz2.size hz3, ?_⟩
  simp only [Act.put, List.setIfInBounds_toArray, List.set_cons_succ, List.set_cons_zero]
  refine mx_take 1 rfl ?_
  simp only [List.take_succ_cons, List.take_zero, List.drop_succ_cons, List.drop_zero]
  repeat (go_big_quiet_step (fail))
  refine wpQuiet_nil ?_
  simp only [wpMix]
  have HTOT := Hid.mk' (bt HWK.out HBD.out)
  have HF : Hid (PutT B V w b (.tuple #[.int .u64 ((m + 1 : Nat) : Int), .int .i64 0]) (tput l (ikey p (m + 1)) (enc [par, id] nm)) (.returned (.tuple #[.int .u64 ((m + 1 : Nat) : Int), .int .i64 0])) wz) := ⟨rfl, (HTOT.out.mono HVB.out).trans hz2, (CellsBut.of_below HTOT.out).trans hz3, hz4.mono fun k hk => hk.imp (fun h => h) fun h => Nat.le_trans HTOT.out.size h⟩
  clear r0 r1 r2 r3 r4 hz2 hz3 hz4 hz HSTO hd
  go_wp2_with fail
  refine bodyPost_ret (v := .tuple #[.int .u64 ((m + 1 : Nat) : Int), .int .i64 0]) (by simp [results, Tryz.results17, go_sem]) rfl ?_
  exact HF.out
end Go.Proofs.YtojgkjpmphfakaaGreatDoor
