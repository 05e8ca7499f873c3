/- cut.Open, Opened, Where. -/
import Derived.Test.YtojgkjpmphfakaaGreatDoorCG
set_option linter.unusedVariables false
set_option linter.unusedSimpArgs false
namespace Go.Proofs.YtojgkjpmphfakaaGreatDoor
open Go.RowKit
attribute [local go_sem ↓] Go.wp_at_zero Go.wp_at_succ
def openp : List UInt8 := [111, 112, 101, 110, 46]
/-- where it says that an incarnation is open -/
def okey (p : List UInt8) (n : Nat) : List UInt8 := p ++ openp ++ hex n
theorem bs_nil (A : Nat → Prop) (w : World) : Bs A w (.slice none 0 0) [] := ⟨Row.void fun _ => rfl, by unfold lim; simp⟩
set_option maxRecDepth 100000 in
set_option maxHeartbeats 4000000 in
/-- Open -/
theorem open_any {V : Nat → Prop} {B b : Nat} {w : World} {l : List Th} (p : List UInt8) (n : Nat) (hI : VaultIs B V w b (tget l) l.length) (hA : Asc l) (hn : l.length ≤ 100000) (hl : p.length ≤ 100) (hi : n < 18446744073709551616) :
    Calls Tryz.prog 19 #[.agg #[.pointer (some ⟨b, 0, none⟩), .string ⟨p.toArray⟩], .int .u64 (n : Int)] w (PutL B V w b (putC (tget l) (okey p n) []) (tput l (okey p n) [])) := by
  obtain ⟨wk, hW⟩ : ∃ W, W = w.alloc (.cells #[.pointer (some ⟨b, 0, none⟩), .string ⟨p.toArray⟩] 29) := ⟨_, rfl⟩
  have HB : Hid (Below w.heap.size w wk) := by rw [hW]; exact up_alloc _ _
  have hc : wk.cell? ⟨w.heap.size, 0, none⟩ = some (.pointer (some ⟨b, 0, none⟩)) ∧ wk.cell? ⟨w.heap.size, 1, none⟩ = some (.string ⟨p.toArray⟩) := by rw [hW]; exact two_cells
  obtain ⟨hc0, hc1⟩ := hc
  have HI := Hid.mk' hI
  have hbw : b < w.heap.size := by obtain ⟨r, hr⟩ := hI.box; exact (Array.getElem?_eq_some_iff.1 hr).1
  have HVB : Hid (B ≤ w.heap.size) := Nat.le_trans hI.1 (Nat.le_of_lt hbw)
  have HA := Hid.mk' hA
  have HNL : Hid (l.length ≤ 100000) := hn
  have HPL : Hid (p.length ≤ 100) := hl
  have HN : Hid (n < 18446744073709551616) := hi
  have hw1 := gv_of_cell (b := b) hc0 (Nat.ne_of_gt hbw)
  clear hI hA hn hl hi hbw
  go_enter Tryz.func19, Tryz.ntmps19
  go_upto_region 1 with fail
  rw [← hW]
  clear hW
  have r0 : ∀ q : Kp (Gv b wk) wk, q.nx.cell? ⟨w.heap.size, 0, none⟩ = some _ := fun q => q.cell hc0 hw1
  have r1 : ∀ q : Kp (Gv b wk) wk, q.nx.cell? ⟨w.heap.size, 1, none⟩ = some _ := fun q => q.cell hc1 hw1
  have hd := drew_blx wk wk.heap.size
  refine wp_region_mix 6 (fun w' => ∃ q : Kp (Gv b wk) wk, w' = q.nx) (by kernel_rfl) (by kernel_rfl) (kp_first _ wk) ?_
  simp only [List.take_succ_cons, List.take_zero, List.drop_succ_cons, List.drop_zero]
  refine mx_take 2 rfl ?_
  simp only [List.take_succ_cons, List.take_zero, List.drop_succ_cons, List.drop_zero]
  repeat (go_big_quiet_step (fail))
  refine wpQuiet_nil ?_
  refine mx_call (vals := [.int .u64 (n : Int)]) Tryz.func29 (by kernel_rfl) rfl rfl (by kernel_rfl) (by kernel_rfl) (number_any n HN.out _) (fun e wc hwc => ?_)
  obtain ⟨rfl, hbc⟩ := hwc
  have HBC := Hid.mk' (hd.trans hbc)
  refine ⟨_, rfl, kp_mk HBC.out.size fun k hk _ => HBC.out.block k hk, ?_⟩
  simp only [Act.put, List.setIfInBounds_toArray, List.set_cons_succ, List.set_cons_zero]
  have hup := up_alloc wc (.cells #[.string ⟨openp.toArray⟩, .string ⟨(hex n).toArray⟩] 9)
  have HBD := Hid.mk' (bt HBC.out hup)
  clear hbc
  refine mx_make (by rfl) (by kernel_rfl) (exec_bs24 rfl rfl rfl) (kp_mk HBD.out.size fun k hk _ => HBD.out.block k hk) ?_
  simp only [Act.put, List.setIfInBounds_toArray, List.set_cons_succ, List.set_cons_zero]
  have hx16 : (hex n).length = 16 := by simp [hex]
  have HSTO := store_any (ps := [openp, hex n]) p [] (HI.out.up (bt HB.out HBD.out)) (by have := HNL.out; unfold maxLen; omega) (two_ss (w := wc) openp (hex n)) (bs_nil (fun _ => False) _) (by have := HPL.out; simp [openp, hx16]; omega)
  have hkey : p ++ [openp, hex n].flatten = okey p n := by simp [okey]
  rw [hkey] at HSTO
  have HSTO := Hid.mk' HSTO
  clear hkey hup hx16
  refine mx_call (vals := [.agg #[.pointer (some ⟨b, 0, none⟩), .string ⟨p.toArray⟩], .slice none 0 0, .slice (some ⟨wc.heap.size, 0, none⟩) 2 2]) Tryz.func26 (by kernel_rfl) rfl rfl (by kernel_rfl) (by kernel_rfl) HSTO.out (fun e wz hz => ?_)
  obtain ⟨hz1, hz2, hz3, hz4⟩ := PutL.of HA.out hz
  subst hz1
  refine ⟨_, rfl, kp_put HBD.out hz2.size hz3, ?_⟩
  simp only [Act.put, List.setIfInBounds_toArray, List.set_cons_succ, List.set_cons_zero]
  refine mx_take 1 rfl ?_
  simp only [List.take_succ_cons, List.take_zero, List.drop_succ_cons, List.drop_zero]
  repeat (go_big_quiet_step (fail))
  refine wpQuiet_nil ?_
  simp only [wpMix]
  have HTOT := Hid.mk' (bt HB.out HBD.out)
  have HF : Hid (PutL B V w b (putC (tget l) (okey p n) []) (tput l (okey p n) []) (.returned (.int .i64 (putC (tget l) (okey p n) []))) wz) := ⟨rfl, (HTOT.out.mono HVB.out).trans hz2, (CellsBut.of_below HTOT.out).trans hz3, hz4.mono fun k hk => hk.imp (fun h => h) fun h => Nat.le_trans HTOT.out.size h⟩
  clear r0 r1 hz2 hz3 hz4 hz HSTO hd
  go_wp2_with fail
  go_ret
  exact HF.out
set_option maxRecDepth 100000 in
set_option maxHeartbeats 4000000 in
/-- Opened -/
theorem opened_any {V : Nat → Prop} {B b : Nat} {w : World} {l : List Th} (p : List UInt8) (n : Nat) (hI : VaultIs B V w b (tget l) l.length) (hl : p.length ≤ 100) (hi : n < 18446744073709551616) :
    Calls Tryz.prog 18 #[.agg #[.pointer (some ⟨b, 0, none⟩), .string ⟨p.toArray⟩], .int .u64 (n : Int)] w fun e w' => e = .returned (.bool (tget l (okey p n)).isSome) ∧ Below w.heap.size w w' := by
  obtain ⟨wk, hW⟩ : ∃ W, W = w.alloc (.cells #[.pointer (some ⟨b, 0, none⟩), .string ⟨p.toArray⟩] 29) := ⟨_, rfl⟩
  have HB : Hid (Below w.heap.size w wk) := by rw [hW]; exact up_alloc _ _
  have hc : wk.cell? ⟨w.heap.size, 0, none⟩ = some (.pointer (some ⟨b, 0, none⟩)) ∧ wk.cell? ⟨w.heap.size, 1, none⟩ = some (.string ⟨p.toArray⟩) := by rw [hW]; exact two_cells
  obtain ⟨hc0, hc1⟩ := hc
  have HI := Hid.mk' hI
  have HPL : Hid (p.length ≤ 100) := hl
  have HN : Hid (n < 18446744073709551616) := hi
  clear hI hl hi
  go_enter Tryz.func18, Tryz.ntmps18
  go_upto_region 1 with fail
  rw [← hW]
  clear hW
  have r0 : ∀ q : Kp (fun _ => False) wk, q.nx.cell? ⟨w.heap.size, 0, none⟩ = some _ := fun q => q.cell hc0 (fun h => h)
  have r1 : ∀ q : Kp (fun _ => False) wk, q.nx.cell? ⟨w.heap.size, 1, none⟩ = some _ := fun q => q.cell hc1 (fun h => h)
  have hd := drew_blx wk wk.heap.size
  refine wp_region_mix 10 (fun w' => ∃ q : Kp (fun _ => False) wk, w' = q.nx) (by kernel_rfl) (by kernel_rfl) (kp_first _ wk) ?_
  simp only [List.take_succ_cons, List.take_zero, List.drop_succ_cons, List.drop_zero]
  refine mx_take 2 rfl ?_
  simp only [List.take_succ_cons, List.take_zero, List.drop_succ_cons, List.drop_zero]
  repeat (go_big_quiet_step (fail))
  refine wpQuiet_nil ?_
  refine mx_call (vals := [.int .u64 (n : Int)]) Tryz.func29 (by kernel_rfl) rfl rfl (by kernel_rfl) (by kernel_rfl) (number_any n HN.out _) (fun e wc hwc => ?_)
  obtain ⟨rfl, hbc⟩ := hwc
  have HBC := Hid.mk' (hd.trans hbc)
  refine ⟨_, rfl, kp_mk HBC.out.size fun k hk _ => HBC.out.block k hk, ?_⟩
  simp only [Act.put, List.setIfInBounds_toArray, List.set_cons_succ, List.set_cons_zero]
  have hup := up_alloc wc (.cells #[.string ⟨openp.toArray⟩, .string ⟨(hex n).toArray⟩] 9)
  have HBD := Hid.mk' (bt HBC.out hup)
  clear hbc
  refine mx_make (by rfl) (by kernel_rfl) (exec_bs24 rfl rfl rfl) (kp_mk HBD.out.size fun k hk _ => HBD.out.block k hk) ?_
  simp only [Act.put, List.setIfInBounds_toArray, List.set_cons_succ, List.set_cons_zero]
  have hx16 : (hex n).length = 16 := by simp [hex]
  have HFE := fetch_any (ps := [openp, hex n]) p (HI.out.up (bt HB.out HBD.out)) (two_ss (w := wc) openp (hex n)) (by have := HPL.out; simp [openp, hx16]; omega)
  have hkey : p ++ [openp, hex n].flatten = okey p n := by simp [okey]
  rw [hkey] at HFE
  have HFE := Hid.mk' HFE
  clear hkey hup hx16
  refine mx_call (vals := [.agg #[.pointer (some ⟨b, 0, none⟩), .string ⟨p.toArray⟩], .slice (some ⟨wc.heap.size, 0, none⟩) 2 2]) Tryz.func38 (by kernel_rfl) rfl rfl (by kernel_rfl) (by kernel_rfl) (HFE.out) (fun e wz hwz => ?_)
  obtain ⟨vz, rfl, hbz, hoz⟩ := hwz
  have HBZ := Hid.mk' (bt HBD.out hbz)
  obtain ⟨za, zc, ez⟩ := own_slice hoz
  subst ez
  clear hbz hoz
  refine ⟨_, rfl, kp_mk HBZ.out.size fun k hk _ => HBZ.out.block k hk, ?_⟩
  simp only [Act.put, List.setIfInBounds_toArray, List.set_cons_succ, List.set_cons_zero]
  refine mx_take 5 rfl ?_
  simp only [List.take_succ_cons, List.take_zero, List.drop_succ_cons, List.drop_zero]
  repeat (go_big_quiet_step (fail))
  refine wpQuiet_nil ?_
  simp only [wpMix]
  have HTOT := Hid.mk' (bt HB.out HBZ.out)
  clear r0 r1 hd HFE
  cases hg : tget l (okey p n) with
  | none =>
    rw [show getC (tget l) (okey p n) = 6 by unfold getC; rw [hg]]
    have HGI := Hid.mk' (congrArg Option.isSome hg)
    clear hg
    go_wp2_with fail
    go_ret
    exact ⟨by rw [HGI.out] <;> rfl, HTOT.out⟩
  | some x =>
    rw [show getC (tget l) (okey p n) = 0 by unfold getC; rw [hg]]
    have HGI := Hid.mk' (congrArg Option.isSome hg)
    clear hg
    go_wp2_with fail
    go_ret
    exact ⟨by rw [HGI.out] <;> rfl, HTOT.out⟩
set_option maxRecDepth 100000 in
set_option maxHeartbeats 4000000 in
/-- Where -/
theorem where_none {V : Nat → Prop} {B b : Nat} {w : World} {l : List Th} (p : List UInt8) (n : Nat) (hI : VaultIs B V w b (tget l) l.length) (hl : p.length ≤ 100) (hi : n < 18446744073709551616) (hg : tget l (ikey p n) = none) :
    Calls Tryz.prog 20 #[.agg #[.pointer (some ⟨b, 0, none⟩), .string ⟨p.toArray⟩], .int .u64 (n : Int)] w fun e w' => e = .returned (.tuple #[.agg #[.int .u64 0, .int .u64 0, .string ⟨#[]⟩], .bool false]) ∧ Below w.heap.size w w' := by
  obtain ⟨wk, hW, hB, hsz, ⟨hc0, hc1⟩, _⟩ := enter_box (w := w) (x0 := .pointer (some ⟨b, 0, none⟩)) (x1 := .string ⟨p.toArray⟩) (e := 29) (y0 := .int .u64 0) (y1 := .int .u64 0) (y2 := .string ⟨#[]⟩) (f := 55)
  have hbx : wk.heap[w.heap.size + 1]? = some (.cells #[.int .u64 0, .int .u64 0, .string ⟨#[]⟩] 55 (0, 0)) := by
    have h := heap_alloc_new (w.alloc (.cells #[.pointer (some ⟨b, 0, none⟩), .string ⟨p.toArray⟩] 29)) (.cells #[.int .u64 0, .int .u64 0, .string ⟨#[]⟩] 55)
    rw [hW, show w.heap.size + 1 = (w.alloc (.cells #[.pointer (some ⟨b, 0, none⟩), .string ⟨p.toArray⟩] 29)).heap.size by simp]; exact h
  have HBX := Hid.mk' hbx
  have HB := Hid.mk' hB
  have HSZ : Hid (wk.heap.size = w.heap.size + 1 + 1) := hsz
  have HI := Hid.mk' hI
  have HPL : Hid (p.length ≤ 100) := hl
  have HN : Hid (n < 18446744073709551616) := hi
  have HG := Hid.mk' hg
  clear hI hl hi hg hsz hB hbx
  go_enter Tryz.func20, Tryz.ntmps20
  go_upto_region 1 with fail
  rw [← hW]
  clear hW
  have r0 : ∀ q : Kp (fun _ => False) wk, q.nx.cell? ⟨w.heap.size, 0, none⟩ = some _ := fun q => q.cell hc0 (fun h => h)
  have r1 : ∀ q : Kp (fun _ => False) wk, q.nx.cell? ⟨w.heap.size, 1, none⟩ = some _ := fun q => q.cell hc1 (fun h => h)
  have hd := drew_blx wk wk.heap.size
  refine wp_region_mix 12 (fun w' => ∃ q : Kp (fun _ => False) wk, w' = q.nx) (by kernel_rfl) (by kernel_rfl) (kp_first _ wk) ?_
  simp only [List.take_succ_cons, List.take_zero, List.drop_succ_cons, List.drop_zero]
  refine mx_take 2 rfl ?_
  simp only [List.take_succ_cons, List.take_zero, List.drop_succ_cons, List.drop_zero]
  repeat (go_big_quiet_step (fail))
  refine wpQuiet_nil ?_
  refine mx_call (vals := [.int .u64 (n : Int)]) Tryz.func29 (by kernel_rfl) rfl rfl (by kernel_rfl) (by kernel_rfl) (number_any n HN.out _) (fun e wc hwc => ?_)
  obtain ⟨rfl, hbc⟩ := hwc
  have HBC := Hid.mk' (hd.trans hbc)
  refine ⟨_, rfl, kp_mk HBC.out.size fun k hk _ => HBC.out.block k hk, ?_⟩
  simp only [Act.put, List.setIfInBounds_toArray, List.set_cons_succ, List.set_cons_zero]
  have hup := up_alloc wc (.cells #[.string ⟨incp.toArray⟩, .string ⟨(hex n).toArray⟩] 9)
  have HBD := Hid.mk' (bt HBC.out hup)
  clear hbc
  refine mx_make (by rfl) (by kernel_rfl) (exec_bs24 rfl rfl rfl) (kp_mk HBD.out.size fun k hk _ => HBD.out.block k hk) ?_
  simp only [Act.put, List.setIfInBounds_toArray, List.set_cons_succ, List.set_cons_zero]
  have hx16 : (hex n).length = 16 := by simp [hex]
  have hkey : p ++ [incp, hex n].flatten = ikey p n := by simp [ikey]
  have HGE := Hid.mk' (cget_none (ps := [incp, hex n]) p 2 (HI.out.up (bt HB.out HBD.out)) (two_ss (w := wc) incp (hex n)) (by have := HPL.out; simp [incp, hx16]; omega) (by rw [hkey]; exact HG.out))
  clear hkey hup hx16
  refine mx_call (vals := [.agg #[.pointer (some ⟨b, 0, none⟩), .string ⟨p.toArray⟩], .int .i64 2, .slice (some ⟨wc.heap.size, 0, none⟩) 2 2]) Tryz.func32 (by kernel_rfl) rfl rfl (by kernel_rfl) (by kernel_rfl) (HGE.out) (fun e wz hwz => ?_)
  obtain ⟨rfl, hbz⟩ := hwz
  have HBZ := Hid.mk' (bt HBD.out hbz)
  clear hbz
  refine ⟨_, rfl, kp_mk HBZ.out.size fun k hk _ => HBZ.out.block k hk, ?_⟩
  simp only [Act.put, List.setIfInBounds_toArray, List.set_cons_succ, List.set_cons_zero]
  refine mx_take 7 rfl ?_
  simp only [List.take_succ_cons, List.take_zero, List.drop_succ_cons, List.drop_zero]
  repeat (go_big_quiet_step (fail))
  refine wpQuiet_nil ?_
  simp only [wpMix]
  have HTOT := Hid.mk' (bt HB.out HBZ.out)
  have HXK : Hid (wz.heap[w.heap.size + 1]? = some (.cells #[.int .u64 0, .int .u64 0, .string ⟨#[]⟩] 55 (0, 0))) := (HBZ.out.block _ (by have := HSZ.out; omega)).trans HBX.out
  clear r0 r1 hd HGE hc0 hc1
  obtain ⟨y0, y1, y2⟩ := bx3 HXK.out
  have f0 := bx3_fr HXK.out 0
  have f1 := bx3_fr HXK.out 1
  have f2 := bx3_fr HXK.out 2
  have HX9 : Hid ((((wz.setCell ⟨w.heap.size + 1, 0, none⟩ (.int .u64 0)).setCell ⟨w.heap.size + 1, 1, none⟩ (.int .u64 0)).setCell ⟨w.heap.size + 1, 2, none⟩ (.string ⟨#[]⟩)).heap[w.heap.size + 1]? = some (.cells #[.int .u64 0, .int .u64 0, .string ⟨#[]⟩] 55 (0, 0))) := bx3_set (bx3_set (bx3_set HXK.out 0 _) 1 _) 2 _
  have HW9 : Hid (Wb (fun k => k = w.heap.size + 1) wz (((wz.setCell ⟨w.heap.size + 1, 0, none⟩ (.int .u64 0)).setCell ⟨w.heap.size + 1, 1, none⟩ (.int .u64 0)).setCell ⟨w.heap.size + 1, 2, none⟩ (.string ⟨#[]⟩))) := ((Wb.set (X := fun k => k = w.heap.size + 1) _ _ _ _ rfl).trans (Wb.set (X := fun k => k = w.heap.size + 1) _ _ _ _ rfl)).trans (Wb.set (X := fun k => k = w.heap.size + 1) _ _ _ _ rfl)
  go_wp2_with fail
  obtain ⟨g0, g1, g2⟩ := bx3 HX9.out
  refine bodyPost_ret (v := .tuple #[.agg #[.int .u64 0, .int .u64 0, .string ⟨#[]⟩], .bool false]) (by simp [results, Tryz.results20, go_sem, g0, g1, g2]) rfl ?_
  exact ⟨rfl, HTOT.out.trans (HW9.out.below HTOT.out.size fun k hk => by omega)⟩
set_option maxRecDepth 100000 in
set_option maxHeartbeats 4000000 in
/-- Where -/
theorem where_some {V : Nat → Prop} {B b : Nat} {w : World} {l : List Th} (p : List UInt8) (n : Nat) (hI : VaultIs B V w b (tget l) l.length) (hl : p.length ≤ 100) (hi : n < 18446744073709551616) {par id : Nat} {nm : List UInt8} (hg : tget l (ikey p n) = some (enc [par, id] nm)) (hpa : par < 18446744073709551616) (hid : id < 18446744073709551616) (hnm : nm.length ≤ 1000) :
    Calls Tryz.prog 20 #[.agg #[.pointer (some ⟨b, 0, none⟩), .string ⟨p.toArray⟩], .int .u64 (n : Int)] w fun e w' => e = .returned (.tuple #[.agg #[.int .u64 (par : Int), .int .u64 (id : Int), .string ⟨nm.toArray⟩], .bool true]) ∧ Below w.heap.size w w' := by
  obtain ⟨wk, hW, hB, hsz, ⟨hc0, hc1⟩, _⟩ := enter_box (w := w) (x0 := .pointer (some ⟨b, 0, none⟩)) (x1 := .string ⟨p.toArray⟩) (e := 29) (y0 := .int .u64 0) (y1 := .int .u64 0) (y2 := .string ⟨#[]⟩) (f := 55)
  have hbx : wk.heap[w.heap.size + 1]? = some (.cells #[.int .u64 0, .int .u64 0, .string ⟨#[]⟩] 55 (0, 0)) := by
    have h := heap_alloc_new (w.alloc (.cells #[.pointer (some ⟨b, 0, none⟩), .string ⟨p.toArray⟩] 29)) (.cells #[.int .u64 0, .int .u64 0, .string ⟨#[]⟩] 55)
    rw [hW, show w.heap.size + 1 = (w.alloc (.cells #[.pointer (some ⟨b, 0, none⟩), .string ⟨p.toArray⟩] 29)).heap.size by simp]; exact h
  have HBX := Hid.mk' hbx
  have HB := Hid.mk' hB
  have HSZ : Hid (wk.heap.size = w.heap.size + 1 + 1) := hsz
  have HI := Hid.mk' hI
  have HPL : Hid (p.length ≤ 100) := hl
  have HN : Hid (n < 18446744073709551616) := hi
  have HP : Hid (par < 18446744073709551616) := hpa
  have HID : Hid (id < 18446744073709551616) := hid
  have HNM : Hid (nm.length ≤ 1000) := hnm
  have HG := Hid.mk' hg
  clear hI hl hi hg hsz hB hbx hpa hid hnm
  go_enter Tryz.func20, Tryz.ntmps20
  go_upto_region 1 with fail
  rw [← hW]
  clear hW
  have r0 : ∀ q : Kp (fun _ => False) wk, q.nx.cell? ⟨w.heap.size, 0, none⟩ = some _ := fun q => q.cell hc0 (fun h => h)
  have r1 : ∀ q : Kp (fun _ => False) wk, q.nx.cell? ⟨w.heap.size, 1, none⟩ = some _ := fun q => q.cell hc1 (fun h => h)
  have hd := drew_blx wk wk.heap.size
  refine wp_region_mix 12 (fun w' => ∃ q : Kp (fun _ => False) wk, w' = q.nx) (by kernel_rfl) (by kernel_rfl) (kp_first _ wk) ?_
  simp only [List.take_succ_cons, List.take_zero, List.drop_succ_cons, List.drop_zero]
  refine mx_take 2 rfl ?_
  simp only [List.take_succ_cons, List.take_zero, List.drop_succ_cons, List.drop_zero]
  repeat (go_big_quiet_step (fail))
  refine wpQuiet_nil ?_
  refine mx_call (vals := [.int .u64 (n : Int)]) Tryz.func29 (by kernel_rfl) rfl rfl (by kernel_rfl) (by kernel_rfl) (number_any n HN.out _) (fun e wc hwc => ?_)
  obtain ⟨rfl, hbc⟩ := hwc
  have HBC := Hid.mk' (hd.trans hbc)
  refine ⟨_, rfl, kp_mk HBC.out.size fun k hk _ => HBC.out.block k hk, ?_⟩
  simp only [Act.put, List.setIfInBounds_toArray, List.set_cons_succ, List.set_cons_zero]
  have hup := up_alloc wc (.cells #[.string ⟨incp.toArray⟩, .string ⟨(hex n).toArray⟩] 9)
  have HBD := Hid.mk' (bt HBC.out hup)
  clear hbc
  refine mx_make (by rfl) (by kernel_rfl) (exec_bs24 rfl rfl rfl) (kp_mk HBD.out.size fun k hk _ => HBD.out.block k hk) ?_
  simp only [Act.put, List.setIfInBounds_toArray, List.set_cons_succ, List.set_cons_zero]
  have hx16 : (hex n).length = 16 := by simp [hex]
  have hkey : p ++ [incp, hex n].flatten = ikey p n := by simp [ikey]
  have HGE := Hid.mk' (cget_some (ps := [incp, hex n]) p 2 (ns := [par, id]) (s := nm) (HI.out.up (bt HB.out HBD.out)) (two_ss (w := wc) incp (hex n)) (by have := HPL.out; simp [incp, hx16]; omega) (by rw [hkey]; exact HG.out) (by simp) (by simp [HP.out, HID.out]) (by have := HNM.out; omega))
  clear hkey hup hx16
  refine mx_call (vals := [.agg #[.pointer (some ⟨b, 0, none⟩), .string ⟨p.toArray⟩], .int .i64 2, .slice (some ⟨wc.heap.size, 0, none⟩) 2 2]) Tryz.func32 (by kernel_rfl) rfl rfl (by kernel_rfl) (by kernel_rfl) (HGE.out) (fun e wz hwz => ?_)
  obtain ⟨vz, ez, hoz, hbz⟩ := hwz
  rw [show decide (((2 : Nat) : Int) ≤ (([par, id] : List Nat).length : Int)) = true from rfl] at ez
  subst ez
  have HBZ := Hid.mk' (bt HBD.out hbz)
  have HOZ := Hid.mk' hoz
  obtain ⟨za, zc, ez⟩ := own_slice hoz
  subst ez
  clear hbz
  refine ⟨_, rfl, kp_mk HBZ.out.size fun k hk _ => HBZ.out.block k hk, ?_⟩
  simp only [Act.put, List.setIfInBounds_toArray, List.set_cons_succ, List.set_cons_zero]
  refine mx_take 7 rfl ?_
  simp only [List.take_succ_cons, List.take_zero, List.drop_succ_cons, List.drop_zero]
  repeat (go_big_quiet_step (fail))
  refine wpQuiet_nil ?_
  simp only [wpMix]
  have HTOT := Hid.mk' (bt HB.out HBZ.out)
  have HXK : Hid (wz.heap[w.heap.size + 1]? = some (.cells #[.int .u64 0, .int .u64 0, .string ⟨#[]⟩] 55 (0, 0))) := (HBZ.out.block _ (by have := HSZ.out; omega)).trans HBX.out
  obtain ⟨_, _, ev, _, _, HZ⟩ := (hoz.us (by simp [HP.out, HID.out]) (by unfold lim; simp)).at
  cases ev
  obtain ⟨b1, o1, rfl, _, z0⟩ := HZ 0 (by simp)
  obtain ⟨_, _, ev, _, z1⟩ := HZ 1 (by simp)
  cases ev
  have z0 : wz.cell? ⟨b1, o1, none⟩ = some (.int .u64 (par : Int)) := z0
  have z1 : wz.cell? ⟨b1, o1 + 1, none⟩ = some (.int .u64 (id : Int)) := z1
  clear r0 r1 hd HGE HZ hoz HOZ hc0 hc1
  obtain ⟨y0, y1, y2⟩ := bx3 HXK.out
  have f0 := bx3_fr HXK.out 0
  have f1 := bx3_fr HXK.out 1
  have f2 := bx3_fr HXK.out 2
  have HX9 : Hid ((((wz.setCell ⟨w.heap.size + 1, 0, none⟩ (.int .u64 (par : Int))).setCell ⟨w.heap.size + 1, 1, none⟩ (.int .u64 (id : Int))).setCell ⟨w.heap.size + 1, 2, none⟩ (.string ⟨nm.toArray⟩)).heap[w.heap.size + 1]? = some (.cells #[.int .u64 (par : Int), .int .u64 (id : Int), .string ⟨nm.toArray⟩] 55 (0, 0))) := bx3_set (bx3_set (bx3_set HXK.out 0 _) 1 _) 2 _
  have HW9 : Hid (Wb (fun k => k = w.heap.size + 1) wz (((wz.setCell ⟨w.heap.size + 1, 0, none⟩ (.int .u64 (par : Int))).setCell ⟨w.heap.size + 1, 1, none⟩ (.int .u64 (id : Int))).setCell ⟨w.heap.size + 1, 2, none⟩ (.string ⟨nm.toArray⟩))) := ((Wb.set (X := fun k => k = w.heap.size + 1) _ _ _ _ rfl).trans (Wb.set (X := fun k => k = w.heap.size + 1) _ _ _ _ rfl)).trans (Wb.set (X := fun k => k = w.heap.size + 1) _ _ _ _ rfl)
  go_wp2_with fail
  have s0 : ∀ q : Kp (fun _ => False) wz, q.nx.cell? ⟨b1, o1, none⟩ = some _ := fun q => q.cell z0 (fun h => h)
  have s1 : ∀ q : Kp (fun _ => False) wz, q.nx.cell? ⟨b1, o1 + 1, none⟩ = some _ := fun q => q.cell z1 (fun h => h)
  refine wp_region_mix 7 (fun w' => ∃ q : Kp (fun _ => False) wz, w' = q.nx) (by kernel_rfl) (by kernel_rfl) (kp_first _ wz) ?_
  simp only [List.take_succ_cons, List.take_zero, List.drop_succ_cons, List.drop_zero]
  refine mx_take 7 rfl ?_
  simp only [List.take_succ_cons, List.take_zero, List.drop_succ_cons, List.drop_zero]
  repeat (go_big_quiet_step (fail))
  refine wpQuiet_nil ?_
  simp only [wpMix]
  clear s0 s1
  go_wp2_with fail
  obtain ⟨g0, g1, g2⟩ := bx3 HX9.out
  refine bodyPost_ret (v := .tuple #[.agg #[.int .u64 (par : Int), .int .u64 (id : Int), .string ⟨nm.toArray⟩], .bool true]) (by simp [results, Tryz.results20, go_sem, g0, g1, g2]) rfl ?_
  exact ⟨rfl, (HTOT.out.trans (HW9.out.below HTOT.out.size fun k hk => by omega)).trans (drew_blx _ _)⟩
end Go.Proofs.YtojgkjpmphfakaaGreatDoor
