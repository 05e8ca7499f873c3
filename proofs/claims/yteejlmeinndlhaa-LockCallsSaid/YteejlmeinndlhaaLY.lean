/- The closure of Rivals; slices.IndexFunc and DeleteFunc with it; Rivals. -/
import Derived.Test.YteejlmeinndlhaaLX
set_option linter.unusedVariables false
set_option linter.unusedSimpArgs false
namespace Go.Proofs.Yteejlmeinndlhaa
open Go.RowKit Go.Maps
attribute [local go_sem ↓] Go.wp_at_zero Go.wp_at_succ
theorem Rgs.sl {A : Nat → Prop} {w : World} {v : Value} {l : List Rg} (h : Rgs A w v l) : ∃ a c, v = .slice a l.length c := by obtain ⟨a, c, e, _⟩ := h.at; exact ⟨a, c, e⟩
theorem tx_cases (y x : Tx) : (decide (y = x) = true ∧ (y.1.toNat : Int) = (x.1.toNat : Int) ∧ (y.2.1.toNat : Int) = (x.2.1.toNat : Int) ∧ (y.2.2.toNat : Int) = (x.2.2.toNat : Int)) ∨ (decide (y = x) = false ∧ ((y.1.toNat : Int) ≠ (x.1.toNat : Int) ∨ ((y.1.toNat : Int) = (x.1.toNat : Int) ∧ (y.2.1.toNat : Int) ≠ (x.2.1.toNat : Int)) ∨ ((y.1.toNat : Int) = (x.1.toNat : Int) ∧ (y.2.1.toNat : Int) = (x.2.1.toNat : Int) ∧ (y.2.2.toNat : Int) ≠ (x.2.2.toNat : Int)))) := by
  obtain ⟨a, b, c⟩ := y
  obtain ⟨a', b', c'⟩ := x
  simp only [decide_eq_true_eq, decide_eq_false_iff_not, Prod.mk.injEq, u64_ne]
  omega
/-- is y no rival? -/
def noRiv (T : Tb) (x : Tx) (l : List Rg) (y : Tx) : Bool := decide (y = x) || !clsB (tgz T y) l
set_option maxRecDepth 100000 in
set_option maxHeartbeats 1000000 in
theorem c42 {M D A : Nat → Prop} {w : World} {b px pt pr : Nat} {T : Tb} {x y : Tx} {v : Value} {l : List Rg} (h : TbIs M D w b T)
    (hx : w.cell? ⟨px, 0, none⟩ = some (.int .u64 (x.1.toNat : Int)) ∧ w.cell? ⟨px, 1, none⟩ = some (.int .u64 (x.2.1.toNat : Int)) ∧ w.cell? ⟨px, 2, none⟩ = some (.int .u64 (x.2.2.toNat : Int)))
    (ht : w.cell? ⟨pt, 0, none⟩ = some (.pointer (some ⟨b, 0, none⟩))) (hr : w.cell? ⟨pr, 0, none⟩ = some v) (hv : Rgs A w v l) :
    Calls Try.prog 42 #[tv y, .pointer (some ⟨px, 0, none⟩), .pointer (some ⟨pt, 0, none⟩), .pointer (some ⟨pr, 0, none⟩)] w fun e w' => e = .returned (.bool (noRiv T x l y)) ∧ Below w.heap.size w w' := by
  obtain ⟨W, hW⟩ : ∃ W, W = w.alloc (.cells #[.int .u64 (y.1.toNat : Int), .int .u64 (y.2.1.toNat : Int), .int .u64 (y.2.2.toNat : Int)] 30) := ⟨_, rfl⟩
  have hb : Below w.heap.size w W := by rw [hW]; exact up_alloc w _
  obtain ⟨y0, y1, y2⟩ : W.cell? ⟨w.heap.size, 0, none⟩ = some (.int .u64 (y.1.toNat : Int)) ∧ W.cell? ⟨w.heap.size, 1, none⟩ = some (.int .u64 (y.2.1.toNat : Int)) ∧ W.cell? ⟨w.heap.size, 2, none⟩ = some (.int .u64 (y.2.2.toNat : Int)) := by rw [hW]; exact box3 (heap_alloc_new w _)
  have h2 := h.below hb
  obtain ⟨m, hbx, h1⟩ := h2.ex
  obtain ⟨c0, _⟩ := cell_of_box_a hbx
  obtain ⟨u, hlk, hu⟩ := mi_look h1 y
  obtain ⟨ua, uc, rfl⟩ := hu.sl
  obtain ⟨va, vc, rfl⟩ := hv.sl
  have x0 := cell_up hx.1 hb
  have x1 := cell_up hx.2.1 hb
  have x2 := cell_up hx.2.2 hb
  have t0 := cell_up ht hb
  have r0 := cell_up hr hb
  have rx0 : ∀ q : Kp (fun _ => False) W, q.nx.cell? ⟨px, 0, none⟩ = some _ := fun q => q.cell x0 id
  have rx1 : ∀ q : Kp (fun _ => False) W, q.nx.cell? ⟨px, 1, none⟩ = some _ := fun q => q.cell x1 id
  have rx2 : ∀ q : Kp (fun _ => False) W, q.nx.cell? ⟨px, 2, none⟩ = some _ := fun q => q.cell x2 id
  have ry0 : ∀ q : Kp (fun _ => False) W, q.nx.cell? ⟨w.heap.size, 0, none⟩ = some _ := fun q => q.cell y0 id
  have ry1 : ∀ q : Kp (fun _ => False) W, q.nx.cell? ⟨w.heap.size, 1, none⟩ = some _ := fun q => q.cell y1 id
  have ry2 : ∀ q : Kp (fun _ => False) W, q.nx.cell? ⟨w.heap.size, 2, none⟩ = some _ := fun q => q.cell y2 id
  have rt : ∀ q : Kp (fun _ => False) W, q.nx.cell? ⟨pt, 0, none⟩ = some _ := fun q => q.cell t0 id
  have rr : ∀ q : Kp (fun _ => False) W, q.nx.cell? ⟨pr, 0, none⟩ = some _ := fun q => q.cell r0 id
  have rb : ∀ q : Kp (fun _ => False) W, q.nx.cell? ⟨b, 0, none⟩ = some _ := fun q => q.cell c0 id
  have rl : ∀ q : Kp (fun _ => False) W, (Instr.lookup 35 (.map m) (.agg #[.int .u64 (y.1.toNat : Int), .int .u64 (y.2.1.toNat : Int), .int .u64 (y.2.2.toNat : Int)]) false).run Try.prog q.nx = .ok _ q.nx := fun q => hlk _ fun b hb => q.ok b hb id
  have hcs : (decide (y = x) = true ∧ (y.1.toNat : Int) = (x.1.toNat : Int) ∧ (y.2.1.toNat : Int) = (x.2.1.toNat : Int) ∧ (y.2.2.toNat : Int) = (x.2.2.toNat : Int)) ∨ (decide (y = x) = false ∧ ((y.1.toNat : Int) ≠ (x.1.toNat : Int) ∨ ((y.1.toNat : Int) = (x.1.toNat : Int) ∧ (y.2.1.toNat : Int) ≠ (x.2.1.toNat : Int)) ∨ ((y.1.toNat : Int) = (x.1.toNat : Int) ∧ (y.2.1.toNat : Int) = (x.2.1.toNat : Int) ∧ (y.2.2.toNat : Int) ≠ (x.2.2.toNat : Int)))) := tx_cases y x
  have HB := Hid.mk' hb
  have HC : Hid (Calls Try.prog 43 #[.slice ua (tgz T y).length uc, .slice va l.length vc] W.drew fun e w' => e = .returned (.bool (clsB (tgz T y) l)) ∧ Below W.drew.heap.size W.drew w') := clashes_any (hu.up (drew_blx W _)) ((hv.up hb).up (drew_blx W _))
  have HN : Hid (noRiv T x l y = (decide (y = x) || !clsB (tgz T y) l)) := rfl
  clear h h2 hbx h1 c0 hlk hu x0 x1 x2 t0 r0 y0 y1 y2 hx ht hr hv hb
  generalize noRiv T x l y = R at *
  generalize clsB (tgz T y) l = cb at *
  generalize decide (y = x) = d at *
  generalize l.length = nl at *
  generalize (tgz T y).length = nu at *
  show Calls Try.prog 42 #[.agg #[.int .u64 (y.1.toNat : Int), .int .u64 (y.2.1.toNat : Int), .int .u64 (y.2.2.toNat : Int)], .pointer (some ⟨px, 0, none⟩), .pointer (some ⟨pt, 0, none⟩), .pointer (some ⟨pr, 0, none⟩)] w _
  generalize (y.1.toNat : Int) = n1 at *
  generalize (y.2.1.toNat : Int) = n2 at *
  generalize (y.2.2.toNat : Int) = n3 at *
  generalize (x.1.toNat : Int) = m1 at *
  generalize (x.2.1.toNat : Int) = m2 at *
  generalize (x.2.2.toNat : Int) = m3 at *
  go_enter Try.func42, Try.ntmps42
  go_upto_region 1 with fail
  rw [← hW]
  clear hW
  refine wp_region_mix 15 (fun w' => ∃ q : Kp (fun _ => False) W, w' = q.nx) (by kernel_rfl) (by kernel_rfl) (kp_first _ W) ?_
  simp only [List.take_succ_cons, List.take_zero, List.drop_succ_cons, List.drop_zero]
  rcases hcs with ⟨rfl, rfl, rfl, rfl⟩ | ⟨rfl, hcs⟩
  · have HR : Hid (R = true) := by show _ = _; rw [HN.out]; rfl
    refine mx_take 11 rfl ?_
    simp only [List.take_succ_cons, List.take_zero, List.drop_succ_cons, List.drop_zero]
    repeat (go_big_quiet_step (fail))
    refine wpQuiet_nil ?_
    with_reducible refine mx_skip (by kernel_rfl) ?_
    simp only [Act.put, List.setIfInBounds_toArray, List.set_cons_succ, List.set_cons_zero]
    refine mx_take 3 rfl ?_
    simp only [List.take_succ_cons, List.take_zero, List.drop_succ_cons, List.drop_zero]
    repeat (go_big_quiet_step (fail))
    refine wpQuiet_nil ?_
    simp only [wpMix]
    clear rx0 rx1 rx2 ry0 ry1 ry2 rt rr rb rl
    have HD := Hid.mk' (HB.out.trans ((drew_blx W W.heap.size).mono HB.out.size))
    go_wp2_with fail
    go_ret
    exact ⟨by rw [HR.out] <;> rfl, HD.out⟩
  · have HR : Hid (R = !cb) := by show _ = _; rw [HN.out]; rfl
    rcases hcs with hn1 | ⟨rfl, hn1⟩ | ⟨rfl, rfl, hn1⟩
    all_goals
      refine mx_take 11 rfl ?_
      simp only [List.take_succ_cons, List.take_zero, List.drop_succ_cons, List.drop_zero]
      repeat (go_big_quiet_step (fail))
      refine wpQuiet_nil ?_
      refine mx_call (vals := [.slice ua nu uc, .slice va nl vc]) Try.func43 (by kernel_rfl) rfl rfl (by kernel_rfl) (by kernel_rfl) HC.out (fun E wa ha => ?_)
      obtain ⟨rfl, hda⟩ := ha
      have hWa : Below W.heap.size W wa := (drew_blx W _).trans hda
      refine ⟨_, rfl, kp_mk hWa.size fun b hb hx => hWa.block b hb, ?_⟩
      simp only [Act.put, List.setIfInBounds_toArray, List.set_cons_succ, List.set_cons_zero]
      refine mx_take 3 rfl ?_
      simp only [List.take_succ_cons, List.take_zero, List.drop_succ_cons, List.drop_zero]
      repeat (go_big_quiet_step (fail))
      refine wpQuiet_nil ?_
      simp only [wpMix]
      clear rx0 rx1 rx2 ry0 ry1 ry2 rt rr rb rl
      have HD := Hid.mk' (bt HB.out hWa)
      go_wp2_with fail
      go_ret
      exact ⟨by rw [HR.out] <;> rfl, HD.out⟩
end Go.Proofs.Yteejlmeinndlhaa
