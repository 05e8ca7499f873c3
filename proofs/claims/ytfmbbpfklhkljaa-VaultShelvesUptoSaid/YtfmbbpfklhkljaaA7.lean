/- leaf.Check. -/
import Derived.Test.YtfmbbpfklhkljaaA6
set_option linter.unusedVariables false
set_option linter.unusedSimpArgs false
namespace Go.Proofs.Ytfmbbpfklhkljaa
open Go.RowKit
def clo (b : Nat) : Value := .func (.func 65) #[] #[.pointer (some ⟨b, 0, none⟩)]
def UL.clo (m : Nat) : UL := ⟨⟨fun v => ∃ b, v = .func (.func 65) #[] #[.pointer (some ⟨b, 0, none⟩)], fun v w => ∃ b : Nat, v = .func (.func 65) #[] #[.pointer (some ⟨b, 0, none⟩)] ∧ w.cell? ⟨b, 0, none⟩ = some (.int .i64 m)⟩,
  fun _ _ _ ⟨b, h1, h2⟩ hb => ⟨b, h1, cell_later hb h2⟩⟩
theorem clo_free (m : Nat) (w : World) : Calls Try.prog 64 #[.int .i64 m] w fun e w'' => ∃ u, e = .returned u ∧ Up w w'' ∧ (UL.clo m).1.one u ∧ (UL.clo m).1.led u w'' := by
  refine (c64 m w).mono ?_
  rintro e w' ⟨rfl, rfl⟩
  exact ⟨_, rfl, up_alloc _ _, ⟨_, rfl⟩, ⟨_, rfl, by simp only [World.cell?, heap_alloc_new w _]; rfl⟩⟩
theorem has_free {A : Nat → Prop} {w : World} {v : Value} {l : List (List UInt8)} {b m : Nat} (h : Bss A w v l) (hm : w.cell? ⟨b, 0, none⟩ = some (.int .i64 m)) :
    Calls Try.prog 66 #[v, .func (.func 65) #[] #[.pointer (some ⟨b, 0, none⟩)]] w fun e w'' => ∃ u, e = .returned u ∧ Up w w'' ∧ (UL.is (.bool (long m l))).1.one u ∧ (UL.is (.bool (long m l))).1.led u w'' := by
  refine (c66 h hm).mono ?_
  rintro e w' ⟨rfl, rfl⟩
  exact ⟨_, rfl, Below.refl _ _, rfl, trivial⟩
set_option maxRecDepth 100000 in
set_option maxHeartbeats 2000000 in
/-- leaf.Check -/
theorem check_any {A : Nat → Prop} {w : World} {v : Value} {n : Nd} (h : RN A w v n) : Calls Try.prog 21 #[v] w fun e w' => e = .returned (.int .i64 (check n)) ∧ Below w.heap.size w w' := by
  have h0 := h
  obtain ⟨k, u, c, rfl, h1, h2, h3⟩ := h
  go_enter Try.func21, Try.ntmps21
  go_wp2_with fail
  obtain ⟨W, hW, ⟨b0, b1, b2, b3⟩, bf, hbW, hsz⟩ := box4 w (.bool n.leaf) k u c 37
  rw [← hW]
  clear hW
  have H0 := Hid.mk' (h0.up hbW)
  have H1 := Hid.mk' (h1.up hbW)
  have H2 := Hid.mk' (h2.up hbW)
  have HB := Hid.mk' hbW
  have c0 : ∀ p : Ups W, p.nx.cell? ⟨w.heap.size, 0, none⟩ = some (.bool n.leaf) := fun p => p.cell b0
  have c1 : ∀ p : Ups W, p.nx.cell? ⟨w.heap.size, 1, none⟩ = some k := fun p => p.cell b1
  have c2 : ∀ p : Ups W, p.nx.cell? ⟨w.heap.size, 2, none⟩ = some u := fun p => p.cell b2
  have c3 : ∀ p : Ups W, p.nx.cell? ⟨w.heap.size, 3, none⟩ = some c := fun p => p.cell b3
  clear h1 h2 h3 h0 hbW hsz bf b0 b1 b2 b3
  have hmf : ∀ (fn : Fn) (first cap : Array Value) (w : World), (Instr.makeFunc fn first cap).run Try.prog w = .ok (.func fn first cap) w := fun _ _ _ _ => rfl
  cases ha : long 64 n.keys with
  | true =>
    have HC : Hid (check n = 2) := by show _ = _; unfold check; rw [ha]; rfl
    have HA := Hid.mk' ha
    refine wp_region_free 12 Up (fun w' => ∃ p : Ups W, w' = p.nx) (ul [(7, UL.clo 64), (8, UL.is (.bool (long 64 n.keys)))]) (by kernel_rfl) (by kernel_rfl) (ul_ck _) (up_first W) ?_
    simp only [List.take_succ_cons, List.take_zero, List.drop_succ_cons, List.drop_zero]
    refine wf_take 3 rfl ?_
    simp only [List.take_succ_cons, List.take_zero, List.drop_succ_cons, List.drop_zero]
    repeat (go_big_quiet_step (fail))
    refine wpQuiet_nil ?_
    refine wf_call (V := (UL.clo 64).1) (vals := [.int .i64 64]) Try.func64 (by kernel_rfl) rfl rfl (by kernel_rfl) (by kernel_rfl) (by kernel_rfl) (fun w1 hC _ => clo_free 64 w1) (fun u1 ho1 => ?_)
    obtain ⟨b, rfl⟩ := ho1
    simp only [Act.put, List.setIfInBounds_toArray, List.set_cons_succ, List.set_cons_zero]
    refine wf_call (V := (UL.is (.bool (long 64 n.keys))).1) (vals := [k, .func (.func 65) #[] #[.pointer (some ⟨b, 0, none⟩)]]) Try.func66 (by kernel_rfl) rfl rfl (by kernel_rfl) (by kernel_rfl) (by kernel_rfl) (fun w1 hC hK => ?_) (fun u1 ho1 => ?_)
    · obtain ⟨p, rfl⟩ := hC
      obtain ⟨b', e, hm⟩ := hK 7 _ _ (looks_of (by kernel_rfl)) (.inr ⟨rfl, rfl⟩) rfl
      cases e
      exact has_free (H1.out.up p.ok) hm
    obtain rfl := ho1
    simp only [Act.put, List.setIfInBounds_toArray, List.set_cons_succ, List.set_cons_zero]
    rw [ha]
    refine wf_take 4 rfl ?_
    simp only [List.take_succ_cons, List.take_zero, List.drop_succ_cons, List.drop_zero]
    repeat (go_big_quiet_step (fail))
    refine wpQuiet_nil ?_
    refine wf_skip (by kernel_rfl) ?_
    simp only [Act.put, List.setIfInBounds_toArray, List.set_cons_succ, List.set_cons_zero]
    refine wf_skip (by kernel_rfl) ?_
    simp only [Act.put, List.setIfInBounds_toArray, List.set_cons_succ, List.set_cons_zero]
    refine wf_take 1 rfl ?_
    simp only [List.take_succ_cons, List.take_zero, List.drop_succ_cons, List.drop_zero]
    repeat (go_big_quiet_step (fail))
    refine wpQuiet_nil ?_
    intro w1 hC hK
    clear hK
    obtain ⟨p, rfl⟩ := hC
    go_wp2_with fail
    go_ret
    exact ⟨ret_i HC.out.symm, bt HB.out p.ok⟩
  | false =>
    have HA := Hid.mk' ha
    have HC : Hid (check n = if long 128 n.vals then 2 else if formed n then 0 else 3) := by show _ = _; unfold check; rw [ha]; rfl
    refine wp_region_free 12 Up (fun w' => ∃ p : Ups W, w' = p.nx) (ul [(7, UL.clo 64), (8, UL.is (.bool (long 64 n.keys))), (13, UL.clo 128), (14, UL.is (.bool (long 128 n.vals)))]) (by kernel_rfl) (by kernel_rfl) (ul_ck _) (up_first W) ?_
    simp only [List.take_succ_cons, List.take_zero, List.drop_succ_cons, List.drop_zero]
    refine wf_take 3 rfl ?_
    simp only [List.take_succ_cons, List.take_zero, List.drop_succ_cons, List.drop_zero]
    repeat (go_big_quiet_step (fail))
    refine wpQuiet_nil ?_
    refine wf_call (V := (UL.clo 64).1) (vals := [.int .i64 64]) Try.func64 (by kernel_rfl) rfl rfl (by kernel_rfl) (by kernel_rfl) (by kernel_rfl) (fun w1 hC _ => clo_free 64 w1) (fun u1 ho1 => ?_)
    obtain ⟨b, rfl⟩ := ho1
    simp only [Act.put, List.setIfInBounds_toArray, List.set_cons_succ, List.set_cons_zero]
    refine wf_call (V := (UL.is (.bool (long 64 n.keys))).1) (vals := [k, .func (.func 65) #[] #[.pointer (some ⟨b, 0, none⟩)]]) Try.func66 (by kernel_rfl) rfl rfl (by kernel_rfl) (by kernel_rfl) (by kernel_rfl) (fun w1 hC hK => ?_) (fun u1 ho1 => ?_)
    · obtain ⟨p, rfl⟩ := hC
      obtain ⟨b', e, hm⟩ := hK 7 _ _ (looks_of (by kernel_rfl)) (.inr ⟨rfl, rfl⟩) rfl
      cases e
      exact has_free (H1.out.up p.ok) hm
    obtain rfl := ho1
    simp only [Act.put, List.setIfInBounds_toArray, List.set_cons_succ, List.set_cons_zero]
    rw [ha]
    refine wf_take 4 rfl ?_
    simp only [List.take_succ_cons, List.take_zero, List.drop_succ_cons, List.drop_zero]
    repeat (go_big_quiet_step (fail))
    refine wpQuiet_nil ?_
    refine wf_call (V := (UL.clo 128).1) (vals := [.int .i64 128]) Try.func64 (by kernel_rfl) rfl rfl (by kernel_rfl) (by kernel_rfl) (by kernel_rfl) (fun w1 hC _ => clo_free 128 w1) (fun u1 ho1 => ?_)
    obtain ⟨b2, rfl⟩ := ho1
    simp only [Act.put, List.setIfInBounds_toArray, List.set_cons_succ, List.set_cons_zero]
    refine wf_call (V := (UL.is (.bool (long 128 n.vals))).1) (vals := [u, .func (.func 65) #[] #[.pointer (some ⟨b2, 0, none⟩)]]) Try.func66 (by kernel_rfl) rfl rfl (by kernel_rfl) (by kernel_rfl) (by kernel_rfl) (fun w1 hC hK => ?_) (fun u1 ho1 => ?_)
    · obtain ⟨p, rfl⟩ := hC
      obtain ⟨b', e, hm⟩ := hK 13 _ _ (looks_of (by kernel_rfl)) (.inr ⟨rfl, rfl⟩) rfl
      cases e
      exact has_free (H2.out.up p.ok) hm
    obtain rfl := ho1
    simp only [Act.put, List.setIfInBounds_toArray, List.set_cons_succ, List.set_cons_zero]
    refine wf_take 1 rfl ?_
    simp only [List.take_succ_cons, List.take_zero, List.drop_succ_cons, List.drop_zero]
    repeat (go_big_quiet_step (fail))
    refine wpQuiet_nil ?_
    intro w1 hC hK
    clear hK
    obtain ⟨p, rfl⟩ := hC
    cases hb : long 128 n.vals with
    | true =>
      have HC2 : Hid (check n = 2) := by show _ = _; rw [HC.out, hb]; rfl
      go_wp2_with fail
      go_ret
      exact ⟨ret_i HC2.out.symm, bt HB.out p.ok⟩
    | false =>
      have HC2 : Hid (check n = if formed n then 0 else 3) := by show _ = _; rw [HC.out, hb]; rfl
      have HF := Hid.mk' (formed_any (H0.out.up p.ok))
      have d0 := c0 p
      have d1 := c1 p
      have d2 := c2 p
      have d3 := c3 p
      go_wp2_with fail
      refine HF.out.mono ?_
      rintro e w2 ⟨rfl, hb2⟩
      have HB2 := Hid.mk' (bt HB.out (bt p.ok hb2))
      clear hb2
      cases hf : formed n with
      | true =>
        have HC3 : Hid (check n = 0) := by show _ = _; rw [HC2.out, hf]; rfl
        go_wp2_with fail
        go_ret
        exact ⟨ret_i HC3.out.symm, HB2.out⟩
      | false =>
        have HC3 : Hid (check n = 3) := by show _ = _; rw [HC2.out, hf]; rfl
        go_wp2_with fail
        go_ret
        exact ⟨ret_i HC3.out.symm, HB2.out⟩
end Go.Proofs.Ytfmbbpfklhkljaa
