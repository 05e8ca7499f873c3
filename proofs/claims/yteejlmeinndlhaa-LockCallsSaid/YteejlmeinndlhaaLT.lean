/- Transactions: their order. cmp.Compare at uint64, cmp.Or, lock.Compare, groyneref11.Before. -/
import Derived.Test.YteejlmeinndlhaaGX
import Derived.Test.YteejlmeinndlhaaProg
import Derived.Sort.Grow
set_option linter.unusedVariables false
set_option linter.unusedSimpArgs false
namespace Go.Proofs.Yteejlmeinndlhaa
open Go.RowKit
attribute [local go_sem ↓] Go.wp_at_zero Go.wp_at_succ
abbrev Tx := UInt64 × UInt64 × UInt64
def tc (x : Tx) : List Value := [.int .u64 (x.1.toNat : Int), .int .u64 (x.2.1.toNat : Int), .int .u64 (x.2.2.toNat : Int)]
def tv (x : Tx) : Value := .agg (tc x).toArray
def cmpU (a b : UInt64) : Int := if a.toNat < b.toNat then -1 else if b.toNat < a.toNat then 1 else 0
def tcmp (x y : Tx) : Int := if cmpU x.1 y.1 ≠ 0 then cmpU x.1 y.1 else if cmpU x.2.1 y.2.1 ≠ 0 then cmpU x.2.1 y.2.1 else cmpU x.2.2 y.2.2
def tltB (x y : Tx) : Bool := if x.1 ≠ y.1 then decide (x.1.toNat < y.1.toNat) else if x.2.1 ≠ y.2.1 then decide (x.2.1.toNat < y.2.1.toNat) else decide (x.2.2.toNat < y.2.2.toNat)
theorem u64_ne (a b : UInt64) : a = b ↔ a.toNat = b.toNat := UInt64.toNat_inj.symm
theorem cmpU_zero (a b : UInt64) : cmpU a b = 0 ↔ a = b := by
  unfold cmpU
  rw [u64_ne]
  split
  · omega
  · split <;> omega
theorem cmpU_bd (a b : UInt64) : -1 ≤ cmpU a b ∧ cmpU a b ≤ 1 := by unfold cmpU; split <;> (try split) <;> omega
theorem cmpU_lt (a b : UInt64) : cmpU a b < 0 ↔ a.toNat < b.toNat := by unfold cmpU; split <;> (try split) <;> omega
theorem cmpU_neg (a b : UInt64) : cmpU b a = -cmpU a b := by unfold cmpU; split <;> (try split) <;> (try split) <;> omega
theorem tcmp_bd (x y : Tx) : -1 ≤ tcmp x y ∧ tcmp x y ≤ 1 := by
  unfold tcmp
  split
  · exact cmpU_bd _ _
  · split <;> exact cmpU_bd _ _
theorem tcmp_neg (x y : Tx) : tcmp y x = -tcmp x y := by
  unfold tcmp
  rw [cmpU_neg x.1 y.1, cmpU_neg x.2.1 y.2.1, cmpU_neg x.2.2 y.2.2]
  split <;> split <;> (try (split <;> split)) <;> omega
theorem tcmp_zero (x y : Tx) : tcmp x y = 0 ↔ x = y := by
  obtain ⟨a, b, c⟩ := x
  obtain ⟨a', b', c'⟩ := y
  unfold tcmp
  simp only [Prod.mk.injEq]
  rw [← cmpU_zero a a', ← cmpU_zero b b', ← cmpU_zero c c']
  split
  · simp_all
  · split <;> simp_all
theorem tcmp_lt (x y : Tx) : tcmp x y < 0 ↔ tltB x y = true := by
  obtain ⟨a, b, c⟩ := x
  obtain ⟨a', b', c'⟩ := y
  unfold tcmp tltB
  simp only [ne_eq, cmpU_zero]
  split
  · simp [cmpU_lt]
  · split <;> simp [cmpU_lt]
/-- one number for a transaction: its order -/
def tkey (x : Tx) : Nat := x.1.toNat * 340282366920938463463374607431768211456 + x.2.1.toNat * 18446744073709551616 + x.2.2.toNat
theorem tkey_lt (x y : Tx) : tltB x y = decide (tkey x < tkey y) := by
  obtain ⟨a, b, c⟩ := x
  obtain ⟨a', b', c'⟩ := y
  have h1 := a.toNat_lt
  have h2 := b.toNat_lt
  have h3 := c.toNat_lt
  have h4 := a'.toNat_lt
  have h5 := b'.toNat_lt
  have h6 := c'.toNat_lt
  unfold tltB tkey
  simp only [ne_eq, u64_ne]
  generalize a.toNat = n1 at *
  generalize b.toNat = n2 at *
  generalize c.toNat = n3 at *
  generalize a'.toNat = m1 at *
  generalize b'.toNat = m2 at *
  generalize c'.toNat = m3 at *
  split
  · rw [decide_eq_decide]; omega
  · split
    · rw [decide_eq_decide]; omega
    · rw [decide_eq_decide]; omega
theorem tkey_inj {x y : Tx} (h : tkey x = tkey y) : x = y := by
  refine (tcmp_zero x y).1 ?_
  have h1 : ¬ tcmp x y < 0 := by rw [tcmp_lt, tkey_lt]; simp; omega
  have h2 : ¬ tcmp y x < 0 := by rw [tcmp_lt, tkey_lt]; simp; omega
  rw [tcmp_neg x y] at h2
  omega
/-- draws and new blocks, and nothing else -/
def Gr (w w' : World) : Prop := ∃ q os, w' = Sort.grow (w.drewN q) os
theorem Gr.refl (w : World) : Gr w w := ⟨0, #[], by simp [Sort.grow]; rfl⟩
theorem Gr.dn {w w' : World} (h : Dn w w') : Gr w w' := by obtain ⟨n, rfl⟩ := h; exact ⟨n, #[], by simp [Sort.grow]; rfl⟩
theorem Gr.trans {a b c : World} (h : Gr a b) (k : Gr b c) : Gr a c := by
  obtain ⟨q, os, rfl⟩ := h
  obtain ⟨r, ps, rfl⟩ := k
  refine ⟨q + r, os ++ ps, ?_⟩
  simp only [Sort.grow, World.drewN]
  simp [Array.append_assoc, Nat.add_assoc]
theorem Gr.alloc {a b : World} (h : Gr a b) (o : Obj) : Gr a (b.alloc o) := h.trans ⟨0, #[o], by rw [Sort.alloc_eq_grow]; rfl⟩
theorem Gr.below {w w' : World} (h : Gr w w') : Below w.heap.size w w' := by
  obtain ⟨q, os, rfl⟩ := h
  exact ⟨rfl, rfl, rfl, by simp [Sort.grow, World.drewN], fun k hk => by
    simp only [Sort.grow, World.drewN]; rw [Array.getElem?_append_left hk]⟩
/-- cmp.isNaN at uint64 -/
theorem isnan_any (a : Int) (w : World) : Calls Try.prog 56 #[.int .u64 a] w fun e w' => e = .returned (.bool false) ∧ w = w' := by
  go_enter Try.func56, Try.ntmps56
  go_wp2_with fail
  go_ret
  exact ⟨by simp, rfl⟩
/-- cmp.Compare at uint64 -/
theorem ucmp_any (a b : UInt64) (w : World) : Calls Try.prog 40 #[.int .u64 (a.toNat : Int), .int .u64 (b.toNat : Int)] w fun e w' => e = .returned (.int .i64 (cmpU a b)) ∧ w = w' := by
  have HI := Hid.mk' (isnan_any (a.toNat : Int) w)
  have HJ := Hid.mk' (isnan_any (b.toNat : Int) w)
  have HU : Hid (cmpU a b = if a.toNat < b.toNat then -1 else if b.toNat < a.toNat then 1 else 0) := rfl
  generalize cmpU a b = R at *
  generalize a.toNat = m at *
  generalize b.toNat = n at *
  by_cases h1 : m < n
  · have h1' : (m : Int) < (n : Int) := by omega
    have HR : Hid (R = -1) := by show _ = _; rw [HU.out, if_pos h1]
    clear HU
    go_enter Try.func40, Try.ntmps40
    go_wp2_with fail
    refine HI.out.mono ?_
    rintro e w1 ⟨rfl, rfl⟩
    go_wp2_with fail
    refine HJ.out.mono ?_
    rintro e w1 ⟨rfl, rfl⟩
    go_wp2_with fail
    go_ret
    exact ⟨by rw [HR.out] <;> rfl, rfl⟩
  · have h1' : ¬ (m : Int) < (n : Int) := by omega
    by_cases h2 : n < m
    · have h2' : (n : Int) < (m : Int) := by omega
      have HR : Hid (R = 1) := by show _ = _; rw [HU.out, if_neg h1, if_pos h2]
      clear HU
      go_enter Try.func40, Try.ntmps40
      go_wp2_with fail
      refine HI.out.mono ?_
      rintro e w1 ⟨rfl, rfl⟩
      go_wp2_with fail
      refine HJ.out.mono ?_
      rintro e w1 ⟨rfl, rfl⟩
      go_wp2_with fail
      go_ret
      exact ⟨by rw [HR.out] <;> rfl, rfl⟩
    · have h2' : ¬ (n : Int) < (m : Int) := by omega
      have HR : Hid (R = 0) := by show _ = _; rw [HU.out, if_neg h1, if_neg h2]
      clear HU
      go_enter Try.func40, Try.ntmps40
      go_wp2_with fail
      refine HI.out.mono ?_
      rintro e w1 ⟨rfl, rfl⟩
      go_wp2_with fail
      refine HJ.out.mono ?_
      rintro e w1 ⟨rfl, rfl⟩
      go_wp2_with fail
      go_ret
      exact ⟨by rw [HR.out] <;> rfl, rfl⟩
/-- the first that is not nought -/
def orL : List Int → Int
  | [] => 0
  | x :: r => if x ≠ 0 then x else orL r
/-- cmp.Or -/
theorem or_any {A : Nat → Prop} {w : World} {v : Value} {l : List Int} (h : Is A w v l) : Calls Try.prog 39 #[v] w fun e w' => e = .returned (.int .i64 (orL l)) ∧ w = w' := by
  obtain ⟨a, c, rfl, hc, _, H⟩ := h.at
  have H : Hid _ := H
  have hlim : l.length * 8 ≤ 140737488351232 := h.2.1
  have hl' : (l.length : Int) ≤ 140737488351232 := by omega
  have HX := Hid.mk' h.2.2
  clear h
  go_enter Try.func39, Try.ntmps39
  go_wp2_with fail
  go_loop [8] (fun i => ∃ k : Nat, k ≤ l.length ∧ i = .int .i64 k ∧ Hid (orL l = orL (l.drop k))) (fun i => l.length - (intOf i).toNat)
  case atStart => exact ⟨0, by omega, rfl, rfl⟩
  case round =>
    obtain ⟨k, hk, rfl, HF⟩ := hrel
    by_cases hlt : k < l.length
    · have hlt' : (k : Int) < (l.length : Int) := by omega
      obtain ⟨b', o, rfl, _, hu⟩ := H.out k hlt
      have HT : Hid (orL l = if l[k] ≠ 0 then l[k] else orL (l.drop (k + 1))) := by
        show _ = _
        rw [HF.out, List.drop_eq_getElem_cons hlt, orL]
      clear HF
      generalize l[k] = x at *
      by_cases hx : x = 0
      · have hx' : (x == 0) = true := by simpa using hx
        have HT2 : Hid (orL l = orL (l.drop (k + 1))) := by show _ = _; rw [HT.out, if_neg (by simpa using hx)]
        clear hx HT
        go_wp2_with fail
        go_round
        case rel => exact ⟨k + 1, by omega, by go_num, HT2⟩
        case measure => simp [intOf]; omega
      · have hx' : (x == 0) = false := by simpa using hx
        have HT2 : Hid (orL l = x) := by show _ = _; rw [HT.out, if_pos hx]
        clear hx HT
        go_wp2_with fail
        go_ret
        exact ⟨by rw [HT2.out] <;> rfl, rfl⟩
    · obtain rfl : k = l.length := by omega
      have HL2 : Hid (orL l = 0) := by have := HF.out; rw [List.drop_length] at this; exact this
      go_wp2_with fail
      go_ret
      exact ⟨by rw [HL2.out] <;> rfl, rfl⟩
theorem or_three (x y z : Int) : orL [x, y, z] = if x ≠ 0 then x else if y ≠ 0 then y else z := by
  simp only [orL]
  split
  · rfl
  · split
    · rfl
    · split <;> simp_all
theorem three_is {w : World} {e : TypeId} (x y z : Int) (hx : -1 ≤ x ∧ x ≤ 1) (hy : -1 ≤ y ∧ y ≤ 1) (hz : -1 ≤ z ∧ z ≤ 1) : Is (fun _ => True) (w.alloc (.cells #[.int .i64 x, .int .i64 y, .int .i64 z] e)) (.slice (some ⟨w.heap.size, 0, none⟩) 3 3) [x, y, z] := by
  refine ⟨⟨rfl, _, _, rfl, Nat.le_refl _, by simp, fun j u hj => ⟨_, _, rfl, trivial, ?_⟩⟩, by unfold lim; simp, fun t ht => ?_⟩
  · match j, hj with
    | 0, hj => simp [iv] at hj; subst hj; simp
    | 1, hj => simp [iv] at hj; subst hj; simp
    | 2, hj => simp [iv] at hj; subst hj; simp
  · simp only [List.mem_cons, List.not_mem_nil, or_false] at ht
    rcases ht with rfl | rfl | rfl <;> omega
theorem exec_three {w : World} {o : Oper} {a : Act} {x y z : Operand} {i j k : Int} (ho : o.op = .buildSlice 87 3 #[(0, x), (1, y), (2, z)]) (hx : a.eval x = .int .i64 i) (hy : a.eval y = .int .i64 j) (hz : a.eval z = .int .i64 k) :
    (execOp a.eval o).run Try.prog w = .ok (.value (.slice (some ⟨w.heap.size, 0, none⟩) 3 3)) (w.alloc (.cells #[.int .i64 i, .int .i64 j, .int .i64 k] 3)) := by
  unfold execOp
  simp only [ho, List.map_toArray, List.map_cons, List.map_nil, hx, hy, hz]
  simp [go_sem]
theorem box3 {w : World} {b : Nat} {c0 c1 c2 : Value} {e : TypeId} (h : w.heap[b]? = some (.cells #[c0, c1, c2] e (0, 0))) : w.cell? ⟨b, 0, none⟩ = some c0 ∧ w.cell? ⟨b, 1, none⟩ = some c1 ∧ w.cell? ⟨b, 2, none⟩ = some c2 := by
  refine ⟨?_, ?_, ?_⟩ <;> simp only [World.cell?, h] <;> rfl
set_option maxRecDepth 100000 in
set_option maxHeartbeats 2000000 in
/-- lock.Compare -/
theorem tcompare_gr (x y : Tx) (w : World) : Calls Try.prog 13 #[tv x, tv y] w fun e w' => e = .returned (.int .i64 (tcmp x y)) ∧ Gr w w' := by
  obtain ⟨a, b, c⟩ := x
  obtain ⟨a', b', c'⟩ := y
  have HT : Hid (tcmp (a, b, c) (a', b', c') = if cmpU a a' ≠ 0 then cmpU a a' else if cmpU b b' ≠ 0 then cmpU b b' else cmpU c c') := rfl
  have B1 := cmpU_bd a a'
  have B2 := cmpU_bd b b'
  have B3 := cmpU_bd c c'
  have C1 : Hid (∀ w : World, Calls Try.prog 40 #[.int .u64 (a.toNat : Int), .int .u64 (a'.toNat : Int)] w fun e w' => e = .returned (.int .i64 (cmpU a a')) ∧ w = w') := fun w => ucmp_any a a' w
  have C2 : Hid (∀ w : World, Calls Try.prog 40 #[.int .u64 (b.toNat : Int), .int .u64 (b'.toNat : Int)] w fun e w' => e = .returned (.int .i64 (cmpU b b')) ∧ w = w') := fun w => ucmp_any b b' w
  have C3 : Hid (∀ w : World, Calls Try.prog 40 #[.int .u64 (c.toNat : Int), .int .u64 (c'.toNat : Int)] w fun e w' => e = .returned (.int .i64 (cmpU c c')) ∧ w = w') := fun w => ucmp_any c c' w
  unfold tv tc
  simp only
  generalize tcmp (a, b, c) (a', b', c') = R at *
  generalize cmpU a a' = r1 at *
  generalize cmpU b b' = r2 at *
  generalize cmpU c c' = r3 at *
  generalize (a.toNat : Int) = n1 at *
  generalize (b.toNat : Int) = n2 at *
  generalize (c.toNat : Int) = n3 at *
  generalize (a'.toNat : Int) = m1 at *
  generalize (b'.toNat : Int) = m2 at *
  generalize (c'.toNat : Int) = m3 at *
  have HB := Hid.mk' (⟨B1, B2, B3⟩ : _ ∧ _ ∧ _)
  clear B1 B2 B3
  obtain ⟨W, hW⟩ : ∃ W, W = (w.alloc (.cells #[.int .u64 n1, .int .u64 n2, .int .u64 n3] 30)).alloc (.cells #[.int .u64 m1, .int .u64 m2, .int .u64 m3] 30) := ⟨_, rfl⟩
  have HBW : Hid (Gr w W) := by rw [hW]; exact ((Gr.refl w).alloc _).alloc _
  have h0 : W.heap[w.heap.size]? = some (.cells #[.int .u64 n1, .int .u64 n2, .int .u64 n3] 30 (0, 0)) := by
    rw [hW, (up_alloc (w.alloc (.cells #[.int .u64 n1, .int .u64 n2, .int .u64 n3] 30)) (.cells #[.int .u64 m1, .int .u64 m2, .int .u64 m3] 30)).block w.heap.size (by simp)]
    exact heap_alloc_new w _
  have h1 : W.heap[w.heap.size + 1]? = some (.cells #[.int .u64 m1, .int .u64 m2, .int .u64 m3] 30 (0, 0)) := by
    rw [hW]
    have := heap_alloc_new (w.alloc (.cells #[.int .u64 n1, .int .u64 n2, .int .u64 n3] 30)) (.cells #[.int .u64 m1, .int .u64 m2, .int .u64 m3] 30)
    rwa [World.size_alloc] at this
  go_enter Try.func13, Try.ntmps13
  go_wp2_with fail
  rw [← hW]
  clear hW
  obtain ⟨z0, z1, z2⟩ := box3 h0
  obtain ⟨y0, y1, y2⟩ := box3 h1
  have r0 : ∀ q : Kp (fun _ => False) W, q.nx.cell? ⟨w.heap.size, 0, none⟩ = some _ := fun q => q.cell z0 id
  have r1' : ∀ q : Kp (fun _ => False) W, q.nx.cell? ⟨w.heap.size, 1, none⟩ = some _ := fun q => q.cell z1 id
  have r2' : ∀ q : Kp (fun _ => False) W, q.nx.cell? ⟨w.heap.size, 2, none⟩ = some _ := fun q => q.cell z2 id
  have s0 : ∀ q : Kp (fun _ => False) W, q.nx.cell? ⟨w.heap.size + 1, 0, none⟩ = some _ := fun q => q.cell y0 id
  have s1 : ∀ q : Kp (fun _ => False) W, q.nx.cell? ⟨w.heap.size + 1, 1, none⟩ = some _ := fun q => q.cell y1 id
  have s2 : ∀ q : Kp (fun _ => False) W, q.nx.cell? ⟨w.heap.size + 1, 2, none⟩ = some _ := fun q => q.cell y2 id
  clear h0 h1 z0 z1 z2 y0 y1 y2
  refine wp_region_mix 18 (fun w' => ∃ q : Kp (fun _ => False) W, w' = q.nx) (by kernel_rfl) (by kernel_rfl) (kp_first _ W) ?_
  simp only [List.take_succ_cons, List.take_zero, List.drop_succ_cons, List.drop_zero]
  refine mx_take 4 rfl ?_
  simp only [List.take_succ_cons, List.take_zero, List.drop_succ_cons, List.drop_zero]
  repeat (go_big_quiet_step (fail))
  refine wpQuiet_nil ?_
  refine mx_call (vals := [.int .u64 n1, .int .u64 m1]) Try.func40 (by kernel_rfl) rfl rfl (by kernel_rfl) (by kernel_rfl) (C1.out _) (fun e wa ha => ?_)
  obtain ⟨rfl, rfl⟩ := ha
  refine ⟨_, rfl, kp_first _ W, ?_⟩
  simp only [Act.put, List.setIfInBounds_toArray, List.set_cons_succ, List.set_cons_zero]
  refine mx_take 4 rfl ?_
  simp only [List.take_succ_cons, List.take_zero, List.drop_succ_cons, List.drop_zero]
  repeat (go_big_quiet_step (fail))
  refine wpQuiet_nil ?_
  refine mx_call (vals := [.int .u64 n2, .int .u64 m2]) Try.func40 (by kernel_rfl) rfl rfl (by kernel_rfl) (by kernel_rfl) (C2.out _) (fun e wa ha => ?_)
  obtain ⟨rfl, rfl⟩ := ha
  refine ⟨_, rfl, kp_first _ W, ?_⟩
  simp only [Act.put, List.setIfInBounds_toArray, List.set_cons_succ, List.set_cons_zero]
  refine mx_take 4 rfl ?_
  simp only [List.take_succ_cons, List.take_zero, List.drop_succ_cons, List.drop_zero]
  repeat (go_big_quiet_step (fail))
  refine wpQuiet_nil ?_
  refine mx_call (vals := [.int .u64 n3, .int .u64 m3]) Try.func40 (by kernel_rfl) rfl rfl (by kernel_rfl) (by kernel_rfl) (C3.out _) (fun e wa ha => ?_)
  obtain ⟨rfl, rfl⟩ := ha
  refine ⟨_, rfl, kp_first _ W, ?_⟩
  simp only [Act.put, List.setIfInBounds_toArray, List.set_cons_succ, List.set_cons_zero]
  refine mx_make rfl (by kernel_rfl) (exec_three rfl rfl rfl rfl) (kp_mk (by simp) fun j hj _ => (up_alloc W.drew _).block j hj) ?_
  simp only [Act.put, List.setIfInBounds_toArray, List.set_cons_succ, List.set_cons_zero]
  refine mx_call (vals := [.slice (some ⟨W.drew.heap.size, 0, none⟩) 3 3]) Try.func39 (by kernel_rfl) rfl rfl (by kernel_rfl) (by kernel_rfl) (or_any (three_is r1 r2 r3 HB.out.1 HB.out.2.1 HB.out.2.2)) (fun e wa ha => ?_)
  obtain ⟨rfl, rfl⟩ := ha
  refine ⟨_, rfl, kp_mk (by simp) fun j hj _ => (up_alloc W.drew _).block j hj, ?_⟩
  simp only [Act.put, List.setIfInBounds_toArray, List.set_cons_succ, List.set_cons_zero]
  refine mx_take 1 rfl ?_
  simp only [List.take_succ_cons, List.take_zero, List.drop_succ_cons, List.drop_zero]
  repeat (go_big_quiet_step (fail))
  refine wpQuiet_nil ?_
  simp only [wpMix]
  have HF : Hid (Gr w (W.drew.alloc (.cells #[.int .i64 r1, .int .i64 r2, .int .i64 r3] 3))) := (HBW.out.trans (Gr.dn (Dn.refl W).drew)).alloc _
  have HO : Hid (orL [r1, r2, r3] = R) := by show _ = _; rw [or_three, HT.out]
  generalize orL [r1, r2, r3] = R2 at *
  generalize W.drew.alloc (.cells #[.int .i64 r1, .int .i64 r2, .int .i64 r3] 3) = W9 at *
  clear r0 r1' r2' s0 s1 s2
  go_wp2_with fail
  go_ret
  exact ⟨by rw [HO.out] <;> rfl, HF.out⟩
theorem tcompare_any (x y : Tx) (w : World) : Calls Try.prog 13 #[tv x, tv y] w fun e w' => e = .returned (.int .i64 (tcmp x y)) ∧ Below w.heap.size w w' := (tcompare_gr x y w).mono fun e w' ⟨h1, h2⟩ => ⟨h1, h2.below⟩
set_option maxRecDepth 100000 in
/-- groyneref11.Before -/
theorem before_any (x y : Tx) (w : World) : Calls Try.prog 14 #[tv x, tv y] w fun e w' => e = .returned (.bool (tltB x y)) ∧ Below w.heap.size w w' := by
  obtain ⟨a, b, c⟩ := x
  obtain ⟨a', b', c'⟩ := y
  have HT : Hid (tltB (a, b, c) (a', b', c') = if a.toNat ≠ a'.toNat then decide ((a.toNat : Int) < (a'.toNat : Int)) else if b.toNat ≠ b'.toNat then decide ((b.toNat : Int) < (b'.toNat : Int)) else decide ((c.toNat : Int) < (c'.toNat : Int))) := by
    show _ = _
    unfold tltB
    simp only [ne_eq, u64_ne, Int.ofNat_lt]
  unfold tv tc
  simp only
  generalize tltB (a, b, c) (a', b', c') = R at *
  generalize a.toNat = n1 at *
  generalize b.toNat = n2 at *
  generalize c.toNat = n3 at *
  generalize a'.toNat = m1 at *
  generalize b'.toNat = m2 at *
  generalize c'.toNat = m3 at *
  have HB := Hid.mk' (bt (up_alloc w (.cells #[.int .u64 (n1 : Int), .int .u64 (n2 : Int), .int .u64 (n3 : Int)] 30)) (up_alloc _ (.cells #[.int .u64 (m1 : Int), .int .u64 (m2 : Int), .int .u64 (m3 : Int)] 30)))
  by_cases h1 : n1 = m1
  · have h1' : ((n1 : Int) == (m1 : Int)) = true := by rw [beq_iff_eq, h1]
    by_cases h2 : n2 = m2
    · have h2' : ((n2 : Int) == (m2 : Int)) = true := by rw [beq_iff_eq, h2]
      have HR : Hid (R = decide ((n3 : Int) < (m3 : Int))) := by show _ = _; rw [HT.out, if_neg (show ¬ (n1 ≠ m1) from fun h => h h1), if_neg (show ¬ (n2 ≠ m2) from fun h => h h2)]
      clear HT h1 h2
      generalize (n1 : Int) = i1 at *
      generalize (n2 : Int) = i2 at *
      generalize (n3 : Int) = i3 at *
      generalize (m1 : Int) = j1 at *
      generalize (m2 : Int) = j2 at *
      generalize (m3 : Int) = j3 at *
      go_enter Try.func14, Try.ntmps14
      go_wp2_with fail
      go_ret
      exact ⟨by rw [HR.out] <;> rfl, HB.out⟩
    · have h2' : ((n2 : Int) == (m2 : Int)) = false := by rw [beq_eq_false_iff_ne]; omega
      have HR : Hid (R = decide ((n2 : Int) < (m2 : Int))) := by show _ = _; rw [HT.out, if_neg (show ¬ (n1 ≠ m1) from fun h => h h1), if_pos h2]
      clear HT h1 h2
      generalize (n1 : Int) = i1 at *
      generalize (n2 : Int) = i2 at *
      generalize (n3 : Int) = i3 at *
      generalize (m1 : Int) = j1 at *
      generalize (m2 : Int) = j2 at *
      generalize (m3 : Int) = j3 at *
      go_enter Try.func14, Try.ntmps14
      go_wp2_with fail
      go_ret
      exact ⟨by rw [HR.out] <;> rfl, HB.out⟩
  · have h1' : ((n1 : Int) == (m1 : Int)) = false := by rw [beq_eq_false_iff_ne]; omega
    have HR : Hid (R = decide ((n1 : Int) < (m1 : Int))) := by show _ = _; rw [HT.out, if_pos h1]
    clear HT h1
    generalize (n1 : Int) = i1 at *
    generalize (n2 : Int) = i2 at *
    generalize (n3 : Int) = i3 at *
    generalize (m1 : Int) = j1 at *
    generalize (m2 : Int) = j2 at *
    generalize (m3 : Int) = j3 at *
    go_enter Try.func14, Try.ntmps14
    go_wp2_with fail
    go_ret
    exact ⟨by rw [HR.out] <;> rfl, HB.out⟩
end Go.Proofs.Yteejlmeinndlhaa
