/- pack: plain numbers; Take. -/
import Derived.Test.YtojgkjpmphfakaaGreatDoorGM
import Derived.Test.YtojgkjpmphfakaaGreatDoorProg
set_option linter.unusedVariables false
set_option linter.unusedSimpArgs false
namespace Go.Proofs.YtojgkjpmphfakaaGreatDoor
open Go.RowKit
attribute [local go_sem ↓] Go.wp_at_zero Go.wp_at_succ
/-- bytes as a number, the greatest first -/
def vl : Nat → List UInt8 → Nat
  | n, [] => n
  | n, c :: r => vl (n * 256 + c.toNat) r
theorem vl_app : ∀ (l m : List UInt8) (n : Nat), vl n (l ++ m) = vl (vl n l) m
  | [], m, n => rfl
  | c :: r, m, n => vl_app r m _
theorem vl_take {l : List UInt8} {k : Nat} (h : k < l.length) (n : Nat) : vl n (l.take (k + 1)) = vl n (l.take k) * 256 + l[k].toNat := by
  rw [List.take_succ_eq_append_getElem h, vl_app]; rfl
theorem vl_lt : ∀ (l : List UInt8) (n k : Nat), n < 256 ^ k → vl n l < 256 ^ (k + l.length)
  | [], n, k, h => h
  | c :: r, n, k, h => by
    have hc := c.toNat_lt
    have := vl_lt r (n * 256 + c.toNat) (k + 1) (by rw [Nat.pow_succ]; omega)
    rw [List.length_cons, show k + (r.length + 1) = k + 1 + r.length by omega]
    exact this
/-- the number at a place: its value, the place behind it, the error -/
def tkP (l : List UInt8) (a : Nat) : Nat × Nat × Int :=
  if l.length < a then (0, 0, 1) else if l.length = a then (0, 0, 5) else
  if (l.getD a 0).toNat ≤ 247 then ((l.getD a 0).toNat, a + 1, 0) else if l.length - a - 1 < (l.getD a 0).toNat - 247 then (0, 0, 5) else
  if vl 0 ((l.drop (a + 1)).take ((l.getD a 0).toNat - 247)) ≤ 247 ∨ l.getD (a + 1) 0 = 0 then (0, 0, 3) else
  (vl 0 ((l.drop (a + 1)).take ((l.getD a 0).toNat - 247)), a + 1 + ((l.getD a 0).toNat - 247), 0)
def tkV (r : Nat × Nat × Int) : Value := .tuple #[.int .u64 (r.1 : Int), .int .i64 (r.2.1 : Int), .int .i64 r.2.2]
theorem or256 (n m k : Nat) (hn : n < 256 ^ k) (hk : k < 8) (hm : m < 256) : bits BinOp.or .u64 (IntKind.u64.wrap ((n : Int) * 256)) (m : Int) = ((n * 256 + m : Nat) : Int) := by
  have h1 : 256 ^ k ≤ 256 ^ 7 := Nat.pow_le_pow_right (by decide) (by omega)
  have h2 : n < 72057594037927936 := Nat.lt_of_lt_of_le hn h1
  rw [IntKind.wrap_u64, show ((n : Int) * 256) % 18446744073709551616 = ((n * 256 : Nat) : Int) from by omega, bits_or_u64_nat _ _ (by omega) (by omega)]
  have := Nat.two_pow_add_eq_or_of_lt (i := 8) (show m < 2 ^ 8 from hm) n
  rw [show n * 256 = 2 ^ 8 * n from by omega, ← this]
theorem Tryz.size69 (w : World) : (sizeOf (Tryz.prog.elem 69)).run Tryz.prog w = .ok 1 w := by kernel_rfl
theorem s69_lh (w : World) (b o n c l h : Nat) (h0 : l < h) (h1 : h ≤ n) (h2 : n ≤ c) : (Instr.slice 69 (.slice (some ⟨b, o, none⟩) n c) (some (.int .i64 (l : Int))) (some (.int .i64 (h : Int))) none).run Tryz.prog w = .ok (.slice (some ⟨b, o + l, none⟩) (h - l) (c - l)) w := by
  rw [run_slice_lh w 69 _ n c (by kernel_rfl) .i64 .i64 (l : Int) (h : Int) (by omega) (by omega) (by omega), Tryz.size69]
  simp only [Result.andThen, Int.toNat_natCast, Go.sliced]
  rw [if_neg (by omega), Option.map_some, Nat.mul_one, addr_add]
set_option maxRecDepth 100000 in
set_option maxHeartbeats 2000000 in
/-- Take -/
theorem take_any {A : Nat → Prop} {w : World} {v : Value} {l : List UInt8} (h : Bs A w v l) (at' : Nat) (ha : at' ≤ lim) : Calls Tryz.prog 65 #[v, .int .i64 at'] w fun e w' => e = .returned (tkV (tkP l at')) ∧ w = w' := by
  obtain ⟨a, c, rfl, hc, hn, H⟩ := h.at
  have hl : (l.length : Int) ≤ 140737488351232 := by have := h.2; unfold lim at this; omega
  have ha' : (at' : Int) ≤ 140737488351232 := by unfold lim at ha; omega
  have HH := Hid.mk' H
  have HR := Hid.mk' h.1
  have HF : Hid (tkP l at' = if l.length < at' then (0, 0, 1) else if l.length = at' then (0, 0, 5) else
    if (l.getD at' 0).toNat ≤ 247 then ((l.getD at' 0).toNat, at' + 1, 0) else if l.length - at' - 1 < (l.getD at' 0).toNat - 247 then (0, 0, 5) else
    if vl 0 ((l.drop (at' + 1)).take ((l.getD at' 0).toNat - 247)) ≤ 247 ∨ l.getD (at' + 1) 0 = 0 then (0, 0, 3) else
    (vl 0 ((l.drop (at' + 1)).take ((l.getD at' 0).toNat - 247)), at' + 1 + ((l.getD at' 0).toNat - 247), 0)) := rfl
  clear h H hn ha
  generalize tkP l at' = rr at *
  have h0 : ¬ (at' : Int) < 0 := by omega
  by_cases h1 : l.length < at'
  · have h1' : (l.length : Int) < (at' : Int) := by omega
    have HF2 : Hid (rr = (0, 0, 1)) := by show _ = _; rw [HF.out, if_pos h1]
    clear HF h1
    go_enter Tryz.func65, Tryz.ntmps65
    go_wp2_with fail
    (try simp only [Exit.inBlock, Exit.then])
    refine bodyPost_ret (v := .tuple #[.int .u64 0, .int .i64 0, .int .i64 1]) (by simp [results, Tryz.results65, go_sem]) rfl ?_
    rw [HF2.out]
    exact ⟨rfl, rfl⟩
  have h1' : ¬ (l.length : Int) < (at' : Int) := by omega
  by_cases h2 : l.length = at'
  · have HF2 : Hid (rr = (0, 0, 5)) := by show _ = _; rw [HF.out, if_neg h1, if_pos h2]
    have h2' : ((at' : Int) == (l.length : Int)) = true := by rw [beq_iff_eq]; omega
    clear HF h1 h2
    go_enter Tryz.func65, Tryz.ntmps65
    go_wp2_with fail
    (try simp only [Exit.inBlock, Exit.then])
    refine bodyPost_ret (v := .tuple #[.int .u64 0, .int .i64 0, .int .i64 5]) (by simp [results, Tryz.results65, go_sem]) rfl ?_
    rw [HF2.out]
    exact ⟨rfl, rfl⟩
  have h2' : ((at' : Int) == (l.length : Int)) = false := by rw [beq_eq_false_iff_ne]; omega
  have hlt : at' < l.length := by omega
  have hlt' : (at' : Int) < (l.length : Int) := by omega
  obtain ⟨b, o, rfl, _, c0⟩ := HH.out at' hlt
  have HG : Hid (l.getD at' 0 = l[at']) := by show _ = _; simp [List.getD, hlt]
  have HF1 : Hid (rr = if l[at'].toNat ≤ 247 then (l[at'].toNat, at' + 1, 0) else if l.length - at' - 1 < l[at'].toNat - 247 then (0, 0, 5) else
    if vl 0 ((l.drop (at' + 1)).take (l[at'].toNat - 247)) ≤ 247 ∨ l.getD (at' + 1) 0 = 0 then (0, 0, 3) else
    (vl 0 ((l.drop (at' + 1)).take (l[at'].toNat - 247)), at' + 1 + (l[at'].toNat - 247), 0)) := by show _ = _; rw [HF.out, if_neg h1, if_neg h2, HG.out]
  clear HF h1 h2 HG
  have hx := l[at'].toNat_lt
  generalize l[at'].toNat = x at *
  by_cases h3 : x ≤ 247
  · have h3' : (x : Int) ≤ 247 := by omega
    have HF2 : Hid (rr = (x, at' + 1, 0)) := by show _ = _; rw [HF1.out, if_pos h3]
    have hw : IntKind.i64.wrap ((at' : Int) + 1) = (at' : Int) + 1 := by rw [IntKind.wrap_i64]; omega
    have hu : IntKind.u64.wrap (x : Int) = (x : Int) := by rw [IntKind.wrap_u64]; omega
    clear HF1 h3
    go_enter Tryz.func65, Tryz.ntmps65
    go_wp2_with fail
    (try simp only [Exit.inBlock, Exit.then])
    refine bodyPost_ret (v := .tuple #[.int .u64 x, .int .i64 ((at' : Int) + 1), .int .i64 0]) (by simp [results, Tryz.results65, go_sem]) rfl ?_
    rw [HF2.out]
    exact ⟨rfl, rfl⟩
  have h3' : ¬ (x : Int) ≤ 247 := by omega
  obtain ⟨k, rfl⟩ : ∃ k, x = 247 + k := ⟨x - 247, by omega⟩
  have HF2 : Hid (rr = if l.length - at' - 1 < k then (0, 0, 5) else if vl 0 ((l.drop (at' + 1)).take k) ≤ 247 ∨ l.getD (at' + 1) 0 = 0 then (0, 0, 3) else (vl 0 ((l.drop (at' + 1)).take k), at' + 1 + k, 0)) := by
    show _ = _; rw [HF1.out, if_neg h3, Nat.add_sub_cancel_left]
  have hk8 : k ≤ 8 := by omega
  have hk0 : 0 < k := by omega
  have c0 : w.cell? ⟨b, o + at', none⟩ = some (.int .u8 (247 + (k : Int))) := by rw [c0]; congr 2
  have h3' : ¬ (247 + (k : Int)) ≤ 247 := by omega
  have hw0 : IntKind.i64.wrap (247 + (k : Int)) = 247 + (k : Int) := by rw [IntKind.wrap_i64]; omega
  have hw1 : IntKind.i64.wrap (247 + (k : Int) - 247) = (k : Int) := by rw [IntKind.wrap_i64]; omega
  have hw2 : IntKind.i64.wrap ((l.length : Int) - (at' : Int)) = (l.length : Int) - (at' : Int) := by rw [IntKind.wrap_i64]; omega
  have hw3 : IntKind.i64.wrap ((l.length : Int) - (at' : Int) - 1) = (l.length : Int) - (at' : Int) - 1 := by rw [IntKind.wrap_i64]; omega
  have hw4 : IntKind.i64.wrap ((at' : Int) + 1) = (at' : Int) + 1 := by rw [IntKind.wrap_i64]; omega
  clear HF1 h3 hx
  by_cases h4 : l.length - at' - 1 < k
  · have h4' : (l.length : Int) - (at' : Int) - 1 < (k : Int) := by omega
    have HF3 : Hid (rr = (0, 0, 5)) := by show _ = _; rw [HF2.out, if_pos h4]
    clear HF2 h4
    go_enter Tryz.func65, Tryz.ntmps65
    go_wp2_with fail
    (try simp only [Exit.inBlock, Exit.then])
    refine bodyPost_ret (v := .tuple #[.int .u64 0, .int .i64 0, .int .i64 5]) (by simp [results, Tryz.results65, go_sem]) rfl ?_
    rw [HF3.out]
    exact ⟨rfl, rfl⟩
  have h4' : ¬ (l.length : Int) - (at' : Int) - 1 < (k : Int) := by omega
  have HF3 : Hid (rr = if vl 0 ((l.drop (at' + 1)).take k) ≤ 247 ∨ l.getD (at' + 1) 0 = 0 then (0, 0, 3) else (vl 0 ((l.drop (at' + 1)).take k), at' + 1 + k, 0)) := by show _ = _; rw [HF2.out, if_neg h4]
  have hle : at' + 1 + k ≤ l.length := by omega
  have hw5 : IntKind.i64.wrap ((at' : Int) + 1 + (k : Int)) = (at' : Int) + 1 + (k : Int) := by rw [IntKind.wrap_i64]; omega
  have S1 : ∀ w, (Instr.slice 69 (.slice (some ⟨b, o, none⟩) l.length c) (some (.int .i64 ((at' : Int) + 1))) (some (.int .i64 ((at' : Int) + 1 + (k : Int)))) none).run Tryz.prog w = .ok (.slice (some ⟨b, o + (at' + 1), none⟩) k (c - (at' + 1))) w := fun w => by
    have h := s69_lh w b o l.length c (at' + 1) (at' + 1 + k) (by omega) hle hc
    rw [Nat.add_sub_cancel_left] at h
    exact h
  have hml : ((l.drop (at' + 1)).take k).length = k := by rw [List.length_take, List.length_drop]; omega
  have HML := Hid.mk' hml
  have hk8' : (k : Int) ≤ 8 := by omega
  have HMC : Hid (∀ j (hj : j < k), w.cell? ⟨b, o + (at' + 1) + j, none⟩ = some (.int .u8 ((((l.drop (at' + 1)).take k)[j]'(by rw [HML.out]; exact hj)).toNat : Int))) := fun j hj => by
    obtain ⟨b', o', e, _, h⟩ := HH.out (at' + 1 + j) (by omega)
    cases e
    rw [Nat.add_assoc, h, List.getElem_take, List.getElem_drop]
  have hlt1 : at' + 1 < l.length := by clear hml HML HMC; omega
  obtain ⟨b', o', e, _, c1⟩ := HH.out (at' + 1) hlt1
  cases e
  have HG1 : Hid (l.getD (at' + 1) 0 = l[at' + 1]) := by show _ = _; simp [List.getD, hlt1]
  have hlt1' : (at' : Int) + 1 < (l.length : Int) := by omega
  have HY : Hid (l[at' + 1] = 0 ↔ l[at' + 1].toNat = 0) := by show _ ↔ _; rw [← UInt8.toNat_inj]; rfl
  have HW : Hid (w = w) := rfl
  clear HF2 h4 hml hle
  generalize (l.drop (at' + 1)).take k = m at *
  go_enter Tryz.func65, Tryz.ntmps65
  go_wp2_with fail
  clear S1 h4' hw2 hw3
  go_loopw [9, 53] (fun n i wr => ∃ (j z : Nat), j ≤ k ∧ i = .int .i64 j ∧ n = .int .u64 z ∧ Hid (z = vl 0 (m.take j)) ∧ w = wr) (fun _ i _ => k - (intOf i).toNat)
  case atStart => exact ⟨0, 0, by omega, rfl, rfl, rfl, rfl⟩
  case round =>
    obtain ⟨j, z, hj, rfl, rfl, HZ, rfl⟩ := hrel
    by_cases hlj : j < k
    · have hlj' : (j : Int) < (k : Int) := by omega
      have d0 := HMC.out j hlj
      have hjm : j < m.length := by rw [HML.out]; exact hlj
      have hb := (m[j]'hjm).toNat_lt
      have hz := vl_lt (m.take j) 0 0 (by decide)
      rw [List.length_take, Nat.min_eq_left (by omega), Nat.zero_add, ← HZ.out] at hz
      have hor := or256 z (m[j]'hjm).toNat j hz (by omega) hb
      have HS : Hid (z * 256 + (m[j]'hjm).toNat = vl 0 (m.take (j + 1))) := by show _ = _; rw [vl_take hjm, ← HZ.out]
      have hu : IntKind.u64.wrap ((m[j]'hjm).toNat : Int) = ((m[j]'hjm).toNat : Int) := by rw [IntKind.wrap_u64]; omega
      clear hz hb
      generalize (m[j]'hjm).toNat = y at *
      go_wp2_with fail
      go_roundw
      case rel => exact ⟨j + 1, z * 256 + y, by omega, by go_num, by go_num, HS, by first | rfl | trivial⟩
      case measure => simp [intOf]; omega
    · obtain rfl : j = k := by omega
      have HZ2 : Hid (z = vl 0 m) := by have := HZ.out; rwa [List.take_of_length_le (Nat.le_of_eq HML.out)] at this
      by_cases h5 : z ≤ 247
      · have h5' : (z : Int) ≤ 247 := by omega
        have HF4 : Hid (rr = (0, 0, 3)) := by show _ = _; rw [HF3.out, if_pos (.inl (by rw [← HZ2.out]; exact h5))]
        clear h5
        go_wp2_with fail
        (try simp only [Exit.inBlock, Exit.then])
        refine bodyPost_ret (v := .tuple #[.int .u64 0, .int .i64 0, .int .i64 3]) (by simp [results, Tryz.results65, go_sem]) rfl ?_
        rw [HF4.out]
        exact ⟨rfl, rfl⟩
      have h5' : ¬ (z : Int) ≤ 247 := by omega
      have hyl := l[at' + 1].toNat_lt
      by_cases h6 : l[at' + 1].toNat = 0
      · have HF4 : Hid (rr = (0, 0, 3)) := by show _ = _; rw [HF3.out, if_pos (.inr (by rw [HG1.out]; exact HY.out.2 h6))]
        rw [h6] at c1
        clear h5 h6 hyl
        go_wp2_with fail
        (try simp only [Exit.inBlock, Exit.then])
        refine bodyPost_ret (v := .tuple #[.int .u64 0, .int .i64 0, .int .i64 3]) (by simp [results, Tryz.results65, go_sem]) rfl ?_
        rw [HF4.out]
        exact ⟨rfl, rfl⟩
      · have h6' : ((l[at' + 1].toNat : Int) == 0) = false := by rw [beq_eq_false_iff_ne]; omega
        have HF4 : Hid (rr = (z, at' + 1 + j, 0)) := by
          show _ = _
          rw [HF3.out, if_neg (by rw [HG1.out, HY.out, ← HZ2.out]; omega), ← HZ2.out]
        clear h5 h6 hyl
        generalize l[at' + 1].toNat = y at *
        go_wp2_with fail
        (try simp only [Exit.inBlock, Exit.then])
        refine bodyPost_ret (v := .tuple #[.int .u64 z, .int .i64 ((at' : Int) + 1 + (j : Int)), .int .i64 0]) (by simp [results, Tryz.results65, go_sem]) rfl ?_
        rw [HF4.out]
        exact ⟨rfl, rfl⟩
end Go.Proofs.YtojgkjpmphfakaaGreatDoor
