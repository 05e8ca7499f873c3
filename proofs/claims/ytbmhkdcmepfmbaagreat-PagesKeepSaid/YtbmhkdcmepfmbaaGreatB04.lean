/- pack: plain numbers; Take. pack.Number. pack.Writer: Num, Text; Join. pack.Writer.Text; pack.Join. pack.Join. -/
import Derived.Test.YtbmhkdcmepfmbaaGreatB03
import Derived.Test.YtbmhkdcmepfmbaaGreatProg
import Derived.Deep.CutBlock
set_option linter.unusedVariables false
set_option linter.unusedSimpArgs false
namespace Go.Proofs.YtbmhkdcmepfmbaaGreat
open Go.RowKit
attribute [local go_sem ↓] Go.wp_at_zero Go.wp_at_succ
/-- bytes as a number, the greatest first -/
def vl : Nat → List UInt8 → Nat
  | n, [] => n
  | n, c :: r => vl (n * 256 + c.toNat) r
theorem vl_app : ∀ (l m : List UInt8) (n : Nat), vl n (l ++ m) = vl (vl n l) m
  | [], m, n => rfl
  | c :: r, m, n => vl_app r m _
theorem vl_take {l : List UInt8} {k : Nat} (h : k < l.length) (n : Nat) : vl n (l.take (k + 1)) = vl n (l.take k) * 256 + l[k].toNat := by
  rw [List.take_succ_eq_append_getElem h, vl_app]; rfl
theorem vl_lt : ∀ (l : List UInt8) (n k : Nat), n < 256 ^ k → vl n l < 256 ^ (k + l.length)
  | [], n, k, h => h
  | c :: r, n, k, h => by
    have hc := c.toNat_lt
    have := vl_lt r (n * 256 + c.toNat) (k + 1) (by rw [Nat.pow_succ]; omega)
    rw [List.length_cons, show k + (r.length + 1) = k + 1 + r.length by omega]
    exact this
/-- the number at a place: its value, the place behind it, the error -/
def tkP (l : List UInt8) (a : Nat) : Nat × Nat × Int :=
  if l.length < a then (0, 0, 1) else if l.length = a then (0, 0, 5) else
  if (l.getD a 0).toNat ≤ 247 then ((l.getD a 0).toNat, a + 1, 0) else if l.length - a - 1 < (l.getD a 0).toNat - 247 then (0, 0, 5) else
  if vl 0 ((l.drop (a + 1)).take ((l.getD a 0).toNat - 247)) ≤ 247 ∨ l.getD (a + 1) 0 = 0 then (0, 0, 3) else
  (vl 0 ((l.drop (a + 1)).take ((l.getD a 0).toNat - 247)), a + 1 + ((l.getD a 0).toNat - 247), 0)
def tkV (r : Nat × Nat × Int) : Value := .tuple #[.int .u64 (r.1 : Int), .int .i64 (r.2.1 : Int), .int .i64 r.2.2]
theorem or256 (n m k : Nat) (hn : n < 256 ^ k) (hk : k < 8) (hm : m < 256) : bits BinOp.or .u64 (IntKind.u64.wrap ((n : Int) * 256)) (m : Int) = ((n * 256 + m : Nat) : Int) := by
  have h1 : 256 ^ k ≤ 256 ^ 7 := Nat.pow_le_pow_right (by decide) (by omega)
  have h2 : n < 72057594037927936 := Nat.lt_of_lt_of_le hn h1
  rw [IntKind.wrap_u64, show ((n : Int) * 256) % 18446744073709551616 = ((n * 256 : Nat) : Int) from by omega, bits_or_u64_nat _ _ (by omega) (by omega)]
  have := Nat.two_pow_add_eq_or_of_lt (i := 8) (show m < 2 ^ 8 from hm) n
  rw [show n * 256 = 2 ^ 8 * n from by omega, ← this]
theorem Tryz.size22 (w : World) : (sizeOf (Tryz.prog.elem 22)).run Tryz.prog w = .ok 1 w := by kernel_rfl
theorem s69_lh (w : World) (b o n c l h : Nat) (h0 : l < h) (h1 : h ≤ n) (h2 : n ≤ c) : (Instr.slice 22 (.slice (some ⟨b, o, none⟩) n c) (some (.int .i64 (l : Int))) (some (.int .i64 (h : Int))) none).run Tryz.prog w = .ok (.slice (some ⟨b, o + l, none⟩) (h - l) (c - l)) w := by
  rw [run_slice_lh w 22 _ n c (by kernel_rfl) .i64 .i64 (l : Int) (h : Int) (by omega) (by omega) (by omega), Tryz.size22]
  simp only [Result.andThen, Int.toNat_natCast, Go.sliced]
  rw [if_neg (by omega), Option.map_some, Nat.mul_one, addr_add]
set_option maxRecDepth 100000 in
set_option maxHeartbeats 2000000 in
/-- Take -/
theorem take_any {A : Nat → Prop} {w : World} {v : Value} {l : List UInt8} (h : Bs A w v l) (at' : Nat) (ha : at' ≤ lim) : Calls Tryz.prog 60 #[v, .int .i64 at'] w fun e w' => e = .returned (tkV (tkP l at')) ∧ w = w' := by
  obtain ⟨a, c, rfl, hc, hn, H⟩ := h.at
  have hl : (l.length : Int) ≤ 140737488351232 := by have := h.2; unfold lim at this; omega
  have ha' : (at' : Int) ≤ 140737488351232 := by unfold lim at ha; omega
  have HH := Hid.mk' H
  have HR := Hid.mk' h.1
  have HF : Hid (tkP l at' = if l.length < at' then (0, 0, 1) else if l.length = at' then (0, 0, 5) else
    if (l.getD at' 0).toNat ≤ 247 then ((l.getD at' 0).toNat, at' + 1, 0) else if l.length - at' - 1 < (l.getD at' 0).toNat - 247 then (0, 0, 5) else
    if vl 0 ((l.drop (at' + 1)).take ((l.getD at' 0).toNat - 247)) ≤ 247 ∨ l.getD (at' + 1) 0 = 0 then (0, 0, 3) else
    (vl 0 ((l.drop (at' + 1)).take ((l.getD at' 0).toNat - 247)), at' + 1 + ((l.getD at' 0).toNat - 247), 0)) := rfl
  clear h H hn ha
  generalize tkP l at' = rr at *
  have h0 : ¬ (at' : Int) < 0 := by omega
  by_cases h1 : l.length < at'
  · have h1' : (l.length : Int) < (at' : Int) := by omega
    have HF2 : Hid (rr = (0, 0, 1)) := by show _ = _; rw [HF.out, if_pos h1]
    clear HF h1
    go_enter Tryz.func60, Tryz.ntmps60
    go_wp2_with fail
    (try simp only [Exit.inBlock, Exit.then])
    refine bodyPost_ret (v := .tuple #[.int .u64 0, .int .i64 0, .int .i64 1]) (by simp [results, Tryz.results60, go_sem]) rfl ?_
    rw [HF2.out]
    exact ⟨rfl, rfl⟩
  have h1' : ¬ (l.length : Int) < (at' : Int) := by omega
  by_cases h2 : l.length = at'
  · have HF2 : Hid (rr = (0, 0, 5)) := by show _ = _; rw [HF.out, if_neg h1, if_pos h2]
    have h2' : ((at' : Int) == (l.length : Int)) = true := by rw [beq_iff_eq]; omega
    clear HF h1 h2
    go_enter Tryz.func60, Tryz.ntmps60
    go_wp2_with fail
    (try simp only [Exit.inBlock, Exit.then])
    refine bodyPost_ret (v := .tuple #[.int .u64 0, .int .i64 0, .int .i64 5]) (by simp [results, Tryz.results60, go_sem]) rfl ?_
    rw [HF2.out]
    exact ⟨rfl, rfl⟩
  have h2' : ((at' : Int) == (l.length : Int)) = false := by rw [beq_eq_false_iff_ne]; omega
  have hlt : at' < l.length := by omega
  have hlt' : (at' : Int) < (l.length : Int) := by omega
  obtain ⟨b, o, rfl, _, c0⟩ := HH.out at' hlt
  have HG : Hid (l.getD at' 0 = l[at']) := by show _ = _; simp [List.getD, hlt]
  have HF1 : Hid (rr = if l[at'].toNat ≤ 247 then (l[at'].toNat, at' + 1, 0) else if l.length - at' - 1 < l[at'].toNat - 247 then (0, 0, 5) else
    if vl 0 ((l.drop (at' + 1)).take (l[at'].toNat - 247)) ≤ 247 ∨ l.getD (at' + 1) 0 = 0 then (0, 0, 3) else
    (vl 0 ((l.drop (at' + 1)).take (l[at'].toNat - 247)), at' + 1 + (l[at'].toNat - 247), 0)) := by show _ = _; rw [HF.out, if_neg h1, if_neg h2, HG.out]
  clear HF h1 h2 HG
  have hx := l[at'].toNat_lt
  generalize l[at'].toNat = x at *
  by_cases h3 : x ≤ 247
  · have h3' : (x : Int) ≤ 247 := by omega
    have HF2 : Hid (rr = (x, at' + 1, 0)) := by show _ = _; rw [HF1.out, if_pos h3]
    have hw : IntKind.i64.wrap ((at' : Int) + 1) = (at' : Int) + 1 := by rw [IntKind.wrap_i64]; omega
    have hu : IntKind.u64.wrap (x : Int) = (x : Int) := by rw [IntKind.wrap_u64]; omega
    clear HF1 h3
    go_enter Tryz.func60, Tryz.ntmps60
    go_wp2_with fail
    (try simp only [Exit.inBlock, Exit.then])
    refine bodyPost_ret (v := .tuple #[.int .u64 x, .int .i64 ((at' : Int) + 1), .int .i64 0]) (by simp [results, Tryz.results60, go_sem]) rfl ?_
    rw [HF2.out]
    exact ⟨rfl, rfl⟩
  have h3' : ¬ (x : Int) ≤ 247 := by omega
  obtain ⟨k, rfl⟩ : ∃ k, x = 247 + k := ⟨x - 247, by omega⟩
  have HF2 : Hid (rr = if l.length - at' - 1 < k then (0, 0, 5) else if vl 0 ((l.drop (at' + 1)).take k) ≤ 247 ∨ l.getD (at' + 1) 0 = 0 then (0, 0, 3) else (vl 0 ((l.drop (at' + 1)).take k), at' + 1 + k, 0)) := by
    show _ = _; rw [HF1.out, if_neg h3, Nat.add_sub_cancel_left]
  have hk8 : k ≤ 8 := by omega
  have hk0 : 0 < k := by omega
  have c0 : w.cell? ⟨b, o + at', none⟩ = some (.int .u8 (247 + (k : Int))) := by rw [c0]; congr 2
  have h3' : ¬ (247 + (k : Int)) ≤ 247 := by omega
  have hw0 : IntKind.i64.wrap (247 + (k : Int)) = 247 + (k : Int) := by rw [IntKind.wrap_i64]; omega
  have hw1 : IntKind.i64.wrap (247 + (k : Int) - 247) = (k : Int) := by rw [IntKind.wrap_i64]; omega
  have hw2 : IntKind.i64.wrap ((l.length : Int) - (at' : Int)) = (l.length : Int) - (at' : Int) := by rw [IntKind.wrap_i64]; omega
  have hw3 : IntKind.i64.wrap ((l.length : Int) - (at' : Int) - 1) = (l.length : Int) - (at' : Int) - 1 := by rw [IntKind.wrap_i64]; omega
  have hw4 : IntKind.i64.wrap ((at' : Int) + 1) = (at' : Int) + 1 := by rw [IntKind.wrap_i64]; omega
  clear HF1 h3 hx
  by_cases h4 : l.length - at' - 1 < k
  · have h4' : (l.length : Int) - (at' : Int) - 1 < (k : Int) := by omega
    have HF3 : Hid (rr = (0, 0, 5)) := by show _ = _; rw [HF2.out, if_pos h4]
    clear HF2 h4
    go_enter Tryz.func60, Tryz.ntmps60
    go_wp2_with fail
    (try simp only [Exit.inBlock, Exit.then])
    refine bodyPost_ret (v := .tuple #[.int .u64 0, .int .i64 0, .int .i64 5]) (by simp [results, Tryz.results60, go_sem]) rfl ?_
    rw [HF3.out]
    exact ⟨rfl, rfl⟩
  have h4' : ¬ (l.length : Int) - (at' : Int) - 1 < (k : Int) := by omega
  have HF3 : Hid (rr = if vl 0 ((l.drop (at' + 1)).take k) ≤ 247 ∨ l.getD (at' + 1) 0 = 0 then (0, 0, 3) else (vl 0 ((l.drop (at' + 1)).take k), at' + 1 + k, 0)) := by show _ = _; rw [HF2.out, if_neg h4]
  have hle : at' + 1 + k ≤ l.length := by omega
  have hw5 : IntKind.i64.wrap ((at' : Int) + 1 + (k : Int)) = (at' : Int) + 1 + (k : Int) := by rw [IntKind.wrap_i64]; omega
  have S1 : ∀ w, (Instr.slice 22 (.slice (some ⟨b, o, none⟩) l.length c) (some (.int .i64 ((at' : Int) + 1))) (some (.int .i64 ((at' : Int) + 1 + (k : Int)))) none).run Tryz.prog w = .ok (.slice (some ⟨b, o + (at' + 1), none⟩) k (c - (at' + 1))) w := fun w => by
    have h := s69_lh w b o l.length c (at' + 1) (at' + 1 + k) (by omega) hle hc
    rw [Nat.add_sub_cancel_left] at h
    exact h
  have hml : ((l.drop (at' + 1)).take k).length = k := by rw [List.length_take, List.length_drop]; omega
  have HML := Hid.mk' hml
  have hk8' : (k : Int) ≤ 8 := by omega
  have HMC : Hid (∀ j (hj : j < k), w.cell? ⟨b, o + (at' + 1) + j, none⟩ = some (.int .u8 ((((l.drop (at' + 1)).take k)[j]'(by rw [HML.out]; exact hj)).toNat : Int))) := fun j hj => by
    obtain ⟨b', o', e, _, h⟩ := HH.out (at' + 1 + j) (by omega)
    cases e
    rw [Nat.add_assoc, h, List.getElem_take, List.getElem_drop]
  have hlt1 : at' + 1 < l.length := by clear hml HML HMC; omega
  obtain ⟨b', o', e, _, c1⟩ := HH.out (at' + 1) hlt1
  cases e
  have HG1 : Hid (l.getD (at' + 1) 0 = l[at' + 1]) := by show _ = _; simp [List.getD, hlt1]
  have hlt1' : (at' : Int) + 1 < (l.length : Int) := by omega
  have HY : Hid (l[at' + 1] = 0 ↔ l[at' + 1].toNat = 0) := by show _ ↔ _; rw [← UInt8.toNat_inj]; rfl
  have HW : Hid (w = w) := rfl
  clear HF2 h4 hml hle
  generalize (l.drop (at' + 1)).take k = m at *
  go_enter Tryz.func60, Tryz.ntmps60
  go_wp2_with fail
  clear S1 h4' hw2 hw3
  go_loopw [9, 53] (fun n i wr => ∃ (j z : Nat), j ≤ k ∧ i = .int .i64 j ∧ n = .int .u64 z ∧ Hid (z = vl 0 (m.take j)) ∧ w = wr) (fun _ i _ => k - (intOf i).toNat)
  case atStart => exact ⟨0, 0, by omega, rfl, rfl, rfl, rfl⟩
  case round =>
    obtain ⟨j, z, hj, rfl, rfl, HZ, rfl⟩ := hrel
    by_cases hlj : j < k
    · have hlj' : (j : Int) < (k : Int) := by omega
      have d0 := HMC.out j hlj
      have hjm : j < m.length := by rw [HML.out]; exact hlj
      have hb := (m[j]'hjm).toNat_lt
      have hz := vl_lt (m.take j) 0 0 (by decide)
      rw [List.length_take, Nat.min_eq_left (by omega), Nat.zero_add, ← HZ.out] at hz
      have hor := or256 z (m[j]'hjm).toNat j hz (by omega) hb
      have HS : Hid (z * 256 + (m[j]'hjm).toNat = vl 0 (m.take (j + 1))) := by show _ = _; rw [vl_take hjm, ← HZ.out]
      have hu : IntKind.u64.wrap ((m[j]'hjm).toNat : Int) = ((m[j]'hjm).toNat : Int) := by rw [IntKind.wrap_u64]; omega
      clear hz hb
      generalize (m[j]'hjm).toNat = y at *
      go_wp2_with fail
      go_roundw
      case rel => exact ⟨j + 1, z * 256 + y, by omega, by go_num, by go_num, HS, by first | rfl | trivial⟩
      case measure => simp [intOf]; omega
    · obtain rfl : j = k := by omega
      have HZ2 : Hid (z = vl 0 m) := by have := HZ.out; rwa [List.take_of_length_le (Nat.le_of_eq HML.out)] at this
      by_cases h5 : z ≤ 247
      · have h5' : (z : Int) ≤ 247 := by omega
        have HF4 : Hid (rr = (0, 0, 3)) := by show _ = _; rw [HF3.out, if_pos (.inl (by rw [← HZ2.out]; exact h5))]
        clear h5
        go_wp2_with fail
        (try simp only [Exit.inBlock, Exit.then])
        refine bodyPost_ret (v := .tuple #[.int .u64 0, .int .i64 0, .int .i64 3]) (by simp [results, Tryz.results60, go_sem]) rfl ?_
        rw [HF4.out]
        exact ⟨rfl, rfl⟩
      have h5' : ¬ (z : Int) ≤ 247 := by omega
      have hyl := l[at' + 1].toNat_lt
      by_cases h6 : l[at' + 1].toNat = 0
      · have HF4 : Hid (rr = (0, 0, 3)) := by show _ = _; rw [HF3.out, if_pos (.inr (by rw [HG1.out]; exact HY.out.2 h6))]
        rw [h6] at c1
        clear h5 h6 hyl
        go_wp2_with fail
        (try simp only [Exit.inBlock, Exit.then])
        refine bodyPost_ret (v := .tuple #[.int .u64 0, .int .i64 0, .int .i64 3]) (by simp [results, Tryz.results60, go_sem]) rfl ?_
        rw [HF4.out]
        exact ⟨rfl, rfl⟩
      · have h6' : ((l[at' + 1].toNat : Int) == 0) = false := by rw [beq_eq_false_iff_ne]; omega
        have HF4 : Hid (rr = (z, at' + 1 + j, 0)) := by
          show _ = _
          rw [HF3.out, if_neg (by rw [HG1.out, HY.out, ← HZ2.out]; omega), ← HZ2.out]
        clear h5 h6 hyl
        generalize l[at' + 1].toNat = y at *
        go_wp2_with fail
        (try simp only [Exit.inBlock, Exit.then])
        refine bodyPost_ret (v := .tuple #[.int .u64 z, .int .i64 ((at' : Int) + 1 + (j : Int)), .int .i64 0]) (by simp [results, Tryz.results60, go_sem]) rfl ?_
        rw [HF4.out]
        exact ⟨rfl, rfl⟩
end Go.Proofs.YtbmhkdcmepfmbaaGreat
set_option linter.unusedVariables false
set_option linter.unusedSimpArgs false
namespace Go.Proofs.YtbmhkdcmepfmbaaGreat
open Go.RowKit
attribute [local go_sem ↓] Go.wp_at_zero Go.wp_at_succ
/-- a number's bytes, the greatest first, no more than it has -/
def be (n : Nat) : List UInt8 := if h : n = 0 then [] else be (n / 256) ++ [UInt8.ofNat (n % 256)]
termination_by n
decreasing_by omega
theorem be_zero : be 0 = [] := by unfold be; simp
theorem be_pos {n : Nat} (h : n ≠ 0) : be n = be (n / 256) ++ [UInt8.ofNat (n % 256)] := by rw [be, dif_neg h]
def nm (n : Nat) : List UInt8 := if n ≤ 247 then [UInt8.ofNat n] else UInt8.ofNat (247 + (be n).length) :: be n
def nms (l : List Nat) : List UInt8 := (l.map nm).flatten
theorem nms_take {l : List Nat} {k : Nat} (h : k < l.length) : nms (l.take (k + 1)) = nms (l.take k) ++ nm l[k] := by
  unfold nms
  rw [List.take_succ_eq_append_getElem h, List.map_append, List.flatten_append]
  simp
def uv (l : List Nat) : List Value := l.map fun n : Nat => Value.int .u64 (n : Int)
/-- v reads as the numbers l -/
def Us (A : Nat → Prop) (w : World) (v : Value) (l : List Nat) : Prop := Row 1 A w v l.length (uv l) ∧ (∀ n ∈ l, n < 18446744073709551616) ∧ l.length * 8 ≤ lim
theorem Us.up {A : Nat → Prop} {w w' : World} {v : Value} {l : List Nat} (h : Us A w v l) (hb : Below w.heap.size w w') : Us A w' v l := ⟨h.1.up hb, h.2⟩
theorem Us.monoS {A A' : Nat → Prop} {w : World} {v : Value} {l : List Nat} (h : Us A w v l) (hA : ∀ b, A b → A' b) : Us A' w v l := ⟨h.1.monoS hA, h.2⟩
theorem Us.at {A : Nat → Prop} {w : World} {v : Value} {l : List Nat} (h : Us A w v l) : ∃ (a : Option Addr) (c : Nat), v = .slice a l.length c ∧ l.length ≤ c ∧ (a = none → c = 0) ∧
    ∀ j (hj : j < l.length), ∃ b o, a = some ⟨b, o, none⟩ ∧ A b ∧ w.cell? ⟨b, o + j, none⟩ = some (.int .u64 (l[j] : Int)) := by
  obtain ⟨⟨hl, a, c, hv, hc, ha, H⟩, _⟩ := h
  exact ⟨a, c, hv, hc, ha, fun j hj => by obtain ⟨b, o, h1, h2, h3⟩ := H j (.int .u64 (l[j] : Int)) (by simp [uv, hj]); exact ⟨b, o, h1, h2, h3⟩⟩
theorem Tryz.info5 : (Tryz.prog.info? 5).map (fun i => (i.zero, i.size, i.bytes)) = some (some (.int .u8 0), 1, 1) := by kernel_rfl
theorem Row.wb {sz n : Nat} {D X : Nat → Prop} {w w' : World} {v : Value} {vs : List Value} (h : Row sz D w v n vs) (hw : Wb X w w') (hX : ∀ k, X k → ¬ D k) : Row sz D w' v n vs := by
  obtain ⟨hl, a, c, rfl, hc, ha, H⟩ := h
  refine ⟨hl, a, c, rfl, hc, ha, fun j u hj => ?_⟩
  obtain ⟨b, o, ha, hB, hu⟩ := H j u hj
  refine ⟨b, o, ha, hB, ?_⟩
  have hlt := World.block_lt_of_cell? w ⟨b, o + j, none⟩ hu
  exact (World.cell?_of_block (w := w) (a := ⟨b, o + j, none⟩) (hw.block b hlt fun e => hX b e hB)).trans hu
theorem Tryz.len101 : Tryz.prog.arrayLen 157 = 8 := by kernel_rfl
theorem Tryz.size157 (w : World) : (sizeOf (Tryz.prog.elem 157)).run Tryz.prog w = .ok 1 w := by kernel_rfl
theorem s101_l (w : World) (g a d : Nat) (h : a < 8) (hd : d = 8 - a) : (Instr.sliceAt 157 (.pointer (some ⟨g, 0, none⟩)) (some (.int .i64 (a : Int))) none none).run Tryz.prog w = .ok (.slice (some ⟨g, a, none⟩) d d) w := by
  have h1 := run_sliceAt_array_l (P := Tryz.prog) w 157 ⟨g, 0, none⟩ (by kernel_rfl) .i64 (a : Int) (by omega) (by rw [Tryz.len101]; omega)
  rw [h1, Tryz.size157, Tryz.len101]
  simp only [Result.andThen, slicedAt, Int.toNat_natCast]
  rw [if_neg (by omega), Nat.mul_one, addr_add, Nat.zero_add, hd]
theorem arr_row {w : World} {g a d : Nat} {cs : List UInt8} {e : TypeId} (h : w.heap[g]? = some (.cells (bv cs).toArray e (0, 0))) (hd : (cs.drop a).length = d) : Row 1 (fun k => k = g) w (.slice (some ⟨g, a, none⟩) d d) d (bv (cs.drop a)) := by
  refine ⟨by simp [← hd], _, _, rfl, Nat.le_refl _, by simp, fun j u hj => ⟨g, a, rfl, rfl, ?_⟩⟩
  have hj : (bv cs)[a + j]? = some u := by
    rw [← hj]; simp [bv]
  simp only [World.cell?, h]
  simpa using hj
set_option maxRecDepth 100000 in
set_option maxHeartbeats 4000000 in
/-- Number -/
theorem pnum_any {A : Nat → Prop} {w : World} {v : Value} {l : List Nat} (h : Us A w v l) (hn : l.length ≤ 1000000) : Calls Tryz.prog 70 #[v] w fun e w' => ∃ v', e = .returned v' ∧ Ob 5 w.heap.size w' v' (nms l) ∧ Below w.heap.size w w' := by
  obtain ⟨a, c, rfl, hc, _, H⟩ := h.at
  have HH := Hid.mk' H
  have HBD := Hid.mk' h.2.1
  have hl : (l.length : Int) ≤ 1000000 := by omega
  have HO0 : Hid (Ob 5 w.heap.size w (.slice none 0 0) (nms (l.take 0))) := ob_nil
  have HR0 : Hid (Below w.heap.size w w) := Below.refl _ _
  have HL0 : Hid ((nms (l.take 0)).length ≤ 9 * 0) := Nat.le_refl _
  clear h H
  go_enter Tryz.func70, Tryz.ntmps70
  go_wp2_with fail
  go_loopw [3, 11] (fun y i wr => ∃ (k n : Nat) (oa : Option Addr) (oc : Nat), k ≤ l.length ∧ i = .int .i64 k ∧ y = .slice oa n oc ∧ Hid (n = (nms (l.take k)).length) ∧ Hid (Ob 5 w.heap.size wr (.slice oa n oc) (nms (l.take k))) ∧ Hid (n ≤ 9 * k) ∧ Hid (Below w.heap.size w wr)) (fun _ i _ => l.length - (intOf i).toNat)
  case atStart => exact ⟨0, 0, none, 0, by omega, rfl, rfl, rfl, HO0, HL0, HR0⟩
  case round =>
    clear HO0 HR0 HL0
    obtain ⟨k, n, oa, oc, hk, rfl, rfl, HNL, HO, HL, HB⟩ := hrel
    rename World => wk
    by_cases hlt : k < l.length
    case neg =>
      obtain rfl : k = l.length := by omega
      go_wp2_with fail
      go_ret
      exact ⟨_, rfl, by have := HO.out; rwa [List.take_length] at this, HB.out⟩
    have hlt' : (k : Int) < (l.length : Int) := by omega
    obtain ⟨b, o, rfl, _, c0⟩ := HH.out k hlt
    have c0 := (World.cell?_of_block (w := w) (a := ⟨b, o + k, none⟩) (HB.out.block b (World.block_lt_of_cell? w ⟨b, o + k, none⟩ c0))).trans c0
    have hz := HBD.out l[k] (List.getElem_mem hlt)
    have HTK := Hid.mk' (nms_take hlt)
    generalize l[k] = z at *
    have HZ := Hid.mk' hz
    by_cases h1 : z ≤ 247
    · have h1' : (z : Int) ≤ 247 := by omega
      have hu : IntKind.u8.wrap (z : Int) = (z : Int) := by rw [IntKind.wrap_u8]; omega
      have HNM : Hid (nms (l.take (k + 1)) = nms (l.take k) ++ [UInt8.ofNat z]) := by show _ = _; rw [HTK.out, nm, if_pos h1]
      have HU : Hid ((UInt8.ofNat z).toNat = z) := by show _ = _; rw [UInt8.toNat_ofNat']; omega
      have HO5 := Hid.mk' (own_keep HO.out (up_alloc wk (.cells #[.int .u8 (z : Int)] 5)) (Nat.le_refl _))
      clear h1 hz
      go_wp2_with (at_builtin; go_must (refine wpl_app rfl (.tmp 17) (.tmp 20) 22 rfl Tryz.underlying22 Tryz.info5 rfl (by decide) rfl HO5.out rfl row_one (by intro u hu; simp only [List.mem_cons, List.not_mem_nil, or_false] at hu; subst hu; rfl) (by have := HL.out; have := HNL.out; unfold maxLen; omega) (by have := HL.out; have := HNL.out; omega) (Nat.le_trans HB.out.size (up_alloc wk _).size) ?_); intro v6 w6 ho hg hn2 hbb)
      have hup := up_alloc wk (.cells #[.int .u8 (z : Int)] 5)
      have e1 := HB.out.size
      have e2 := hup.size
      have HB6 : Hid (Below w.heap.size w w6) := below_app (HB.out.trans (hup.mono e1)) HO5.out hg (Nat.le_refl _) (by omega)
      have HL6 : Hid ((nms (l.take k)).length + 1 = (nms (l.take (k + 1))).length) := by show _ = _; rw [HNM.out, List.length_append]; rfl
      have HO6 : Hid (Ob 5 w.heap.size w6 v6 (nms (l.take (k + 1)))) := by
        unfold Hid Ob
        rw [← HL6.out, HNM.out, show bv (nms (l.take k) ++ [UInt8.ofNat z]) = bv (nms (l.take k)) ++ [.int .u8 (z : Int)] by simp [bv, HU.out]]
        exact ho
      have HLN : Hid ((nms (l.take (k + 1))).length ≤ 9 * (k + 1)) := by have := HL.out; have := HNL.out; show _ ≤ _; rw [← HL6.out]; omega
      obtain ⟨a6, c6, e6⟩ := own_slice ho
      have E6 : Hid (v6 = .slice a6 (nms (l.take (k + 1))).length c6) := by show _ = _; rw [← HL6.out]; exact e6
      rw [E6.out] at HO6
      clear ho hg hn2 hbb hup e1 e2 e6
      go_roundw
      case rel => exact ⟨k + 1, _, a6, c6, by omega, by go_num, E6.out, rfl, HO6, HLN, HB6⟩
      case measure => simp [intOf]; omega
    have h1' : ¬ (z : Int) ≤ 247 := by omega
    have HNM : Hid (nms (l.take (k + 1)) = nms (l.take k) ++ (UInt8.ofNat (247 + (be z).length) :: be z)) := by show _ = _; rw [HTK.out, nm, if_neg h1]
    obtain ⟨W, hW⟩ : ∃ W, W = wk.alloc (.cells #[.int .u8 0, .int .u8 0, .int .u8 0, .int .u8 0, .int .u8 0, .int .u8 0, .int .u8 0, .int .u8 0] 157) := ⟨_, rfl⟩
    have HE : Hid (W.heap[wk.heap.size]? = some (.cells (bv (List.replicate 8 0)).toArray 157 (0, 0))) := by rw [hW]; exact heap_alloc_new _ _
    have HBW : Hid (Below wk.heap.size wk W) := by rw [hW]; exact up_alloc _ _
    clear HTK h1 hz
    go_upto_block 2 with fail
    rw [← hW]
    clear hW c0
    obtain ⟨g, hg⟩ : ∃ n, n = wk.heap.size := ⟨_, rfl⟩
    rw [← hg] at HE ⊢
    have HGK : Hid (g = wk.heap.size) := hg
    clear hg
    go_cut [5, 7] (fun m t wx => ∃ (a : Nat) (cs : List UInt8), t = .int .i64 a ∧ a ≤ 8 ∧ Hid (cs.length = 8) ∧ Hid (wx.heap[g]? = some (.cells (bv cs).toArray 157 (0, 0))) ∧ Hid (be z = cs.drop a) ∧ Hid (Below wk.heap.size wk wx))
    case first =>
      rename World => W
      have HI0 : Hid ((List.replicate 8 (0 : UInt8)).length = 8) := rfl
      have HB0 : Hid (be z = be z ++ (List.replicate 8 (0 : UInt8)).drop 8) := by show _ = _; simp
      have HM0 : Hid (z < 256 ^ 8) := HZ.out
      have hz := HZ.out
      go_wp2_with fail
      go_loopw [5, 7] (fun m t wx => ∃ (n0 a : Nat) (cs : List UInt8), m = .int .u64 n0 ∧ t = .int .i64 a ∧ a ≤ 8 ∧ n0 < 18446744073709551616 ∧ Hid (n0 < 256 ^ a) ∧ Hid (cs.length = 8) ∧ Hid (wx.heap[g]? = some (.cells (bv cs).toArray 157 (0, 0))) ∧ Hid (be z = be n0 ++ cs.drop a) ∧ Hid (Below wk.heap.size wk wx)) (fun m _ _ => (intOf m).toNat)
      case atStart => exact ⟨z, 8, _, rfl, rfl, by omega, hz, HM0, HI0, HE, HB0, HBW⟩
      case round =>
        clear HI0 HB0 HM0 hz HE HBW
        obtain ⟨n0, a, cs, rfl, rfl, ha, hn0, HM, HI, HE, HBE, HBW⟩ := hrel
        by_cases h0 : n0 = 0
        · subst h0
          have HBE2 : Hid (be z = cs.drop a) := by show _ = _; rw [HBE.out, be_zero]; rfl
          go_wp2_with fail
          go_meet
          exact ⟨a, cs, rfl, ha, HI, HE, HBE2, HBW⟩
        have h0' : (0 : Int) < (n0 : Int) := by omega
        obtain ⟨a', rfl⟩ : ∃ a', a = a' + 1 := by
          cases a with
          | zero => have := HM.out; omega
          | succ a => exact ⟨a, rfl⟩
        have ha8 : (a' : Int) < 8 := by omega
        have hacs : a' < cs.length := by rw [HI.out]; omega
        have hw : IntKind.i64.wrap ((a' : Int) + 1 - 1) = (a' : Int) := by rw [IntKind.wrap_i64]; omega
        have hv : IntKind.u8.wrap (n0 : Int) = ((n0 % 256 : Nat) : Int) := by rw [IntKind.wrap_u8]; omega
        have c1 : wr.cell? ⟨g, a', none⟩ = some (.int .u8 ((cs[a']'hacs).toNat : Int)) := by
          simp only [World.cell?, HE.out]
          simp [bv, hacs]
        have f1 : wr.frozen? ⟨g, a', none⟩ = false := by simp [World.frozen?, HE.out]
        generalize (cs[a']'hacs).toNat = old at *
        have hw7 := Wb.set (X := fun k => k = g) wr g a' (.int .u8 ((n0 : Int) % 256)) rfl
        have HX : Hid ((UInt8.ofNat (n0 % 256)).toNat = n0 % 256) := by show _ = _; rw [UInt8.toNat_ofNat']; omega
        have HE2 : Hid ((wr.setCell ⟨g, a', none⟩ (.int .u8 ((n0 : Int) % 256))).heap[g]? = some (.cells (bv (cs.set a' (UInt8.ofNat (n0 % 256)))).toArray 157 (0, 0))) := by
          have h := heap_setCell_same wr g a' _ 157 (.int .u8 ((n0 : Int) % 256)) HE.out
          have e : (bv (cs.set a' (UInt8.ofNat (n0 % 256)))).toArray = (bv cs).toArray.setIfInBounds a' (.int .u8 ((n0 : Int) % 256)) := by
            simp only [bv, List.map_set, HX.out, List.setIfInBounds_toArray]
            rfl
          rw [e]
          exact h
        have HI2 : Hid ((cs.set a' (UInt8.ofNat (n0 % 256))).length = 8) := by show _ = _; rw [List.length_set]; exact HI.out
        have HM2 : Hid (n0 / 256 < 256 ^ a') := by have := HM.out; rw [Nat.pow_succ] at this; exact Nat.div_lt_of_lt_mul (by omega)
        have HB2 : Hid (be z = be (n0 / 256) ++ (cs.set a' (UInt8.ofNat (n0 % 256))).drop a') := by
          show _ = _
          rw [HBE.out, be_pos h0, List.append_assoc, show (cs.set a' (UInt8.ofNat (n0 % 256))).drop a' = UInt8.ofNat (n0 % 256) :: cs.drop (a' + 1) by rw [List.drop_eq_getElem_cons (by rw [List.length_set]; exact hacs), List.getElem_set_self, List.drop_set_of_lt (by omega)]]
          rfl
        have HW2 : Hid (Below wk.heap.size wk (wr.setCell ⟨g, a', none⟩ (.int .u8 ((n0 : Int) % 256)))) := HBW.out.trans (hw7.below HBW.out.size fun k hk => by subst hk; exact Nat.le_of_eq HGK.out.symm)
        clear hw7
        go_wp2_with fail
        go_roundw
        case rel => exact ⟨n0 / 256, a', _, by first | rfl | (congr 1; omega), rfl, by omega, by omega, HM2, HI2, HE2, HB2, HW2⟩
        case measure => simp [intOf]; omega
    case rest =>
    obtain ⟨a, cs, rfl, ha, HI, HE, HBE, HBW⟩ := hcut
    rename World => wm
    have hbz : (be z).length ≠ 0 := by
      rw [be_pos (show z ≠ 0 by omega), List.length_append]
      simp
    have hdl : (be z).length = 8 - a := by rw [HBE.out, List.length_drop, HI.out]
    obtain ⟨d, hd⟩ : ∃ d, d = 8 - a := ⟨_, rfl⟩
    have HDL : Hid ((be z).length = d) := by show _ = _; rw [hd]; exact hdl
    have ha8 : a < 8 := by omega
    have hd8 : (d : Int) ≤ 8 := by omega
    have S1 := fun w => s101_l w g a d ha8 hd
    have HRM : Hid (Row 1 (fun k => k = g) wm (.slice (some ⟨g, a, none⟩) d d) d (bv (be z))) := by
      have h := arr_row (a := a) (d := d) HE.out (by rw [← HBE.out]; exact HDL.out)
      rw [← HBE.out] at h
      exact h
    have hw1 : IntKind.i64.wrap (247 + (d : Int)) = 247 + (d : Int) := by rw [IntKind.wrap_i64]; omega
    have hw2 : IntKind.u8.wrap (247 + (d : Int)) = 247 + (d : Int) := by rw [IntKind.wrap_u8]; omega
    have HOL : Hid (∀ i, (Value.slice oa n oc).ownBlock = some i → i < g) := fun i hi => by rw [HGK.out]; exact (HO.out.lt i hi).2
    have HUP := Hid.mk' (up_alloc wm (.cells #[.int .u8 (247 + (d : Int))] 5))
    have HO5 := Hid.mk' (own_keep (own_keep HO.out HBW.out (Nat.le_refl _)) HUP.out (Nat.le_refl _))
    have HR6 : Hid (∀ w6, (wm.alloc (.cells #[.int .u8 (247 + (d : Int))] 5)).grownBy w6 (Value.slice oa n oc).ownBlock → Row 1 (fun k => k = g) w6 (.slice (some ⟨g, a, none⟩) d d) d (bv (be z))) := fun w6 hg => (HRM.out.up HUP.out).wb (Wb.of_grown hg) fun k hk hk2 => by
      have := HOL.out k hk.symm
      have hk2 : k = g := hk2
      omega
    have HBV : Hid (∀ u ∈ bv (be z), u.oneCell' = true) := fun u hu => by
      obtain ⟨x, _, rfl⟩ := List.mem_map.1 hu
      rfl
    have HBM := Hid.mk' (HB.out.trans ((bt HBW.out HUP.out).mono HB.out.size))
    have HXX : Hid ((UInt8.ofNat (247 + (be z).length)).toNat = 247 + d) := by show _ = _; rw [HDL.out, UInt8.toNat_ofNat']; omega
    clear hbz hdl hd
    go_wp2_with (first
      | (at_builtin; (refine wpl_app rfl (.tmp 34) (.tmp 39) 22 rfl Tryz.underlying22 Tryz.info5 rfl (by decide) rfl HO5.out rfl row_one (by intro u hu; simp only [List.mem_cons, List.not_mem_nil, or_false] at hu; subst hu; rfl) (by have := HL.out; have := HNL.out; unfold maxLen; omega) (by have := HL.out; have := HNL.out; omega) HBM.out.size ?_); intro v6 w6 ho hg1 hn2 hbb; have HO6 := Hid.mk' ho; have HR7 := Hid.mk' (HR6.out w6 hg1); have HB6 : Hid (Below w.heap.size w w6) := below_app HBM.out HO5.out hg1 (Nat.le_refl _) HBM.out.size; clear ho hg1 hn2 hbb)
      | (at_builtin; (refine wpl_app rfl (.tmp 40) (.tmp 41) 22 rfl Tryz.underlying22 Tryz.info5 rfl (by decide) rfl HO6.out rfl HR7.out HBV.out (by have := HL.out; have := HNL.out; unfold maxLen; omega) (by have := HL.out; have := HNL.out; omega) HB6.out.size ?_); intro v8 w8 ho hg1 hn2 hbb))
    have HB8 : Hid (Below w.heap.size w w8) := below_app HB6.out HO6.out hg1 (Nat.le_refl _) HB6.out.size
    have HL8 : Hid ((nms (l.take k)).length + 1 + d = (nms (l.take (k + 1))).length) := by show _ = _; rw [HNM.out, List.length_append, List.length_cons, HDL.out]; omega
    have HO8 : Hid (Ob 5 w.heap.size w8 v8 (nms (l.take (k + 1)))) := by
      unfold Hid Ob
      rw [← HL8.out, HNM.out, show bv (nms (l.take k) ++ (UInt8.ofNat (247 + (be z).length) :: be z)) = (bv (nms (l.take k)) ++ [.int .u8 (247 + (d : Int))]) ++ bv (be z) by simp only [bv, List.map_append, List.map_cons, List.map_nil, HXX.out, List.append_assoc, List.cons_append, List.nil_append]; rfl]
      exact ho
    have HLN : Hid ((nms (l.take (k + 1))).length ≤ 9 * (k + 1)) := by have := HL.out; have := HNL.out; show _ ≤ _; rw [← HL8.out]; omega
    obtain ⟨a8, c8, e8⟩ := own_slice ho
    have E8 : Hid (v8 = .slice a8 (nms (l.take (k + 1))).length c8) := by show _ = _; rw [← HL8.out]; exact e8
    rw [E8.out] at HO8
    clear ho hg1 hn2 hbb e8 S1
    go_roundw
    case rel => exact ⟨k + 1, _, a8, c8, by omega, by go_num, E8.out, rfl, HO8, HLN, HB8⟩
    case measure => simp [intOf]; omega
end Go.Proofs.YtbmhkdcmepfmbaaGreat
set_option linter.unusedVariables false
set_option linter.unusedSimpArgs false
namespace Go.Proofs.YtbmhkdcmepfmbaaGreat
open Go.RowKit
attribute [local go_sem ↓] Go.wp_at_zero Go.wp_at_succ
/-- a writer at block b: what was put -/
def Wrt (S0 : Nat) (w : World) (b : Nat) (l : List UInt8) : Prop := ∃ a c, w.heap[b]? = some (.cells #[.slice a l.length c] 125 (0, 0)) ∧ Ob 5 S0 w (.slice a l.length c) l ∧ b < S0 ∧ S0 ≤ w.heap.size
theorem Wrt.up {S0 b : Nat} {w w' : World} {l : List UInt8} (h : Wrt S0 w b l) (hb : Below w.heap.size w w') : Wrt S0 w' b l := by
  obtain ⟨a, c, h1, h2, h3, h4⟩ := h
  exact ⟨a, c, (hb.block b (by omega)).trans h1, own_keep h2 hb (Nat.le_refl _), h3, Nat.le_trans h4 hb.size⟩
theorem box1 {w : World} {b : Nat} {c0 : Value} {e : TypeId} (h : w.heap[b]? = some (.cells #[c0] e (0, 0))) : w.cell? ⟨b, 0, none⟩ = some c0 ∧ ∀ i, w.frozen? ⟨b, i, none⟩ = false := ⟨by simp [World.cell?, h], fun i => by simp [World.frozen?, h]⟩
set_option maxRecDepth 100000 in
set_option maxHeartbeats 2000000 in
/-- Writer.Num -/
theorem wnum_any {A : Nat → Prop} {S0 b : Nat} {w : World} {v : Value} {l : List UInt8} {ns : List Nat} (h : Wrt S0 w b l) (hv : Us A w v ns) (hn : ns.length ≤ 1000000) (hz : l.length + (nms ns).length ≤ 100000000) :
    Calls Tryz.prog 68 #[.pointer (some ⟨b, 0, none⟩), v] w fun e w' => e = .returned (.tuple #[]) ∧ Wrt S0 w' b (l ++ nms ns) ∧ Below b w w' := by
  obtain ⟨a, c, h1, h2, h3, h4⟩ := h
  obtain ⟨va, vc, rfl, _, _, _⟩ := hv.at
  obtain ⟨c0, f0⟩ := box1 h1
  have HN := Hid.mk' (pnum_any (hv.up (drew_blx w _)) hn)
  have HO := Hid.mk' h2
  have HE := Hid.mk' h1
  have HS : Hid (b < S0 ∧ S0 ≤ w.heap.size) := ⟨h3, h4⟩
  have s0 : ∀ q : Kp (fun k => S0 ≤ k) w, q.nx.cell? ⟨b, 0, none⟩ = some _ := fun q => q.cell c0 (by omega)
  have HZ := Hid.mk' hz
  have HLL : Hid (l.length + (nms ns).length = (l ++ nms ns).length) := (List.length_append ..).symm
  clear h1 h2 hv f0 hz
  go_enter Tryz.func68, Tryz.ntmps68
  go_upto_region 0 with fail
  refine wp_region_mox 8 (fun w' => ∃ q : Kp (fun k => S0 ≤ k) w, w' = q.nx) (by kernel_rfl) (by kernel_rfl) (kp_first _ w) ?_
  simp only [List.take_succ_cons, List.take_zero, List.drop_succ_cons, List.drop_zero]
  refine mx_take 6 rfl ?_
  simp only [List.take_succ_cons, List.take_zero, List.drop_succ_cons, List.drop_zero]
  repeat (go_big_quiet_step (fail))
  refine wpQuiet_nil ?_
  refine mx_call (vals := [.slice va ns.length vc]) Tryz.func70 (by kernel_rfl) rfl rfl (by kernel_rfl) (by kernel_rfl) HN.out (fun E wc hc => ?_)
  obtain ⟨v5, rfl, ho5, hbe5⟩ := hc
  have HB5 : Hid (Below w.heap.size w wc) := (drew_blx w _).trans hbe5
  refine ⟨_, rfl, kp_mk HB5.out.size fun b hb hx => HB5.out.block b hb, ?_⟩
  simp only [Act.put, List.setIfInBounds_toArray, List.set_cons_succ, List.set_cons_zero]
  have HO5 := Hid.mk' (own_keep HO.out HB5.out (Nat.le_refl _))
  have HR5 : Hid (Row 1 (fun k => w.drew.heap.size ≤ k) wc v5 (nms ns).length (bv (nms ns))) := Row.of_ownB ho5
  have HE5 : Hid (wc.heap[b]? = some (.cells #[.slice a l.length c] 125 (0, 0))) := (HB5.out.block b (by omega)).trans HE.out
  have HOL : Hid (∀ i, (Value.slice a l.length c).ownBlock = some i → S0 ≤ i) := fun i hi => (HO.out.lt i hi).1
  have hs5 := HB5.out.size
  obtain ⟨v6, w6, hrun, ho, hg, _, hbb⟩ := run_app (P := Tryz.prog) (w := wc) 22 22 Tryz.underlying22 Tryz.info5 rfl (by decide) HO5.out HR5.out (bv_one _) (by have := HZ.out; unfold maxLen; omega) (by have := HZ.out; omega) (by omega)
  have hsz6 := hg.size
  have HE6 : Hid (w6.heap[b]? = some (.cells #[.slice a l.length c] 125 (0, 0))) := (hg.block _ (by omega) (fun e => by have h1 := HOL.out _ e.symm; omega)).trans HE5.out
  have hkeep : ∀ k, k < w.heap.size → ¬ S0 ≤ k → w6.heap[k]? = w.heap[k]? := fun k hk hx => (hg.block _ (by omega) (fun e => by have h1 := HOL.out _ e.symm; omega)).trans (HB5.out.block k hk)
  have HB6 : Hid (Below b w w6) := below_app (HB5.out.mono (by omega)) HO5.out hg (by omega) (by omega)
  obtain ⟨a6, c6, e6⟩ := own_slice ho
  subst e6
  refine mx_app rfl rfl rfl (by kernel_rfl) hrun (kp_mk (by omega) hkeep) ?_
  simp only [Act.put, List.setIfInBounds_toArray, List.set_cons_succ, List.set_cons_zero]
  simp only [wpMix]
  obtain ⟨d0, f0⟩ := box1 HE6.out
  have f00 := f0 0
  have hw7 := Wb.set (X := fun k => k = b) w6 b 0 (.slice a6 (l.length + (nms ns).length) c6) rfl
  have HE7 : Hid ((w6.setCell ⟨b, 0, none⟩ (.slice a6 (l.length + (nms ns).length) c6)).heap[b]? = some (.cells #[.slice a6 (l ++ nms ns).length c6] 125 (0, 0))) := by
    rw [← HLL.out]
    exact heap_setCell_same w6 b 0 _ 125 _ HE6.out
  have HO7 : Hid (Ob 5 S0 (w6.setCell ⟨b, 0, none⟩ (.slice a6 (l.length + (nms ns).length) c6)) (.slice a6 (l ++ nms ns).length c6) (l ++ nms ns)) := by
    unfold Hid Ob
    rw [← HLL.out, show bv (l ++ nms ns) = bv l ++ bv (nms ns) by simp [bv]]
    refine own_wb ho hw7 fun k hk e => ?_
    subst hk
    have := (World.ownsRow.lt ho _ e.symm).1
    omega
  have HSZ : Hid (b < S0 ∧ S0 ≤ (w6.setCell ⟨b, 0, none⟩ (.slice a6 (l.length + (nms ns).length) c6)).heap.size) := ⟨h3, by rw [size_setCell]; omega⟩
  have HB7 : Hid (Below b w (w6.setCell ⟨b, 0, none⟩ (.slice a6 (l.length + (nms ns).length) c6))) := HB6.out.trans (hw7.below (by omega) fun k hk => by subst hk; exact Nat.le_refl _)
  clear s0 ho5 hbe5 HN c0 hrun ho hg hbb hsz6 hkeep hw7 f0 h3 h4 hs5
  go_wp2_with fail
  go_end0
  exact ⟨rfl, ⟨_, _, HE7.out, HO7.out, HSZ.out⟩, HB7.out⟩
end Go.Proofs.YtbmhkdcmepfmbaaGreat
set_option linter.unusedVariables false
set_option linter.unusedSimpArgs false
namespace Go.Proofs.YtbmhkdcmepfmbaaGreat
open Go.RowKit
attribute [local go_sem ↓] Go.wp_at_zero Go.wp_at_succ
/-- texts, each behind its length -/
def txt (l : List (List UInt8)) : List UInt8 := (l.map fun p => nm p.length ++ p).flatten
theorem txt_take {l : List (List UInt8)} {k : Nat} (h : k < l.length) : txt (l.take (k + 1)) = txt (l.take k) ++ (nm l[k].length ++ l[k]) := by
  unfold txt
  rw [List.take_succ_eq_append_getElem h, List.map_append, List.flatten_append]
  simp
theorem us_one {w : World} {n : Nat} (h : n < 18446744073709551616) : Us (Lt (w.heap.size + 1)) (w.alloc (.cells #[.int .u64 (n : Int)] 117)) (.slice (some ⟨w.heap.size, 0, none⟩) 1 1) [n] := ⟨row_one, fun m hm => by simp at hm; subst hm; exact h, by unfold lim; simp⟩
theorem nms_one (n : Nat) : nms [n] = nm n := by simp [nms]
theorem be_len : ∀ (k n : Nat), n < 256 ^ k → (be n).length ≤ k
  | 0, n, h => by
    obtain rfl : n = 0 := by simpa using h
    rw [be_zero]; simp
  | k + 1, n, h => by
    by_cases h0 : n = 0
    · subst h0; rw [be_zero]; simp
    · rw [be_pos h0, List.length_append, List.length_singleton]
      have := be_len k (n / 256) (by rw [Nat.pow_succ] at h; exact Nat.div_lt_of_lt_mul (by omega))
      omega
theorem nm_len {n : Nat} (h : n < 18446744073709551616) : (nm n).length ≤ 9 := by
  unfold nm
  split
  · simp
  · have := be_len 8 n h
    rw [List.length_cons]; omega
theorem txt_le (l : List (List UInt8)) (k : Nat) : (txt (l.take k)).length ≤ (txt l).length := by
  have h : txt l = txt (l.take k) ++ txt (l.drop k) := by
    unfold txt
    rw [← List.flatten_append, ← List.map_append, List.take_append_drop]
  rw [h, List.length_append]; omega
set_option maxRecDepth 100000 in
set_option maxHeartbeats 4000000 in
/-- Writer.Text -/
theorem wtext_any {A : Nat → Prop} {S0 b : Nat} {w : World} {v : Value} {l0 : List UInt8} {ls : List (List UInt8)} (h : Wrt S0 w b l0) (hv : Bss A w v ls) (hA : ∀ k, A k → k < b) (hz : l0.length + (txt ls).length ≤ 1000000) (hn : ls.length ≤ 100000) :
    Calls Tryz.prog 69 #[.pointer (some ⟨b, 0, none⟩), v] w fun e w' => e = .returned (.tuple #[]) ∧ Wrt S0 w' b (l0 ++ txt ls) ∧ Below b w w' := by
  have hv2 : Bss (Lt b) w v ls := hv.monoS hA
  obtain ⟨a, c, rfl, hc, _, hat⟩ := hv2.at
  have HAT := Hid.mk' hat
  have hl : (ls.length : Int) ≤ 100000 := by omega
  have HZ := Hid.mk' hz
  have HW0 : Hid (Wrt S0 w b (l0 ++ txt (ls.take 0))) := by show Wrt _ _ _ _; simpa [txt] using h
  have HB0 : Hid (Below b w w) := Below.refl _ _
  clear h hv hv2 hat hz
  go_enter Tryz.func69, Tryz.ntmps69
  go_wp2_with fail
  go_loopw [8] (fun i wr => ∃ k : Nat, k ≤ ls.length ∧ i = .int .i64 k ∧ Hid (Wrt S0 wr b (l0 ++ txt (ls.take k))) ∧ Hid (Below b w wr)) (fun i _ => ls.length - (intOf i).toNat)
  case atStart => exact ⟨0, by omega, rfl, HW0, HB0⟩
  case round =>
    clear HW0 HB0
    obtain ⟨k, hk, rfl, HW, HB⟩ := hrel
    by_cases hlt : k < ls.length
    case neg =>
      obtain rfl : k = ls.length := by omega
      have HW2 : Hid (Wrt S0 wr b (l0 ++ txt ls)) := by have := HW.out; rwa [List.take_length] at this
      go_wp2_with fail
      go_end0
      exact ⟨rfl, HW2.out, HB.out⟩
    have hlt' : (k : Int) < (ls.length : Int) := by omega
    obtain ⟨bb, o, u, rfl, hbb0, c0, hu⟩ := HAT.out k hlt
    have hbb0 : bb < b := hbb0
    have c0 := (World.cell?_of_block (w := w) (a := ⟨bb, o + k, none⟩) (HB.out.block bb hbb0)).trans c0
    have hu := hu.keep HB.out
    have HTK := Hid.mk' (txt_take hlt)
    have HLE := Hid.mk' (txt_le ls (k + 1))
    have hpl := hu.2
    generalize ls[k] = p at *
    obtain ⟨ua, uc, rfl, _, _, _⟩ := hu.at
    have HU := Hid.mk' hu
    have hp64 : p.length < 18446744073709551616 := by unfold lim at hpl; omega
    have hpi : (p.length : Int) ≤ 140737488351232 := by unfold lim at hpl; omega
    have HNL := Hid.mk' (nm_len hp64)
    have hw0 : IntKind.u64.wrap (p.length : Int) = (p.length : Int) := by rw [IntKind.wrap_u64]; omega
    have HTL : Hid (l0.length + (txt (ls.take k)).length + (nm p.length).length + p.length ≤ 1000000) := by
      have h1 := HLE.out; have h2 := HZ.out
      rw [HTK.out, List.length_append, List.length_append] at h1
      show _ ≤ _; omega
    have HWN : Hid (Calls Tryz.prog 68 #[.pointer (some ⟨b, 0, none⟩), .slice (some ⟨wr.heap.size, 0, none⟩) 1 1] (wr.alloc (.cells #[.int .u64 (p.length : Int)] 117)) fun e w' => e = .returned (.tuple #[]) ∧ Wrt S0 w' b ((l0 ++ txt (ls.take k)) ++ nms [p.length]) ∧ Below b (wr.alloc (.cells #[.int .u64 (p.length : Int)] 117)) w') := wnum_any (HW.out.up (up_alloc _ _)) (us_one hp64) (by simp) (by rw [nms_one, List.length_append]; have := HTL.out; omega)
    have HBA : Hid (Below b w (wr.alloc (.cells #[.int .u64 (p.length : Int)] 117))) := HB.out.trans ((up_alloc wr (.cells #[.int .u64 (p.length : Int)] 117)).mono (by obtain ⟨_, _, _, _, h3, h4⟩ := HW.out; omega))
    clear hu hpl hp64 HLE
    go_wp2_with fail
    refine HWN.out.mono ?_
    rintro e w5 ⟨rfl, hw5, hb5⟩
    have HB5 := Hid.mk' (HBA.out.trans hb5)
    rw [nms_one] at hw5
    obtain ⟨xa, xc, h1, h2, h3, h4⟩ := hw5
    have HO5 := Hid.mk' h2
    have HE5 := Hid.mk' h1
    have HS5 : Hid (b < S0 ∧ S0 ≤ w5.heap.size) := ⟨h3, h4⟩
    have HL5 : Hid (((l0 ++ txt (ls.take k)) ++ nm p.length).length = l0.length + (txt (ls.take k)).length + (nm p.length).length) := by show _ = _; rw [List.length_append, List.length_append]
    have HL6 : Hid (((l0 ++ txt (ls.take k)) ++ nm p.length).length + p.length = (l0 ++ txt (ls.take (k + 1))).length) := by show _ = _; rw [HTK.out]; simp only [List.length_append]; omega
    have HB6' : Hid (bv (l0 ++ txt (ls.take (k + 1))) = bv ((l0 ++ txt (ls.take k)) ++ nm p.length) ++ bv p) := by show _ = _; rw [HTK.out]; simp [bv]
    have HR5 : Hid (Row 1 (Lt b) w5 (.slice ua p.length uc) p.length (bv p)) := ((HU.out.keep ((up_alloc wr (.cells #[.int .u64 (p.length : Int)] 117)).mono (by obtain ⟨_, _, _, _, h3, h4⟩ := HW.out; omega))).keep hb5).1
    have HOL : Hid (∀ i, (Value.slice xa ((l0 ++ txt (ls.take k)) ++ nm p.length).length xc).ownBlock = some i → S0 ≤ i) := fun i hi => (HO5.out.lt i hi).1
    obtain ⟨d0, _⟩ := box1 h1
    generalize ((l0 ++ txt (ls.take k)) ++ nm p.length) = q at *
    clear hw0 c0 h1 h2 h3 h4 hb5 HWN HBA
    go_wp2_with (at_builtin; go_must (refine wpl_app rfl (.tmp 22) (.tmp 23) 22 rfl Tryz.underlying22 Tryz.info5 rfl (by decide) rfl HO5.out rfl HR5.out (bv_one _) (by have := HTL.out; have := HL5.out; unfold maxLen; omega) (by have := HTL.out; have := HL5.out; omega) HS5.out.2 ?_); intro v6 w6 ho hg hn2 hbb; obtain ⟨a6, c6, e6⟩ := own_slice ho; subst e6; clear hn2 hbb; have HE6 : Hid (w6.heap[b]? = some (.cells #[.slice xa q.length xc] 125 (0, 0))) := (hg.block _ (Nat.lt_of_lt_of_le HS5.out.1 HS5.out.2) (fun e => by have h1 := HOL.out _ e.symm; have h2 := HS5.out; omega)).trans HE5.out; obtain ⟨c0, f0⟩ := box1 HE6.out; have f00 := f0 0; clear f0)
    have hw7 := Wb.set (X := fun k => k = b) w6 b 0 (.slice a6 (q.length + p.length) c6) rfl
    have HB6 : Hid (Below b w w6) := below_app HB5.out HO5.out hg (Nat.le_of_lt HS5.out.1) (Nat.le_trans (Nat.le_of_lt HS5.out.1) HS5.out.2)
    have HE7 : Hid ((w6.setCell ⟨b, 0, none⟩ (.slice a6 (q.length + p.length) c6)).heap[b]? = some (.cells #[.slice a6 (l0 ++ txt (ls.take (k + 1))).length c6] 125 (0, 0))) := by
      rw [← HL6.out]
      exact heap_setCell_same w6 b 0 _ 125 _ HE6.out
    have HO7 : Hid (Ob 5 S0 (w6.setCell ⟨b, 0, none⟩ (.slice a6 (q.length + p.length) c6)) (.slice a6 (l0 ++ txt (ls.take (k + 1))).length c6) (l0 ++ txt (ls.take (k + 1)))) := by
      unfold Hid Ob
      rw [← HL6.out, HB6'.out]
      refine own_wb ho hw7 fun k hk e => ?_
      subst hk
      have := (World.ownsRow.lt ho _ e.symm).1
      have := HS5.out.1
      omega
    have HSZ : Hid (b < S0 ∧ S0 ≤ (w6.setCell ⟨b, 0, none⟩ (.slice a6 (q.length + p.length) c6)).heap.size) := ⟨HS5.out.1, by rw [size_setCell]; exact Nat.le_trans HS5.out.2 hg.size⟩
    have HB7 : Hid (Below b w (w6.setCell ⟨b, 0, none⟩ (.slice a6 (q.length + p.length) c6))) := HB6.out.trans (hw7.below (Nat.le_trans (Nat.le_trans (Nat.le_of_lt HS5.out.1) HS5.out.2) hg.size) fun k hk => by subst hk; exact Nat.le_refl _)
    have HW7 : Hid (Wrt S0 (w6.setCell ⟨b, 0, none⟩ (.slice a6 (q.length + p.length) c6)) b (l0 ++ txt (ls.take (k + 1)))) := ⟨_, _, HE7.out, HO7.out, HSZ.out⟩
    clear ho hg hw7
    (try go_wp2_with fail)
    go_roundw
    case rel => exact ⟨k + 1, by omega, by go_num, HW7, HB7⟩
    case measure => simp [intOf]; omega
end Go.Proofs.YtbmhkdcmepfmbaaGreat
set_option linter.unusedVariables false
set_option linter.unusedSimpArgs false
namespace Go.Proofs.YtbmhkdcmepfmbaaGreat
open Go.RowKit
attribute [local go_sem ↓] Go.wp_at_zero Go.wp_at_succ
/-- what Join makes -/
def jn (ls : List (List UInt8)) : List UInt8 := nm ls.length ++ txt ls
set_option maxRecDepth 100000 in
set_option maxHeartbeats 2000000 in
/-- Join -/
theorem pjoin_any {A : Nat → Prop} {w : World} {v : Value} {ls : List (List UInt8)} (hv : Bss A w v ls) (hA : ∀ k, A k → k < w.heap.size) (hz : (txt ls).length ≤ 900000) (hn : ls.length ≤ 100000) :
    Calls Tryz.prog 40 #[v] w fun e w' => ∃ v', e = .returned v' ∧ Ob 5 w.heap.size w' v' (jn ls) ∧ Below w.heap.size w w' := by
  obtain ⟨W, hW⟩ : ∃ W, W = w.alloc (.cells #[.slice none 0 0] 125) := ⟨_, rfl⟩
  have hb : Below w.heap.size w W := by rw [hW]; exact up_alloc _ _
  have he : W.heap[w.heap.size]? = some (.cells #[.slice none 0 0] 125 (0, 0)) := by rw [hW]; exact heap_alloc_new _ _
  have hs : W.heap.size = w.heap.size + 1 := by rw [hW]; simp
  have h0 : Wrt (w.heap.size + 1) W w.heap.size [] := ⟨none, 0, he, ob_nil, Nat.lt_succ_self _, Nat.le_of_eq hs.symm⟩
  have h9 := nm_len (show ls.length < 18446744073709551616 by omega)
  have HU := Hid.mk' (up_alloc W (.cells #[.int .u64 (ls.length : Int)] 117))
  have HN : Hid (Calls Tryz.prog 68 #[.pointer (some ⟨w.heap.size, 0, none⟩), .slice (some ⟨w.heap.size + 1, 0, none⟩) 1 1] (W.alloc (.cells #[.int .u64 (ls.length : Int)] 117)) fun e w' => e = .returned (.tuple #[]) ∧ Wrt (w.heap.size + 1) w' w.heap.size ([] ++ nms [ls.length]) ∧ Below w.heap.size (W.alloc (.cells #[.int .u64 (ls.length : Int)] 117)) w') := by
    rw [← hs] at h0 ⊢
    exact wnum_any (h0.up HU.out) (us_one (by omega)) (by simp) (by rw [nms_one]; simp; omega)
  have HB := Hid.mk' (hb.trans (HU.out.mono hb.size))
  have HV := Hid.mk' (hv.monoS (A' := Lt w.heap.size) hA)
  have HZ : Hid ((nm ls.length).length + (txt ls).length ≤ 1000000) := by show _ ≤ _; omega
  obtain ⟨va, vc, rfl, _, _, _⟩ := hv.at
  have hl : (ls.length : Int) ≤ 100000 := by omega
  have hw0 : IntKind.u64.wrap (ls.length : Int) = (ls.length : Int) := by rw [IntKind.wrap_u64]; omega
  clear hb he hs h0 h9 hv hz HU
  go_enter Tryz.func40, Tryz.ntmps40
  go_wp2_with fail
  rw [← hW]
  clear hW
  refine HN.out.mono ?_
  rintro e w5 ⟨rfl, hw5, hb5⟩
  rw [nms_one, List.nil_append] at hw5
  have HB5 := Hid.mk' (HB.out.trans hb5)
  have HT : Hid (Calls Tryz.prog 69 #[.pointer (some ⟨w.heap.size, 0, none⟩), .slice va ls.length vc] w5 fun e w' => e = .returned (.tuple #[]) ∧ Wrt (w.heap.size + 1) w' w.heap.size (nm ls.length ++ txt ls) ∧ Below w.heap.size w5 w') := wtext_any hw5 (HV.out.keep HB5.out) (fun k hk => hk) HZ.out hn
  clear hw5 hb5 HN HB
  go_wp2_with fail
  refine HT.out.mono ?_
  rintro e w6 ⟨rfl, hw6, hb6⟩
  have HB6 := Hid.mk' (HB5.out.trans hb6)
  obtain ⟨xa, xc, h1, h2, h3, h4⟩ := hw6
  have HO : Hid (Ob 5 w.heap.size w6 (.slice xa (nm ls.length ++ txt ls).length xc) (jn ls)) := h2.mono (Nat.le_succ _)
  obtain ⟨c0, _⟩ := box1 h1
  generalize (nm ls.length ++ txt ls).length = q at *
  clear h1 h2 h3 h4 hb6 HT
  go_wp2_with fail
  go_ret
  exact ⟨_, rfl, HO.out, HB6.out⟩
end Go.Proofs.YtbmhkdcmepfmbaaGreat
