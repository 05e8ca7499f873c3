/- parity.generator. parity.Check. parity.Check, walked. bytes.Equal; parity.Good, put. parity.Sealed, Seal. parity.take, Open. parity.Wrap, Unwrap. -/
import Derived.Test.YtbmhkdcmepfmbaaGreatB05
import Derived.Laws.Rows
import Derived.Test.YtbmhkdcmepfmbaaGreatB04
set_option linter.unusedVariables false
set_option linter.unusedSimpArgs false
namespace Go.Proofs.YtbmhkdcmepfmbaaGreat
open Go.RowKit
attribute [local go_sem ↓] Go.wp_at_zero Go.wp_at_succ
set_option maxRecDepth 100000 in
theorem gen_any (w : World) : Calls Tryz.prog 133 #[] w fun e w' => e = .returned (.agg #[.int .u32 255227968, .int .u32 510455936, .int .u32 1020853533, .int .u32 2024662842, .int .u32 4031239028, .int .u32 4253989864, .int .u32 3875630029, .int .u32 3540178567]) ∧ Below w.heap.size w w' := by
  go_enter Tryz.func133, Tryz.ntmps133
  go_wp2_with fail
  refine bodyPost_ret (results_cell_row rfl _ _ w.heap.size 202 _ (0, 0) _ rfl (heap_alloc_new w _) Tryz.underlying202 rfl (by kernel_rfl)) rfl ?_
  exact ⟨rfl, up_alloc _ _⟩
end Go.Proofs.YtbmhkdcmepfmbaaGreat
set_option linter.unusedVariables false
set_option linter.unusedSimpArgs false
namespace Go.Proofs.YtbmhkdcmepfmbaaGreat
open Go.RowKit
attribute [local go_sem ↓] Go.wp_at_zero Go.wp_at_succ
def gcs : Array Value := #[.int .u32 255227968, .int .u32 510455936, .int .u32 1020853533, .int .u32 2024662842, .int .u32 4031239028, .int .u32 4253989864, .int .u32 3875630029, .int .u32 3540178567]
def gl (i : Nat) : Int := [255227968, 510455936, 1020853533, 2024662842, 4031239028, 4253989864, 3875630029, 3540178567].getD i 0
/-- the inner loop -/
def inn : Nat → Int → Nat → Int → Int
  | 0, _, _, r => r
  | n + 1, f, i, r => if 0 < f then inn n (f / 2) (i + 1) (if bits BinOp.and IntKind.u8 f 1 = 1 then bits BinOp.xor IntKind.u32 r (gl i) else r) else r
/-- one byte -/
def stp (r : Int) (c : UInt8) : Int := inn 8 (bits BinOp.xor IntKind.u8 (c.toNat : Int) (IntKind.u8.wrap (r / 16777216))) 0 (IntKind.u32.wrap (r * 256))
def rst (l : List UInt8) : Int := l.foldl stp 0
def ckv (l : List UInt8) : List Value := [.int .u8 (IntKind.u8.wrap (rst l / 16777216)), .int .u8 (IntKind.u8.wrap (rst l / 65536)), .int .u8 (IntKind.u8.wrap (rst l / 256)), .int .u8 (IntKind.u8.wrap (rst l))]
theorem gl_cell {w : World} {b : Nat} (h : w.heap[b]? = some (.cells gcs 202 (0, 0))) (i : Nat) (hi : i < 8) : w.cell? ⟨b, i, none⟩ = some (.int .u32 (gl i)) := by
  have : gcs[i]? = some (.int .u32 (gl i)) := by
    match i, hi with
    | 0, _ => rfl
    | 1, _ => rfl
    | 2, _ => rfl
    | 3, _ => rfl
    | 4, _ => rfl
    | 5, _ => rfl
    | 6, _ => rfl
    | 7, _ => rfl
  simp [World.cell?, h, this]
end Go.Proofs.YtbmhkdcmepfmbaaGreat
set_option linter.unusedVariables false
set_option linter.unusedSimpArgs false
namespace Go.Proofs.YtbmhkdcmepfmbaaGreat
open Go.RowKit
attribute [local go_sem ↓] Go.wp_at_zero Go.wp_at_succ
set_option maxRecDepth 100000 in
theorem gen_at (w : World) : Calls Tryz.prog 133 #[] w fun e w' => e = .returned (.agg gcs) ∧ w' = w.alloc (.cells gcs 202) := by
  go_enter Tryz.func133, Tryz.ntmps133
  go_wp2_with fail
  refine bodyPost_ret (results_cell_row rfl _ _ w.heap.size 202 _ (0, 0) _ rfl (heap_alloc_new w _) Tryz.underlying202 rfl (by kernel_rfl)) rfl ?_
  exact ⟨rfl, rfl⟩
/-- what the inner loop has ahead of it -/
def InnR (T : Int) (k : Nat) (f r : Int) : Prop := 0 ≤ f ∧ f < 2 ^ (8 - k) ∧ k ≤ 8 ∧ inn (8 - k) f k r = T
theorem InnR.zero {T : Int} {k : Nat} {f r : Int} (h : InnR T k f r) (hf : ¬ 0 < f) : r = T := by
  obtain ⟨h1, h2, h3, h4⟩ := h
  cases hn : 8 - k with
  | zero => rw [hn] at h4; exact h4
  | succ n => rw [hn, inn, if_neg hf] at h4; exact h4
theorem InnR.lt {T : Int} {k : Nat} {f r : Int} (h : InnR T k f r) (hf : 0 < f) : k < 8 := by
  obtain ⟨h1, h2, h3, h4⟩ := h
  rcases Nat.lt_or_ge k 8 with h | h
  · exact h
  · obtain rfl : k = 8 := by omega
    simp at h2; omega
theorem InnR.step {T : Int} {k : Nat} {f r : Int} (h : InnR T k f r) (hf : 0 < f) : InnR T (k + 1) (f / 2) (if bits BinOp.and IntKind.u8 f 1 = 1 then bits BinOp.xor IntKind.u32 r (gl k) else r) := by
  have hk := h.lt hf
  obtain ⟨h1, h2, h3, h4⟩ := h
  obtain ⟨n, hn⟩ : ∃ n, 8 - k = n + 1 := ⟨7 - k, by omega⟩
  have hn' : 8 - (k + 1) = n := by omega
  rw [hn] at h2 h4
  rw [inn, if_pos hf] at h4
  refine ⟨by omega, ?_, by omega, by rw [hn']; exact h4⟩
  rw [hn']
  have : (2 : Int) ^ (n + 1) = 2 ^ n * 2 := by rw [Int.pow_succ]
  omega
theorem cell_up {w w' : World} {b o : Nat} {v : Value} (h : w.cell? ⟨b, o, none⟩ = some v) (hb : Below w.heap.size w w') : w'.cell? ⟨b, o, none⟩ = some v :=
  (World.cell?_of_block (w := w) (a := ⟨b, o, none⟩) (hb.block b (World.block_lt_of_cell? w ⟨b, o, none⟩ h))).trans h
theorem cl4_get {w : World} {b : Nat} {x0 x1 x2 x3 : Value} {e : TypeId} (h : w.heap[b]? = some (.cells #[x0, x1, x2, x3] e (0, 0))) : (w.cell? ⟨b, 0, none⟩ = some x0 ∧ w.cell? ⟨b, 1, none⟩ = some x1 ∧ w.cell? ⟨b, 2, none⟩ = some x2 ∧ w.cell? ⟨b, 3, none⟩ = some x3) ∧ ∀ i, w.frozen? ⟨b, i, none⟩ = false :=
  ⟨⟨by simp only [World.cell?, h]; rfl, by simp only [World.cell?, h]; rfl, by simp only [World.cell?, h]; rfl, by simp only [World.cell?, h]; rfl⟩, fun i => by simp only [World.frozen?, h]; simp⟩
theorem cl4_set {w : World} {b : Nat} {x0 x1 x2 x3 y0 y1 y2 y3 : Value} {e : TypeId} (h : w.heap[b]? = some (.cells #[x0, x1, x2, x3] e (0, 0))) : ((((w.setCell ⟨b, 0, none⟩ y0).setCell ⟨b, 1, none⟩ y1).setCell ⟨b, 2, none⟩ y2).setCell ⟨b, 3, none⟩ y3).heap[b]? = some (.cells #[y0, y1, y2, y3] e (0, 0)) := by
  have h1 : (w.setCell ⟨b, 0, none⟩ y0).heap[b]? = some (.cells #[y0, x1, x2, x3] e (0, 0)) := heap_setCell_same w b 0 _ e y0 h
  have h2 : ((w.setCell ⟨b, 0, none⟩ y0).setCell ⟨b, 1, none⟩ y1).heap[b]? = some (.cells #[y0, y1, x2, x3] e (0, 0)) := heap_setCell_same _ b 1 _ e y1 h1
  have h3 : (((w.setCell ⟨b, 0, none⟩ y0).setCell ⟨b, 1, none⟩ y1).setCell ⟨b, 2, none⟩ y2).heap[b]? = some (.cells #[y0, y1, y2, x3] e (0, 0)) := heap_setCell_same _ b 2 _ e y2 h2
  exact heap_setCell_same _ b 3 _ e y3 h3
theorem cl4_wb {w : World} {b : Nat} {y0 y1 y2 y3 : Value} : Wb (fun k => k = b) w ((((w.setCell ⟨b, 0, none⟩ y0).setCell ⟨b, 1, none⟩ y1).setCell ⟨b, 2, none⟩ y2).setCell ⟨b, 3, none⟩ y3) :=
  (((Wb.set (X := fun k => k = b) w b 0 y0 rfl).trans (Wb.set _ b 1 y1 rfl)).trans (Wb.set _ b 2 y2 rfl)).trans (Wb.set _ b 3 y3 rfl)
theorem bits_u8 (o : BinOp) (x y : Int) : 0 ≤ bits o .u8 x y ∧ bits o .u8 x y < 256 := by
  have h : ∀ n : Nat, 0 ≤ IntKind.u8.wrap (n : Int) ∧ IntKind.u8.wrap (n : Int) < 256 := fun n => by rw [IntKind.wrap_u8]; omega
  exact h _
theorem InnR.start (c r : Int) : InnR (inn 8 (bits BinOp.xor IntKind.u8 c (IntKind.u8.wrap (r / 16777216))) 0 (IntKind.u32.wrap (r * 256))) 0 (bits BinOp.xor IntKind.u8 c (IntKind.u8.wrap (r / 16777216))) (IntKind.u32.wrap (r * 256)) :=
  ⟨(bits_u8 _ _ _).1, by have := (bits_u8 .xor c (IntKind.u8.wrap (r / 16777216))).2; omega, by omega, rfl⟩
set_option maxRecDepth 100000 in
set_option maxHeartbeats 2000000 in
theorem check_any {A : Nat → Prop} {w : World} {g : Nat} {v : Value} {l : List UInt8} (hg : w.heap[g]? = some (.cells #[v] 22 (0, 0))) (h : Bs A w v l) : Calls Tryz.prog 118 #[.slice (some ⟨g, 0, none⟩) 1 1] w fun e w' => e = .returned (.agg (ckv l).toArray) ∧ Below w.heap.size w w' := by
  obtain ⟨a, c, rfl, hc, _, hat⟩ := h.at
  have hli : (l.length : Int) ≤ 140737488351232 := by have := h.2; unfold lim at this; omega
  obtain ⟨V1, hV1⟩ : ∃ V1, V1 = w.alloc (.cells #[.int .u8 0, .int .u8 0, .int .u8 0, .int .u8 0] 191) := ⟨_, rfl⟩
  obtain ⟨V2, hV2⟩ : ∃ V2, V2 = V1.alloc (.cells gcs 202) := ⟨_, rfl⟩
  obtain ⟨V, hV⟩ : ∃ V, V = V2.alloc (.cells gcs 202) := ⟨_, rfl⟩
  have b1 : Below w.heap.size w V1 := by rw [hV1]; exact up_alloc _ _
  have b2 : Below V1.heap.size V1 V2 := by rw [hV2]; exact up_alloc _ _
  have b3 : Below V2.heap.size V2 V := by rw [hV]; exact up_alloc _ _
  have hs1 : V1.heap.size = w.heap.size + 1 := by rw [hV1]; simp
  have hs2 : V2.heap.size = w.heap.size + 1 + 1 := by rw [hV2]; simp [hs1]
  have HB := Hid.mk' (bt (bt b1 b2) b3)
  have HC : Hid (∀ i, i < 8 → V.cell? ⟨w.heap.size + 1 + 1, i, none⟩ = some (.int .u32 (gl i))) := fun i hi => by
    refine gl_cell ?_ i hi
    rw [hV, ← hs2]; exact heap_alloc_new _ _
  have hgV : V.heap[g]? = some (.cells #[.slice a l.length c] 22 (0, 0)) := (HB.out.block g (Array.getElem?_eq_some_iff.1 hg).1).trans hg
  obtain ⟨d0, -⟩ := box1 hgV
  have HX : Hid (V.heap[w.heap.size]? = some (.cells #[.int .u8 0, .int .u8 0, .int .u8 0, .int .u8 0] 191 (0, 0))) := by
    have h1 : V1.heap[w.heap.size]? = some (.cells #[.int .u8 0, .int .u8 0, .int .u8 0, .int .u8 0] 191 (0, 0)) := by rw [hV1]; exact heap_alloc_new _ _
    exact ((bt b2 b3).block _ (Array.getElem?_eq_some_iff.1 h1).1).trans h1
  have HAT : Hid (_) := (h.up HB.out).at
  have HW : Hid (∀ wr, Below V.heap.size V wr → Below w.heap.size w wr ∧ wr.heap[w.heap.size]? = some (.cells #[.int .u8 0, .int .u8 0, .int .u8 0, .int .u8 0] 191 (0, 0)) ∧ wr.cell? ⟨g, 0, none⟩ = some (.slice a l.length c) ∧ (∀ i, i < 8 → wr.cell? ⟨V2.heap.size, i, none⟩ = some (.int .u32 (gl i)))) := fun wr hb =>
    ⟨bt HB.out hb, (hb.block _ (Array.getElem?_eq_some_iff.1 HX.out).1).trans HX.out, cell_up d0 hb, fun i hi => cell_up (by rw [hs2]; exact HC.out i hi) hb⟩
  have HL : Hid (∀ wr, Below V.heap.size V wr → ∀ (j : Nat) (hj : j < l.length), ∃ b o, a = some ⟨b, o, none⟩ ∧ wr.cell? ⟨b, o + j, none⟩ = some (.int .u8 (l[j].toNat : Int))) := fun wr hb j hj => by
    obtain ⟨a', c', he, _, _, hat'⟩ := ((h.up HB.out).up hb).at
    cases he
    obtain ⟨b, o, e, _, h4⟩ := hat' j hj
    exact ⟨b, o, e, h4⟩
  have HV1 := Hid.mk' hV1
  have HV2 := Hid.mk' hV2
  unfold gcs at hV
  have HV := Hid.mk' hV
  have HR0 : Hid (Below V.heap.size V V) := Below.refl _ _
  clear h hg hat b1 b2 b3 hs1 hs2 hgV HX HC d0 hV1 hV2 hV
  go_enter Tryz.func118, Tryz.ntmps118
  go_upto_region 2 with fail
  go_wp2_with fail
  rw [← HV1.out]
  refine (gen_at _).mono ?_
  rintro e w3 ⟨rfl, rfl⟩
  rw [← HV2.out]
  unfold gcs
  go_wp2_with fail
  rw [← HV.out]
  go_loopw [3, 14] (fun r i wr => ∃ k : Nat, k ≤ 1 ∧ i = .int .i64 k ∧ r = .int .u32 (rst (l.take (k * l.length))) ∧ Hid (Below V.heap.size V wr)) (fun _ i _ => 1 - (intOf i).toNat)
  case atStart => exact ⟨0, by omega, rfl, by simp [rst], HR0⟩
  case round =>
    clear HR0
    obtain ⟨k, hk, rfl, rfl, HR⟩ := hrel
    by_cases hlt : k < 1
    case neg =>
      obtain rfl : k = 1 := by omega
      obtain ⟨h1, h2, -, -⟩ := HW.out _ HR.out
      have H1 := Hid.mk' h1
      have H2 := Hid.mk' h2
      obtain ⟨⟨e0, e1, e2, e3⟩, ef⟩ := cl4_get h2
      have ef0 := ef 0
      have ef1 := ef 1
      have ef2 := ef 2
      have ef3 := ef 3
      rw [show l.take (1 * l.length) = l by simp]
      clear h1 h2 ef
      go_wp2_with fail
      refine bodyPost_ret (results_cell_row rfl _ _ w.heap.size 191 _ (0, 0) _ rfl (cl4_set H2.out) Tryz.underlying191 rfl (by kernel_rfl)) rfl ?_
      exact ⟨by simp only [ckv, IntKind.wrap_u8], H1.out.trans (cl4_wb.below H1.out.size fun k hk => by subst hk; exact Nat.le_refl _)⟩
    obtain rfl : k = 0 := by omega
    obtain ⟨h1, h2, d0, h3⟩ := HW.out _ HR.out
    have hr0 : rst (l.take (0 * l.length)) = rst (l.take 0) := by simp
    rw [hr0]
    clear hr0 h1 h2 h3
    go_wp2_with fail
    go_loopw [3, 20] (fun r i wq => ∃ k : Nat, k ≤ l.length ∧ i = .int .i64 k ∧ r = .int .u32 (rst (l.take k)) ∧ Hid (Below V.heap.size V wq)) (fun _ i _ => l.length - (intOf i).toNat)
    case atStart => exact ⟨0, by omega, rfl, by simp [rst], HR⟩
    case round =>
      clear HR d0
      obtain ⟨k, hk, rfl, rfl, HR⟩ := hrel
      by_cases hlk : k < l.length
      case neg =>
        obtain rfl : k = l.length := by omega
        go_wp2_with fail
        go_roundw
        case rel => exact ⟨1, by omega, by go_num, by simp, HR⟩
        case measure => simp [intOf]
      have hlk' : (k : Int) < (l.length : Int) := by omega
      obtain ⟨b, o, rfl, d0⟩ := HL.out _ HR.out k hlk
      have HT : Hid (rst (l.take (k + 1)) = stp (rst (l.take k)) l[k]) := by
        show rst (l.take (k + 1)) = _
        rw [List.take_succ_eq_append_getElem hlk]; simp only [rst, List.foldl_append]; rfl
      generalize l[k] = x at *
      generalize rst (l.take k) = r0 at *
      have HS := Hid.mk' (InnR.start x.toNat r0)
      rw [IntKind.wrap_u8, IntKind.wrap_u32] at HS
      unfold stp at HT
      rw [IntKind.wrap_u8, IntKind.wrap_u32] at HT
      go_wp2_with fail
      generalize bits BinOp.xor IntKind.u8 (x.toNat : Int) (r0 / 16777216 % 256) = f0 at *
      generalize r0 * 256 % 4294967296 = s0 at *
      generalize inn 8 f0 0 s0 = T0 at *
      go_loopw [3, 9, 10] (fun r f i wp => ∃ (m : Nat) (fn rn : Int), i = .int .i64 m ∧ r = .int .u32 rn ∧ f = .int .u8 fn ∧ Hid (InnR T0 m fn rn) ∧ Hid (Below V.heap.size V wp)) (fun _ _ i _ => 8 - (intOf i).toNat)
      case atStart => exact ⟨0, f0, s0, rfl, rfl, rfl, HS, HR⟩
      case round =>
        clear HS HR d0
        obtain ⟨m, fn, rn, rfl, rfl, rfl, HS, HR⟩ := hrel
        by_cases hf : 0 < fn
        case neg =>
          have hz := HS.out.zero hf
          have HE : Hid (rn = rst (l.take (k + 1))) := hz.trans HT.out.symm
          clear hz
          go_wp2_with fail
          go_roundw
          case rel => exact ⟨k + 1, by omega, by go_num, by rw [HE.out], HR⟩
          case measure => simp [intOf]; omega
        have hm := HS.out.lt hf
        have hm' : (m : Int) < 8 := by omega
        have HN := Hid.mk' (HS.out.step hf)
        have HH := HW.out _ HR.out
        have d1 := HH.2.2.2 m hm
        clear HH
        by_cases hb : bits BinOp.and IntKind.u8 fn 1 = 1
        case neg =>
          rw [if_neg hb] at HN
          go_wp2_with fail
          go_roundw
          case rel => exact ⟨m + 1, fn / 2, rn, by go_num, rfl, rfl, HN, HR⟩
          case measure => simp [intOf]; omega
        rw [if_pos hb] at HN
        go_wp2_with fail
        go_roundw
        case rel => exact ⟨m + 1, fn / 2, bits BinOp.xor IntKind.u32 rn (gl m), by go_num, rfl, rfl, HN, HR⟩
        case measure => simp [intOf]; omega
end Go.Proofs.YtbmhkdcmepfmbaaGreat
set_option linter.unusedVariables false
set_option linter.unusedSimpArgs false
namespace Go.Proofs.YtbmhkdcmepfmbaaGreat
open Go.RowKit
attribute [local go_sem ↓] Go.wp_at_zero Go.wp_at_succ
/-- check bytes -/
def ckb (l : List UInt8) : List UInt8 := [UInt8.ofNat (rst l / 16777216 % 256).toNat, UInt8.ofNat (rst l / 65536 % 256).toNat, UInt8.ofNat (rst l / 256 % 256).toNat, UInt8.ofNat (rst l % 256).toNat]
theorem ckb_len (l : List UInt8) : (ckb l).length = 4 := rfl
theorem ckv_eq (l : List UInt8) : ckv l = bv (ckb l) := by
  have h : ∀ x : Int, IntKind.u8.wrap x = ((UInt8.ofNat (x % 256).toNat).toNat : Int) := fun x => by
    rw [IntKind.wrap_u8, UInt8.toNat_ofNat']; omega
  simp only [ckv, ckb, bv, List.map_cons, List.map_nil, h]
theorem u22 : Tryz.prog.underlying 22 = some (.slice (Tryz.prog.elem 22)) := by kernel_rfl
theorem bs_hi {A : Nat → Prop} {w : World} {a : Option Addr} {n c : Nat} {l : List UInt8} (h : Bs A w (.slice a n c) l) (j : Nat) (hj : j ≤ l.length) :
    ∃ a' c', (∀ w, (Instr.slice 22 (.slice a n c) none (some (.int .i64 (j : Int))) none).run Tryz.prog w = .ok (.slice a' j c') w) ∧ Bs A w (.slice a' j c') (l.take j) := by
  obtain ⟨a0, c0, he, h1⟩ := h.at
  cases he
  obtain ⟨a', c', h3, h4⟩ := row_hi (P := Tryz.prog) (t := 22) u22 Tryz.size22 h.1 j hj
  have hl : (l.take j).length = j := by rw [List.length_take]; omega
  refine ⟨a', c', h3, ?_, by have := h.2; rw [hl]; omega⟩
  rw [hl]; unfold bv at h4 ⊢; rw [List.map_take]; exact h4
theorem bs_lo {A : Nat → Prop} {w : World} {a : Option Addr} {n c : Nat} {l : List UInt8} (h : Bs A w (.slice a n c) l) (j : Nat) (hj : j ≤ l.length) :
    ∃ a' c', (∀ w, (Instr.slice 22 (.slice a n c) (some (.int .i64 (j : Int))) none none).run Tryz.prog w = .ok (.slice a' (n - j) c') w) ∧ Bs A w (.slice a' (n - j) c') (l.drop j) := by
  obtain ⟨a0, c0, he, h1⟩ := h.at
  cases he
  obtain ⟨a', c', h3, h4⟩ := row_lo (P := Tryz.prog) (t := 22) u22 Tryz.size22 h.1 j hj
  have hl : (l.drop j).length = l.length - j := by rw [List.length_drop]
  refine ⟨a', c', h3, ?_, by have := h.2; rw [hl]; omega⟩
  rw [hl]; unfold bv at h4 ⊢; rw [List.map_drop]; exact h4
theorem bs_lh {A : Nat → Prop} {w : World} {a : Option Addr} {n c : Nat} {l : List UInt8} (h : Bs A w (.slice a n c) l) (i j : Nat) (hi : i ≤ j) (hj : j ≤ l.length) :
    ∃ a' c', (∀ w, (Instr.slice 22 (.slice a n c) (some (.int .i64 (i : Int))) (some (.int .i64 (j : Int))) none).run Tryz.prog w = .ok (.slice a' (j - i) c') w) ∧ Bs A w (.slice a' (j - i) c') ((l.take j).drop i) := by
  obtain ⟨a0, c0, he, h1⟩ := h.at
  cases he
  obtain ⟨a', c', h3, h4⟩ := row_lh (P := Tryz.prog) (t := 22) u22 Tryz.size22 h.1 i j hi hj
  have hl : ((l.take j).drop i).length = j - i := by rw [List.length_drop, List.length_take]; omega
  refine ⟨a', c', h3, ?_, by have := h.2; rw [hl]; omega⟩
  rw [hl]; unfold bv at h4 ⊢; rw [List.map_drop, List.map_take]; exact h4
theorem s191 (w : World) (g : Nat) : (Instr.sliceAt 191 (.pointer (some ⟨g, 0, none⟩)) none none none).run Tryz.prog w = .ok (.slice (some ⟨g, 0, none⟩) 4 4) w := by kernel_rfl
set_option maxRecDepth 100000 in
theorem equal138 {A A' : Nat → Prop} {w : World} {v u : Value} {l m : List UInt8} (h : Bs A w v l) (h' : Bs A' w u m) : Calls Tryz.prog 138 #[v, u] w fun e w' => e = .returned (.bool (decide (l = m))) ∧ w' = w := by
  have h1 : (convert 22 9 v).run Tryz.prog w = .ok (.string ⟨l.toArray⟩) w := run_str 22 9 Tryz.underlying22 Tryz.underlying5 Tryz.underlying9 h
  have h2 : (convert 22 9 u).run Tryz.prog w = .ok (.string ⟨m.toArray⟩) w := run_str 22 9 Tryz.underlying22 Tryz.underlying5 Tryz.underlying9 h'
  go_enter Tryz.func138, Tryz.ntmps138
  go_wp2_with fail
  go_ret
  refine ⟨?_, rfl⟩
  show Ending.returned (.bool (l == m)) = _
  rw [show (l == m) = decide (l = m) from by by_cases hh : l = m <;> simp [hh]]
theorem bs_arr {w : World} {g : Nat} {l : List UInt8} {e : TypeId} (h : w.heap[g]? = some (.cells (bv l).toArray e (0, 0))) (hl : l.length = 4) : Bs (fun k => k = g) w (.slice (some ⟨g, 0, none⟩) 4 4) l := by
  refine ⟨⟨by simp, _, _, by rw [hl], by omega, by simp, fun j u hj => ⟨g, 0, rfl, rfl, ?_⟩⟩, by unfold lim; omega⟩
  simp only [World.cell?, h, Nat.zero_add]
  simpa using hj
set_option maxRecDepth 100000 in
set_option maxHeartbeats 1000000 in
/-- Good -/
theorem good_any {A : Nat → Prop} {w : World} {v : Value} {m : List UInt8} (h : Bs A w v (m ++ ckb m)) : Calls Tryz.prog 126 #[v] w fun e w' => e = .returned (.bool true) ∧ Below w.heap.size w w' := by
  obtain ⟨a, c, rfl, hc, _, _⟩ := h.at
  have hn : (m ++ ckb m).length = m.length + 4 := by rw [List.length_append, ckb_len]
  have hml : (m.length : Int) ≤ 140737488351232 := by have := h.2; rw [hn] at this; unfold lim at this; omega
  rw [hn] at h
  obtain ⟨a1, c1, S1, h1⟩ := bs_hi h m.length (by omega)
  obtain ⟨a2, c2, S2, h2⟩ := bs_lo h m.length (by omega)
  rw [List.take_left] at h1
  rw [List.drop_left, show m.length + 4 - m.length = 4 by omega] at h2
  rw [show m.length + 4 - m.length = 4 by omega] at S2
  obtain ⟨V, hV⟩ : ∃ V, V = w.alloc (.cells #[.slice a1 m.length c1] 22) := ⟨_, rfl⟩
  have b1 : Below w.heap.size w V := by rw [hV]; exact up_alloc _ _
  obtain ⟨x0, x1, x2, x3, hx⟩ : ∃ x0 x1 x2 x3 : Int, ckv m = [.int .u8 x0, .int .u8 x1, .int .u8 x2, .int .u8 x3] := ⟨_, _, _, _, rfl⟩
  have HC : Hid (Calls Tryz.prog 118 #[.slice (some ⟨w.heap.size, 0, none⟩) 1 1] V fun e w' => e = .returned (.agg #[.int .u8 x0, .int .u8 x1, .int .u8 x2, .int .u8 x3]) ∧ Below V.heap.size V w') := by
    have := check_any (by rw [hV]; exact heap_alloc_new w _) (h1.up b1)
    rw [hx] at this
    exact this
  have HX : Hid (bv (ckb m) = [.int .u8 x0, .int .u8 x1, .int .u8 x2, .int .u8 x3]) := by rw [← ckv_eq]; exact hx
  have HV := Hid.mk' hV
  have HB := Hid.mk' b1
  have H2 := Hid.mk' (h2.up b1)
  have h4 : (0 : Int) ≤ (m.length : Int) := by omega
  clear h h1 h2 b1 hV hx
  go_enter Tryz.func126, Tryz.ntmps126
  rw [hn]
  go_wp2_with fail
  rw [← HV.out]
  refine HC.out.mono ?_
  rintro e w2 ⟨rfl, hb2⟩
  have HB2 := Hid.mk' hb2
  clear hb2
  go_wp2_with fail
  obtain ⟨W, hW⟩ : ∃ W, W = w2.alloc (.cells #[.int .u8 x0, .int .u8 x1, .int .u8 x2, .int .u8 x3] 191) := ⟨_, rfl⟩
  have hb5 : Below w2.heap.size w2 W := by rw [hW]; exact up_alloc _ _
  have hd := drew_blx W W.heap.size
  have HB5 := Hid.mk' (bt (bt (bt HB.out HB2.out) hb5) hd)
  have H3 := Hid.mk' (((H2.out.up HB2.out).up hb5).up hd)
  have H4 : Hid (Bs (fun k => k = w2.heap.size) W.drew (.slice (some ⟨w2.heap.size, 0, none⟩) 4 4) (ckb m)) := (bs_arr (e := 191) (by rw [HX.out, hW]; exact heap_alloc_new _ _) (ckb_len m)).up hd
  rw [← hW]
  clear hW hb5 hd
  have hs := fun w => s191 w w2.heap.size
  refine wp_region_mix 5 (fun w' => ∃ q : Kp (fun _ => False) W, w' = q.nx) (by kernel_rfl) (by kernel_rfl) (kp_first _ W) ?_
  simp only [List.take_succ_cons, List.take_zero, List.drop_succ_cons, List.drop_zero]
  refine mx_take 4 rfl ?_
  simp only [List.take_succ_cons, List.take_zero, List.drop_succ_cons, List.drop_zero]
  repeat (go_big_quiet_step (fail))
  refine wpQuiet_nil ?_
  refine mx_call (vals := [.slice (some ⟨w2.heap.size, 0, none⟩) 4 4, .slice a2 4 c2]) Tryz.func138 (by kernel_rfl) rfl rfl (by kernel_rfl) (by kernel_rfl) (equal138 H4.out H3.out) (fun e wa ha => ?_)
  obtain ⟨rfl, rfl⟩ := ha
  refine ⟨_, rfl, kp_first _ W, ?_⟩
  simp only [Act.put, List.setIfInBounds_toArray, List.set_cons_succ, List.set_cons_zero, wpMix]
  go_wp2_with fail
  go_ret
  exact ⟨by simp, HB5.out⟩
set_option maxRecDepth 100000 in
set_option maxHeartbeats 2000000 in
/-- put -/
theorem cput_any {A : Nat → Prop} {B : Nat} {w : World} {v u : Value} {l0 m : List UInt8} (ho : Ob 5 B w u l0) (h : Bs A w v m) (hB : B ≤ w.heap.size) (hl : l0.length + m.length + 4 ≤ 100000000) :
    Calls Tryz.prog 92 #[u, v] w fun e w' => ∃ v', e = .returned v' ∧ Ob 5 B w' v' (l0 ++ (m ++ ckb m)) ∧ Below B w w' := by
  obtain ⟨a, c, rfl, hc, _, _⟩ := h.at
  obtain ⟨a0, c0, e0⟩ := own_slice ho
  subst e0
  have HL := Hid.mk' hl
  obtain ⟨V, hV⟩ : ∃ V, V = w.alloc (.cells #[.slice a m.length c] 22) := ⟨_, rfl⟩
  have b1 : Below w.heap.size w V := by rw [hV]; exact up_alloc _ _
  obtain ⟨x0, x1, x2, x3, hx⟩ : ∃ x0 x1 x2 x3 : Int, ckv m = [.int .u8 x0, .int .u8 x1, .int .u8 x2, .int .u8 x3] := ⟨_, _, _, _, rfl⟩
  have HC : Hid (Calls Tryz.prog 118 #[.slice (some ⟨w.heap.size, 0, none⟩) 1 1] V fun e w' => e = .returned (.agg #[.int .u8 x0, .int .u8 x1, .int .u8 x2, .int .u8 x3]) ∧ Below V.heap.size V w') := by
    have := check_any (by rw [hV]; exact heap_alloc_new w _) (h.up b1)
    rw [hx] at this
    exact this
  have HX : Hid (bv (ckb m) = [.int .u8 x0, .int .u8 x1, .int .u8 x2, .int .u8 x3]) := by rw [← ckv_eq]; exact hx
  have HV := Hid.mk' hV
  have HB := Hid.mk' b1
  have H1 := Hid.mk' (h.up b1)
  have HO := Hid.mk' ho
  have HLT : Hid (∀ i, (Value.slice a0 l0.length c0).ownBlock = some i → i < w.heap.size) := fun i hi => (HO.out.lt i hi).2
  clear h ho b1 hV hx hl
  go_enter Tryz.func92, Tryz.ntmps92
  go_wp2_with fail
  rw [← HV.out]
  refine HC.out.mono ?_
  rintro e w2 ⟨rfl, hb2⟩
  have HB2 := Hid.mk' hb2
  clear hb2
  go_wp2_with fail
  obtain ⟨W, hW⟩ : ∃ W, W = w2.alloc (.cells #[.int .u8 x0, .int .u8 x1, .int .u8 x2, .int .u8 x3] 191) := ⟨_, rfl⟩
  have hb5 : Below w2.heap.size w2 W := by rw [hW]; exact up_alloc _ _
  have hd := drew_blx W W.heap.size
  have HB5 := Hid.mk' (bt (bt (bt HB.out HB2.out) hb5) hd)
  have H3 := Hid.mk' (((H1.out.up HB2.out).up hb5).up hd)
  have H4 : Hid (Bs (fun k => k = w2.heap.size) W.drew (.slice (some ⟨w2.heap.size, 0, none⟩) 4 4) (ckb m)) := (bs_arr (e := 191) (by rw [HX.out, hW]; exact heap_alloc_new _ _) (ckb_len m)).up hd
  have HO5 : Hid (Ob 5 B W.drew (.slice a0 l0.length c0) l0) := own_keep HO.out HB5.out (Nat.le_refl _)
  have hsz : w.heap.size ≤ w2.heap.size := Nat.le_trans HB.out.size HB2.out.size
  rw [← hW]
  clear hW hb5 hd
  have hs := fun w => s191 w w2.heap.size
  obtain ⟨v6, w6, hr6, ho6, hg6, hn6, hb6⟩ := run_app (P := Tryz.prog) 22 22 Tryz.underlying22 Tryz.info5 rfl (by decide) HO5.out H3.out.1 (bv_one _) (by have := HL.out; unfold maxLen; omega) (by have := HL.out; omega) (Nat.le_trans hB HB5.out.size)
  have H6 : Bs (fun k => k = w2.heap.size) w6 (.slice (some ⟨w2.heap.size, 0, none⟩) 4 4) (ckb m) := ⟨H4.out.1.wb (Wb.of_grown hg6) fun k hk2 hk => by
    have := HLT.out k hk2.symm
    have hk : k = w2.heap.size := hk
    omega, H4.out.2⟩
  have hl6 : l0.length + m.length = (l0 ++ m).length := by rw [List.length_append]
  have hb6' : bv l0 ++ bv m = bv (l0 ++ m) := (bv_append _ _).symm
  rw [hl6, hb6'] at ho6
  have hB6 : Below B w w6 := below_app (HB5.out.mono hB) HO5.out hg6 (Nat.le_refl _) (Nat.le_trans hB HB5.out.size)
  obtain ⟨v7, w7, hr7, ho7, hg7, hn7, hb7⟩ := run_app (P := Tryz.prog) 22 22 Tryz.underlying22 Tryz.info5 rfl (by decide) ho6 H6.1 (bv_one _) (by rw [← hl6, ckb_len]; have := HL.out; unfold maxLen; omega) (by rw [← hl6, ckb_len]; have := HL.out; omega) (Nat.le_trans hB hB6.size)
  have hB7 : Below B w w7 := below_app hB6 ho6 hg7 (Nat.le_refl _) (Nat.le_trans hB hB6.size)
  have HFIN : Hid (Ob 5 B w7 v7 (l0 ++ (m ++ ckb m)) ∧ Below B w w7) := by
    refine ⟨?_, hB7⟩
    unfold Ob
    rw [show (l0 ++ (m ++ ckb m)).length = (l0 ++ m).length + (ckb m).length by simp only [List.length_append]; omega, show bv (l0 ++ (m ++ ckb m)) = bv (l0 ++ m) ++ bv (ckb m) by simp [bv]]
    exact ho7
  have HK6 : ∃ q : Kp (fun _ => True) W, w6 = q.nx := kp_any (by have := hg6.size; exact this)
  have HK7 : ∃ q : Kp (fun _ => True) W, w7 = q.nx := kp_any (by have h1 := hg6.size; have h2 := hg7.size; exact Nat.le_trans h1 h2)
  clear ho6 hg6 hn6 hb6 H6 hl6 hb6' hB6 ho7 hg7 hn7 hb7 hB7
  refine wp_region_mix 5 (fun w' => ∃ q : Kp (fun _ => True) W, w' = q.nx) (by kernel_rfl) (by kernel_rfl) (kp_first _ W) ?_
  simp only [List.take_succ_cons, List.take_zero, List.drop_succ_cons, List.drop_zero]
  refine mx_take 2 rfl ?_
  simp only [List.take_succ_cons, List.take_zero, List.drop_succ_cons, List.drop_zero]
  repeat (go_big_quiet_step (fail))
  refine wpQuiet_nil ?_
  refine mx_app rfl rfl rfl (by kernel_rfl) hr6 HK6 ?_
  simp only [Act.put, List.setIfInBounds_toArray, List.set_cons_succ, List.set_cons_zero]
  refine mx_take 1 rfl ?_
  simp only [List.take_succ_cons, List.take_zero, List.drop_succ_cons, List.drop_zero]
  repeat (go_big_quiet_step (fail))
  refine wpQuiet_nil ?_
  refine mx_app rfl rfl rfl (by kernel_rfl) hr7 HK7 ?_
  simp only [Act.put, List.setIfInBounds_toArray, List.set_cons_succ, List.set_cons_zero, wpMix]
  go_wp2_with fail
  go_ret
  exact ⟨_, rfl, HFIN.out.1, HFIN.out.2⟩
end Go.Proofs.YtbmhkdcmepfmbaaGreat
set_option linter.unusedVariables false
set_option linter.unusedSimpArgs false
namespace Go.Proofs.YtbmhkdcmepfmbaaGreat
open Go.RowKit
attribute [local go_sem ↓] Go.wp_at_zero Go.wp_at_succ
/-- cells with their check bytes -/
def chk (l : List UInt8) : List UInt8 := if h : l = [] then [] else (l.take 251 ++ ckb (l.take 251)) ++ chk (l.drop 251)
termination_by l.length
decreasing_by
  have : 0 < l.length := List.length_pos_iff.2 h
  rw [List.length_drop]; omega
theorem chk_nil : chk [] = [] := by rw [chk]; simp
theorem chk_pos {l : List UInt8} (h : 0 < l.length) : chk l = (l.take 251 ++ ckb (l.take 251)) ++ chk (l.drop 251) := by
  rw [chk, dif_neg (by intro e; subst e; simp at h)]
def h4 (n : Nat) : List UInt8 := [UInt8.ofNat (n / 16777216), UInt8.ofNat (n / 65536), UInt8.ofNat (n / 256), UInt8.ofNat n]
def sealed (b : List UInt8) : List UInt8 := (h4 b.length ++ ckb (h4 b.length)) ++ chk b
set_option maxRecDepth 100000 in
theorem sealed_any (w : World) (n : Nat) (hn : n ≤ 1048576) : Calls Tryz.prog 93 #[.int .i64 n] w fun e w' => ∃ S : Nat, S ≤ 2000000 ∧ e = .returned (.int .i64 S) ∧ w' = w := by
  have hn' : (n : Int) ≤ 1048576 := by omega
  go_enter Tryz.func93, Tryz.ntmps93
  go_wp2_with fail
  go_ret
  refine ⟨8 + n + (n + 251 - 1) / 251 * 4, by omega, ?_, rfl⟩
  show Ending.returned (.int .i64 (8 + (n : Int) + ((n : Int) + 251 - 1) / 251 * 4)) = _
  rw [show (8 + (n : Int) + ((n : Int) + 251 - 1) / 251 * 4) = ((8 + n + (n + 251 - 1) / 251 * 4 : Nat) : Int) by omega]
theorem run_mk0 (S : Nat) (hS : S ≤ lim) (w : World) : (Instr.makeSlice 22 (.int .i64 0) (.int .i64 (S : Int))).run Tryz.prog w = .ok (.slice (some ⟨w.heap.size, 0, none⟩) 0 S) (w.alloc (.cells (zeros S) 5)) := by
  obtain ⟨i0, hi, hz0, hz1, hz2⟩ := info_parts Tryz.info5
  unfold lim at hS
  have hr := run_make (P := Tryz.prog) w 22 5 i0 (.int .u8 0) Tryz.underlying22 hi hz0 .i64 .i64 0 S (by omega) (by omega) (by rw [hz2]; omega) (by omega)
  simpa [hz1, zeros, Value.cells] using hr
theorem h4_bv (n : Nat) (hn : n ≤ 1048576) : bv (h4 n) = [.int .u8 ((n : Int) / 16777216), .int .u8 ((n : Int) / 65536), .int .u8 ((n : Int) / 256 % 256), .int .u8 ((n : Int) % 256)] := by
  have h : ∀ x : Nat, (((UInt8.ofNat x).toNat : Nat) : Int) = (x : Int) % 256 := fun x => by rw [UInt8.toNat_ofNat']; omega
  have e1 : ((n / 16777216 : Nat) : Int) % 256 = (n : Int) / 16777216 := by omega
  have e2 : ((n / 65536 : Nat) : Int) % 256 = (n : Int) / 65536 := by omega
  have e3 : ((n / 256 : Nat) : Int) % 256 = (n : Int) / 256 % 256 := by omega
  simp only [h4, bv, List.map_cons, List.map_nil, h, e1, e2, e3]
def lenOf : Value → Nat
  | .slice _ n _ => n
  | _ => 0
theorem chk_len : ∀ (k : Nat) (l : List UInt8), l.length ≤ k → (chk l).length ≤ 5 * l.length
  | 0, l, h => by
    have : l = [] := List.eq_nil_of_length_eq_zero (by omega)
    subst this; rw [chk_nil]; simp
  | k + 1, l, h => by
    by_cases h0 : l.length = 0
    · have : l = [] := List.eq_nil_of_length_eq_zero h0
      subst this; rw [chk_nil]; simp
    · have := chk_len k (l.drop 251) (by rw [List.length_drop]; omega)
      rw [chk_pos (by omega), List.length_append, List.length_append, ckb_len, List.length_take]
      rw [List.length_drop] at this
      omega
set_option maxRecDepth 100000 in
set_option maxHeartbeats 2000000 in
/-- Seal -/
theorem seal_any {A : Nat → Prop} {w : World} {v : Value} {b : List UInt8} (h : Bs A w v b) (hA : ∀ k, A k → k < w.heap.size) (hl : b.length ≤ 1048576) :
    Calls Tryz.prog 67 #[v] w fun e w' => ∃ v', e = .returned (.tuple #[v', .int .i64 0]) ∧ Ob 5 w.heap.size w' v' (sealed b) ∧ Below w.heap.size w w' := by
  obtain ⟨a, c, rfl, hc, _, _⟩ := h.at
  have hb : Bs (Lt w.heap.size) w (.slice a b.length c) b := h.monoS hA
  have hli : (b.length : Int) ≤ 1048576 := by omega
  have HS := Hid.mk' (sealed_any w b.length hl)
  have HB := Hid.mk' hb
  have HL := Hid.mk' hl
  clear h hb hl
  go_enter Tryz.func67, Tryz.ntmps67
  go_wp2_with fail
  refine HS.out.mono ?_
  rintro e w1 ⟨S, hS, rfl, rfl⟩
  have hm := run_mk0 S (by unfold lim; omega)
  have HS1 := Hid.mk' hS
  clear hS
  go_wp2_with fail
  obtain ⟨W, hW⟩ : ∃ W, W = (w1.alloc (.cells (zeros S) 5)).alloc (.cells #[.int .u8 ((b.length : Int) / 16777216), .int .u8 ((b.length : Int) / 65536), .int .u8 ((b.length : Int) / 256 % 256), .int .u8 ((b.length : Int) % 256)] 5) := ⟨_, rfl⟩
  have hw1 := up_alloc w1 (.cells (zeros S) 5)
  have hw2 : Below (w1.alloc (.cells (zeros S) 5)).heap.size (w1.alloc (.cells (zeros S) 5)) W := by rw [hW]; exact up_alloc _ _
  have ho : Ob 5 w1.heap.size W (.slice (some ⟨w1.heap.size, 0, none⟩) 0 S) [] := by
    have h1 := own_pre (ob_zeros S (by have := HS1.out; unfold lim; omega) w1 5) (Nat.zero_le S)
    rw [List.take_zero] at h1
    exact h1.keep hw2 (Nat.le_refl _)
  have hsrc : Bs (fun k => k = w1.heap.size + 1) W (.slice (some ⟨w1.heap.size + 1, 0, none⟩) 4 4) (h4 b.length) := bs_arr (e := 5) (by
    rw [h4_bv _ HL.out, hW]
    have := heap_alloc_new (w1.alloc (.cells (zeros S) 5)) (.cells #[.int .u8 ((b.length : Int) / 16777216), .int .u8 ((b.length : Int) / 65536), .int .u8 ((b.length : Int) / 256 % 256), .int .u8 ((b.length : Int) % 256)] 5)
    rw [show (w1.alloc (.cells (zeros S) 5)).heap.size = w1.heap.size + 1 by simp] at this
    exact this) rfl
  have hBW := bt hw1 hw2
  have HBW := Hid.mk' hBW
  have HP := Hid.mk' (cput_any ho hsrc hBW.size (by simp [h4]))
  rw [← hW]
  clear hW hw1 hw2 ho hsrc hBW hm HS1
  refine HP.out.mono ?_
  rintro e w3 ⟨v3, rfl, ho3, hb3⟩
  have HO3 := Hid.mk' ho3
  have HB3 := Hid.mk' (HBW.out.trans hb3)
  have HBS : Hid (Bs (Lt w1.heap.size) w3 (.slice a b.length c) b) := HB.out.keep HB3.out
  have HQ : Hid (([] ++ (h4 b.length ++ ckb (h4 b.length))) ++ chk b = sealed b) := by show _ = _; simp [sealed]
  have HQL : Hid ((sealed b).length ≤ 10000000) := by
    have := chk_len _ b (Nat.le_refl _)
    show _ ≤ _
    have := HL.out
    simp only [sealed, List.length_append, ckb_len, h4, List.length_cons, List.length_nil]; omega
  generalize ([] ++ (h4 b.length ++ ckb (h4 b.length)) : List UInt8) = q at *
  clear ho3 hb3 HP HBW
  go_wp2_with fail
  go_loopw [0, 5] (fun v0 o wr => ∃ (r q : List UInt8) (a' : Option Addr) (c' : Nat), v0 = .slice a' r.length c' ∧ r.length ≤ b.length ∧ Hid (Bs (Lt w1.heap.size) wr v0 r) ∧ Hid (Ob 5 w1.heap.size wr o q) ∧ Hid (q ++ chk r = sealed b) ∧ Hid (Below w1.heap.size w1 wr)) (fun v0 _ _ => lenOf v0)
  case atStart => exact ⟨b, q, a, c, rfl, Nat.le_refl _, HBS, HO3, HQ, HB3⟩
  case round =>
    clear HBS HO3 HQ HB3
    obtain ⟨r, q, a', c', rfl, hr, HR, HO, HQ, HB'⟩ := hrel
    have hri : (r.length : Int) ≤ 1048576 := by omega
    by_cases h0 : 0 < r.length
    case neg =>
      have h0' : ¬ (0 : Int) < (r.length : Int) := by omega
      have hr0 : r = [] := List.eq_nil_of_length_eq_zero (by omega)
      have HE : Hid (q = sealed b) := by
        have := HQ.out
        rw [hr0, chk_nil, List.append_nil] at this
        exact this
      clear hr0
      go_wp2_with fail
      go_ret2
      rw [HE.out] at HO
      exact ⟨_, rfl, HO.out, HB'.out⟩
    have h0' : (0 : Int) < (r.length : Int) := by omega
    by_cases h251 : 251 ≤ r.length
    case pos =>
      have hkr : 251 ≤ r.length := by omega
      obtain ⟨a1, c1, S1, r1⟩ := bs_hi HR.out 251 hkr
      obtain ⟨a2, c2, S2, r2⟩ := bs_lo HR.out 251 hkr
      have S1 : ∀ w, (Instr.slice 22 (.slice a' r.length c') none (some (.int .i64 251)) none).run Tryz.prog w = .ok (.slice a1 251 c1) w := S1
      have S2 : ∀ w, (Instr.slice 22 (.slice a' r.length c') (some (.int .i64 251)) none none).run Tryz.prog w = .ok (.slice a2 (r.length - 251) c2) w := S2
      have hd := drew_blx wr wr.heap.size
      have HT : Hid (r.take 251 = r.take 251) := rfl
      have HD : Hid (r.drop 251 = r.drop 251) := rfl
      have HKL : Hid ((r.take 251).length = 251) := by show _ = _; rw [List.length_take]; omega
      have HDL : Hid ((r.length - 251) = (r.drop 251).length) := by show _ = _; rw [List.length_drop]
      have HCH : Hid (chk r = (r.take 251 ++ ckb (r.take 251)) ++ chk (r.drop 251)) := by show _ = _; rw [chk_pos h0, HT.out, HD.out]
      have HLQ : Hid (q.length + (r.take 251).length + 4 ≤ 100000000) := by
        have h1 := HQL.out
        rw [← HQ.out, HCH.out] at h1
        simp only [List.length_append, ckb_len] at h1
        show _ ≤ _
        omega
      have r1' : Bs (Lt w1.heap.size) wr.drew (.slice a1 (r.take 251).length c1) (r.take 251) := by rw [HKL.out]; exact r1.up hd
      rw [HKL.out] at r1'
      have HCP := Hid.mk' (cput_any (show Ob 5 w1.heap.size wr.drew u5 q from HO.out.keep hd (Nat.le_refl _)) r1' (Nat.le_trans HB'.out.size hd.size) HLQ.out)
      have HBD := Hid.mk' (HB'.out.trans (hd.mono HB'.out.size))
      have HR2 := Hid.mk' r2
      clear r1 r1' r2 hd
      have h251' : (251 : Int) ≤ (r.length : Int) := by omega
      go_wp2_with fail
      refine wp_region_mix 9 (fun w' => ∃ q : Kp (fun _ => True) wr, w' = q.nx) (by kernel_rfl) (by kernel_rfl) (kp_first _ wr) ?_
      simp only [List.take_succ_cons, List.take_zero, List.drop_succ_cons, List.drop_zero]
      refine mx_take 4 rfl ?_
      simp only [List.take_succ_cons, List.take_zero, List.drop_succ_cons, List.drop_zero]
      repeat (go_big_quiet_step (fail))
      refine wpQuiet_nil ?_
      refine mx_call (vals := [u5, .slice a1 251 c1]) Tryz.func92 (by kernel_rfl) rfl rfl (by kernel_rfl) (by kernel_rfl) HCP.out (fun e wa ha => ?_)
      obtain ⟨v', rfl, ho', hb'⟩ := ha
      refine ⟨_, rfl, kp_any (Nat.le_trans (Nat.le_refl _) hb'.size), ?_⟩
      simp only [Act.put, List.setIfInBounds_toArray, List.set_cons_succ, List.set_cons_zero]
      refine mx_take 4 rfl ?_
      simp only [List.take_succ_cons, List.take_zero, List.drop_succ_cons, List.drop_zero]
      repeat (go_big_quiet_step (fail))
      refine wpQuiet_nil ?_
      simp only [wpMix]
      have HOA := Hid.mk' ho'
      have HBA := Hid.mk' (HBD.out.trans hb')
      have HRA : Hid (Bs (Lt w1.heap.size) wa (.slice a2 (r.length - 251) c2) (r.drop 251)) := (HR2.out.keep (w' := wr.drew) (drew_blx wr _)).keep hb'
      have HQA : Hid ((q ++ (r.take 251 ++ ckb (r.take 251))) ++ chk (r.drop 251) = sealed b) := by show _ = _; rw [← HQ.out, HCH.out, List.append_assoc]
      clear ho' hb'
      go_wp2_with fail
      go_roundw
      case rel => exact ⟨r.drop 251, q ++ (r.take 251 ++ ckb (r.take 251)), a2, c2, by rw [← HDL.out], by rw [← HDL.out]; omega, HRA, HOA, HQA, HBA⟩
      case measure => simp [lenOf]; omega
    case neg =>
      have hkr : r.length ≤ r.length := by omega
      obtain ⟨a1, c1, S1, r1⟩ := bs_hi HR.out r.length hkr
      obtain ⟨a2, c2, S2, r2⟩ := bs_lo HR.out r.length hkr
      rw [Nat.sub_self] at S2 r2
      have hd := drew_blx wr wr.heap.size
      have HT : Hid (r.take 251 = r.take r.length) := by show _ = _; rw [List.take_of_length_le (by omega), List.take_of_length_le (Nat.le_refl _)]
      have HD : Hid (r.drop 251 = r.drop r.length) := by show _ = _; rw [List.drop_eq_nil_of_le (by omega), List.drop_eq_nil_of_le (Nat.le_refl _)]
      have HKL : Hid ((r.take r.length).length = r.length) := by show _ = _; rw [List.length_take]; omega
      have HDL : Hid (0 = (r.drop r.length).length) := by show _ = _; rw [List.length_drop, Nat.sub_self]
      have HCH : Hid (chk r = (r.take r.length ++ ckb (r.take r.length)) ++ chk (r.drop r.length)) := by show _ = _; rw [chk_pos h0, HT.out, HD.out]
      have HLQ : Hid (q.length + (r.take r.length).length + 4 ≤ 100000000) := by
        have h1 := HQL.out
        rw [← HQ.out, HCH.out] at h1
        simp only [List.length_append, ckb_len] at h1
        show _ ≤ _
        omega
      have r1' : Bs (Lt w1.heap.size) wr.drew (.slice a1 (r.take r.length).length c1) (r.take r.length) := by rw [HKL.out]; exact r1.up hd
      rw [HKL.out] at r1'
      have HCP := Hid.mk' (cput_any (show Ob 5 w1.heap.size wr.drew u5 q from HO.out.keep hd (Nat.le_refl _)) r1' (Nat.le_trans HB'.out.size hd.size) HLQ.out)
      have HBD := Hid.mk' (HB'.out.trans (hd.mono HB'.out.size))
      have HR2 := Hid.mk' r2
      clear r1 r1' r2 hd
      have h251' : ¬ (251 : Int) ≤ (r.length : Int) := by omega
      go_wp2_with fail
      refine wp_region_mix 9 (fun w' => ∃ q : Kp (fun _ => True) wr, w' = q.nx) (by kernel_rfl) (by kernel_rfl) (kp_first _ wr) ?_
      simp only [List.take_succ_cons, List.take_zero, List.drop_succ_cons, List.drop_zero]
      refine mx_take 4 rfl ?_
      simp only [List.take_succ_cons, List.take_zero, List.drop_succ_cons, List.drop_zero]
      repeat (go_big_quiet_step (fail))
      refine wpQuiet_nil ?_
      refine mx_call (vals := [u5, .slice a1 r.length c1]) Tryz.func92 (by kernel_rfl) rfl rfl (by kernel_rfl) (by kernel_rfl) HCP.out (fun e wa ha => ?_)
      obtain ⟨v', rfl, ho', hb'⟩ := ha
      refine ⟨_, rfl, kp_any (Nat.le_trans (Nat.le_refl _) hb'.size), ?_⟩
      simp only [Act.put, List.setIfInBounds_toArray, List.set_cons_succ, List.set_cons_zero]
      refine mx_take 4 rfl ?_
      simp only [List.take_succ_cons, List.take_zero, List.drop_succ_cons, List.drop_zero]
      repeat (go_big_quiet_step (fail))
      refine wpQuiet_nil ?_
      simp only [wpMix]
      have HOA := Hid.mk' ho'
      have HBA := Hid.mk' (HBD.out.trans hb')
      have HRA : Hid (Bs (Lt w1.heap.size) wa (.slice a2 0 c2) (r.drop r.length)) := (HR2.out.keep (w' := wr.drew) (drew_blx wr _)).keep hb'
      have HQA : Hid ((q ++ (r.take r.length ++ ckb (r.take r.length))) ++ chk (r.drop r.length) = sealed b) := by show _ = _; rw [← HQ.out, HCH.out, List.append_assoc]
      clear ho' hb'
      go_wp2_with fail
      go_roundw
      case rel => exact ⟨r.drop r.length, q ++ (r.take r.length ++ ckb (r.take r.length)), a2, c2, by rw [← HDL.out], by rw [← HDL.out]; omega, HRA, HOA, HQA, HBA⟩
      case measure => simp [lenOf]; omega
end Go.Proofs.YtbmhkdcmepfmbaaGreat
set_option linter.unusedVariables false
set_option linter.unusedSimpArgs false
namespace Go.Proofs.YtbmhkdcmepfmbaaGreat
open Go.RowKit
attribute [local go_sem ↓] Go.wp_at_zero Go.wp_at_succ
set_option maxRecDepth 100000 in
set_option maxHeartbeats 1000000 in
/-- take -/
theorem ctake_any {A : Nat → Prop} {w : World} {v : Value} {pre m post : List UInt8} (h : Bs A w v (pre ++ ((m ++ ckb m) ++ post))) (at' n : Nat) (hat : at' = pre.length) (hn : n = m.length) :
    Calls Tryz.prog 105 #[v, .int .i64 at', .int .i64 n] w fun e w' => ∃ a' c', e = .returned (.tuple #[.slice a' n c', .int .i64 0]) ∧ Bs A w (.slice a' n c') m ∧ Below w.heap.size w w' := by
  obtain ⟨a, c, rfl, hc, _, _⟩ := h.at
  have hl : (pre ++ ((m ++ ckb m) ++ post)).length = at' + n + 4 + post.length := by simp only [List.length_append, ckb_len]; omega
  have hll : at' + n + 4 + post.length ≤ 140737488351232 := by have := h.2; rw [hl] at this; exact this
  rw [hl] at h ⊢
  obtain ⟨a1, c1, S1, h1⟩ := bs_lh h at' (at' + n + 4) (by omega) (by rw [hl]; omega)
  obtain ⟨a2, c2, S2, h2⟩ := bs_lh h at' (at' + n) (by omega) (by rw [hl]; omega)
  rw [show at' + n + 4 - at' = n + 4 by omega] at S1 h1
  rw [show at' + n - at' = n by omega] at S2 h2
  have e1 : ((pre ++ ((m ++ ckb m) ++ post)).take (at' + n + 4)).drop at' = m ++ ckb m := by
    rw [hat, show pre.length + n + 4 = pre.length + (n + 4) by omega, List.take_append, List.take_of_length_le (by omega), List.drop_left, Nat.add_sub_cancel_left, List.take_left' (by rw [List.length_append, ckb_len]; omega)]
  have e2 : ((pre ++ ((m ++ ckb m) ++ post)).take (at' + n)).drop at' = m := by
    rw [hat, List.take_append, List.take_of_length_le (by omega), List.drop_left, Nat.add_sub_cancel_left, List.append_assoc, List.take_left' (by omega)]
  rw [e1] at h1
  rw [e2] at h2
  have HG := Hid.mk' (good_any h1)
  have H2 := Hid.mk' h2
  have hi1 : (at' : Int) ≤ 140737488351232 := by omega
  have hi2 : (n : Int) ≤ 140737488351232 := by omega
  have hi3 : (post.length : Int) ≤ 140737488351232 := by omega
  have hlt : ¬ ((at' : Int) + n + 4 + post.length - at' < n + 4) := by omega
  simp only [Int.natCast_add, Int.cast_ofNat_Int] at S1 S2
  clear h h1 h2 hl hll e1 e2 hat hn
  go_enter Tryz.func105, Tryz.ntmps105
  go_wp2_with fail
  refine HG.out.mono ?_
  rintro e w2 ⟨rfl, hb2⟩
  have HB2 := Hid.mk' hb2
  clear hb2
  go_wp2_with fail
  go_ret2
  exact ⟨a2, c2, rfl, H2.out, HB2.out⟩
/-- left after k bytes of the head -/
def hv (n k : Nat) : Nat := if k = 0 then 0 else n / 256 ^ (4 - k)
theorem hv_step (n k : Nat) (hn : n ≤ 1048576) (hk : k < 4) (x : UInt8) (hx : x = (h4 n).getD k 0) : bits BinOp.or .i64 (hv n k * 256 : Int) (x.toNat : Int) = (hv n (k + 1) : Int) := by
  have h : ∀ a b : Nat, a < 16777216 → b < 256 → bits BinOp.or .i64 ((a : Int) * 256) (b : Int) = ((a * 256 + b : Nat) : Int) := fun a b ha hb => by
    have h1 := Nat.two_pow_add_eq_or_of_lt (i := 8) (show b < 2 ^ 8 from hb) a
    have hx : a * 256 ||| b < 2 ^ 64 := Nat.or_lt_two_pow (by omega) (by omega)
    have e1 : (BitVec.ofInt 64 ((a : Int) * 256)).toNat = a * 256 := by
      rw [show (a : Int) * 256 = ((a * 256 : Nat) : Int) by omega, BitVec.ofInt_natCast, BitVec.toNat_ofNat]; exact Nat.mod_eq_of_lt (by omega)
    have e2 : (BitVec.ofInt 64 (b : Int)).toNat = b := by
      rw [BitVec.ofInt_natCast, BitVec.toNat_ofNat]; exact Nat.mod_eq_of_lt (by omega)
    show IntKind.i64.wrap ((BitVec.ofInt 64 ((a : Int) * 256) ||| BitVec.ofInt 64 (b : Int)).toNat : Int) = _
    rw [BitVec.toNat_or, e1, e2, show a * 256 ||| b = a * 256 + b by rw [show a * 256 = 2 ^ 8 * a by omega, ← h1], IntKind.wrap_i64]
    omega
  have hxb := x.toNat_lt
  have hvl : hv n k < 16777216 := by
    unfold hv
    split
    · omega
    · exact Nat.lt_of_le_of_lt (Nat.div_le_self _ _) (by omega)
  rw [h _ _ hvl (by omega)]
  congr 1
  subst hx
  match k, hk with
  | 0, _ => simp only [hv, h4]; simp; omega
  | 1, _ => simp only [hv, h4]; simp; omega
  | 2, _ => simp only [hv, h4]; simp; omega
  | 3, _ => simp only [hv, h4]; simp; omega
theorem hv_lt (n k : Nat) (hn : n ≤ 1048576) : hv n k ≤ 1048576 := by
  unfold hv
  split
  · omega
  · exact Nat.le_trans (Nat.div_le_self _ _) hn
set_option maxRecDepth 100000 in
set_option maxHeartbeats 2000000 in
/-- Open, of what was sealed -/
theorem copen_any {A : Nat → Prop} {w : World} {v : Value} {pre b post : List UInt8} (h : Bs A w v (pre ++ (sealed b ++ post))) (hb : b.length ≤ 1048576) :
    Calls Tryz.prog 81 #[v, .int .i64 pre.length] w fun e w' => ∃ v', e = .returned (.tuple #[v', .int .i64 (pre.length + (sealed b).length : Nat), .int .i64 0]) ∧ Ob 5 w.heap.size w' v' b ∧ Below w.heap.size w w' := by
  obtain ⟨a, c, rfl, hc, _, _⟩ := h.at
  have hl := h.2
  have HL := Hid.mk' hl
  have HBL := Hid.mk' hb
  have hli : (((pre ++ (sealed b ++ post)).length : Nat) : Int) ≤ 140737488351232 := by unfold lim at hl; omega
  have hpi : (pre.length : Int) ≤ ((pre ++ (sealed b ++ post)).length : Nat) := by rw [List.length_append]; omega
  have hpi2 : ¬ (((pre ++ (sealed b ++ post)).length : Nat) : Int) < (pre.length : Int) := by omega
  have HE : Hid (pre ++ (sealed b ++ post) = pre ++ ((h4 b.length ++ ckb (h4 b.length)) ++ (chk b ++ post))) := by show _ = _; unfold sealed; simp only [List.append_assoc]
  have HH := Hid.mk' h
  have HT := Hid.mk' (ctake_any (by rw [← HE.out]; exact h) pre.length 4 rfl rfl)
  have HE2 : Hid (pre ++ (sealed b ++ post) = (pre ++ (h4 b.length ++ ckb (h4 b.length))) ++ (chk b ++ post)) := by show _ = _; rw [HE.out]; simp only [List.append_assoc]
  have HP2 : Hid ((pre ++ (h4 b.length ++ ckb (h4 b.length))).length = pre.length + 8) := by show _ = _; simp only [List.length_append, ckb_len]; rfl
  have HF : Hid (∀ P : List UInt8, P ++ (chk [] ++ post) = pre ++ (sealed b ++ post) → P.length = pre.length + (sealed b).length) := fun P hP => by
    have h1 := congrArg List.length hP
    rw [chk_nil] at h1
    simp only [List.length_append, List.length_nil] at h1
    omega
  generalize pre ++ (sealed b ++ post) = L at *
  have hpb : (pre.length : Int) ≤ 140737488351232 := by omega
  clear h hl hb
  go_enter Tryz.func81, Tryz.ntmps81
  go_wp2_with fail
  refine HT.out.mono ?_
  rintro e w2 ⟨a2, c2, rfl, h2, hb2⟩
  have HB2 := Hid.mk' hb2
  have HL2 : Hid (∀ wr, Below w2.heap.size w2 wr → ∀ (j : Nat) (hj : j < 4), ∃ g o, a2 = some ⟨g, o, none⟩ ∧ wr.cell? ⟨g, o + j, none⟩ = some (.int .u8 (((h4 b.length).getD j 0).toNat : Int))) := fun wr hb' j hj => by
    obtain ⟨a', c', he, _, _, hat'⟩ := ((h2.up hb2).up hb').at
    cases he
    obtain ⟨g, o, e, _, h5⟩ := hat' j hj
    refine ⟨g, o, e, ?_⟩
    rw [h5]
    congr 3
    simp [List.getD, hj, h4]
  have HR0 : Hid (Below w2.heap.size w2 w2) := Below.refl _ _
  clear h2 hb2
  have h4l : (h4 b.length).length = 4 := rfl
  go_wp2_with fail
  go_loopw [9, 35] (fun z i wr => ∃ k : Nat, k ≤ 4 ∧ i = .int .i64 k ∧ z = .int .i64 (hv b.length k) ∧ Hid (Below w2.heap.size w2 wr)) (fun _ i _ => 4 - (intOf i).toNat)
  case atStart => exact ⟨0, by omega, rfl, rfl, HR0⟩
  case round =>
    clear HR0
    obtain ⟨k, hk, rfl, rfl, HR⟩ := hrel
    by_cases hlt : k < 4
    case neg =>
      obtain rfl : k = 4 := by omega
      have hz : hv b.length 4 = b.length := by simp [hv]
      rw [hz]
      have hbi : (b.length : Int) ≤ 1048576 := by have := HBL.out; omega
      have HBW := Hid.mk' (bt HB2.out HR.out)
      have HO : Hid (Ob 5 w.heap.size wr (.slice none 0 0) []) := ob_nil
      have HQ : Hid ((pre ++ (h4 b.length ++ ckb (h4 b.length))) ++ (chk b ++ post) = L) := HE2.out.symm
      have HI : Hid ([] ++ b = b) := rfl
      have HP : Hid ((pre ++ (h4 b.length ++ ckb (h4 b.length))).length = pre.length + 8) := HP2.out
      have HP8 : Hid ((pre.length : Int) + 8 = ((pre ++ (h4 b.length ++ ckb (h4 b.length))).length : Nat)) := by show _ = _; rw [HP2.out]; omega
      generalize pre ++ (h4 b.length ++ ckb (h4 b.length)) = P at *
      clear hz h4l
      go_wp2_with fail
      rw [HP8.out]
      go_loopw [1, 9, 12] (fun at' z o wq => ∃ (P r q : List UInt8) (oa : Option Addr) (oc : Nat), at' = .int .i64 P.length ∧ z = .int .i64 r.length ∧ o = .slice oa q.length oc ∧ Hid (Ob 5 w.heap.size wq o q) ∧ Hid (P ++ (chk r ++ post) = L) ∧ Hid (q ++ r = b) ∧ Hid (Below w.heap.size w wq)) (fun _ z _ _ => (intOf z).toNat)
      case atStart => exact ⟨P, b, [], none, 0, rfl, rfl, rfl, HO, HQ, HI, HBW⟩
      case round =>
        clear HO HQ HI HBW HP
        obtain ⟨P, r, q, oa, oc, rfl, rfl, rfl, HO, HQ, HI, HBW⟩ := hrel
        have HRL : Hid (q.length + r.length ≤ 1048576) := by
          have := HBL.out
          rw [← HI.out, List.length_append] at this
          exact this
        have hri : (r.length : Int) ≤ 1048576 := by have := HRL.out; omega
        have hpi' : (P.length : Int) ≤ 140737488351232 := by
          have := HL.out
          rw [← HQ.out, List.length_append] at this
          unfold lim at this; omega
        by_cases h0 : 0 < r.length
        case neg =>
          have h0' : ¬ (0 : Int) < (r.length : Int) := by omega
          have hr0 : r = [] := List.eq_nil_of_length_eq_zero (by omega)
          have HE : Hid (q = b) := by
            have := HI.out
            rw [hr0, List.append_nil] at this
            exact this
          have HPL : Hid (P.length = pre.length + (sealed b).length) := HF.out P (by have := HQ.out; rw [hr0] at this; exact this)
          clear hr0
          go_wp2_with fail
          go_ret3
          rw [HE.out] at HO ⊢
          refine ⟨.slice oa b.length oc, ?_, HO.out, HBW.out⟩
          rw [HPL.out]
          rfl
        have h0' : (0 : Int) < (r.length : Int) := by omega
        by_cases h251 : 251 ≤ r.length
        case pos =>
          have HKL : Hid ((r.take 251).length = 251) := by show _ = _; rw [List.length_take]; omega
          have HDL : Hid ((r.length - 251) = (r.drop 251).length) := by show _ = _; rw [List.length_drop]
          have HCH : Hid (chk r = (r.take 251 ++ ckb (r.take 251)) ++ chk (r.drop 251)) := by show _ = _; rw [chk_pos h0]
          have HLQ : Hid (L = P ++ ((r.take 251 ++ ckb (r.take 251)) ++ (chk (r.drop 251) ++ post))) := by
            show _ = _
            rw [← HQ.out, HCH.out, List.append_assoc (r.take 251 ++ ckb (r.take 251))]
          have HLN : Hid (L = (P ++ (r.take 251 ++ ckb (r.take 251))) ++ (chk (r.drop 251) ++ post)) := by
            show _ = _
            rw [HLQ.out, List.append_assoc P]
          have HCT : Hid (Calls Tryz.prog 105 #[.slice a L.length c, .int .i64 P.length, .int .i64 251] wr fun e w' => ∃ a' c', e = .returned (.tuple #[.slice a' 251 c', .int .i64 0]) ∧ Bs A w' (.slice a' 251 c') (r.take 251) ∧ Below wr.heap.size wr w') :=
            (ctake_any (by rw [← HLQ.out]; exact HH.out.up HBW.out) P.length 251 rfl HKL.out.symm).mono fun e w' ⟨a', c', e1, e2, e3⟩ => ⟨a', c', e1, e2.up e3, e3⟩
          have h251' : (251 : Int) ≤ (r.length : Int) := by omega
          go_wp2_with fail
          refine HCT.out.mono ?_
          rintro e w3 ⟨a3, c3, rfl, h3, hb3⟩
          have HB3 := Hid.mk' hb3
          have HR3 := Hid.mk' h3
          have HO3 : Hid (Ob 5 w.heap.size w3 (.slice oa q.length oc) q) := HO.out.keep hb3 (Nat.le_refl _)
          have HBW3 := Hid.mk' (bt HBW.out hb3)
          clear h3 hb3
          have HRR : Hid (Row 1 A w3 (.slice a3 251 c3) 251 (bv (r.take 251))) := by have := HR3.out.1; rw [HKL.out] at this; exact this
          go_wp2_with (at_builtin; refine wpl_app rfl (.tmp 63) (.tmp 64) 22 rfl Tryz.underlying22 Tryz.info5 rfl (by decide) rfl HO3.out rfl HRR.out (bv_one _) (by have := HRL.out; unfold maxLen; omega) (by have := HRL.out; omega) HBW3.out.size ?_; intro v6 w6 ho hg hn2 hbb; obtain ⟨a6, c6, e6⟩ := own_slice ho; subst e6; clear hn2 hbb; have HO6 := Hid.mk' ho; have HG6 := Hid.mk' hg; clear ho hg)
          have HQQ : Hid ((P ++ (r.take 251 ++ ckb (r.take 251))) ++ (chk (r.drop 251) ++ post) = L) := HLN.out.symm
          have HPP : Hid ((P ++ (r.take 251 ++ ckb (r.take 251))).length = P.length + 251 + 4) := by show _ = _; simp only [List.length_append, ckb_len, HKL.out]; (try omega)
          have HQL : Hid ((q ++ r.take 251).length = q.length + 251) := by show _ = _; rw [List.length_append, HKL.out]
          have HII : Hid ((q ++ r.take 251) ++ r.drop 251 = b) := by show _ = _; rw [List.append_assoc, List.take_append_drop]; exact HI.out
          have HOO : Hid (Ob 5 w.heap.size w6 (.slice a6 (q.length + 251) c6) (q ++ r.take 251)) := by
            unfold Hid Ob
            rw [HQL.out, show bv (q ++ r.take 251) = bv q ++ bv (r.take 251) by simp [bv]]
            exact HO6.out
          have HBB : Hid (Below w.heap.size w w6) := below_app HBW3.out HO3.out HG6.out (Nat.le_refl _) HBW3.out.size
          refine ⟨?_, ?measure⟩
          repeat apply Exists.intro
          refine ⟨?rel, rfl⟩
          case rel => exact ⟨P ++ (r.take 251 ++ ckb (r.take 251)), r.drop 251, q ++ r.take 251, a6, c6, by rw [HPP.out]; rfl, by rw [← HDL.out]; go_num, by rw [HQL.out], HOO, HQQ, HII, HBB⟩
          case measure => simp [intOf]; omega
        case neg =>
          have HKL : Hid ((r.take r.length).length = r.length) := by show _ = _; rw [List.length_take]; omega
          have HDL : Hid (0 = (r.drop r.length).length) := by show _ = _; rw [List.length_drop, Nat.sub_self]
          have HCH : Hid (chk r = (r.take r.length ++ ckb (r.take r.length)) ++ chk (r.drop r.length)) := by show _ = _; rw [chk_pos h0, List.take_of_length_le (show r.length ≤ 251 by omega), List.take_of_length_le (Nat.le_refl r.length), List.drop_eq_nil_of_le (show r.length ≤ 251 by omega), List.drop_eq_nil_of_le (Nat.le_refl r.length)]
          have HLQ : Hid (L = P ++ ((r.take r.length ++ ckb (r.take r.length)) ++ (chk (r.drop r.length) ++ post))) := by
            show _ = _
            rw [← HQ.out, HCH.out, List.append_assoc (r.take r.length ++ ckb (r.take r.length))]
          have HLN : Hid (L = (P ++ (r.take r.length ++ ckb (r.take r.length))) ++ (chk (r.drop r.length) ++ post)) := by
            show _ = _
            rw [HLQ.out, List.append_assoc P]
          have HCT : Hid (Calls Tryz.prog 105 #[.slice a L.length c, .int .i64 P.length, .int .i64 (r.length : Int)] wr fun e w' => ∃ a' c', e = .returned (.tuple #[.slice a' r.length c', .int .i64 0]) ∧ Bs A w' (.slice a' r.length c') (r.take r.length) ∧ Below wr.heap.size wr w') :=
            (ctake_any (by rw [← HLQ.out]; exact HH.out.up HBW.out) P.length r.length rfl HKL.out.symm).mono fun e w' ⟨a', c', e1, e2, e3⟩ => ⟨a', c', e1, e2.up e3, e3⟩
          have h251' : ¬ (251 : Int) ≤ (r.length : Int) := by omega
          go_wp2_with fail
          refine HCT.out.mono ?_
          rintro e w3 ⟨a3, c3, rfl, h3, hb3⟩
          have HB3 := Hid.mk' hb3
          have HR3 := Hid.mk' h3
          have HO3 : Hid (Ob 5 w.heap.size w3 (.slice oa q.length oc) q) := HO.out.keep hb3 (Nat.le_refl _)
          have HBW3 := Hid.mk' (bt HBW.out hb3)
          clear h3 hb3
          have HRR : Hid (Row 1 A w3 (.slice a3 r.length c3) r.length (bv (r.take r.length))) := by have := HR3.out.1; rw [HKL.out] at this; exact this
          go_wp2_with (at_builtin; refine wpl_app rfl (.tmp 63) (.tmp 64) 22 rfl Tryz.underlying22 Tryz.info5 rfl (by decide) rfl HO3.out rfl HRR.out (bv_one _) (by have := HRL.out; unfold maxLen; omega) (by have := HRL.out; omega) HBW3.out.size ?_; intro v6 w6 ho hg hn2 hbb; obtain ⟨a6, c6, e6⟩ := own_slice ho; subst e6; clear hn2 hbb; have HO6 := Hid.mk' ho; have HG6 := Hid.mk' hg; clear ho hg)
          have HQQ : Hid ((P ++ (r.take r.length ++ ckb (r.take r.length))) ++ (chk (r.drop r.length) ++ post) = L) := HLN.out.symm
          have HPP : Hid ((P ++ (r.take r.length ++ ckb (r.take r.length))).length = P.length + r.length + 4) := by show _ = _; simp only [List.length_append, ckb_len, HKL.out]; (try omega)
          have HQL : Hid ((q ++ r.take r.length).length = q.length + r.length) := by show _ = _; rw [List.length_append, HKL.out]
          have HII : Hid ((q ++ r.take r.length) ++ r.drop r.length = b) := by show _ = _; rw [List.append_assoc, List.take_append_drop]; exact HI.out
          have HOO : Hid (Ob 5 w.heap.size w6 (.slice a6 (q.length + r.length) c6) (q ++ r.take r.length)) := by
            unfold Hid Ob
            rw [HQL.out, show bv (q ++ r.take r.length) = bv q ++ bv (r.take r.length) by simp [bv]]
            exact HO6.out
          have HBB : Hid (Below w.heap.size w w6) := below_app HBW3.out HO3.out HG6.out (Nat.le_refl _) HBW3.out.size
          refine ⟨?_, ?measure⟩
          repeat apply Exists.intro
          refine ⟨?rel, rfl⟩
          case rel => exact ⟨P ++ (r.take r.length ++ ckb (r.take r.length)), r.drop r.length, q ++ r.take r.length, a6, c6, by rw [HPP.out]; rfl, by rw [← HDL.out]; rfl, by rw [HQL.out], HOO, HQQ, HII, HBB⟩
          case measure => simp [intOf]; omega
    have hlt' : (k : Int) < 4 := by omega
    obtain ⟨g, o, rfl, d0⟩ := HL2.out _ HR.out k hlt
    have HS := Hid.mk' (hv_step b.length k HBL.out hlt _ rfl)
    have hz1 : (hv b.length k : Int) ≤ 1048576 := by have := hv_lt b.length k HBL.out; omega
    have hz2 : (hv b.length (k + 1) : Int) ≤ 1048576 := by have := hv_lt b.length (k + 1) HBL.out; omega
    have hxb : (((h4 b.length).getD k 0).toNat : Int) < 256 := by have := ((h4 b.length).getD k 0).toNat_lt; omega
    generalize (h4 b.length).getD k 0 = x at *
    go_wp2_with fail
    rw [HS.out]
    go_roundw
    case rel => exact ⟨k + 1, by omega, by go_num, rfl, HR⟩
    case measure => simp [intOf]; omega
end Go.Proofs.YtbmhkdcmepfmbaaGreat
set_option linter.unusedVariables false
set_option linter.unusedSimpArgs false
namespace Go.Proofs.YtbmhkdcmepfmbaaGreat
open Go.RowKit
attribute [local go_sem ↓] Go.wp_at_zero Go.wp_at_succ
/-- records -/
def wrp (l : List UInt8) : List UInt8 := if h : l.length < 4096 then sealed l else sealed (l.take 4096) ++ wrp (l.drop 4096)
termination_by l.length
decreasing_by rw [List.length_drop]; omega
theorem wrp_last {l : List UInt8} (h : l.length < 4096) : wrp l = sealed l := by rw [wrp, dif_pos h]
theorem wrp_more {l : List UInt8} (h : ¬ l.length < 4096) : wrp l = sealed (l.take 4096) ++ wrp (l.drop 4096) := by rw [wrp, dif_neg h]
theorem sealed_len (b : List UInt8) : (sealed b).length ≤ 8 + 5 * b.length := by
  have := chk_len _ b (Nat.le_refl _)
  simp only [sealed, List.length_append, ckb_len, h4, List.length_cons, List.length_nil]; omega
theorem wrp_len : ∀ (k : Nat) (l : List UInt8), l.length ≤ k → (wrp l).length ≤ 6 * l.length + 8
  | 0, l, h => by rw [wrp_last (by omega)]; have := sealed_len l; omega
  | k + 1, l, h => by
    by_cases h0 : l.length < 4096
    · rw [wrp_last h0]; have := sealed_len l; omega
    · have h1 := wrp_len k (l.drop 4096) (by rw [List.length_drop]; omega)
      have h2 := sealed_len (l.take 4096)
      rw [wrp_more h0, List.length_append]
      rw [List.length_drop] at h1
      rw [List.length_take] at h2
      omega
set_option maxRecDepth 100000 in
set_option maxHeartbeats 2000000 in
/-- Wrap -/
theorem wrap_any {A : Nat → Prop} {w : World} {v : Value} {l : List UInt8} (h : Bs A w v l) (hA : ∀ k, A k → k < w.heap.size) (hl : l.length ≤ 10000000) :
    Calls Tryz.prog 39 #[v] w fun e w' => ∃ v', e = .returned v' ∧ Ob 5 w.heap.size w' v' (wrp l) ∧ Below w.heap.size w w' := by
  obtain ⟨a, c, rfl, hc, _, _⟩ := h.at
  have HBS : Hid (Bs (Lt w.heap.size) w (.slice a l.length c) l) := h.monoS hA
  have HO : Hid (Ob 5 w.heap.size w (.slice none 0 0) []) := ob_nil
  have HQ : Hid ([] ++ wrp l = wrp l) := rfl
  have HB : Hid (Below w.heap.size w w) := Below.refl _ _
  have HWL := Hid.mk' (wrp_len _ l (Nat.le_refl _))
  have HL := Hid.mk' hl
  clear h hl
  go_enter Tryz.func39, Tryz.ntmps39
  go_wp2_with fail
  go_loopw [0, 3] (fun v0 o wr => ∃ (r q : List UInt8) (a' : Option Addr) (c' : Nat) (oa : Option Addr) (oc : Nat), v0 = .slice a' r.length c' ∧ o = .slice oa q.length oc ∧ r.length ≤ l.length ∧ Hid (Bs (Lt w.heap.size) wr v0 r) ∧ Hid (Ob 5 w.heap.size wr o q) ∧ Hid (q ++ wrp r = wrp l) ∧ Hid (Below w.heap.size w wr)) (fun v0 _ _ => lenOf v0)
  case atStart => exact ⟨l, [], a, c, none, 0, rfl, rfl, Nat.le_refl _, HBS, HO, HQ, HB⟩
  case round =>
    clear HBS HO HQ HB
    obtain ⟨r, q, a', c', oa, oc, rfl, rfl, hr, HR, HO, HQ, HB⟩ := hrel
    have hri : (r.length : Int) ≤ 10000000 := by have := HL.out; omega
    by_cases h0 : r.length < 4096
    case pos =>
      have hm : ¬ (4096 : Int) ≤ (r.length : Int) := by omega
      have hkr : r.length ≤ r.length := by omega
      obtain ⟨a1, c1, S1, r1⟩ := bs_hi HR.out r.length hkr
      have HKL : Hid ((r.take r.length).length = r.length) := by show _ = _; rw [List.length_take]; omega
      have HCS : Hid (Calls Tryz.prog 67 #[.slice a1 r.length c1] wr fun e w' => ∃ v', e = .returned (.tuple #[v', .int .i64 0]) ∧ Ob 5 wr.heap.size w' v' (sealed (r.take r.length)) ∧ Below wr.heap.size wr w') := seal_any r1 (fun k hk => Nat.lt_of_lt_of_le hk HB.out.size) (by rw [HKL.out]; omega)
      have HSL : Hid ((sealed (r.take r.length)).length ≤ 30000) := by
        have := sealed_len (r.take r.length)
        rw [HKL.out] at this
        show _ ≤ _
        omega
      have HQL : Hid (q.length ≤ 60000008) := by
        have h1 := HWL.out
        have h2 := HL.out
        rw [← HQ.out, List.length_append] at h1
        show _ ≤ _
        omega
      clear r1
      go_wp2_with fail
      refine HCS.out.mono ?_
      rintro e w3 ⟨v3, rfl, ho3, hb3⟩
      obtain ⟨a3, c3, e3⟩ := own_slice ho3
      subst e3
      have HO3 := Hid.mk' ho3
      have HB3 := Hid.mk' hb3
      have HOO : Hid (Ob 5 w.heap.size w3 (.slice oa q.length oc) q) := HO.out.keep hb3 (Nat.le_refl _)
      have HBW := Hid.mk' (bt HB.out hb3)
      have HRW : Hid (Row 1 (Lt w3.heap.size) w3 (.slice a3 (sealed (r.take r.length)).length c3) (sealed (r.take r.length)).length (bv (sealed (r.take r.length)))) := Row.of_own ho3
      have HQE : Hid (bv (q ++ sealed (r.take r.length)) = bv q ++ bv (sealed (r.take r.length))) := by show _ = _; simp [bv]
      generalize hsd : sealed (r.take r.length) = sd at *
      have HSD := Hid.mk' hsd
      clear ho3 hb3 hsd
      go_wp2_with (at_builtin; refine wpl_app rfl (.tmp 17) (.tmp 18) 22 rfl Tryz.underlying22 Tryz.info5 rfl (by decide) rfl HOO.out rfl HRW.out (bv_one _) (by have := HSL.out; have := HQL.out; unfold maxLen; omega) (by have := HSL.out; have := HQL.out; omega) HBW.out.size ?_; intro v6 w6 ho hg hn2 hbb; obtain ⟨a6, c6, e6⟩ := own_slice ho; subst e6; clear hn2 hbb; have HO6 := Hid.mk' ho; have HG6 := Hid.mk' hg; clear ho hg)
      have HBB : Hid (Below w.heap.size w w6) := below_app HBW.out HOO.out HG6.out (Nat.le_refl _) HBW.out.size
      have HO7 : Hid (Ob 5 w.heap.size w6 (.slice a6 (q.length + sd.length) c6) (q ++ sd)) := by
        unfold Hid Ob
        rw [List.length_append, HQE.out]
        exact HO6.out
      have HE : Hid (q ++ sd = wrp l) := by
        show _ = _
        rw [← HQ.out, wrp_last h0, ← HSD.out, List.take_of_length_le (Nat.le_refl _)]
      (try go_wp2_with fail)
      go_ret
      rw [HE.out] at HO7
      exact ⟨_, rfl, HO7.out, HBB.out⟩
    case neg =>
      have hm : (4096 : Int) ≤ (r.length : Int) := by omega
      have hkr : 4096 ≤ r.length := by omega
      obtain ⟨a1, c1, S1, r1⟩ := bs_hi HR.out 4096 hkr
      obtain ⟨a2, c2, S2, r2⟩ := bs_lo HR.out 4096 hkr
      have S1 : ∀ w, (Instr.slice 22 (.slice a' r.length c') none (some (.int .i64 4096)) none).run Tryz.prog w = .ok (.slice a1 4096 c1) w := S1
      have S2 : ∀ w, (Instr.slice 22 (.slice a' r.length c') (some (.int .i64 4096)) none none).run Tryz.prog w = .ok (.slice a2 (r.length - 4096) c2) w := S2
      have HR2 := Hid.mk' r2
      have HKL : Hid ((r.take 4096).length = 4096) := by show _ = _; rw [List.length_take]; omega
      have HCS : Hid (Calls Tryz.prog 67 #[.slice a1 4096 c1] wr fun e w' => ∃ v', e = .returned (.tuple #[v', .int .i64 0]) ∧ Ob 5 wr.heap.size w' v' (sealed (r.take 4096)) ∧ Below wr.heap.size wr w') := seal_any r1 (fun k hk => Nat.lt_of_lt_of_le hk HB.out.size) (by rw [HKL.out]; omega)
      have HSL : Hid ((sealed (r.take 4096)).length ≤ 30000) := by
        have := sealed_len (r.take 4096)
        rw [HKL.out] at this
        show _ ≤ _
        omega
      have HQL : Hid (q.length ≤ 60000008) := by
        have h1 := HWL.out
        have h2 := HL.out
        rw [← HQ.out, List.length_append] at h1
        show _ ≤ _
        omega
      clear r1 r2
      go_wp2_with fail
      refine HCS.out.mono ?_
      rintro e w3 ⟨v3, rfl, ho3, hb3⟩
      obtain ⟨a3, c3, e3⟩ := own_slice ho3
      subst e3
      have HO3 := Hid.mk' ho3
      have HB3 := Hid.mk' hb3
      have HOO : Hid (Ob 5 w.heap.size w3 (.slice oa q.length oc) q) := HO.out.keep hb3 (Nat.le_refl _)
      have HBW := Hid.mk' (bt HB.out hb3)
      have HRW : Hid (Row 1 (Lt w3.heap.size) w3 (.slice a3 (sealed (r.take 4096)).length c3) (sealed (r.take 4096)).length (bv (sealed (r.take 4096)))) := Row.of_own ho3
      have HQE : Hid (bv (q ++ sealed (r.take 4096)) = bv q ++ bv (sealed (r.take 4096))) := by show _ = _; simp [bv]
      generalize hsd : sealed (r.take 4096) = sd at *
      have HSD := Hid.mk' hsd
      clear ho3 hb3 hsd
      go_wp2_with (at_builtin; refine wpl_app rfl (.tmp 17) (.tmp 18) 22 rfl Tryz.underlying22 Tryz.info5 rfl (by decide) rfl HOO.out rfl HRW.out (bv_one _) (by have := HSL.out; have := HQL.out; unfold maxLen; omega) (by have := HSL.out; have := HQL.out; omega) HBW.out.size ?_; intro v6 w6 ho hg hn2 hbb; obtain ⟨a6, c6, e6⟩ := own_slice ho; subst e6; clear hn2 hbb; have HO6 := Hid.mk' ho; have HG6 := Hid.mk' hg; clear ho hg)
      have HBB : Hid (Below w.heap.size w w6) := below_app HBW.out HOO.out HG6.out (Nat.le_refl _) HBW.out.size
      have HO7 : Hid (Ob 5 w.heap.size w6 (.slice a6 (q.length + sd.length) c6) (q ++ sd)) := by
        unfold Hid Ob
        rw [List.length_append, HQE.out]
        exact HO6.out
      have HQQ : Hid ((q ++ sd) ++ wrp (r.drop 4096) = wrp l) := by
        show _ = _
        rw [← HQ.out, wrp_more h0, ← HSD.out, List.append_assoc]
      have HDL : Hid (r.length - 4096 = (r.drop 4096).length) := by show _ = _; rw [List.length_drop]
      have HRR : Hid (Bs (Lt w.heap.size) w6 (.slice a2 (r.length - 4096) c2) (r.drop 4096)) := by
        have h1 := HR2.out.keep (w' := w3) (HB3.out.mono HB.out.size)
        have h2 : Below w.heap.size w3 w6 := below_app (Below.refl _ w3) HOO.out HG6.out (Nat.le_refl _) HBW.out.size
        exact h1.keep h2
      refine ⟨⟨r.drop 4096, q ++ sd, a2, c2, a6, c6, by rw [← HDL.out], by rw [List.length_append], by rw [← HDL.out]; omega, HRR, HO7, HQQ, HBB⟩, ?_⟩
      simp only [lenOf]; omega
/-- one record of what was wrapped, and what lies behind it -/
def wpost (r : List UInt8) : List UInt8 := if r.length < 4096 then [] else wrp (r.drop 4096)
theorem wrp_eq (r : List UInt8) : wrp r = sealed (r.take 4096) ++ wpost r := by
  unfold wpost
  split
  · next h => rw [wrp_last h, List.take_of_length_le (by omega), List.append_nil]
  · next h => exact wrp_more h
set_option maxRecDepth 100000 in
set_option maxHeartbeats 2000000 in
/-- Unwrap, of what was wrapped -/
theorem unwrap_any {A : Nat → Prop} {w : World} {v : Value} {l : List UInt8} (h : Bs A w v (wrp l)) (hl : l.length ≤ 10000000) :
    Calls Tryz.prog 57 #[v] w fun e w' => ∃ v', e = .returned (.tuple #[v', .int .i64 0]) ∧ Ob 5 w.heap.size w' v' l ∧ Below w.heap.size w w' := by
  obtain ⟨a, c, rfl, hc, _, _⟩ := h.at
  have HO : Hid (Ob 5 w.heap.size w (.slice none 0 0) []) := ob_nil
  have HQ : Hid ([] ++ wrp l = wrp l) := rfl
  have HI : Hid ([] ++ l = l) := rfl
  have HB : Hid (Below w.heap.size w w) := Below.refl _ _
  have HWL := Hid.mk' (wrp_len _ l (Nat.le_refl _))
  have HL := Hid.mk' hl
  have HH := Hid.mk' h
  have hLi : ((wrp l).length : Int) ≤ 60000008 := by have := HWL.out; have := HL.out; omega
  generalize hLg : wrp l = L at *
  have HLG := Hid.mk' hLg
  clear h hl hLg
  go_enter Tryz.func57, Tryz.ntmps57
  go_wp2_with fail
  go_loopw [4, 5] (fun o at' wr => ∃ (P r q : List UInt8) (oa : Option Addr) (oc : Nat), o = .slice oa q.length oc ∧ at' = .int .i64 P.length ∧ Hid (Ob 5 w.heap.size wr o q) ∧ Hid (P ++ wrp r = L) ∧ Hid (q ++ r = l) ∧ Hid (Below w.heap.size w wr)) (fun _ at' _ => L.length - (intOf at').toNat)
  case atStart => exact ⟨[], l, [], none, 0, rfl, rfl, HO, HLG, HI, HB⟩
  case round =>
    clear HO HQ HI HB
    obtain ⟨P, r, q, oa, oc, rfl, rfl, HO, HQ, HI, HB⟩ := hrel
    have HQ2 : Hid (L = P ++ (sealed (r.take 4096) ++ wpost r)) := by show _ = _; rw [← HQ.out, wrp_eq]
    have HRL : Hid (q.length + r.length ≤ 10000000) := by
      have := HL.out
      rw [← HI.out, List.length_append] at this
      exact this
    have HPL : Hid (P.length + (sealed (r.take 4096)).length + (wpost r).length = L.length) := by show _ = _; rw [HQ2.out]; simp only [List.length_append]; omega
    have HSP : Hid (0 < (sealed (r.take 4096)).length) := by show 0 < _; simp only [sealed, List.length_append, ckb_len]; omega
    have HCO : Hid (Calls Tryz.prog 81 #[.slice a L.length c, .int .i64 P.length] wr fun e w' => ∃ v', e = .returned (.tuple #[v', .int .i64 (P.length + (sealed (r.take 4096)).length : Nat), .int .i64 0]) ∧ Ob 5 wr.heap.size w' v' (r.take 4096) ∧ Below wr.heap.size wr w') :=
      copen_any (by rw [← HQ2.out]; exact HH.out.up HB.out) (by rw [List.length_take]; omega)
    obtain ⟨P', hP'⟩ : ∃ P' : List UInt8, P' = P ++ sealed (r.take 4096) := ⟨_, rfl⟩
    have HPP : Hid (P.length + (sealed (r.take 4096)).length = P'.length) := by show _ = _; rw [hP', List.length_append]
    have HPQ : Hid (P' ++ wpost r = L) := by show _ = _; rw [HQ2.out, hP', List.append_assoc]
    have HPI : Hid (P.length < P'.length) := by have := HPP.out; have := HSP.out; show _ < _; omega
    have hpl : (P'.length : Int) ≤ 60000008 := by have := HPL.out; have := HPP.out; omega
    have hpl0 : (P.length : Int) ≤ 60000008 := by have := HPL.out; omega
    have HQX : Hid (bv (q ++ r.take 4096) = bv q ++ bv (r.take 4096)) := by show _ = _; simp [bv]
    rw [HPP.out] at HCO
    have HPE : Hid (P'.length + (wpost r).length = L.length) := by have := HPL.out; have := HPP.out; show _ = _; omega
    clear hP'
    go_wp2_with fail
    refine HCO.out.mono ?_
    rintro e w3 ⟨v3, rfl, ho3, hb3⟩
    obtain ⟨a3, c3, e3⟩ := own_slice ho3
    subst e3
    have HB3 := Hid.mk' hb3
    have HOO : Hid (Ob 5 w.heap.size w3 (.slice oa q.length oc) q) := HO.out.keep hb3 (Nat.le_refl _)
    have HBW := Hid.mk' (bt HB.out hb3)
    have HRW : Hid (Row 1 (Lt w3.heap.size) w3 (.slice a3 (r.take 4096).length c3) (r.take 4096).length (bv (r.take 4096))) := Row.of_own ho3
    have HTL : Hid ((r.take 4096).length = min 4096 r.length) := by show _ = _; rw [List.length_take]
    have HTD : Hid (q ++ r.take 4096 = l → True) := fun _ => trivial
    have HII : Hid ((q ++ r.take 4096) ++ r.drop 4096 = l) := by show _ = _; rw [List.append_assoc, List.take_append_drop]; exact HI.out
    generalize hsd : r.take 4096 = sd at *
    have HSD := Hid.mk' hsd
    have hsi : (sd.length : Int) ≤ 4096 := by have := HTL.out; omega
    clear ho3 hb3 hsd
    by_cases h0 : r.length < 4096
    case pos =>
      have h1 : (sd.length : Int) < 4096 := by have := HTL.out; omega
      have HPZ : Hid (P'.length = L.length) := by
        have := HPE.out
        rw [wpost, if_pos h0] at this
        show _ = _
        simpa using this
      have h2 : ¬ (P'.length : Int) < (L.length : Int) := by have := HPZ.out; omega
      have HE : Hid (q ++ sd = l) := by
        have := HII.out
        rw [List.drop_eq_nil_of_le (by omega), List.append_nil] at this
        exact this
      go_wp2_with (at_builtin; refine wpl_app rfl (.tmp 19) (.tmp 20) 22 rfl Tryz.underlying22 Tryz.info5 rfl (by decide) rfl HOO.out rfl HRW.out (bv_one _) (by have := HTL.out; have := HRL.out; unfold maxLen; omega) (by have := HTL.out; have := HRL.out; omega) HBW.out.size ?_; intro v6 w6 ho hg hn2 hbb; obtain ⟨a6, c6, e6⟩ := own_slice ho; subst e6; clear hn2 hbb; have HO6 := Hid.mk' ho; have HG6 := Hid.mk' hg; clear ho hg)
      have HBB : Hid (Below w.heap.size w w6) := below_app HBW.out HOO.out HG6.out (Nat.le_refl _) HBW.out.size
      have HO7 : Hid (Ob 5 w.heap.size w6 (.slice a6 (q.length + sd.length) c6) (q ++ sd)) := by
        unfold Hid Ob
        rw [List.length_append, HQX.out]
        exact HO6.out
      go_ret2
      rw [HE.out] at HO7
      exact ⟨_, rfl, HO7.out, HBB.out⟩
    case neg =>
      have hz : sd.length = 4096 := by have := HTL.out; omega
      rw [hz] at HRW
      go_wp2_with (at_builtin; refine wpl_app rfl (.tmp 19) (.tmp 20) 22 rfl Tryz.underlying22 Tryz.info5 rfl (by decide) rfl HOO.out rfl HRW.out (bv_one _) (by have := HTL.out; have := HRL.out; unfold maxLen; omega) (by have := HTL.out; have := HRL.out; omega) HBW.out.size ?_; intro v6 w6 ho hg hn2 hbb; obtain ⟨a6, c6, e6⟩ := own_slice ho; subst e6; clear hn2 hbb; have HO6 := Hid.mk' ho; have HG6 := Hid.mk' hg; clear ho hg)
      have HBB : Hid (Below w.heap.size w w6) := below_app HBW.out HOO.out HG6.out (Nat.le_refl _) HBW.out.size
      have HO7 : Hid (Ob 5 w.heap.size w6 (.slice a6 (q.length + 4096) c6) (q ++ sd)) := by
        unfold Hid Ob
        rw [List.length_append, HQX.out, hz]
        exact HO6.out
      have HPN : Hid (P' ++ wrp (r.drop 4096) = L) := by
        have := HPQ.out
        rw [wpost, if_neg h0] at this
        exact this
      refine ⟨⟨P', r.drop 4096, q ++ sd, a6, c6, by rw [List.length_append, hz], rfl, HO7, HPN, HII, HBB⟩, ?_⟩
      have h1 := HPI.out
      have h2 := HPE.out
      simp only [intOf, Int.toNat_natCast]
      omega
end Go.Proofs.YtbmhkdcmepfmbaaGreat
