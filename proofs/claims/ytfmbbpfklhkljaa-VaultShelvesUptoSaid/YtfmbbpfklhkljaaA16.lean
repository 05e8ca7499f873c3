/- groyneref08.Same; groynelaw08.awake. -/
import Derived.Test.YtfmbbpfklhkljaaA15
set_option linter.unusedVariables false
set_option linter.unusedSimpArgs false
namespace Go.Proofs.Ytfmbbpfklhkljaa
open Go.RowKit
def same (a b : Nd) : Bool := a.leaf == b.leaf && a.keys == b.keys && a.vals == b.vals && a.kids == b.kids
theorem same_self (a : Nd) : same a a = true := by simp [same]
theorem kids_ne {l m : List Int} {k : Nat} (h1 : k < l.length) (h2 : k < m.length) (h : (l[k] != m[k]) = true) : (l == m) = false := by
  rw [beq_eq_false_iff_ne]; rintro rfl; simp at h
theorem kids_snoc {l m : List Int} {k : Nat} (hl : k < l.length) (hm : k < m.length) (h : l.take k = m.take k) (he : (l[k] != m[k]) = false) : l.take (k + 1) = m.take (k + 1) := by
  rw [List.take_succ_eq_append_getElem hl, List.take_succ_eq_append_getElem hm, h, bne_eq_false_iff_eq.1 he]
set_option maxRecDepth 100000 in
set_option maxHeartbeats 4000000 in
/-- groyneref08.Same -/
theorem same_any {A A' : Nat → Prop} {w : World} {v u : Value} {a b : Nd} (h : RN A w v a) (h' : RN A' w u b) : Calls Try.prog 27 #[v, u] w fun e w' => e = .returned (.bool (same a b)) ∧ Below w.heap.size w w' := by
  obtain ⟨k1, u1, c1, rfl, h1, h2, h3⟩ := h
  obtain ⟨k2, u2, c2, rfl, j1, j2, j3⟩ := h'
  have HK := Hid.mk' (fun w' (hb : Below w.heap.size w w') => equals_any _ _ _ _ w' (h1.up hb) (j1.up hb))
  have HV := Hid.mk' (fun w' (hb : Below w.heap.size w w') => equals_any _ _ _ _ w' (h2.up hb) (j2.up hb))
  have H3 := Hid.mk' h3
  have J3 := Hid.mk' j3
  obtain ⟨x1, y1, rfl, _⟩ := h1.at
  obtain ⟨x2, y2, rfl, _⟩ := h2.at
  obtain ⟨x3, y3, rfl, _⟩ := h3.at
  obtain ⟨p1, q1, rfl, _⟩ := j1.at
  obtain ⟨p2, q2, rfl, _⟩ := j2.at
  obtain ⟨p3, q3, rfl, _⟩ := j3.at
  have hl3 : a.kids.length * 8 ≤ 140737488351232 := h3.2.1
  clear h1 h2 h3 j1 j2 j3
  have HS : Hid (same a b = (a.leaf == b.leaf && a.keys == b.keys && a.vals == b.vals && a.kids == b.kids)) := rfl
  generalize same a b = sm at *
  obtain ⟨W1, hW1⟩ : ∃ W1, W1 = w.alloc (.cells #[.bool a.leaf, .slice x1 a.keys.length y1, .slice x2 a.vals.length y2, .slice x3 a.kids.length y3] 31) := ⟨_, rfl⟩
  obtain ⟨W2, hW2⟩ : ∃ W2, W2 = W1.alloc (.cells #[.bool b.leaf, .slice p1 b.keys.length q1, .slice p2 b.vals.length q2, .slice p3 b.kids.length q3] 31) := ⟨_, rfl⟩
  have hb1 : Below w.heap.size w W1 := by rw [hW1]; exact up_alloc _ _
  have hb2 : Below W1.heap.size W1 W2 := by rw [hW2]; exact up_alloc _ _
  have hs1 : W1.heap.size = w.heap.size + 1 := by rw [hW1]; simp
  have hx1 : W2.heap[w.heap.size]? = some (.cells #[.bool a.leaf, .slice x1 a.keys.length y1, .slice x2 a.vals.length y2, .slice x3 a.kids.length y3] 31 (0, 0)) := by
    rw [hb2.block _ (by omega), hW1]; exact heap_alloc_new w _
  have hx2 : W2.heap[w.heap.size + 1]? = some (.cells #[.bool b.leaf, .slice p1 b.keys.length q1, .slice p2 b.vals.length q2, .slice p3 b.kids.length q3] 31 (0, 0)) := by
    rw [hW2, ← hs1]; exact heap_alloc_new W1 _
  have BX : Hid (Bx4 w.heap.size (.bool a.leaf) (.slice x1 a.keys.length y1) (.slice x2 a.vals.length y2) (.slice x3 a.kids.length y3) W2) := by
    have := heap_alloc_new w (.cells #[.bool a.leaf, .slice x1 a.keys.length y1, .slice x2 a.vals.length y2, .slice x3 a.kids.length y3] 31)
    refine ⟨?_, ?_, ?_, ?_⟩ <;> simp only [World.cell?, hx1] <;> rfl
  have BY : Hid (Bx4 (w.heap.size + 1) (.bool b.leaf) (.slice p1 b.keys.length q1) (.slice p2 b.vals.length q2) (.slice p3 b.kids.length q3) W2) := by
    refine ⟨?_, ?_, ?_, ?_⟩ <;> simp only [World.cell?, hx2] <;> rfl
  have HB := Hid.mk' (bt hb1 hb2)
  have HL : ∀ l m : List Int, l.length ≠ m.length → (l == m) = false := fun l m hne => by rw [beq_eq_false_iff_ne]; rintro rfl; exact hne rfl
  have HL := Hid.mk' HL
  obtain ⟨b0, b1, b2, b3⟩ := BX.out
  obtain ⟨d0, d1, d2, d3⟩ := BY.out
  have he : ((w.alloc (.cells #[.bool a.leaf, .slice x1 a.keys.length y1, .slice x2 a.vals.length y2, .slice x3 a.kids.length y3] 31)).alloc (.cells #[.bool b.leaf, .slice p1 b.keys.length q1, .slice p2 b.vals.length q2, .slice p3 b.kids.length q3] 31)) = W2 := by rw [hW2, hW1]
  clear hW1 hW2 hb1 hb2 hs1 hx1 hx2
  by_cases hlf : a.leaf = b.leaf
  · rw [hlf] at b0 BX HS
    have HS : Hid (sm = (a.keys == b.keys && a.vals == b.vals && a.kids == b.kids)) := by show _ = _; rw [HS.out]; simp
    rw [hlf] at he ⊢
    clear hlf
    go_enter Try.func27, Try.ntmps27
    go_wp2_with fail
    refine (HK.out _ HB.out).mono ?_
    rintro e w3 ⟨rfl, hd3⟩
    have HB3 := Hid.mk' (HB.out.trans (hd3.below _))
    obtain ⟨b0, b1, b2, b3⟩ := BX.out.up (hd3.below _)
    obtain ⟨d0, d1, d2, d3⟩ := BY.out.up (hd3.below _)
    have BX := Hid.mk' (BX.out.up (hd3.below _))
    have BY := Hid.mk' (BY.out.up (hd3.below _))
    clear hd3
    cases hkk : (a.keys == b.keys) with
    | false =>
      have HS2 : Hid (sm = false) := by show _ = _; rw [HS.out, hkk]; simp
      clear hkk
      go_wp2_with fail
      go_ret
      exact ⟨ret_b HS2.out.symm, HB3.out⟩
    | true =>
      have HS2 : Hid (sm = (a.vals == b.vals && a.kids == b.kids)) := by show _ = _; rw [HS.out, hkk]; simp
      clear hkk
      go_wp2_with fail
      refine (HV.out _ HB3.out).mono ?_
      rintro e w4 ⟨rfl, hd4⟩
      have HB4 := Hid.mk' (HB3.out.trans (hd4.below _))
      obtain ⟨b0, b1, b2, b3⟩ := BX.out.up (hd4.below _)
      obtain ⟨d0, d1, d2, d3⟩ := BY.out.up (hd4.below _)
      have BX := Hid.mk' (BX.out.up (hd4.below _))
      have BY := Hid.mk' (BY.out.up (hd4.below _))
      clear hd4
      cases hvv : (a.vals == b.vals) with
      | false =>
        have HS3 : Hid (sm = false) := by show _ = _; rw [HS2.out, hvv]; simp
        clear hvv
        go_wp2_with fail
        go_ret
        exact ⟨ret_b HS3.out.symm, HB4.out⟩
      | true =>
        have HS3 : Hid (sm = (a.kids == b.kids)) := by show _ = _; rw [HS2.out, hvv]; simp
        clear hvv
        by_cases hln : a.kids.length = b.kids.length
        · have hln' : ((a.kids.length : Int) == (b.kids.length : Int)) = true := by simp [hln]
          have HLN := Hid.mk' hln
          clear hln
          go_wp2_with fail
          clear b0 b1 b2 b3 d0 d1 d2 d3
          go_loopw [5] (fun i wr => ∃ k : Nat, k ≤ a.kids.length ∧ i = .int .i64 k ∧ Hid (Dn w4 wr) ∧ Hid (a.kids.take k = b.kids.take k)) (fun i _ => a.kids.length - (intOf i).toNat)
          case atStart => exact ⟨0, by omega, rfl, Hid.mk' (Dn.refl _), Hid.mk' (by simp)⟩
          case round =>
            obtain ⟨k, hk, rfl, HW, HE⟩ := hrel
            obtain ⟨b0, b1, b2, b3⟩ := BX.out.up (HW.out.below _)
            obtain ⟨d0, d1, d2, d3⟩ := BY.out.up (HW.out.below _)
            by_cases hlt : k < a.kids.length
            · have hlt' : (k : Int) < (a.kids.length : Int) := by omega
              have hltm : (k : Int) < (b.kids.length : Int) := by have := HLN.out; omega
              have hkm : k < b.kids.length := by have := HLN.out; omega
              obtain ⟨bb, o, rfl, _, hu⟩ := (H3.out.at').2 k hlt
              obtain ⟨bb', o', rfl, _, hu'⟩ := (J3.out.at').2 k hkm
              have g1 := cell_later (HB4.out.trans (HW.out.below _)) hu
              have g2 := cell_later (HB4.out.trans (HW.out.below _)) hu'
              have HS5 := Hid.mk' (fun e => kids_snoc hlt hkm HE.out e)
              have HN := Hid.mk' (fun e => kids_ne hlt hkm e)
              clear hu hu'
              generalize a.kids[k] = s at *
              generalize b.kids[k] = t at *
              cases hst : (s != t) with
              | true =>
                have HN2 := Hid.mk' (HN.out hst)
                go_wp2_with fail
                go_quiet (fail)
                go_wp2_with fail
                go_ret
                exact ⟨ret_b (by rw [HS3.out, HN2.out]), HB4.out.trans ((HW.out.more _).below _)⟩
              | false =>
                have HS6 := Hid.mk' (HS5.out hst)
                go_wp2_with fail
                go_quiet (fail)
                go_wp2_with fail
                go_roundw
                case rel => exact ⟨k + 1, by omega, by go_num, Hid.mk' (HW.out.more _), HS6⟩
                case measure => simp [intOf]; omega
            · obtain rfl : k = a.kids.length := by omega
              have hE : a.kids = b.kids := by have := HE.out; rwa [List.take_length, HLN.out, List.take_length] at this
              have HE2 := Hid.mk' hE
              clear hE HE
              go_wp2_with fail
              go_ret
              exact ⟨ret_b (by rw [HS3.out, HE2.out]; simp), HB4.out.trans (HW.out.below _)⟩
        · have hln' : ((a.kids.length : Int) == (b.kids.length : Int)) = false := by simp; omega
          have HS4 : Hid (sm = false) := by show _ = _; rw [HS3.out]; exact HL.out _ _ hln
          clear hln
          go_wp2_with fail
          go_ret
          exact ⟨ret_b HS4.out.symm, HB4.out⟩
  · have hbl : (a.leaf == b.leaf) = false := by simpa using hlf
    have HS2 : Hid (sm = false) := by show _ = _; rw [HS.out, hbl]; rfl
    clear hlf
    go_enter Try.func27, Try.ntmps27
    go_wp2_with fail
    go_ret
    exact ⟨ret_b HS2.out.symm, HB.out⟩
def n1 : Nd := ⟨true, [[97]], [[1, 2]], []⟩
theorem enc_n1 : encE n1 = 0 ∧ (encP n1).length = 512 ∧ (encP n1).take 9 = [1, 0, 1, 1, 97, 0, 2, 1, 2] := by
  have h : check n1 = 0 := by decide
  have hs : size n1 = 9 := by decide
  obtain ⟨a, b⟩ := enc_ok h (by rw [hs]; decide)
  have hl := enc_length (check_zero h).1
  refine ⟨a, by rw [b]; unfold page; simp; omega, ?_⟩
  rw [b]; unfold page
  rw [List.take_append_of_le_length (by omega)]
  decide
theorem ob_litl {w : World} (l : List UInt8) (cs : Array Value) (n : Nat) (hc : cs = (bv l).toArray) (hn : n = l.length) (hl : l.length ≤ lim) : Bs (Lt (w.alloc (.cells cs 5)).heap.size) (w.alloc (.cells cs 5)) (.slice (some ⟨w.heap.size, 0, none⟩) n n) l := by
  subst hc; subst hn
  refine Ob.bs (e := 5) (B := 0) ⟨by simp, .inr ⟨w.heap.size, l.length, _, rfl, Nat.zero_le _, heap_alloc_new w _, Nat.le_refl _, Nat.le_trans hl lim_le, by simp, ?_⟩⟩ hl
  simp only [Nat.mul_one]
  rw [← bv_length l, List.take_length]
theorem bss_lit1 {w : World} {A : Nat → Prop} {v : Value} {l : List UInt8} (h : Bs A w v l) : Bss (Lt (w.alloc (.cells #[v] 32)).heap.size) (w.alloc (.cells #[v] 32)) (.slice (some ⟨w.heap.size, 0, none⟩) 1 1) [l] := by
  have hup := up_alloc w (.cells #[v] 32)
  refine ⟨[v], row_one.monoS fun b hb => ?_, (Each.nil _ _).snoc ((h.toLt.up hup).monoS fun b hb => Nat.lt_of_lt_of_le hb hup.size), by simp [lim]⟩
  have : b < w.heap.size + 1 := hb
  show b < (w.alloc _).heap.size
  simp; omega
set_option maxRecDepth 100000 in
set_option maxHeartbeats 4000000 in
theorem awake8_any (w : World) : Calls Try.prog 16 #[] w fun e w' => e = .returned (.bool true) ∧ Below w.heap.size w w' := by
  have u1 := up_alloc w (.cells #[.int .u8 97] 5)
  have r1 := ob_litl (w := w) [97] #[.int .u8 97] 1 rfl rfl (by simp [lim])
  have u2 := up_alloc (w.alloc (.cells #[.int .u8 97] 5)) (.cells #[.slice (some ⟨w.heap.size, 0, none⟩) 1 1] 32)
  have r2 := bss_lit1 r1
  generalize hw1 : w.alloc (.cells #[.int .u8 97] 5) = w1 at *
  generalize hw2 : w1.alloc (.cells #[.slice (some ⟨w.heap.size, 0, none⟩) 1 1] 32) = w2 at *
  have u3 := up_alloc w2 (.cells #[.int .u8 1, .int .u8 2] 5)
  have r3 := ob_litl (w := w2) [1, 2] #[.int .u8 1, .int .u8 2] 2 rfl rfl (by simp [lim])
  have u4 := up_alloc (w2.alloc (.cells #[.int .u8 1, .int .u8 2] 5)) (.cells #[.slice (some ⟨w2.heap.size, 0, none⟩) 2 2] 32)
  have r4 := bss_lit1 r3
  generalize hw3 : w2.alloc (.cells #[.int .u8 1, .int .u8 2] 5) = w3 at *
  generalize hw4 : w3.alloc (.cells #[.slice (some ⟨w2.heap.size, 0, none⟩) 2 2] 32) = w4 at *
  have hrn : RN (Lt w4.heap.size) w4 (.agg #[.bool true, .slice (some ⟨w1.heap.size, 0, none⟩) 1 1, .slice (some ⟨w3.heap.size, 0, none⟩) 1 1, .slice none 0 0]) n1 :=
    ⟨_, _, _, rfl, (r2.up (bt u3 u4)).mono (Nat.le_trans u3.size u4.size), r4, Row.void (fun _ => rfl), by simp [lim, n1], by simp [n1]⟩
  have HE := Hid.mk' (encode_any hrn (by decide) (by decide) (by decide))
  have hz : RN (Lt 0) w4 (.agg #[.bool true, .slice none 0 0, .slice none 0 0, .slice none 0 0]) ⟨true, [], [], []⟩ :=
    ⟨_, _, _, rfl, ⟨[], Row.void (fun _ => rfl), Each.nil _ _, by simp [lim]⟩, ⟨[], Row.void (fun _ => rfl), Each.nil _ _, by simp [lim]⟩, Row.void (fun _ => rfl), by simp [lim], by simp⟩
  have HZ := Hid.mk' (fun w' (hb : Below w4.heap.size w4 w') => size_any (hz.up hb) (by simp) (by simp) (by simp))
  have HB := Hid.mk' (bt (bt u1 u2) (bt u3 u4))
  have hs1 : w1.heap.size = w.heap.size + 1 := by rw [← hw1]; simp
  have hs2 : w2.heap.size = w.heap.size + 1 + 1 := by rw [← hw2]; simp; exact hs1
  have hs3 : w3.heap.size = w.heap.size + 1 + 1 + 1 := by rw [← hw3]; simp; exact hs2
  rw [hs2] at hw4
  rw [hs1, hs3] at HE
  have HW1 := Hid.mk' hw1
  have HW2 := Hid.mk' hw2
  have HW3 := Hid.mk' hw3
  have HW4 := Hid.mk' hw4
  have hsz : size ⟨true, [], [], []⟩ = 3 := by decide
  rw [hsz] at HZ
  clear hs1 hs2 hs3 u1 r1 u2 r2 u3 r3 u4 r4 hw1 hw2 hw3 hw4 hrn hz
  go_enter Try.func16, Try.ntmps16
  go_wp2_with fail
  rw [HW1.out, HW2.out, HW3.out, HW4.out]
  refine HE.out.mono ?_
  rintro e w5 ⟨v5, rfl, o5, h5⟩
  have H5 := Hid.mk' (HB.out.trans (h5.mono HB.out.size))
  have h55 := Hid.mk' h5
  obtain ⟨he0, hel, het⟩ := enc_n1
  have hb5 := o5.bs (by rw [hel]; decide)
  obtain ⟨a5, c5, e5, hc5, _⟩ := hb5.at
  rw [hel] at e5
  subst e5
  obtain ⟨a6, k6, S6, R6⟩ := row_hi (P := Try.prog) (t := 32) (by kernel_rfl) Try.size5' (by have := hb5.1; rw [hel] at this; exact this) 9 (by omega)
  have B6 := Hid.mk' (bs_of_row (l := (encP n1).take 9) (by simpa [bv, List.map_take] using R6) (by rw [het]; simp [lim]))
  have S6 : ∀ w, (Instr.slice 32 (.slice a5 512 c5) none (some (.int .i64 9)) none).run Try.prog w = .ok (.slice a6 9 k6) w := S6
  rw [het] at B6
  rw [he0]
  clear h5 o5 hb5 R6 he0 hel het
  go_wp2_with fail
  refine (requal_any _ _ [1, 0, 1, 1, 97, 0, 2, 1, 2] [1, 0, 1, 1, 97, 0, 2, 1, 2] _ (B6.out.up (up_alloc _ _)) (ob_litl _ _ 9 rfl rfl (by simp [lim]))).mono ?_
  rintro e w6 ⟨rfl, h6⟩
  have H6 := Hid.mk' (((up_alloc w5 _)).trans (h6.below _))
  have hbt : (([1, 0, 1, 1, 97, 0, 2, 1, 2] : List UInt8) == [1, 0, 1, 1, 97, 0, 2, 1, 2]) = true := by decide
  rw [hbt]
  clear h6
  go_wp2_with fail
  refine (HZ.out _ (bt h55.out H6.out)).mono ?_
  rintro e w7 ⟨rfl, h7⟩
  have H7 := Hid.mk' (bt (bt H5.out H6.out) h7)
  clear h7
  go_wp2_with fail
  go_ret
  exact ⟨rfl, H7.out⟩
end Go.Proofs.Ytfmbbpfklhkljaa
