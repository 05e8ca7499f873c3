/- The cursor of leaf.Decode. -/
import Derived.Test.YtfmbbpfklhkljaaA12
import Derived.Test.YtfmbbpfklhkljaaMX
set_option linter.unusedVariables false
set_option linter.unusedSimpArgs false
namespace Go.Proofs.Ytfmbbpfklhkljaa
open Go.RowKit
/-- block b holds the cursor c, whose bytes lie in the blocks of A -/
def CurIs (A : Nat → Prop) (b : Nat) (w : World) (c : Cu) : Prop := ∃ v, w.heap[b]? = some (.cells #[v, .bool c.bad] 111 (0, 0)) ∧ Bs A w v c.b
theorem CurIs.keep {A : Nat → Prop} {b : Nat} {w w' : World} {c : Cu} (h : CurIs A b w c) (hb : w'.heap[b]? = w.heap[b]?) (hs : Same A w w') : CurIs A b w' c := by
  obtain ⟨v, h1, h2⟩ := h; exact ⟨v, by rw [hb]; exact h1, h2.keepS hs⟩
theorem Try.size5' (w : World) : (sizeOf (Try.prog.elem 32)).run Try.prog w = .ok 1 w := by kernel_rfl
def TakePost (A : Nat → Prop) (b : Nat) (w : World) (n : Nat) (c : Cu) (e : Ending) (w' : World) : Prop :=
  ∃ v', e = .returned v' ∧ Ob 5 w.heap.size w' v' (tk n c) ∧ w.grownBy w' (some b) ∧ CurIs A b w' (tkc n c)
theorem cells2_set {w : World} {b o : Nat} {x y u : Value} {e : TypeId} (h : w.heap[b]? = some (.cells #[x, y] e (0, 0))) : (w.setCell ⟨b, o, none⟩ u).heap[b]? = some (.cells (#[x, y].setIfInBounds o u) e (0, 0)) := by
  rw [heap_setCell_same w b o _ e u h]
theorem cells2_get {w : World} {b : Nat} {x y : Value} {e : TypeId} (h : w.heap[b]? = some (.cells #[x, y] e (0, 0))) : w.cell? ⟨b, 0, none⟩ = some x ∧ w.cell? ⟨b, 1, none⟩ = some y ∧ ∀ i, w.frozen? ⟨b, i, none⟩ = false := by
  refine ⟨by simp only [World.cell?, h]; rfl, by simp only [World.cell?, h]; rfl, fun i => by simp only [World.frozen?, h]; simp⟩
theorem bs_of_row {A : Nat → Prop} {w : World} {v : Value} {n : Nat} {l : List UInt8} (h : Row 1 A w v n (bv l)) (hl : l.length ≤ lim) : Bs A w v l := by
  have : n = l.length := by have := h.1; simpa using this.symm
  subst this; exact ⟨h, hl⟩
set_option maxRecDepth 100000 in
set_option maxHeartbeats 1000000 in
/-- take -/
theorem take_any {A : Nat → Prop} {b : Nat} {w : World} {c : Cu} (n : Nat) (hn : n ≤ 65535) (hA : ∀ i, A i → i < b) (h : CurIs A b w c) : Calls Try.prog 70 #[.pointer (some ⟨b, 0, none⟩), .int .i64 n] w (TakePost A b w n c) := by
  obtain ⟨v, hb, hv⟩ := h
  obtain ⟨a, cp, rfl, hc, hnn, _⟩ := hv.at
  obtain ⟨g0, g1, gf⟩ := cells2_get hb
  have hblt := (Array.getElem?_eq_some_iff.1 hb).1
  by_cases hlt : c.b.length < n
  · have hlt' : (c.b.length : Int) < (n : Int) := by omega
    have hset := cells2_set (o := 1) (u := .bool true) hb
    have HSET := Hid.mk' hset
    have HV := Hid.mk' hv
    have HB := Hid.mk' hb
    have hmk := fun w => run_mk (P := Try.prog) 32 Try.underlying32 Try.info5 n (by unfold lim; omega) w
    clear hset hb hv hnn
    go_enter Try.func70, Try.ntmps70
    go_wp2
    go_ret
    refine ⟨_, rfl, ?_, ?_, ?_⟩
    · have := ob_zeros n (by unfold lim; omega) (w.setCell ⟨b, 1, none⟩ (.bool true)) 5
      rw [size_setCell] at this
      unfold tk; rw [if_pos hlt]; exact this
    · exact ⟨rfl, rfl, rfl, by simp, fun i hi hg => by rw [Below.heap_alloc _ _ _ (by simpa using hi)]; exact Below.heap_setCell _ _ _ _ (fun e => hg (by rw [e]))⟩
    · unfold tkc; rw [if_pos hlt]
      refine ⟨.slice a c.b.length cp, by rw [Below.heap_alloc _ _ _ (by simpa using hblt), HSET.out]; rfl, HV.out.keepS fun i hi => ?_⟩
      have hib := hA i hi
      rw [Below.heap_alloc _ _ _ (by rw [size_setCell]; omega), Below.heap_setCell _ _ _ _ (by dsimp only; omega)]
  · have hlt' : ¬ (c.b.length : Int) < (n : Int) := by omega
    have hn0 : (0 : Int) ≤ (n : Int) := by omega
    obtain ⟨a1, k1, S1, R1⟩ := row_hi (P := Try.prog) (t := 32) (by kernel_rfl) Try.size5' hv.1 n (by omega)
    obtain ⟨a2, k2, S2, R2⟩ := row_lo (P := Try.prog) (t := 32) (by kernel_rfl) Try.size5' hv.1 n (by omega)
    have B1 : Bs A w (.slice a1 n k1) (c.b.take n) := bs_of_row (by simpa [bv, List.map_take] using R1) (by have := hv.2; simp; omega)
    have B2 : Bs A w (.slice a2 (c.b.length - n) k2) (c.b.drop n) := bs_of_row (by simpa [bv, List.map_drop] using R2) (by have := hv.2; simp; omega)
    have hsame : Same A w (w.setCell ⟨b, 0, none⟩ (.slice a2 (c.b.length - n) k2)) := fun i hi => Below.heap_setCell _ _ _ _ (by have := hA i hi; dsimp only; omega)
    have hset := cells2_set (o := 0) (u := .slice a2 (c.b.length - n) k2) hb
    have HC := Hid.mk' (clone_any _ _ _ (B1.keepS hsame))
    have HSET := Hid.mk' hset
    have HB2 := Hid.mk' (B2.keepS hsame)
    have HT : Hid (tk n c = c.b.take n ∧ tkc n c = ⟨c.b.drop n, c.bad⟩) := by unfold tk tkc; rw [if_neg hlt, if_neg hlt]; exact ⟨rfl, rfl⟩
    clear hset hb hv hnn hlt R1 R2 B1 B2 hsame
    go_enter Try.func70, Try.ntmps70
    go_wp2_with fail
    refine HC.out.mono ?_
    rintro e w2 ⟨v2, rfl, h2, o2⟩
    have H2 := Hid.mk' h2
    have O2 := Hid.mk' o2
    clear h2 o2
    go_wp2_with fail
    go_ret
    have hsz := size_setCell w ⟨b, 0, none⟩ (.slice a2 (c.b.length - n) k2)
    refine ⟨_, rfl, by rw [HT.out.1]; have := O2.out; rw [hsz] at this; exact this, ⟨H2.out.os, H2.out.tape, H2.out.output, Nat.le_trans (Nat.le_of_eq hsz.symm) H2.out.size, fun i hi hg => ?_⟩, ?_⟩
    · rw [H2.out.block i (by rw [hsz]; exact hi)]; exact Below.heap_setCell _ _ _ _ (fun e => hg (by rw [e]))
    · rw [HT.out.2]
      exact ⟨_, by rw [H2.out.block b (by rw [hsz]; exact hblt), HSET.out]; rfl, HB2.out.up H2.out⟩
theorem or2 (x y : UInt8) : bits BinOp.or .i64 ((x.toNat : Int) * 256) (y.toNat : Int) = ((x.toNat * 256 + y.toNat : Nat) : Int) := by
  have hx := UInt8.toNat_lt x
  have hy := UInt8.toNat_lt y
  have h1 : (BitVec.ofInt 64 (((x.toNat * 256 : Nat) : Int))).toNat = x.toNat * 256 := by
    rw [BitVec.ofInt_natCast, BitVec.toNat_ofNat]; exact Nat.mod_eq_of_lt (by omega)
  have h2 : (BitVec.ofInt 64 ((y.toNat : Int))).toNat = y.toNat := by
    rw [BitVec.ofInt_natCast, BitVec.toNat_ofNat]; exact Nat.mod_eq_of_lt (by omega)
  rw [show ((x.toNat : Int) * 256) = ((x.toNat * 256 : Nat) : Int) from by omega]
  show IntKind.i64.wrap ((BitVec.ofInt 64 (((x.toNat * 256 : Nat) : Int)) ||| BitVec.ofInt 64 ((y.toNat : Int))).toNat : Int) = _
  rw [BitVec.toNat_or, h1, h2, IntKind.wrap_i64]
  have := Nat.two_pow_add_eq_or_of_lt (i := 8) (show y.toNat < 2 ^ 8 from hy) x.toNat
  rw [show x.toNat * 256 = 2 ^ 8 * x.toNat from by omega, ← this]
  omega
def NumPost (A : Nat → Prop) (b : Nat) (w : World) (m : Nat) (c' : Cu) (e : Ending) (w' : World) : Prop := e = .returned (.int .i64 m) ∧ w.grownBy w' (some b) ∧ CurIs A b w' c'
theorem at_of_len {l : List UInt8} {i : Nat} (h : i < l.length) : l.getD i 0 = l[i] := getD_get l i 0 h
set_option maxRecDepth 100000 in
set_option maxHeartbeats 1000000 in
/-- one -/
theorem one_any {A : Nat → Prop} {b : Nat} {w : World} {c : Cu} (hA : ∀ i, A i → i < b) (h : CurIs A b w c) : Calls Try.prog 68 #[.pointer (some ⟨b, 0, none⟩)] w (NumPost A b w (on c) (tkc 1 c)) := by
  have HT : Hid (Calls Try.prog 70 #[.pointer (some ⟨b, 0, none⟩), .int .i64 1] w (TakePost A b w 1 c)) := take_any 1 (by omega) hA h
  have HL := Hid.mk' (tk_length 1 c)
  have HON : Hid (on c = ((tk 1 c).getD 0 0).toNat) := rfl
  clear h
  go_enter Try.func68, Try.ntmps68
  go_wp2_with fail
  refine HT.out.mono ?_
  rintro e w2 ⟨v2, rfl, o2, h2, c2⟩
  obtain ⟨g, cap, e2⟩ := o2.form (by rw [HL.out]; omega)
  rw [HL.out] at e2
  subst e2
  have hc0 := o2.cell 0 (by rw [HL.out]; omega)
  have HE := Hid.mk' (HON.out.trans (congrArg UInt8.toNat (at_of_len (l := tk 1 c) (i := 0) (by rw [HL.out]; omega))))
  have H2 := Hid.mk' h2
  have C2 := Hid.mk' c2
  clear o2 h2 c2
  generalize (tk 1 c)[0]'_ = x at *
  have hx := UInt8.toNat_lt x
  go_wp2_with fail
  go_ret
  exact ⟨ret_n (by rw [HE.out]), H2.out, C2.out⟩
set_option maxRecDepth 100000 in
set_option maxHeartbeats 1000000 in
/-- two -/
theorem ctwo_any {A : Nat → Prop} {b : Nat} {w : World} {c : Cu} (hA : ∀ i, A i → i < b) (h : CurIs A b w c) : Calls Try.prog 69 #[.pointer (some ⟨b, 0, none⟩)] w (NumPost A b w (tw c) (tkc 2 c)) := by
  have HT : Hid (Calls Try.prog 70 #[.pointer (some ⟨b, 0, none⟩), .int .i64 2] w (TakePost A b w 2 c)) := take_any 2 (by omega) hA h
  have HL := Hid.mk' (tk_length 2 c)
  have HON : Hid (tw c = ((tk 2 c).getD 0 0).toNat * 256 + ((tk 2 c).getD 1 0).toNat) := rfl
  clear h
  go_enter Try.func69, Try.ntmps69
  go_wp2_with fail
  refine HT.out.mono ?_
  rintro e w2 ⟨v2, rfl, o2, h2, c2⟩
  obtain ⟨g, cap, e2⟩ := o2.form (by rw [HL.out]; omega)
  rw [HL.out] at e2
  subst e2
  have hc0 := o2.cell 0 (by rw [HL.out]; omega)
  have hc1 := o2.cell 1 (by rw [HL.out]; omega)
  have HE : Hid (tw c = ((tk 2 c)[0]'(by rw [HL.out]; omega)).toNat * 256 + ((tk 2 c)[1]'(by rw [HL.out]; omega)).toNat) := by
    show _ = _
    rw [HON.out, at_of_len (l := tk 2 c) (i := 0) (by rw [HL.out]; omega), at_of_len (l := tk 2 c) (i := 1) (by rw [HL.out]; omega)]
  have H2 := Hid.mk' h2
  have C2 := Hid.mk' c2
  clear o2 h2 c2
  generalize (tk 2 c)[0]'_ = x at *
  generalize (tk 2 c)[1]'_ = y at *
  have hx := UInt8.toNat_lt x
  have hy := UInt8.toNat_lt y
  have HO := or2 x y
  go_wp2_with fail
  go_quiet (fail)
  go_wp2_with fail
  go_ret
  exact ⟨ret_n (by rw [HE.out]; omega), (grown_trans H2.out ⟨rfl, rfl, rfl, Nat.le_refl _, fun _ _ _ => rfl⟩), C2.out⟩
end Go.Proofs.Ytfmbbpfklhkljaa
