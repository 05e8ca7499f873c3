/- pack.Reader: Read, Left, Close. -/
import Derived.Test.YtojgkjpmphfakaaGreatDoorPX
import Derived.Test.YtojgkjpmphfakaaGreatDoorW3
set_option linter.unusedVariables false
set_option linter.unusedSimpArgs false
namespace Go.Proofs.YtojgkjpmphfakaaGreatDoor
open Go.RowKit
attribute [local go_sem ↓] Go.wp_at_zero Go.wp_at_succ
/-- a reader at block g: its bytes, its place, its error -/
def Rdr (w : World) (g : Nat) (l : List UInt8) (at' : Nat) (er : Int) : Prop := ∃ a c, w.heap[g]? = some (.cells #[.slice a l.length c, .int .i64 (at' : Int), .int .i64 er] 113 (0, 0)) ∧ Bs (Lt g) w (.slice a l.length c) l ∧ at' ≤ l.length
theorem Rdr.up {g at' : Nat} {w w' : World} {l : List UInt8} {er : Int} (h : Rdr w g l at' er) (hb : Below w.heap.size w w') : Rdr w' g l at' er := by
  obtain ⟨a, c, h1, h2, h3⟩ := h
  exact ⟨a, c, (hb.block g (Array.getElem?_eq_some_iff.1 h1).1).trans h1, h2.up hb, h3⟩
theorem bx3 {w : World} {b : Nat} {c0 c1 c2 : Value} {e : TypeId} (h : w.heap[b]? = some (.cells #[c0, c1, c2] e (0, 0))) : w.cell? ⟨b, 0, none⟩ = some c0 ∧ w.cell? ⟨b, 1, none⟩ = some c1 ∧ w.cell? ⟨b, 2, none⟩ = some c2 := by
  refine ⟨?_, ?_, ?_⟩ <;> simp [World.cell?, h]
set_option maxRecDepth 100000 in
set_option maxHeartbeats 2000000 in
/-- Read -/
theorem pread_any {A : Nat → Prop} {w : World} {v : Value} {l : List UInt8} (h : Bs A w v l) : Calls Tryz.prog 61 #[v] w fun e w' => ∃ g : Nat, e = .returned (.pointer (some ⟨g, 0, none⟩)) ∧ w.heap.size ≤ g ∧ Rdr w' g l 0 0 ∧ Below w.heap.size w w' := by
  have HC := Hid.mk' (clone_any v l w h)
  have HZ : Hid (l.length ≤ lim) := h.2
  obtain ⟨a, c, rfl, _, _, _⟩ := h.at
  clear h
  go_enter Tryz.func61, Tryz.ntmps61
  go_wp2_with fail
  refine HC.out.mono ?_
  rintro e w1 ⟨u, rfl, hb, ho⟩
  obtain ⟨a1, c1, rfl⟩ := own_slice ho
  have HE : Hid ((w1.alloc (.cells #[.slice a1 l.length c1, .int .i64 0, .int .i64 0] 113)).heap[w1.heap.size]? = some (.cells #[.slice a1 l.length c1, .int .i64 0, .int .i64 0] 113 (0, 0))) := heap_alloc_new _ _
  have HBS : Hid (Bs (Lt w1.heap.size) (w1.alloc (.cells #[.slice a1 l.length c1, .int .i64 0, .int .i64 0] 113)) (.slice a1 l.length c1) l) := (Ob.bs ho HZ.out).up (up_alloc _ _)
  have HS : Hid (w.heap.size ≤ w1.heap.size) := hb.size
  have HB := Hid.mk' (bt hb (up_alloc w1 (.cells #[.slice a1 l.length c1, .int .i64 0, .int .i64 0] 113)))
  clear hb ho HC
  go_wp2_with fail
  go_ret
  exact ⟨_, rfl, HS.out, ⟨_, _, HE.out, HBS.out, Nat.zero_le _⟩, HB.out⟩
set_option maxRecDepth 100000 in
set_option maxHeartbeats 2000000 in
/-- Left -/
theorem rleft_any {g at' : Nat} {w : World} {l : List UInt8} {er : Int} (h : Rdr w g l at' er) : Calls Tryz.prog 82 #[.pointer (some ⟨g, 0, none⟩)] w fun e w' => e = .returned (.int .i64 ((l.length : Int) - (at' : Int))) ∧ Dn w w' := by
  obtain ⟨a, c, h1, h2, h3⟩ := h
  obtain ⟨c0, c1, c2⟩ := bx3 h1
  have hl : (l.length : Int) ≤ 140737488351232 := by have := h2.2; unfold lim at this; omega
  have hat : (at' : Int) ≤ (l.length : Int) := by omega
  have hw : IntKind.i64.wrap ((l.length : Int) - (at' : Int)) = (l.length : Int) - (at' : Int) := by rw [IntKind.wrap_i64]; omega
  clear h1 h2 h3
  generalize l.length = n at *
  go_enter Tryz.func82, Tryz.ntmps82
  go_wp2_with fail
  go_quiet (fail)
  go_wp2_with fail
  go_ret
  exact ⟨rfl, (Dn.refl _).more _⟩
def clE (l : List UInt8) (at' : Nat) (er : Int) : Int := if er = 0 ∧ at' < l.length then 3 else er
set_option maxRecDepth 100000 in
set_option maxHeartbeats 2000000 in
/-- Close -/
theorem rclose_any {g at' : Nat} {w : World} {l : List UInt8} {er : Int} (h : Rdr w g l at' er) : Calls Tryz.prog 64 #[.pointer (some ⟨g, 0, none⟩)] w fun e w' => e = .returned (.int .i64 (clE l at' er)) ∧ Dn w w' := by
  have HL := Hid.mk' (rleft_any h)
  obtain ⟨a, c, h1, h2, h3⟩ := h
  have HE := Hid.mk' h1
  obtain ⟨c0, c1, c2⟩ := bx3 h1
  have HR : Hid (clE l at' er = if er = 0 ∧ at' < l.length then 3 else er) := rfl
  generalize clE l at' er = R at *
  by_cases h0 : er = 0
  · subst h0
    by_cases h4 : at' < l.length
    · have h4' : (0 : Int) < (l.length : Int) - (at' : Int) := by omega
      have HF : Hid (R = 3) := by show _ = _; rw [HR.out, if_pos ⟨rfl, h4⟩]
      clear HR h1 h2 h3 h4
      go_enter Tryz.func64, Tryz.ntmps64
      go_wp2_with fail
      refine HL.out.mono ?_
      rintro e w1 ⟨rfl, hd⟩
      have HD := Hid.mk' hd
      clear hd HL
      go_wp2_with fail
      go_ret
      exact ⟨by rw [HF.out] <;> rfl, HD.out⟩
    · have h4' : ¬ (0 : Int) < (l.length : Int) - (at' : Int) := by omega
      have HF : Hid (R = 0) := by show _ = _; rw [HR.out, if_neg fun h => h4 h.2]
      clear HR h1 h2 h3 h4
      go_enter Tryz.func64, Tryz.ntmps64
      go_wp2_with fail
      refine HL.out.mono ?_
      rintro e w1 ⟨rfl, hd⟩
      have HD := Hid.mk' hd
      have hE1 := ((hd.below w.heap.size).block g (Array.getElem?_eq_some_iff.1 HE.out).1).trans HE.out
      obtain ⟨d0, d1, d2⟩ := bx3 hE1
      clear hd HL hE1 c0 c1 c2
      go_wp2_with fail
      go_ret
      exact ⟨by rw [HF.out] <;> rfl, HD.out⟩
  · have h0' : (er == 0) = false := by simpa using h0
    have HF : Hid (R = er) := by show _ = _; rw [HR.out, if_neg fun h => h0 h.1]
    clear HR h1 h2 h3 h0 HL
    go_enter Tryz.func64, Tryz.ntmps64
    go_wp2_with fail
    go_ret
    exact ⟨by rw [HF.out] <;> rfl, Dn.refl _⟩
end Go.Proofs.YtojgkjpmphfakaaGreatDoor
