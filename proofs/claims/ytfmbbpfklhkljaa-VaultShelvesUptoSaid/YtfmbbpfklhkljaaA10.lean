/- groynelaw08.few; groyneref08.Same. -/
import Derived.Test.YtfmbbpfklhkljaaA9
set_option linter.unusedVariables false
set_option linter.unusedSimpArgs false
namespace Go.Proofs.Ytfmbbpfklhkljaa
open Go.RowKit
theorem Try.size32 (w : World) : (sizeOf (Try.prog.elem 28)).run Try.prog w = .ok 1 w := by kernel_rfl
theorem Try.size3' (w : World) : (sizeOf (Try.prog.elem 29)).run Try.prog w = .ok 1 w := by kernel_rfl
theorem bss_hi {A : Nat → Prop} {w : World} {a : Option Addr} {c : Nat} {l : List (List UInt8)} (h : Bss A w (.slice a l.length c) l) (m : Nat) (hm : m < l.length) :
    ∃ a' c', (∀ w, (Instr.slice 28 (.slice a l.length c) none (some (.int .i64 (m : Int))) none).run Try.prog w = .ok (.slice a' m c') w) ∧ Bss A w (.slice a' m c') (l.take m) := by
  obtain ⟨vs, h1, h2, h3⟩ := h
  obtain ⟨a', c', k1, k2⟩ := row_hi (P := Try.prog) (t := 28) (by kernel_rfl) Try.size32 h1 m (by omega)
  refine ⟨a', c', k1, vs.take m, ?_, ⟨by simp [h2.1], fun i a b => ?_⟩, ?_⟩
  · rw [show (l.take m).length = m by rw [List.length_take]; omega]; exact k2
  · have := h2.2 i (by rw [List.length_take] at a; omega) (by rw [List.length_take] at b; omega)
    rw [List.getElem_take, List.getElem_take]; exact this
  · have : (l.take m).length ≤ l.length := by rw [List.length_take]; omega
    omega
theorem is_hi {A : Nat → Prop} {w : World} {a : Option Addr} {c : Nat} {l : List Int} (h : Is A w (.slice a l.length c) l) (m : Nat) (hm : m < l.length) :
    ∃ a' c', (∀ w, (Instr.slice 29 (.slice a l.length c) none (some (.int .i64 (m : Int))) none).run Try.prog w = .ok (.slice a' m c') w) ∧ Is A w (.slice a' m c') (l.take m) := by
  obtain ⟨h1, h2, h3⟩ := h
  obtain ⟨a', c', k1, k2⟩ := row_hi (P := Try.prog) (t := 29) (by kernel_rfl) Try.size3' h1 m (by omega)
  refine ⟨a', c', k1, ?_, ?_, fun x hx => h3 x (List.mem_of_mem_take hx)⟩
  · rw [show (l.take m).length = m by rw [List.length_take]; omega]
    have e : iv (l.take m) = (iv l).take m := by simp [iv, List.map_take]
    rw [e]; exact k2
  · have : (l.take m).length ≤ l.length := by rw [List.length_take]; omega
    omega
theorem alloc4 (W : World) (x0 x1 x2 x3 : Value) (e : TypeId) (b : Nat) (hb : W.heap.size = b) : ((W.alloc (.cells #[x0, x1, x2, x3] e)).cell? ⟨b, 0, none⟩ = some x0 ∧ (W.alloc (.cells #[x0, x1, x2, x3] e)).cell? ⟨b, 1, none⟩ = some x1 ∧
    (W.alloc (.cells #[x0, x1, x2, x3] e)).cell? ⟨b, 2, none⟩ = some x2 ∧ (W.alloc (.cells #[x0, x1, x2, x3] e)).cell? ⟨b, 3, none⟩ = some x3) := by
  subst hb
  have hz := heap_alloc_new W (.cells #[x0, x1, x2, x3] e)
  exact ⟨by simp only [World.cell?, hz]; rfl, by simp only [World.cell?, hz]; rfl, by simp only [World.cell?, hz]; rfl, by simp only [World.cell?, hz]; rfl⟩
def few (m : Nat) (n : Nd) : Nd := ⟨n.leaf, n.keys.take m, n.vals.take m, n.kids.take (m + 1)⟩
set_option maxRecDepth 100000 in
set_option maxHeartbeats 4000000 in
/-- groynelaw08.few -/
theorem few_any {A : Nat → Prop} {w : World} {v : Value} {n : Nd} (h : RN A w v n) (m : Nat) (hm : m ≤ 1000000) : Calls Try.prog 17 #[v, .int .i64 m] w fun e w' => ∃ v', e = .returned v' ∧ RN A w' v' (few m n) ∧ Below w.heap.size w w' := by
  obtain ⟨k, u, c, rfl, h1, h2, h3⟩ := h
  obtain ⟨a1, c1, rfl, g1, _, _⟩ := h1.at
  obtain ⟨a2, c2, rfl, g2, _, _⟩ := h2.at
  obtain ⟨a3, c3, rfl, g3, _, _⟩ := h3.at
  have hl1 : n.keys.length * 24 ≤ 140737488351232 := by obtain ⟨_, _, _, h⟩ := h1; exact h
  have hl2 : n.vals.length * 24 ≤ 140737488351232 := by obtain ⟨_, _, _, h⟩ := h2; exact h
  have hl3 : n.kids.length * 8 ≤ 140737488351232 := h3.2.1
  have H1 := Hid.mk' h1
  have H2 := Hid.mk' h2
  have H3 := Hid.mk' h3
  clear h1 h2 h3
  by_cases g0 : m < n.keys.length
  · obtain ⟨x0, y0, S0, B0⟩ := bss_hi H1.out m g0
    have B0 := Hid.mk' B0
    have d0 : (m : Int) < (n.keys.length : Int) := by omega
    by_cases g1 : m < n.vals.length
    · obtain ⟨x1, y1, S1, B1⟩ := bss_hi H2.out m g1
      have B1 := Hid.mk' B1
      have d1 : (m : Int) < (n.vals.length : Int) := by omega
      by_cases g2 : (m + 1) < n.kids.length
      · obtain ⟨x2, y2, S2, B2⟩ := is_hi H3.out (m + 1) g2
        have B2 := Hid.mk' B2
        have d2 : (m : Int) + 1 < (n.kids.length : Int) := by omega
        have S2 : ∀ w, (Instr.slice 29 (.slice a3 n.kids.length c3) none (some (.int .i64 ((m : Int) + 1))) none).run Try.prog w = .ok (.slice x2 (m + 1) y2) w := S2
        go_enter Try.func17, Try.ntmps17
        go_wp2
        obtain ⟨z0, z1, z2, z3⟩ := alloc4 (w.alloc (.cells #[.bool n.leaf, .slice x0 m y0, .slice x1 m y1, .slice x2 (m + 1) y2] 31)) (.bool n.leaf) (.slice x0 m y0) (.slice x1 m y1) (.slice x2 (m + 1) y2) 31 (w.heap.size + 1) (by simp)
        have hb : Below w.heap.size w ((w.alloc (.cells #[.bool n.leaf, .slice x0 m y0, .slice x1 m y1, .slice x2 (m + 1) y2] 31)).alloc (.cells #[.bool n.leaf, .slice x0 m y0, .slice x1 m y1, .slice x2 (m + 1) y2] 31)) := bt (up_alloc _ _) (up_alloc _ _)
        refine bodyPost_ret (v := .agg #[.bool n.leaf, .slice x0 m y0, .slice x1 m y1, .slice x2 (m + 1) y2]) (by simp [results, Try.results17, go_sem, z0, z1, z2, z3]) rfl ?_
        exact ⟨_, rfl, ⟨_, _, _, rfl, B0.out.up hb, B1.out.up hb, B2.out.up hb⟩, hb⟩
      · have B2 : Hid (Is A w (.slice a3 n.kids.length c3) n.kids) := H3
        have T2 := Hid.mk' (List.take_of_length_le (Nat.not_lt.1 g2))
        have d2 : ¬ (m : Int) + 1 < (n.kids.length : Int) := by omega
        go_enter Try.func17, Try.ntmps17
        go_wp2
        obtain ⟨z0, z1, z2, z3⟩ := alloc4 (w.alloc (.cells #[.bool n.leaf, .slice x0 m y0, .slice x1 m y1, .slice a3 n.kids.length c3] 31)) (.bool n.leaf) (.slice x0 m y0) (.slice x1 m y1) (.slice a3 n.kids.length c3) 31 (w.heap.size + 1) (by simp)
        have hb : Below w.heap.size w ((w.alloc (.cells #[.bool n.leaf, .slice x0 m y0, .slice x1 m y1, .slice a3 n.kids.length c3] 31)).alloc (.cells #[.bool n.leaf, .slice x0 m y0, .slice x1 m y1, .slice a3 n.kids.length c3] 31)) := bt (up_alloc _ _) (up_alloc _ _)
        refine bodyPost_ret (v := .agg #[.bool n.leaf, .slice x0 m y0, .slice x1 m y1, .slice a3 n.kids.length c3]) (by simp [results, Try.results17, go_sem, z0, z1, z2, z3]) rfl ?_
        exact ⟨_, rfl, ⟨_, _, _, rfl, B0.out.up hb, B1.out.up hb, (by show Is A _ _ (n.kids.take (m + 1)); rw [T2.out]; exact B2.out.up hb)⟩, hb⟩
    · have B1 : Hid (Bss A w (.slice a2 n.vals.length c2) n.vals) := H2
      have T1 := Hid.mk' (List.take_of_length_le (Nat.not_lt.1 g1))
      have d1 : ¬ (m : Int) < (n.vals.length : Int) := by omega
      by_cases g2 : (m + 1) < n.kids.length
      · obtain ⟨x2, y2, S2, B2⟩ := is_hi H3.out (m + 1) g2
        have B2 := Hid.mk' B2
        have d2 : (m : Int) + 1 < (n.kids.length : Int) := by omega
        have S2 : ∀ w, (Instr.slice 29 (.slice a3 n.kids.length c3) none (some (.int .i64 ((m : Int) + 1))) none).run Try.prog w = .ok (.slice x2 (m + 1) y2) w := S2
        go_enter Try.func17, Try.ntmps17
        go_wp2
        obtain ⟨z0, z1, z2, z3⟩ := alloc4 (w.alloc (.cells #[.bool n.leaf, .slice x0 m y0, .slice a2 n.vals.length c2, .slice x2 (m + 1) y2] 31)) (.bool n.leaf) (.slice x0 m y0) (.slice a2 n.vals.length c2) (.slice x2 (m + 1) y2) 31 (w.heap.size + 1) (by simp)
        have hb : Below w.heap.size w ((w.alloc (.cells #[.bool n.leaf, .slice x0 m y0, .slice a2 n.vals.length c2, .slice x2 (m + 1) y2] 31)).alloc (.cells #[.bool n.leaf, .slice x0 m y0, .slice a2 n.vals.length c2, .slice x2 (m + 1) y2] 31)) := bt (up_alloc _ _) (up_alloc _ _)
        refine bodyPost_ret (v := .agg #[.bool n.leaf, .slice x0 m y0, .slice a2 n.vals.length c2, .slice x2 (m + 1) y2]) (by simp [results, Try.results17, go_sem, z0, z1, z2, z3]) rfl ?_
        exact ⟨_, rfl, ⟨_, _, _, rfl, B0.out.up hb, (by show Bss A _ _ (n.vals.take m); rw [T1.out]; exact B1.out.up hb), B2.out.up hb⟩, hb⟩
      · have B2 : Hid (Is A w (.slice a3 n.kids.length c3) n.kids) := H3
        have T2 := Hid.mk' (List.take_of_length_le (Nat.not_lt.1 g2))
        have d2 : ¬ (m : Int) + 1 < (n.kids.length : Int) := by omega
        go_enter Try.func17, Try.ntmps17
        go_wp2
        obtain ⟨z0, z1, z2, z3⟩ := alloc4 (w.alloc (.cells #[.bool n.leaf, .slice x0 m y0, .slice a2 n.vals.length c2, .slice a3 n.kids.length c3] 31)) (.bool n.leaf) (.slice x0 m y0) (.slice a2 n.vals.length c2) (.slice a3 n.kids.length c3) 31 (w.heap.size + 1) (by simp)
        have hb : Below w.heap.size w ((w.alloc (.cells #[.bool n.leaf, .slice x0 m y0, .slice a2 n.vals.length c2, .slice a3 n.kids.length c3] 31)).alloc (.cells #[.bool n.leaf, .slice x0 m y0, .slice a2 n.vals.length c2, .slice a3 n.kids.length c3] 31)) := bt (up_alloc _ _) (up_alloc _ _)
        refine bodyPost_ret (v := .agg #[.bool n.leaf, .slice x0 m y0, .slice a2 n.vals.length c2, .slice a3 n.kids.length c3]) (by simp [results, Try.results17, go_sem, z0, z1, z2, z3]) rfl ?_
        exact ⟨_, rfl, ⟨_, _, _, rfl, B0.out.up hb, (by show Bss A _ _ (n.vals.take m); rw [T1.out]; exact B1.out.up hb), (by show Is A _ _ (n.kids.take (m + 1)); rw [T2.out]; exact B2.out.up hb)⟩, hb⟩
  · have B0 : Hid (Bss A w (.slice a1 n.keys.length c1) n.keys) := H1
    have T0 := Hid.mk' (List.take_of_length_le (Nat.not_lt.1 g0))
    have d0 : ¬ (m : Int) < (n.keys.length : Int) := by omega
    by_cases g1 : m < n.vals.length
    · obtain ⟨x1, y1, S1, B1⟩ := bss_hi H2.out m g1
      have B1 := Hid.mk' B1
      have d1 : (m : Int) < (n.vals.length : Int) := by omega
      by_cases g2 : (m + 1) < n.kids.length
      · obtain ⟨x2, y2, S2, B2⟩ := is_hi H3.out (m + 1) g2
        have B2 := Hid.mk' B2
        have d2 : (m : Int) + 1 < (n.kids.length : Int) := by omega
        have S2 : ∀ w, (Instr.slice 29 (.slice a3 n.kids.length c3) none (some (.int .i64 ((m : Int) + 1))) none).run Try.prog w = .ok (.slice x2 (m + 1) y2) w := S2
        go_enter Try.func17, Try.ntmps17
        go_wp2
        obtain ⟨z0, z1, z2, z3⟩ := alloc4 (w.alloc (.cells #[.bool n.leaf, .slice a1 n.keys.length c1, .slice x1 m y1, .slice x2 (m + 1) y2] 31)) (.bool n.leaf) (.slice a1 n.keys.length c1) (.slice x1 m y1) (.slice x2 (m + 1) y2) 31 (w.heap.size + 1) (by simp)
        have hb : Below w.heap.size w ((w.alloc (.cells #[.bool n.leaf, .slice a1 n.keys.length c1, .slice x1 m y1, .slice x2 (m + 1) y2] 31)).alloc (.cells #[.bool n.leaf, .slice a1 n.keys.length c1, .slice x1 m y1, .slice x2 (m + 1) y2] 31)) := bt (up_alloc _ _) (up_alloc _ _)
        refine bodyPost_ret (v := .agg #[.bool n.leaf, .slice a1 n.keys.length c1, .slice x1 m y1, .slice x2 (m + 1) y2]) (by simp [results, Try.results17, go_sem, z0, z1, z2, z3]) rfl ?_
        exact ⟨_, rfl, ⟨_, _, _, rfl, (by show Bss A _ _ (n.keys.take m); rw [T0.out]; exact B0.out.up hb), B1.out.up hb, B2.out.up hb⟩, hb⟩
      · have B2 : Hid (Is A w (.slice a3 n.kids.length c3) n.kids) := H3
        have T2 := Hid.mk' (List.take_of_length_le (Nat.not_lt.1 g2))
        have d2 : ¬ (m : Int) + 1 < (n.kids.length : Int) := by omega
        go_enter Try.func17, Try.ntmps17
        go_wp2
        obtain ⟨z0, z1, z2, z3⟩ := alloc4 (w.alloc (.cells #[.bool n.leaf, .slice a1 n.keys.length c1, .slice x1 m y1, .slice a3 n.kids.length c3] 31)) (.bool n.leaf) (.slice a1 n.keys.length c1) (.slice x1 m y1) (.slice a3 n.kids.length c3) 31 (w.heap.size + 1) (by simp)
        have hb : Below w.heap.size w ((w.alloc (.cells #[.bool n.leaf, .slice a1 n.keys.length c1, .slice x1 m y1, .slice a3 n.kids.length c3] 31)).alloc (.cells #[.bool n.leaf, .slice a1 n.keys.length c1, .slice x1 m y1, .slice a3 n.kids.length c3] 31)) := bt (up_alloc _ _) (up_alloc _ _)
        refine bodyPost_ret (v := .agg #[.bool n.leaf, .slice a1 n.keys.length c1, .slice x1 m y1, .slice a3 n.kids.length c3]) (by simp [results, Try.results17, go_sem, z0, z1, z2, z3]) rfl ?_
        exact ⟨_, rfl, ⟨_, _, _, rfl, (by show Bss A _ _ (n.keys.take m); rw [T0.out]; exact B0.out.up hb), B1.out.up hb, (by show Is A _ _ (n.kids.take (m + 1)); rw [T2.out]; exact B2.out.up hb)⟩, hb⟩
    · have B1 : Hid (Bss A w (.slice a2 n.vals.length c2) n.vals) := H2
      have T1 := Hid.mk' (List.take_of_length_le (Nat.not_lt.1 g1))
      have d1 : ¬ (m : Int) < (n.vals.length : Int) := by omega
      by_cases g2 : (m + 1) < n.kids.length
      · obtain ⟨x2, y2, S2, B2⟩ := is_hi H3.out (m + 1) g2
        have B2 := Hid.mk' B2
        have d2 : (m : Int) + 1 < (n.kids.length : Int) := by omega
        have S2 : ∀ w, (Instr.slice 29 (.slice a3 n.kids.length c3) none (some (.int .i64 ((m : Int) + 1))) none).run Try.prog w = .ok (.slice x2 (m + 1) y2) w := S2
        go_enter Try.func17, Try.ntmps17
        go_wp2
        obtain ⟨z0, z1, z2, z3⟩ := alloc4 (w.alloc (.cells #[.bool n.leaf, .slice a1 n.keys.length c1, .slice a2 n.vals.length c2, .slice x2 (m + 1) y2] 31)) (.bool n.leaf) (.slice a1 n.keys.length c1) (.slice a2 n.vals.length c2) (.slice x2 (m + 1) y2) 31 (w.heap.size + 1) (by simp)
        have hb : Below w.heap.size w ((w.alloc (.cells #[.bool n.leaf, .slice a1 n.keys.length c1, .slice a2 n.vals.length c2, .slice x2 (m + 1) y2] 31)).alloc (.cells #[.bool n.leaf, .slice a1 n.keys.length c1, .slice a2 n.vals.length c2, .slice x2 (m + 1) y2] 31)) := bt (up_alloc _ _) (up_alloc _ _)
        refine bodyPost_ret (v := .agg #[.bool n.leaf, .slice a1 n.keys.length c1, .slice a2 n.vals.length c2, .slice x2 (m + 1) y2]) (by simp [results, Try.results17, go_sem, z0, z1, z2, z3]) rfl ?_
        exact ⟨_, rfl, ⟨_, _, _, rfl, (by show Bss A _ _ (n.keys.take m); rw [T0.out]; exact B0.out.up hb), (by show Bss A _ _ (n.vals.take m); rw [T1.out]; exact B1.out.up hb), B2.out.up hb⟩, hb⟩
      · have B2 : Hid (Is A w (.slice a3 n.kids.length c3) n.kids) := H3
        have T2 := Hid.mk' (List.take_of_length_le (Nat.not_lt.1 g2))
        have d2 : ¬ (m : Int) + 1 < (n.kids.length : Int) := by omega
        go_enter Try.func17, Try.ntmps17
        go_wp2
        obtain ⟨z0, z1, z2, z3⟩ := alloc4 (w.alloc (.cells #[.bool n.leaf, .slice a1 n.keys.length c1, .slice a2 n.vals.length c2, .slice a3 n.kids.length c3] 31)) (.bool n.leaf) (.slice a1 n.keys.length c1) (.slice a2 n.vals.length c2) (.slice a3 n.kids.length c3) 31 (w.heap.size + 1) (by simp)
        have hb : Below w.heap.size w ((w.alloc (.cells #[.bool n.leaf, .slice a1 n.keys.length c1, .slice a2 n.vals.length c2, .slice a3 n.kids.length c3] 31)).alloc (.cells #[.bool n.leaf, .slice a1 n.keys.length c1, .slice a2 n.vals.length c2, .slice a3 n.kids.length c3] 31)) := bt (up_alloc _ _) (up_alloc _ _)
        refine bodyPost_ret (v := .agg #[.bool n.leaf, .slice a1 n.keys.length c1, .slice a2 n.vals.length c2, .slice a3 n.kids.length c3]) (by simp [results, Try.results17, go_sem, z0, z1, z2, z3]) rfl ?_
        exact ⟨_, rfl, ⟨_, _, _, rfl, (by show Bss A _ _ (n.keys.take m); rw [T0.out]; exact B0.out.up hb), (by show Bss A _ _ (n.vals.take m); rw [T1.out]; exact B1.out.up hb), (by show Is A _ _ (n.kids.take (m + 1)); rw [T2.out]; exact B2.out.up hb)⟩, hb⟩
end Go.Proofs.Ytfmbbpfklhkljaa
