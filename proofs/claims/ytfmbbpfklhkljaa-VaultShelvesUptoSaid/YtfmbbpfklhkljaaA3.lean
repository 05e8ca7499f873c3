/- Nodes; leaf.Size, groyneref08.Size. -/
import Derived.Test.YtfmbbpfklhkljaaA2
set_option linter.unusedVariables false
set_option linter.unusedSimpArgs false
namespace Go.Proofs.Ytfmbbpfklhkljaa
open Go.RowKit
structure Nd where
  leaf : Bool
  keys : List (List UInt8)
  vals : List (List UInt8)
  kids : List Int
/-- v reads as the node n -/
def RN (A : Nat → Prop) (w : World) (v : Value) (n : Nd) : Prop := ∃ k u c, v = .agg #[.bool n.leaf, k, u, c] ∧ Bss A w k n.keys ∧ Bss A w u n.vals ∧ Is A w c n.kids
theorem RN.up {A : Nat → Prop} {w w' : World} {v : Value} {n : Nd} (h : RN A w v n) (hb : Below w.heap.size w w') : RN A w' v n := by
  obtain ⟨k, u, c, hv, h1, h2, h3⟩ := h; exact ⟨k, u, c, hv, h1.up hb, h2.up hb, h3.up hb⟩
theorem box4 (w : World) (x0 x1 x2 x3 : Value) (e : TypeId) : ∃ W, W = w.alloc (.cells #[x0, x1, x2, x3] e) ∧ (W.cell? ⟨w.heap.size, 0, none⟩ = some x0 ∧ W.cell? ⟨w.heap.size, 1, none⟩ = some x1 ∧ W.cell? ⟨w.heap.size, 2, none⟩ = some x2 ∧ W.cell? ⟨w.heap.size, 3, none⟩ = some x3) ∧
    (∀ i, W.frozen? ⟨w.heap.size, i, none⟩ = false) ∧ Below w.heap.size w W ∧ W.heap.size = w.heap.size + 1 := by
  have hb : (w.alloc (.cells #[x0, x1, x2, x3] e)).heap[w.heap.size]? = some (.cells #[x0, x1, x2, x3] e) := heap_alloc_new w _
  exact ⟨_, rfl, ⟨by simp only [World.cell?, hb]; rfl, by simp only [World.cell?, hb]; rfl, by simp only [World.cell?, hb]; rfl, by simp only [World.cell?, hb]; rfl⟩, fun i => by simp only [World.frozen?, hb]; simp, up_alloc _ _, by simp⟩
def tot (a : Nat) (l : List (List UInt8)) : Nat := (l.map fun x => a + x.length).sum
def size (n : Nd) : Nat := 3 + tot 1 n.keys + if n.leaf then tot 2 n.vals else 2 * n.kids.length
theorem tot_take (a : Nat) (l : List (List UInt8)) (k : Nat) (h : k < l.length) : tot a (l.take (k + 1)) = tot a (l.take k) + (a + l[k].length) := by
  unfold tot; rw [List.take_succ_eq_append_getElem h, List.map_append, List.sum_append]; simp
theorem tot_le (a : Nat) (l : List (List UInt8)) (b : Nat) (h : ∀ x ∈ l, x.length ≤ b) (k : Nat) : tot a (l.take k) ≤ l.length * (a + b) := by
  induction l generalizing k with
  | nil => simp [tot]
  | cons x l ih =>
    cases k with
    | zero => simp [tot]
    | succ k =>
      have := ih (fun y hy => h y (List.mem_cons_of_mem _ hy)) k
      have := h x (List.mem_cons_self ..)
      simp only [tot, List.take_succ_cons, List.map_cons, List.sum_cons, List.length_cons, Nat.add_mul] at *
      omega
theorem Bss.lens {A : Nat → Prop} {w : World} {v : Value} {l : List (List UInt8)} (h : Bss A w v l) : ∀ x ∈ l, x.length ≤ lim := by
  obtain ⟨vs, _, h2, _⟩ := h
  intro x hx
  obtain ⟨i, hi, rfl⟩ := List.mem_iff_getElem.1 hx
  exact (h2.2 i hi (by rw [h2.1]; exact hi)).2
theorem tot_bd {a : Nat} {l : List (List UInt8)} (h : ∀ x ∈ l, x.length ≤ lim) (hl : l.length ≤ 1000) (ha : a ≤ 2) (k : Nat) : (tot a (l.take k) : Int) ≤ 200000000000000000 := by
  have h1 := tot_le a l lim h k
  have h2 : l.length * (a + lim) ≤ 1000 * (2 + lim) := Nat.mul_le_mul hl (by omega)
  have h3 : lim = 140737488351232 := rfl
  omega
theorem ret_nat {a b : Nat} (h : a = b) : Ending.returned (.int .i64 (a : Int)) = .returned (.int .i64 (b : Int)) := by rw [h]
set_option maxRecDepth 100000 in
set_option maxHeartbeats 2000000 in
/-- leaf.Size -/
theorem size_any {A : Nat → Prop} {w : World} {v : Value} {n : Nd} (h : RN A w v n) (hk : n.keys.length ≤ 1000) (hv : n.vals.length ≤ 1000) (hc : n.kids.length ≤ 2000) : Calls Try.prog 23 #[v] w fun e w' => e = .returned (.int .i64 (size n)) ∧ Below w.heap.size w w' := by
  obtain ⟨k, u, c, rfl, h1, h2, h3⟩ := h
  have HL1 := h1.lens
  have HL2 := h2.lens
  obtain ⟨a1, c1, rfl, g1, _, H1⟩ := h1.at
  obtain ⟨a2, c2, rfl, g2, _, H2⟩ := h2.at
  obtain ⟨a3, c3, rfl, g3, _, H3⟩ := h3.at
  clear H1 H2 H3
  cases hlf : n.leaf with
  | true =>
    have HS : Hid (size n = 3 + tot 1 n.keys + tot 2 n.vals) := by show _ = _; unfold size; rw [hlf]; rfl
    clear hlf
    go_enter Try.func23, Try.ntmps23
    go_wp2
    obtain ⟨W, hW, ⟨b0, b1, b2, b3⟩, bf, hbW, hsz⟩ := box4 w (.bool true) (.slice a1 n.keys.length c1) (.slice a2 n.vals.length c2) (.slice a3 n.kids.length c3) 37
    rw [← hW]
    clear hW
    have HL1 := Hid.mk' HL1
    have HL2 := Hid.mk' HL2
    obtain ⟨_, _, e1, _, _, H1⟩ := (h1.up hbW).at
    cases e1
    obtain ⟨_, _, e1, _, _, H2⟩ := (h2.up hbW).at
    cases e1
    have H1 := Hid.mk' H1
    have H2 := Hid.mk' H2
    have HB := Hid.mk' hbW
    have HZ := Hid.mk' hsz
    clear h1 h2 h3 hbW hsz
    go_loop [3, 11] (fun t i => ∃ k : Nat, k ≤ n.keys.length ∧ i = .int .i64 k ∧ t = .int .i64 (3 + tot 1 (n.keys.take k) : Nat)) (fun _ i => n.keys.length - (intOf i).toNat)
    case atStart => exact ⟨0, by omega, rfl, rfl⟩
    case round =>
      obtain ⟨k, hk', rfl, rfl⟩ := hrel
      have hT3 := tot_bd HL1.out hk (a := 1) (by omega) k
      have HT0 : Hid (tot 1 (n.keys.take n.keys.length) = tot 1 n.keys) := by show _ = _; rw [List.take_length]
      by_cases hlt : k < n.keys.length
      · obtain ⟨b, o, u, rfl, _, hu, hul⟩ := H1.out k hlt
        obtain ⟨a4, c4, rfl, _, _, _⟩ := hul.at
        have hs : n.keys[k].length ≤ lim := hul.2
        have hs : (n.keys[k].length : Int) ≤ 140737488351232 := by unfold lim at hs; omega
        have HT := Hid.mk' (tot_take 1 n.keys k hlt)
        generalize tot 1 (n.keys.take k) = x at *
        clear hul
        go_wp2
        go_round
        case rel => exact ⟨k + 1, by omega, by go_num, by rw [HT.out]; go_num⟩
        case measure => simp [intOf]; omega
      · obtain rfl : k = n.keys.length := by omega
        rw [HT0.out] at hT3 ⊢
        generalize tot 1 n.keys = x at *
        go_wp2
        go_loop [3, 33] (fun t i => ∃ k : Nat, k ≤ n.vals.length ∧ i = .int .i64 k ∧ t = .int .i64 (3 + x + tot 2 (n.vals.take k) : Nat)) (fun _ i => n.vals.length - (intOf i).toNat)
        case atStart => exact ⟨0, by omega, rfl, by simp [tot]⟩
        case round =>
          obtain ⟨k, hk', rfl, rfl⟩ := hrel
          have hT4 := tot_bd HL2.out hv (a := 2) (by omega) k
          have HT0 : Hid (tot 2 (n.vals.take n.vals.length) = tot 2 n.vals) := by show _ = _; rw [List.take_length]
          by_cases hlt : k < n.vals.length
          · obtain ⟨b, o, u, rfl, _, hu, hul⟩ := H2.out k hlt
            obtain ⟨a4, c4, rfl, _, _, _⟩ := hul.at
            have hs : n.vals[k].length ≤ lim := hul.2
            have hs : (n.vals[k].length : Int) ≤ 140737488351232 := by unfold lim at hs; omega
            have HT := Hid.mk' (tot_take 2 n.vals k hlt)
            generalize tot 2 (n.vals.take k) = y at *
            clear hul
            go_wp2
            go_round
            case rel => exact ⟨k + 1, by omega, by go_num, by rw [HT.out]; go_num⟩
            case measure => simp [intOf]; omega
          · obtain rfl : k = n.vals.length := by omega
            rw [HT0.out] at hT4 ⊢
            generalize tot 2 n.vals = y at *
            go_wp2
            go_ret
            exact ⟨ret_n (by rw [HS.out]; simp), HB.out⟩
  | false =>
    have HS : Hid (size n = 3 + tot 1 n.keys + 2 * n.kids.length) := by show _ = _; unfold size; rw [hlf]; rfl
    clear hlf
    go_enter Try.func23, Try.ntmps23
    go_wp2
    obtain ⟨W, hW, ⟨b0, b1, b2, b3⟩, bf, hbW, hsz⟩ := box4 w (.bool false) (.slice a1 n.keys.length c1) (.slice a2 n.vals.length c2) (.slice a3 n.kids.length c3) 37
    rw [← hW]
    clear hW
    have HL1 := Hid.mk' HL1
    have HL2 := Hid.mk' HL2
    obtain ⟨_, _, e1, _, _, H1⟩ := (h1.up hbW).at
    cases e1
    have H1 := Hid.mk' H1
    have HB := Hid.mk' hbW
    have HZ := Hid.mk' hsz
    clear h1 h2 h3 hbW hsz
    go_loop [3, 11] (fun t i => ∃ k : Nat, k ≤ n.keys.length ∧ i = .int .i64 k ∧ t = .int .i64 (3 + tot 1 (n.keys.take k) : Nat)) (fun _ i => n.keys.length - (intOf i).toNat)
    case atStart => exact ⟨0, by omega, rfl, rfl⟩
    case round =>
      obtain ⟨k, hk', rfl, rfl⟩ := hrel
      have hT3 := tot_bd HL1.out hk (a := 1) (by omega) k
      have HT0 : Hid (tot 1 (n.keys.take n.keys.length) = tot 1 n.keys) := by show _ = _; rw [List.take_length]
      by_cases hlt : k < n.keys.length
      · obtain ⟨b, o, u, rfl, _, hu, hul⟩ := H1.out k hlt
        obtain ⟨a4, c4, rfl, _, _, _⟩ := hul.at
        have hs : n.keys[k].length ≤ lim := hul.2
        have hs : (n.keys[k].length : Int) ≤ 140737488351232 := by unfold lim at hs; omega
        have HT := Hid.mk' (tot_take 1 n.keys k hlt)
        generalize tot 1 (n.keys.take k) = x at *
        clear hul
        go_wp2
        go_round
        case rel => exact ⟨k + 1, by omega, by go_num, by rw [HT.out]; go_num⟩
        case measure => simp [intOf]; omega
      · obtain rfl : k = n.keys.length := by omega
        rw [HT0.out] at hT3 ⊢
        generalize tot 1 n.keys = x at *
        go_wp2
        go_ret
        exact ⟨ret_n (by rw [HS.out]; simp), HB.out⟩
set_option maxRecDepth 100000 in
set_option maxHeartbeats 2000000 in
/-- groyneref08.Size -/
theorem rsize_any {A : Nat → Prop} {w : World} {v : Value} {n : Nd} (h : RN A w v n) (hk : n.keys.length ≤ 1000) (hv : n.vals.length ≤ 1000) (hc : n.kids.length ≤ 2000) : Calls Try.prog 24 #[v] w fun e w' => e = .returned (.int .i64 (size n)) ∧ Below w.heap.size w w' := by
  obtain ⟨k, u, c, rfl, h1, h2, h3⟩ := h
  have HL1 := h1.lens
  have HL2 := h2.lens
  obtain ⟨a1, c1, rfl, g1, _, H1⟩ := h1.at
  obtain ⟨a2, c2, rfl, g2, _, H2⟩ := h2.at
  obtain ⟨a3, c3, rfl, g3, _, H3⟩ := h3.at
  clear H1 H2 H3
  cases hlf : n.leaf with
  | true =>
    have HS : Hid (size n = 3 + tot 1 n.keys + tot 2 n.vals) := by show _ = _; unfold size; rw [hlf]; rfl
    clear hlf
    go_enter Try.func24, Try.ntmps24
    go_wp2
    obtain ⟨W, hW, ⟨b0, b1, b2, b3⟩, bf, hbW, hsz⟩ := box4 w (.bool true) (.slice a1 n.keys.length c1) (.slice a2 n.vals.length c2) (.slice a3 n.kids.length c3) 31
    rw [← hW]
    clear hW
    have HL1 := Hid.mk' HL1
    have HL2 := Hid.mk' HL2
    obtain ⟨_, _, e1, _, _, H1⟩ := (h1.up hbW).at
    cases e1
    obtain ⟨_, _, e1, _, _, H2⟩ := (h2.up hbW).at
    cases e1
    have H1 := Hid.mk' H1
    have H2 := Hid.mk' H2
    have HB := Hid.mk' hbW
    have HZ := Hid.mk' hsz
    clear h1 h2 h3 hbW hsz
    go_loop [3, 4] (fun t i => ∃ k : Nat, k ≤ n.keys.length ∧ i = .int .i64 k ∧ t = .int .i64 (3 + tot 1 (n.keys.take k) : Nat)) (fun _ i => n.keys.length - (intOf i).toNat)
    case atStart => exact ⟨0, by omega, rfl, rfl⟩
    case round =>
      obtain ⟨k, hk', rfl, rfl⟩ := hrel
      have hT3 := tot_bd HL1.out hk (a := 1) (by omega) k
      have HT0 : Hid (tot 1 (n.keys.take n.keys.length) = tot 1 n.keys) := by show _ = _; rw [List.take_length]
      by_cases hlt : k < n.keys.length
      · obtain ⟨b, o, u, rfl, _, hu, hul⟩ := H1.out k hlt
        obtain ⟨a4, c4, rfl, _, _, _⟩ := hul.at
        have hs : n.keys[k].length ≤ lim := hul.2
        have hs : (n.keys[k].length : Int) ≤ 140737488351232 := by unfold lim at hs; omega
        have HT := Hid.mk' (tot_take 1 n.keys k hlt)
        generalize tot 1 (n.keys.take k) = x at *
        clear hul
        go_wp2
        go_round
        case rel => exact ⟨k + 1, by omega, by go_num, by rw [HT.out]; go_num⟩
        case measure => simp [intOf]; omega
      · obtain rfl : k = n.keys.length := by omega
        rw [HT0.out] at hT3 ⊢
        generalize tot 1 n.keys = x at *
        go_wp2
        go_loop [3, 5] (fun t i => ∃ k : Nat, k ≤ n.vals.length ∧ i = .int .i64 k ∧ t = .int .i64 (3 + x + tot 2 (n.vals.take k) : Nat)) (fun _ i => n.vals.length - (intOf i).toNat)
        case atStart => exact ⟨0, by omega, rfl, by simp [tot]⟩
        case round =>
          obtain ⟨k, hk', rfl, rfl⟩ := hrel
          have hT4 := tot_bd HL2.out hv (a := 2) (by omega) k
          have HT0 : Hid (tot 2 (n.vals.take n.vals.length) = tot 2 n.vals) := by show _ = _; rw [List.take_length]
          by_cases hlt : k < n.vals.length
          · obtain ⟨b, o, u, rfl, _, hu, hul⟩ := H2.out k hlt
            obtain ⟨a4, c4, rfl, _, _, _⟩ := hul.at
            have hs : n.vals[k].length ≤ lim := hul.2
            have hs : (n.vals[k].length : Int) ≤ 140737488351232 := by unfold lim at hs; omega
            have HT := Hid.mk' (tot_take 2 n.vals k hlt)
            generalize tot 2 (n.vals.take k) = y at *
            clear hul
            go_wp2
            go_round
            case rel => exact ⟨k + 1, by omega, by go_num, by rw [HT.out]; go_num⟩
            case measure => simp [intOf]; omega
          · obtain rfl : k = n.vals.length := by omega
            rw [HT0.out] at hT4 ⊢
            generalize tot 2 n.vals = y at *
            go_wp2
            go_ret
            exact ⟨ret_n (by rw [HS.out]; simp), HB.out⟩
  | false =>
    have HS : Hid (size n = 3 + tot 1 n.keys + 2 * n.kids.length) := by show _ = _; unfold size; rw [hlf]; rfl
    clear hlf
    go_enter Try.func24, Try.ntmps24
    go_wp2
    obtain ⟨W, hW, ⟨b0, b1, b2, b3⟩, bf, hbW, hsz⟩ := box4 w (.bool false) (.slice a1 n.keys.length c1) (.slice a2 n.vals.length c2) (.slice a3 n.kids.length c3) 31
    rw [← hW]
    clear hW
    have HL1 := Hid.mk' HL1
    have HL2 := Hid.mk' HL2
    obtain ⟨_, _, e1, _, _, H1⟩ := (h1.up hbW).at
    cases e1
    have H1 := Hid.mk' H1
    have HB := Hid.mk' hbW
    have HZ := Hid.mk' hsz
    clear h1 h2 h3 hbW hsz
    go_loop [3, 4] (fun t i => ∃ k : Nat, k ≤ n.keys.length ∧ i = .int .i64 k ∧ t = .int .i64 (3 + tot 1 (n.keys.take k) : Nat)) (fun _ i => n.keys.length - (intOf i).toNat)
    case atStart => exact ⟨0, by omega, rfl, rfl⟩
    case round =>
      obtain ⟨k, hk', rfl, rfl⟩ := hrel
      have hT3 := tot_bd HL1.out hk (a := 1) (by omega) k
      have HT0 : Hid (tot 1 (n.keys.take n.keys.length) = tot 1 n.keys) := by show _ = _; rw [List.take_length]
      by_cases hlt : k < n.keys.length
      · obtain ⟨b, o, u, rfl, _, hu, hul⟩ := H1.out k hlt
        obtain ⟨a4, c4, rfl, _, _, _⟩ := hul.at
        have hs : n.keys[k].length ≤ lim := hul.2
        have hs : (n.keys[k].length : Int) ≤ 140737488351232 := by unfold lim at hs; omega
        have HT := Hid.mk' (tot_take 1 n.keys k hlt)
        generalize tot 1 (n.keys.take k) = x at *
        clear hul
        go_wp2
        go_round
        case rel => exact ⟨k + 1, by omega, by go_num, by rw [HT.out]; go_num⟩
        case measure => simp [intOf]; omega
      · obtain rfl : k = n.keys.length := by omega
        rw [HT0.out] at hT3 ⊢
        generalize tot 1 n.keys = x at *
        go_wp2
        go_ret
        exact ⟨ret_n (by rw [HS.out]; simp), HB.out⟩
end Go.Proofs.Ytfmbbpfklhkljaa
