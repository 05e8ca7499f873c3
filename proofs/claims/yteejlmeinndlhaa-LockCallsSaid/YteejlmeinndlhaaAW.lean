/- awake. -/
import Derived.Test.YteejlmeinndlhaaRE
import Derived.Lib.SmallJoins
set_option linter.unusedVariables false
set_option linter.unusedSimpArgs false
namespace Go.Proofs.Yteejlmeinndlhaa
open Go.RowKit Go.Maps
attribute [local go_sem ↓] Go.wp_at_zero Go.wp_at_succ
/-- a table of this call's own at block b: what was before W stays, but b -/
def AwS (W wz : World) (b : Nat) (T : Tb) : Prop := ∃ M D : Nat → Prop, (∀ k, M k → W.heap.size ≤ k) ∧ (∀ k, D k → W.heap.size ≤ k) ∧ TbIs M D wz b T ∧ Wb (fun k => k = b) W wz
theorem AwS.up {W wz w' : World} {b : Nat} {T : Tb} (h : AwS W wz b T) (hb : Below wz.heap.size wz w') : AwS W w' b T := by
  obtain ⟨M, D, h1, h2, h3, h4⟩ := h
  exact ⟨M, D, h1, h2, h3.below hb, h4.trans (Wb.of_below _ hb)⟩
theorem AwS.wb {W wz : World} {b : Nat} {T : Tb} (h : AwS W wz b T) : Wb (fun k => k = b) W wz := by obtain ⟨M, D, h1, h2, h3, h4⟩ := h; exact h4
theorem AwS.cell {W wz : World} {b k j : Nat} {T : Tb} {v : Value} (h : AwS W wz b T) (hk : k ≠ b) (hc : W.cell? ⟨k, j, none⟩ = some v) : wz.cell? ⟨k, j, none⟩ = some v :=
  (World.cell?_of_block (w := W) (a := ⟨k, j, none⟩) (h.wb.block k (World.block_lt_of_cell? W ⟨k, j, none⟩ hc) hk)).trans hc
theorem AwS.ask {A : Nat → Prop} {W wz : World} {b : Nat} {T : Tb} {x : Tx} {v : Value} {l : List Rg} (h : AwS W wz b T) (hv : Rgs A wz v l) (hn : T.length < 1000000) (hm : (tgz T x).length ≤ 1000000) :
    Calls Try.prog 21 #[.pointer (some ⟨b, 0, none⟩), tv x, v] wz fun e w' => e = .returned (.int .i64 (askT T x l).1) ∧ AwS W w' b (askT T x l).2 ∧ wz.heap.size ≤ w'.heap.size := by
  obtain ⟨M, D, h1, h2, h3, h4⟩ := h
  refine (ask_any h3 hv hn hm).mono ?_
  rintro e w' ⟨rfl, hw, M', D', hM', hD', ht⟩
  have hs := h4.size
  refine ⟨rfl, ⟨M', D', fun k hk => ?_, fun k hk => ?_, ht, h4.trans2 hw fun i hi h => ?_⟩, hw.size⟩
  · rcases hM' k hk with h | h
    · exact h1 k h
    · omega
  · rcases hD' k hk with h | h
    · exact h2 k h
    · omega
  · rcases h with h | h
    · exact h
    · have := h1 i h; omega
theorem AwS.rel {A : Nat → Prop} {W wz wy : World} {b : Nat} {T : Tb} {v : Value} {l : List Tx} (h : AwS W wz b T) (hb : Below wz.heap.size wz wy) (hv : Txr A wy v l) (hA : ∀ k, A k → wz.heap.size ≤ k ∨ k < W.heap.size) (hn : T.length ≤ 1000000) :
    Calls Try.prog 24 #[.pointer (some ⟨b, 0, none⟩), v] wy fun e w' => e = .returned (.int .i64 ((T.length : Int) - ((relT T l).length : Int))) ∧ AwS W w' b (relT T l) ∧ wy.heap.size ≤ w'.heap.size := by
  obtain ⟨M, D, h1, h2, h3, h4⟩ := h
  refine (release_any (h3.below hb) hv (fun k hk hM => ?_) hn).mono ?_
  · have := h1 k hM
    have := (h3.hM k hM).1
    rcases hA k hk with h | h <;> omega
  rintro e w' ⟨rfl, hw, ht⟩
  exact ⟨rfl, ⟨M, D, h1, h2, ht, (h4.trans (Wb.of_below _ hb)).trans2 hw fun i hi h => by have := h1 i h; omega⟩, hw.size⟩
theorem rgs_one {A : Nat → Prop} {w : World} {r : Rg} {fa ta : Option Addr} {fc tc : Nat} (h1 : Bs A w (.slice fa r.lo.length fc) r.lo) (h2 : Bs A w (.slice ta r.hi.length tc) r.hi) :
    Rgs (fun _ => True) (w.alloc (.cells #[.slice fa r.lo.length fc, .slice ta r.hi.length tc, .bool r.xc] 24)) (.slice (some ⟨w.heap.size, 0, none⟩) 1 1) [r] := by
  refine ⟨[(r, .slice fa r.lo.length fc, .slice ta r.hi.length tc)], rfl, ?_, fun q hq => ?_, by unfold lim; simp⟩
  · have h := row_one3 (w := w) (x := .slice fa r.lo.length fc) (y := .slice ta r.hi.length tc) (z := .bool r.xc) (e := 24)
    exact h.monoS fun _ _ => trivial
  · simp only [List.mem_cons, List.not_mem_nil, or_false] at hq
    subst hq
    exact ⟨(h1.up (up_alloc _ _)).monoS fun _ _ => trivial, (h2.up (up_alloc _ _)).monoS fun _ _ => trivial⟩
theorem txr_two {w : World} (x y : Tx) : Txr (fun k => k = w.heap.size) (w.alloc (.cells #[.int .u64 (x.1.toNat : Int), .int .u64 (x.2.1.toNat : Int), .int .u64 (x.2.2.toNat : Int), .int .u64 (y.1.toNat : Int), .int .u64 (y.2.1.toNat : Int), .int .u64 (y.2.2.toNat : Int)] 30)) (.slice (some ⟨w.heap.size, 0, none⟩) 2 2) [x, y] := by
  refine ⟨⟨rfl, _, _, rfl, Nat.le_refl _, by simp, fun j u hj => ⟨_, _, rfl, rfl, ?_⟩⟩, by unfold lim; simp⟩
  match j, hj with
  | 0, hj => simp [txs, tc] at hj; subst hj; simp
  | 1, hj => simp [txs, tc] at hj; subst hj; simp
  | 2, hj => simp [txs, tc] at hj; subst hj; simp
  | 3, hj => simp [txs, tc] at hj; subst hj; simp
  | 4, hj => simp [txs, tc] at hj; subst hj; simp
  | 5, hj => simp [txs, tc] at hj; subst hj; simp
def xa : Tx := (0, 0, 1)
def xb : Tx := (0, 0, 2)
def rx : Rg := ⟨[97], [], true⟩
theorem ask1 : askT [] xa [rx] = (0, [(xa, [rx])]) := by rfl
theorem ask2 : askT [(xa, [rx])] xb [rx] = (11, [(xa, [rx])]) := by rfl
theorem rel1 : relT [(xa, [rx])] [xa, xb] = [] := by rfl
theorem ask3 : (askT [] xb [rx]).1 = 0 := by rfl
theorem conv22 (w : World) : (convert 22 22 (.slice (some ⟨w.heap.size + 1 + 1 + 1, 0, none⟩) 1 1)).run Try.prog ((((w.alloc (.cells #[.map none] 37)).alloc (.cells #[.int .u64 0, .int .u64 0, .int .u64 1] 30)).alloc (.cells #[.int .u64 0, .int .u64 0, .int .u64 2] 30)).alloc (.cells #[.int .u8 97] 5)) = .ok (.slice (some ⟨w.heap.size + 1 + 1 + 1, 0, none⟩) 1 1) ((((w.alloc (.cells #[.map none] 37)).alloc (.cells #[.int .u64 0, .int .u64 0, .int .u64 1] 30)).alloc (.cells #[.int .u64 0, .int .u64 0, .int .u64 2] 30)).alloc (.cells #[.int .u8 97] 5 (1, 2))) :=
  Go.Joins.run_convert_bytes_const_at _ 22 5 #[.int .u8 97] 1 1 _ (by simp) Try.underlying22 Try.underlying5
/-- the world behind awake's variables -/
def awW (w : World) : World := ((((w.alloc (.cells #[.map none] 37)).alloc (.cells #[.int .u64 0, .int .u64 0, .int .u64 1] 30)).alloc (.cells #[.int .u64 0, .int .u64 0, .int .u64 2] 30)).alloc (.cells #[.int .u8 97] 5 (1, 2))).alloc (.cells #[.slice (some ⟨w.heap.size + 1 + 1 + 1, 0, none⟩) 1 1, .slice none 0 0, .bool true] 24)
theorem aw_facts (w : World) : Below w.heap.size w (awW w) ∧ (awW w).heap.size = w.heap.size + 5 ∧ (awW w).heap[w.heap.size]? = some (.cells #[.map none] 37 (0, 0)) ∧ (awW w).heap[w.heap.size + 1]? = some (.cells #[.int .u64 0, .int .u64 0, .int .u64 1] 30 (0, 0)) ∧ (awW w).heap[w.heap.size + 1 + 1]? = some (.cells #[.int .u64 0, .int .u64 0, .int .u64 2] 30 (0, 0)) ∧ (awW w).heap[w.heap.size + 1 + 1 + 1]? = some (.cells #[.int .u8 97] 5 (1, 2)) ∧ (awW w).heap[w.heap.size + 1 + 1 + 1 + 1]? = some (.cells #[.slice (some ⟨w.heap.size + 1 + 1 + 1, 0, none⟩) 1 1, .slice none 0 0, .bool true] 24 (0, 0)) := by
  have h1 := heap_alloc_new w (.cells #[.map none] 37)
  have h2 := heap_alloc_new (w.alloc (.cells #[.map none] 37)) (.cells #[.int .u64 0, .int .u64 0, .int .u64 1] 30)
  have h3 := heap_alloc_new ((w.alloc (.cells #[.map none] 37)).alloc (.cells #[.int .u64 0, .int .u64 0, .int .u64 1] 30)) (.cells #[.int .u64 0, .int .u64 0, .int .u64 2] 30)
  have h4 := heap_alloc_new (((w.alloc (.cells #[.map none] 37)).alloc (.cells #[.int .u64 0, .int .u64 0, .int .u64 1] 30)).alloc (.cells #[.int .u64 0, .int .u64 0, .int .u64 2] 30)) (.cells #[.int .u8 97] 5 (1, 2))
  have h5 := heap_alloc_new ((((w.alloc (.cells #[.map none] 37)).alloc (.cells #[.int .u64 0, .int .u64 0, .int .u64 1] 30)).alloc (.cells #[.int .u64 0, .int .u64 0, .int .u64 2] 30)).alloc (.cells #[.int .u8 97] 5 (1, 2))) (.cells #[.slice (some ⟨w.heap.size + 1 + 1 + 1, 0, none⟩) 1 1, .slice none 0 0, .bool true] 24)
  simp only [World.size_alloc] at h2 h3 h4 h5
  have b2 := up_alloc (w.alloc (.cells #[.map none] 37)) (.cells #[.int .u64 0, .int .u64 0, .int .u64 1] 30)
  have b3 := up_alloc ((w.alloc (.cells #[.map none] 37)).alloc (.cells #[.int .u64 0, .int .u64 0, .int .u64 1] 30)) (.cells #[.int .u64 0, .int .u64 0, .int .u64 2] 30)
  have b4 := up_alloc (((w.alloc (.cells #[.map none] 37)).alloc (.cells #[.int .u64 0, .int .u64 0, .int .u64 1] 30)).alloc (.cells #[.int .u64 0, .int .u64 0, .int .u64 2] 30)) (.cells #[.int .u8 97] 5 (1, 2))
  have b5 := up_alloc ((((w.alloc (.cells #[.map none] 37)).alloc (.cells #[.int .u64 0, .int .u64 0, .int .u64 1] 30)).alloc (.cells #[.int .u64 0, .int .u64 0, .int .u64 2] 30)).alloc (.cells #[.int .u8 97] 5 (1, 2))) (.cells #[.slice (some ⟨w.heap.size + 1 + 1 + 1, 0, none⟩) 1 1, .slice none 0 0, .bool true] 24)
  unfold awW
  refine ⟨bt (up_alloc _ _) (bt b2 (bt b3 (bt b4 b5))), by simp, ?_, ?_, ?_, ?_, h5⟩
  · rw [b5.block _ (by simp <;> omega), b4.block _ (by simp <;> omega), b3.block _ (by simp <;> omega), b2.block _ (by simp)]; exact h1
  · rw [b5.block _ (by simp <;> omega), b4.block _ (by simp <;> omega), b3.block _ (by simp)]; exact h2
  · rw [b5.block _ (by simp <;> omega), b4.block _ (by simp)]; exact h3
  · rw [b5.block _ (by simp)]; exact h4
theorem bs_nil {A : Nat → Prop} {w : World} : Bs A w (.slice none 0 0) [] := ⟨⟨rfl, none, 0, rfl, Nat.le_refl _, fun _ => rfl, fun j u hj => by simp [bv] at hj⟩, by unfold lim; simp⟩
/-- a literal of that one range, laid later -/
theorem rx_one {w wz : World} (h : wz.heap[w.heap.size + 1 + 1 + 1]? = some (.cells #[.int .u8 97] 5 (1, 2))) : Rgs (fun _ => True) (wz.alloc (.cells #[.slice (some ⟨w.heap.size + 1 + 1 + 1, 0, none⟩) 1 1, .slice none 0 0, .bool true] 24)) (.slice (some ⟨wz.heap.size, 0, none⟩) 1 1) [rx] := by
  refine rgs_one (A := fun _ => True) (r := rx) (fa := some ⟨w.heap.size + 1 + 1 + 1, 0, none⟩) (ta := none) (fc := 1) (tc := 0) ⟨⟨rfl, _, _, rfl, Nat.le_refl _, by simp, fun j u hj => ⟨_, _, rfl, trivial, ?_⟩⟩, by unfold lim; simp [rx]⟩ bs_nil
  match j, hj with
  | 0, hj => simp [bv, rx] at hj; subst hj; simp [World.cell?, h]
def awP (W : World) (b : Nat) (T : Tb) (z : Int) (wy : World) (e : Ending) (w' : World) : Prop := e = .returned (.int .i64 z) ∧ AwS W w' b T ∧ wy.heap.size ≤ w'.heap.size
theorem aw_box {w wz : World} {T : Tb} (h : AwS (awW w) wz w.heap.size T) : (wz.cell? ⟨w.heap.size + 1, 0, none⟩ = some (.int .u64 0) ∧ wz.cell? ⟨w.heap.size + 1, 1, none⟩ = some (.int .u64 0) ∧ wz.cell? ⟨w.heap.size + 1, 2, none⟩ = some (.int .u64 1)) ∧ (wz.cell? ⟨w.heap.size + 1 + 1, 0, none⟩ = some (.int .u64 0) ∧ wz.cell? ⟨w.heap.size + 1 + 1, 1, none⟩ = some (.int .u64 0) ∧ wz.cell? ⟨w.heap.size + 1 + 1, 2, none⟩ = some (.int .u64 2)) ∧
    (wz.cell? ⟨w.heap.size + 1 + 1 + 1 + 1, 0, none⟩ = some (.slice (some ⟨w.heap.size + 1 + 1 + 1, 0, none⟩) 1 1) ∧ wz.cell? ⟨w.heap.size + 1 + 1 + 1 + 1, 1, none⟩ = some (.slice none 0 0) ∧ wz.cell? ⟨w.heap.size + 1 + 1 + 1 + 1, 2, none⟩ = some (.bool true)) ∧ wz.heap[w.heap.size + 1 + 1 + 1]? = some (.cells #[.int .u8 97] 5 (1, 2)) := by
  obtain ⟨_, hs, _, e1, e2, e3, e4⟩ := aw_facts w
  have hw := h.wb
  exact ⟨box3 ((hw.block _ (by omega) (by simp)).trans e1), box3 ((hw.block _ (by omega) (by omega)).trans e2), box3 ((hw.block _ (by omega) (by omega)).trans e4), (hw.block _ (by omega) (by omega)).trans e3⟩
/-- an Ask by one of the two, for that one range -/
theorem aw_ask {w wz : World} {T : Tb} (x : Tx) (n : Int) (hx : (x.1.toNat : Int) = 0 ∧ (x.2.1.toNat : Int) = 0 ∧ (x.2.2.toNat : Int) = n) (h : AwS (awW w) wz w.heap.size T) (hn : T.length < 1000000) (hm : (tgz T x).length ≤ 1000000) :
    Calls Try.prog 21 #[.pointer (some ⟨w.heap.size, 0, none⟩), .agg #[.int .u64 0, .int .u64 0, .int .u64 n], .slice (some ⟨wz.heap.size, 0, none⟩) 1 1] (wz.alloc (.cells #[.slice (some ⟨w.heap.size + 1 + 1 + 1, 0, none⟩) 1 1, .slice none 0 0, .bool true] 24)) (awP (awW w) w.heap.size (askT T x [rx]).2 (askT T x [rx]).1 wz) := by
  obtain ⟨_, _, _, e3⟩ := aw_box h
  have := (h.up (up_alloc wz (.cells #[.slice (some ⟨w.heap.size + 1 + 1 + 1, 0, none⟩) 1 1, .slice none 0 0, .bool true] 24))).ask (x := x) (rx_one e3) hn hm
  rw [show tv x = .agg #[.int .u64 0, .int .u64 0, .int .u64 n] by unfold tv tc; rw [hx.1, hx.2.1, hx.2.2]] at this
  refine this.mono fun e w' ⟨a, b, c⟩ => ⟨a, b, ?_⟩
  simp at c; omega
theorem aw_rel {w wz : World} {T : Tb} (h : AwS (awW w) wz w.heap.size T) (hn : T.length ≤ 1000000) :
    Calls Try.prog 24 #[.pointer (some ⟨w.heap.size, 0, none⟩), .slice (some ⟨wz.heap.size, 0, none⟩) 2 2] (wz.alloc (.cells #[.int .u64 0, .int .u64 0, .int .u64 1, .int .u64 0, .int .u64 0, .int .u64 2] 30)) (awP (awW w) w.heap.size (relT T [xa, xb]) ((T.length : Int) - ((relT T [xa, xb]).length : Int)) wz) := by
  have := h.rel (up_alloc wz _) (txr_two (w := wz) xa xb) (fun k hk => .inl (Nat.le_of_eq hk.symm)) hn
  refine Calls.mono this fun e w' ⟨a, b, c⟩ => ⟨a, b, ?_⟩
  simp at c; omega
set_option maxRecDepth 100000 in
set_option maxHeartbeats 4000000 in
theorem awake_any (w : World) : Calls Try.prog 8 #[] w fun e w' => e = .returned (.bool true) ∧ Below w.heap.size w w' := by
  obtain ⟨hb, hs, e0, _⟩ := aw_facts w
  have h0 : AwS (awW w) (awW w) w.heap.size [] := ⟨fun _ => False, fun _ => False, fun _ h => h.elim, fun _ h => h.elim, ⟨⟨none, e0, .inl ⟨rfl, rfl⟩⟩, fun _ h => h.elim, fun _ h => h.elim⟩, Wb.refl _ _⟩
  have HFIN : Hid (∀ w' T, AwS (awW w) w' w.heap.size T → Below w.heap.size w w') := fun w' T h => by
    have h2 := h.wb
    exact hb.trans (h2.below hb.size fun k hk => Nat.le_of_eq hk.symm)
  have HS := Hid.mk' (by omega : w.heap.size + 1 + 1 + 1 + 1 < (awW w).heap.size)
  have hcv := conv22 w
  obtain ⟨⟨a0, a1, a2⟩, ⟨b0, b1, b2⟩, ⟨x0, x1, x2⟩, _⟩ := aw_box h0
  have HA1 := Hid.mk' (aw_ask xa 1 ⟨rfl, rfl, rfl⟩ h0 (by decide) (by decide))
  have HWE : Hid (awW w = ((((w.alloc (.cells #[.map none] 37)).alloc (.cells #[.int .u64 0, .int .u64 0, .int .u64 1] 30)).alloc (.cells #[.int .u64 0, .int .u64 0, .int .u64 2] 30)).alloc (.cells #[.int .u8 97] 5 (1, 2))).alloc (.cells #[.slice (some ⟨w.heap.size + 1 + 1 + 1, 0, none⟩) 1 1, .slice none 0 0, .bool true] 24)) := rfl
  have HA2 : Hid (∀ wz, AwS (awW w) wz w.heap.size [(xa, [rx])] → Calls Try.prog 21 #[.pointer (some ⟨w.heap.size, 0, none⟩), .agg #[.int .u64 0, .int .u64 0, .int .u64 2], .slice (some ⟨wz.heap.size, 0, none⟩) 1 1] (wz.alloc (.cells #[.slice (some ⟨w.heap.size + 1 + 1 + 1, 0, none⟩) 1 1, .slice none 0 0, .bool true] 24)) (awP (awW w) w.heap.size [(xa, [rx])] 11 wz)) := fun wz h => aw_ask xb 2 ⟨rfl, rfl, rfl⟩ h (by decide) (by decide)
  have HR : Hid (∀ wz, AwS (awW w) wz w.heap.size [(xa, [rx])] → Calls Try.prog 24 #[.pointer (some ⟨w.heap.size, 0, none⟩), .slice (some ⟨wz.heap.size, 0, none⟩) 2 2] (wz.alloc (.cells #[.int .u64 0, .int .u64 0, .int .u64 1, .int .u64 0, .int .u64 0, .int .u64 2] 30)) (awP (awW w) w.heap.size [] 1 wz)) := fun wz h => aw_rel h (by decide)
  have HA3 : Hid (∀ wz, AwS (awW w) wz w.heap.size [] → Calls Try.prog 21 #[.pointer (some ⟨w.heap.size, 0, none⟩), .agg #[.int .u64 0, .int .u64 0, .int .u64 2], .slice (some ⟨wz.heap.size, 0, none⟩) 1 1] (wz.alloc (.cells #[.slice (some ⟨w.heap.size + 1 + 1 + 1, 0, none⟩) 1 1, .slice none 0 0, .bool true] 24)) (awP (awW w) w.heap.size (askT [] xb [rx]).2 0 wz)) := fun wz h => aw_ask xb 2 ⟨rfl, rfl, rfl⟩ h (by decide) (by decide)
  have HA1 : Hid (Calls Try.prog 21 #[.pointer (some ⟨w.heap.size, 0, none⟩), .agg #[.int .u64 0, .int .u64 0, .int .u64 1], .slice (some ⟨(awW w).heap.size, 0, none⟩) 1 1] ((awW w).alloc (.cells #[.slice (some ⟨w.heap.size + 1 + 1 + 1, 0, none⟩) 1 1, .slice none 0 0, .bool true] 24)) (awP (awW w) w.heap.size [(xa, [rx])] 0 (awW w))) := HA1
  have HBX : Hid (∀ wz T, AwS (awW w) wz w.heap.size T → _ ∧ _ ∧ _ ∧ _) := fun wz T h => aw_box h
  clear hb hs e0 h0
  go_enter Try.func8, Try.ntmps8
  go_upto_region 4 with fail
  rw [← HWE.out]
  clear hcv HWE
  generalize awW w = W at *
  go_wp2_with fail
  refine HA1.out.mono ?_
  rintro e w1 ⟨rfl, h1, hs1⟩
  have H1 := Hid.mk' h1
  clear HA1 a0 a1 a2 b0 b1 b2 x0 x1 x2 hs1
  obtain ⟨⟨a0, a1, a2⟩, ⟨b0, b1, b2⟩, ⟨x0, x1, x2⟩, _⟩ := HBX.out w1 _ h1
  clear h1
  go_wp2_with fail
  refine (HA2.out w1 H1.out).mono ?_
  rintro e w2 ⟨rfl, h2, hs2⟩
  have H2 := Hid.mk' h2
  clear HA2 a0 a1 a2 b0 b1 b2 x0 x1 x2 hs2
  obtain ⟨⟨a0, a1, a2⟩, ⟨b0, b1, b2⟩, ⟨x0, x1, x2⟩, _⟩ := HBX.out w2 _ h2
  clear h2
  go_wp2_with fail
  refine (HR.out w2 H2.out).mono ?_
  rintro e w3 ⟨rfl, h3, hs3⟩
  have H3 := Hid.mk' h3
  clear HR a0 a1 a2 b0 b1 b2 x0 x1 x2 hs3
  obtain ⟨⟨a0, a1, a2⟩, ⟨b0, b1, b2⟩, ⟨x0, x1, x2⟩, _⟩ := HBX.out w3 _ h3
  clear h3
  go_wp2_with fail
  refine (HA3.out w3 H3.out).mono ?_
  rintro e w4 ⟨rfl, h4, hs4⟩
  have H4 := Hid.mk' (HFIN.out w4 _ h4)
  clear h4 HA3 a0 a1 a2 b0 b1 b2 x0 x1 x2 hs4
  go_wp2_with fail
  go_ret
  exact ⟨rfl, H4.out⟩
end Go.Proofs.Yteejlmeinndlhaa
