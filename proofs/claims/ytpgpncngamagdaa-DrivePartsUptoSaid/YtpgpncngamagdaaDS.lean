/- The drive in memory; frames. New, may, there, the units of deeds. -/
import Derived.Test.YtpgpncngamagdaaDP
import Derived.Test.YtpgpncngamagdaaRF
import Derived.Handy
set_option linter.unusedVariables false
set_option linter.unusedSimpArgs false
namespace Go.Proofs.Ytpgpncngamagdaa
open Go.RowKit
attribute [local go_sem ↓] Go.wp_at_zero Go.wp_at_succ
theorem Row.wb {sz n : Nat} {D X : Nat → Prop} {w w' : World} {v : Value} {vs : List Value} (h : Row sz D w v n vs) (hw : Wb X w w') (hX : ∀ k, X k → ¬ D k) : Row sz D w' v n vs := by
  obtain ⟨hl, a, c, rfl, hc, ha, H⟩ := h
  refine ⟨hl, a, c, rfl, hc, ha, fun j u hj => ?_⟩
  obtain ⟨b, o, ha, hB, hu⟩ := H j u hj
  refine ⟨b, o, ha, hB, ?_⟩
  have hlt := World.block_lt_of_cell? w ⟨b, o + j, none⟩ hu
  exact (World.cell?_of_block (w := w) (a := ⟨b, o + j, none⟩) (hw.block b hlt fun e => hX b e hB)).trans hu
theorem Bs.wb {D X : Nat → Prop} {w w' : World} {v : Value} {l : List UInt8} (h : Bs D w v l) (hw : Wb X w w') (hX : ∀ k, X k → ¬ D k) : Bs D w' v l := ⟨h.1.wb hw hX, h.2⟩
/-- a map of files at block k -/
def FI (D : Nat → Prop) (w : World) (k : Nat) (F : Fl) : Prop :=
  Srt F ∧ ∃ g, MapF Try.prog 9 w k g F.length ∧ ∀ s, (g s = none ∧ fget F s = none) ∨ ∃ v l, g s = some v ∧ fget F s = some l ∧ Bs D w v l
def FilesIs (M D : Nat → Prop) (w : World) (m : Option Nat) (F : Fl) : Prop := (m = none ∧ F = []) ∨ ∃ k, m = some k ∧ M k ∧ FI D w k F
def DdIs (D : Nat → Prop) (w : World) (v : Value) (x : Dd) : Prop :=
  match x with
  | .write n i l => ∃ u, v = .iface 90 (.agg #[.string ⟨n.toArray⟩, .int .i64 (i : Int), u]) ∧ Bs D w u l ∧ n.length ≤ maxLen
  | .trim n k => v = .iface 119 (.agg #[.string ⟨n.toArray⟩, .int .i64 (k : Int)]) ∧ n.length ≤ maxLen
  | .ren a b => v = .iface 121 (.agg #[.string ⟨a.toArray⟩, .string ⟨b.toArray⟩]) ∧ a.length ≤ maxLen ∧ b.length ≤ maxLen
  | .rem n => v = .iface 123 (.agg #[.string ⟨n.toArray⟩]) ∧ n.length ≤ maxLen
def QueueIs (D : Nat → Prop) (w : World) (q : Value) (Q : List Dd) : Prop :=
  ∃ vs, Row 1 D w q Q.length vs ∧ ∀ i (h : i < Q.length) (h' : i < vs.length), DdIs D w vs[i] Q[i]
structure DrIs (M D : Nat → Prop) (w : World) (b : Nat) (d : Dm) : Prop where
  ex : ∃ ms mv q, w.heap[b]? = some (.cells #[.map ms, .map mv, q, .int .i64 d.room, .bool d.armed, .int .i64 d.left, .bool d.dead] 46 (0, 0)) ∧ FilesIs M D w ms d.safe ∧ FilesIs M D w mv d.seen ∧ QueueIs D w q d.queue ∧ ∀ k, ms = some k → mv ≠ some k
  hD : ∀ k, D k → k < w.heap.size ∧ ¬ M k ∧ k ≠ b
  hM : ∀ k, M k → k < w.heap.size ∧ k ≠ b
  left : d.armed = true → 0 ≤ d.left ∧ d.left ≤ 9223372036854775807
theorem FI.wb {D X : Nat → Prop} {w w' : World} {k : Nat} {F : Fl} (h : FI D w k F) (hw : Wb X w w') (hX : ∀ i, X i → ¬ D i) (hk : ¬ X k) : FI D w' k F := by
  obtain ⟨h0, g, h1, h2⟩ := h
  refine ⟨h0, g, h1.block (hw.block k h1.lt hk), fun s => ?_⟩
  rcases h2 s with h | ⟨v, l, a, b, c⟩
  · exact .inl h
  · exact .inr ⟨v, l, a, b, c.wb hw hX⟩
theorem FI.mono {D D' : Nat → Prop} {w : World} {k : Nat} {F : Fl} (h : FI D w k F) (hD : ∀ i, D i → D' i) : FI D' w k F := by
  obtain ⟨h0, g, h1, h2⟩ := h
  refine ⟨h0, g, h1, fun s => ?_⟩
  rcases h2 s with h | ⟨v, l, a, b, c⟩
  · exact .inl h
  · exact .inr ⟨v, l, a, b, c.monoS hD⟩
theorem FI.lt {D : Nat → Prop} {w : World} {k : Nat} {F : Fl} (h : FI D w k F) : k < w.heap.size := by obtain ⟨_, g, h, _⟩ := h; exact h.lt
theorem FI.ismap {D : Nat → Prop} {w : World} {k : Nat} {F : Fl} (h : FI D w k F) : ∃ es c, w.heap[k]? = some (.map es c) := by obtain ⟨_, g, h, _⟩ := h; exact h.is
theorem FilesIs.wb {M D X : Nat → Prop} {w w' : World} {m : Option Nat} {F : Fl} (h : FilesIs M D w m F) (hw : Wb X w w') (hX : ∀ i, X i → ¬ D i) (hM : ∀ k, m = some k → ¬ X k) : FilesIs M D w' m F := by
  rcases h with h | ⟨k, h1, h2, h3⟩
  · exact .inl h
  · exact .inr ⟨k, h1, h2, h3.wb hw hX (hM k h1)⟩
theorem FilesIs.mono {M M' D D' : Nat → Prop} {w : World} {m : Option Nat} {F : Fl} (h : FilesIs M D w m F) (hM : ∀ i, M i → M' i) (hD : ∀ i, D i → D' i) : FilesIs M' D' w m F := by
  rcases h with h | ⟨k, h1, h2, h3⟩
  · exact .inl h
  · exact .inr ⟨k, h1, hM k h2, h3.mono hD⟩
theorem FilesIs.srt {M D : Nat → Prop} {w : World} {m : Option Nat} {F : Fl} (h : FilesIs M D w m F) : Srt F := by
  rcases h with ⟨_, rfl⟩ | ⟨k, h1, h2, h3⟩
  · exact Srt.nil
  · exact h3.1
theorem DdIs.wb {D X : Nat → Prop} {w w' : World} {v : Value} {x : Dd} (h : DdIs D w v x) (hw : Wb X w w') (hX : ∀ i, X i → ¬ D i) : DdIs D w' v x := by
  cases x with
  | write n i l => obtain ⟨u, a, b, c⟩ := h; exact ⟨u, a, b.wb hw hX, c⟩
  | trim => exact h
  | ren => exact h
  | rem => exact h
theorem DdIs.mono {D D' : Nat → Prop} {w : World} {v : Value} {x : Dd} (h : DdIs D w v x) (hD : ∀ i, D i → D' i) : DdIs D' w v x := by
  cases x with
  | write n i l => obtain ⟨u, a, b, c⟩ := h; exact ⟨u, a, b.monoS hD, c⟩
  | trim => exact h
  | ren => exact h
  | rem => exact h
theorem DdIs.one {D : Nat → Prop} {w : World} {v : Value} {x : Dd} (h : DdIs D w v x) : v.oneCell' = true := by
  cases x with
  | write n i l => obtain ⟨u, rfl, b, c⟩ := h; rfl
  | trim => obtain ⟨rfl, _⟩ := h; rfl
  | ren => obtain ⟨rfl, _⟩ := h; rfl
  | rem => obtain ⟨rfl, _⟩ := h; rfl
theorem QueueIs.wb {D X : Nat → Prop} {w w' : World} {q : Value} {Q : List Dd} (h : QueueIs D w q Q) (hw : Wb X w w') (hX : ∀ i, X i → ¬ D i) : QueueIs D w' q Q := by
  obtain ⟨vs, h1, h2⟩ := h
  exact ⟨vs, h1.wb hw hX, fun i a b => (h2 i a b).wb hw hX⟩
theorem QueueIs.mono {D D' : Nat → Prop} {w : World} {q : Value} {Q : List Dd} (h : QueueIs D w q Q) (hD : ∀ i, D i → D' i) : QueueIs D' w q Q := by
  obtain ⟨vs, h1, h2⟩ := h
  exact ⟨vs, h1.monoS hD, fun i a b => (h2 i a b).mono hD⟩
theorem QueueIs.nil (D : Nat → Prop) (w : World) : QueueIs D w (.slice none 0 0) [] := ⟨[], ⟨rfl, none, 0, rfl, Nat.le_refl _, fun _ => rfl, fun j u hj => by simp at hj⟩, fun i h => by simp at h⟩
/-- what the drive's own world does not touch -/
theorem DrIs.keep {M D X : Nat → Prop} {w w' : World} {b : Nat} {d : Dm} (h : DrIs M D w b d) (hw : Wb X w w') (hX : ∀ k, X k → ¬ M k ∧ ¬ D k ∧ k ≠ b) : DrIs M D w' b d := by
  obtain ⟨⟨ms, mv, q, hb, h1, h2, h3, h4⟩, hD, hM, hl⟩ := h
  have hXD : ∀ k, X k → ¬ D k := fun k hk => (hX k hk).2.1
  have hm : ∀ {m : Option Nat} {F : Fl}, FilesIs M D w m F → ∀ k, m = some k → ¬ X k := by
    intro m F hf k hk hx
    rcases hf with ⟨rfl, _⟩ | ⟨k', rfl, hk', _⟩
    · cases hk
    · cases hk; exact (hX _ hx).1 hk'
  refine ⟨⟨ms, mv, q, ?_, h1.wb hw hXD (hm h1), h2.wb hw hXD (hm h2), h3.wb hw hXD, h4⟩, fun k hk => ⟨Nat.lt_of_lt_of_le (hD k hk).1 hw.size, (hD k hk).2⟩, fun k hk => ⟨Nat.lt_of_lt_of_le (hM k hk).1 hw.size, (hM k hk).2⟩, hl⟩
  rw [hw.block b (Array.getElem?_eq_some_iff.1 hb).1 fun e => (hX b e).2.2 rfl]; exact hb
/-- a box of seven cells -/
theorem box7 {w : World} {b : Nat} {x0 x1 x2 x3 x4 x5 x6 : Value} {e : TypeId} (h : w.heap[b]? = some (.cells #[x0, x1, x2, x3, x4, x5, x6] e (0, 0))) :
    (w.cell? ⟨b, 0, none⟩ = some x0 ∧ w.cell? ⟨b, 1, none⟩ = some x1 ∧ w.cell? ⟨b, 2, none⟩ = some x2 ∧ w.cell? ⟨b, 3, none⟩ = some x3 ∧ w.cell? ⟨b, 4, none⟩ = some x4 ∧ w.cell? ⟨b, 5, none⟩ = some x5 ∧ w.cell? ⟨b, 6, none⟩ = some x6) ∧ ∀ i, w.frozen? ⟨b, i, none⟩ = false := by
  refine ⟨⟨?_, ?_, ?_, ?_, ?_, ?_, ?_⟩, fun i => ?_⟩
  all_goals first | (simp only [World.cell?, h]; rfl) | (simp only [World.frozen?, h]; simp)
theorem box7_set {w : World} {b o : Nat} {c : Array Value} {e : TypeId} (h : w.heap[b]? = some (.cells c e (0, 0))) (u : Value) : (w.setCell ⟨b, o, none⟩ u).heap[b]? = some (.cells (c.setIfInBounds o u) e (0, 0)) := by
  rw [heap_setCell_same w b o _ e u h]
/-- drive.New -/
theorem new_any (w : World) (r : Int) : Calls Try.prog 12 #[.int .i64 r] w fun e w' => e = .returned (.pointer (some ⟨w.heap.size, 0, none⟩)) ∧ Below w.heap.size w w' ∧ DrIs (fun _ => False) (fun _ => False) w' w.heap.size ⟨[], [], [], max 0 r, false, 0, false⟩ := by
  go_enter Try.func12, Try.ntmps12
  go_wp2
  all_goals
    go_ret
    refine ⟨rfl, up_alloc _ _, ⟨⟨none, none, .slice none 0 0, ?_, .inl ⟨rfl, rfl⟩, .inl ⟨rfl, rfl⟩, QueueIs.nil _ _, fun _ h => by cases h⟩, fun _ h => h.elim, fun _ h => h.elim, fun h => by cases h⟩⟩
    rw [heap_alloc_new]
    simp
    omega
/-- what may answers, and what it makes of the drive's box -/
theorem may_any {w : World} {b : Nat} {ms mv : Option Nat} {q : Value} {d : Dm} (e : Int) (hl : d.armed = true → 0 ≤ d.left ∧ d.left ≤ 9223372036854775807)
    (h : w.heap[b]? = some (.cells #[.map ms, .map mv, q, .int .i64 d.room, .bool d.armed, .int .i64 d.left, .bool d.dead] 46 (0, 0))) :
    Calls Try.prog 52 #[.pointer (some ⟨b, 0, none⟩), .int .i64 e] w fun E w' => E = .returned (.tuple #[.bool (mayR d e).1, .bool (mayR d e).2.1, .int .i64 (mayR d e).2.2]) ∧ Wb (fun k => k = b) w w' ∧ w'.heap.size = w.heap.size ∧
      w'.heap[b]? = some (.cells #[.map ms, .map mv, q, .int .i64 (mayD d e).room, .bool (mayD d e).armed, .int .i64 (mayD d e).left, .bool (mayD d e).dead] 46 (0, 0)) := by
  obtain ⟨⟨c0, c1, c2, c3, c4, c5, c6⟩, c7⟩ := box7 h
  have H := Hid.mk' h
  clear h
  obtain ⟨sf, sn, qu, room, armed, left, dead⟩ := d
  simp only at *
  cases dead
  · by_cases he : e = 0
    · subst he
      cases armed
      · clear hl
        go_enter Try.func52, Try.ntmps52
        go_wp2
        go_ret3
        exact ⟨rfl, Wb.refl _ _, rfl, H.out⟩
      · obtain ⟨hl1, hl2⟩ := hl rfl
        by_cases h0 : left = 0
        · subst h0
          clear hl hl1 hl2
          have HS := Hid.mk' (box7_set (o := 6) H.out (.bool true))
          go_enter Try.func52, Try.ntmps52
          go_wp2
          go_ret3
          exact ⟨rfl, Wb.set _ _ _ _ rfl, size_setCell _ _ _, HS.out⟩
        · have HS := Hid.mk' (box7_set (o := 5) H.out (.int .i64 (left - 1)))
          have HN := Hid.mk' h0
          have hr : (left == 0) = false := by simpa using h0
          clear hl h0
          go_enter Try.func52, Try.ntmps52
          go_wp2
          go_ret3
          refine ⟨?_, Wb.set _ _ _ _ rfl, size_setCell _ _ _, ?_⟩
          · simp [mayR, HN.out]
          · simp [mayD, HN.out]; exact HS.out
    · have HN := Hid.mk' he
      have hr : (e == 0) = false := by simpa using he
      clear hl he
      go_enter Try.func52, Try.ntmps52
      go_wp2
      go_ret3
      refine ⟨?_, Wb.refl _ _, rfl, ?_⟩
      · simp [mayR, HN.out]
      · simp [mayD, HN.out]; exact H.out
  · clear hl
    go_enter Try.func52, Try.ntmps52
    go_wp2
    go_ret3
    exact ⟨rfl, Wb.refl _ _, rfl, H.out⟩
theorem zero22 (w : World) : (zeroValue 22).run Try.prog w = .ok (.slice none 0 0) w := by kernel_rfl
theorem MapF.look0 {P : Program} {k t e : TypeId} {w : World} {b n : Nat} {f : By → Option Value} (h : MapF P k w b f n) (hk : P.underlying k = some .string) (ht : P.underlying t = some (.map k e)) {z : Value} (hz : (zeroValue e).run P w = .ok z w)
    (s : By) (hs : s.length ≤ maxLen) : (Instr.lookup t (.map (some b)) (.string ⟨s.toArray⟩) false).run P w = .ok ((f s).getD z) w := by
  obtain ⟨D, h, hn, hT, hf⟩ := h
  obtain ⟨v, ps, hr, hv⟩ := h.lookup (Maps.string_keyed hk) ht hz (zd := .held z) (zp := []) rfl (WideMaps.keyOf_string_mk hk (s := ⟨s.toArray⟩) hs)
  rw [hr]
  have h2 := (hf s).2 z
  simp only [hR, Option.some.injEq, Prod.mk.injEq] at hv
  have h3 := hv.1
  rw [h2] at h3
  cases h3
  rfl
/-- a file looked up -/
theorem FilesIs.look {M D : Nat → Prop} {w : World} {m : Option Nat} {F : Fl} (h : FilesIs M D w m F) (s : By) (hs : s.length ≤ maxLen) :
    ∃ v, (Instr.lookup 43 (.map m) (.string ⟨s.toArray⟩) true).run Try.prog w = .ok (.tuple #[v, .bool (fget F s).isSome]) w ∧ (Instr.lookup 43 (.map m) (.string ⟨s.toArray⟩) false).run Try.prog w = .ok v w ∧ Bs D w v (foz F s) ∧ ((fget F s).isSome = false → v = .slice none 0 0) := by
  have hn : Bs D w (.slice none 0 0) [] := ⟨⟨rfl, none, 0, rfl, Nat.le_refl _, fun _ => rfl, fun j u hj => by simp [bv] at hj⟩, by unfold lim; simp⟩
  rcases h with ⟨rfl, rfl⟩ | ⟨k, rfl, h1, hS, g, h2, h3⟩
  · exact ⟨_, Maps.look_nil (w := w) true (Maps.string_keyed Try.underlying9) Try.underlying43 (zero22 w) (WideMaps.keyOf_string_mk Try.underlying9 (s := ⟨s.toArray⟩) hs), Maps.look_nil (w := w) false (Maps.string_keyed Try.underlying9) Try.underlying43 (zero22 w) (WideMaps.keyOf_string_mk Try.underlying9 (s := ⟨s.toArray⟩) hs), hn, fun _ => rfl⟩
  · have hl := h2.look Try.underlying9 Try.underlying43 (zero22 w) s hs
    have hl0 := h2.look0 Try.underlying9 Try.underlying43 (zero22 w) s hs
    rcases h3 s with ⟨a, b⟩ | ⟨v, l, a, b, c⟩
    · rw [a] at hl hl0
      unfold foz
      rw [b]
      exact ⟨_, hl, hl0, hn, fun _ => rfl⟩
    · rw [a] at hl hl0
      unfold foz
      rw [b]
      exact ⟨_, hl, hl0, c, fun h => by cases h⟩
/-- drive.there -/
theorem there_any {M D : Nat → Prop} {w : World} {b : Nat} {ms mv : Option Nat} {q : Value} {d : Dm} (n : By)
    (h : w.heap[b]? = some (.cells #[.map ms, .map mv, q, .int .i64 d.room, .bool d.armed, .int .i64 d.left, .bool d.dead] 46 (0, 0))) (hF : FilesIs M D w mv d.seen) (hn : n.length ≤ maxLen) :
    Calls Try.prog 49 #[.pointer (some ⟨b, 0, none⟩), .string ⟨n.toArray⟩] w fun e w' => e = .returned (.int .i64 (thE d n)) ∧ w = w' := by
  obtain ⟨⟨c0, c1, c2, c3, c4, c5, c6⟩, c7⟩ := box7 h
  obtain ⟨v, hl, _, _, _⟩ := hF.look n hn
  clear h hF c0 c2 c3 c4 c5 c6
  have HT : Hid (thE d n = if (fget d.seen n).isSome then 0 else 6) := rfl
  generalize thE d n = t at *
  generalize (fget d.seen n).isSome = x at *
  cases x
  · go_enter Try.func49, Try.ntmps49
    go_wp2
    go_ret
    exact ⟨by rw [HT.out]; rfl, rfl⟩
  · go_enter Try.func49, Try.ntmps49
    go_wp2
    go_ret
    exact ⟨by rw [HT.out]; rfl, rfl⟩
/-- units of the deeds -/
theorem un_write (n : By) (i : Int) (u : Value) (l : By) {D : Nat → Prop} (w : World) (hu : Bs D w u l) : Calls Try.prog 125 #[.agg #[.string ⟨n.toArray⟩, .int .i64 i, u]] w fun e w' => e = .returned (.int .i64 (l.length + 1)) ∧ Below w.heap.size w w' := by
  obtain ⟨a, c, rfl, _⟩ := hu.at
  have hl := hu.2
  unfold lim at hl
  clear hu
  go_enter Try.func125, Try.ntmps125
  go_wp2
  go_ret
  exact ⟨rfl, up_alloc _ _⟩
theorem un_trim (n : By) (i : Int) (w : World) : Calls Try.prog 127 #[.agg #[.string ⟨n.toArray⟩, .int .i64 i]] w fun e w' => e = .returned (.int .i64 1) ∧ Below w.heap.size w w' := by
  go_enter Try.func127, Try.ntmps127
  go_wp2
  go_ret
  exact ⟨rfl, up_alloc _ _⟩
theorem un_ren (n m : By) (w : World) : Calls Try.prog 129 #[.agg #[.string ⟨n.toArray⟩, .string ⟨m.toArray⟩]] w fun e w' => e = .returned (.int .i64 1) ∧ Below w.heap.size w w' := by
  go_enter Try.func129, Try.ntmps129
  go_wp2
  go_ret
  exact ⟨rfl, up_alloc _ _⟩
theorem un_rem (n : By) (w : World) : Calls Try.prog 131 #[.agg #[.string ⟨n.toArray⟩]] w fun e w' => e = .returned (.int .i64 1) ∧ Below w.heap.size w w' := by
  go_enter Try.func131, Try.ntmps131
  go_wp2
  go_ret
  exact ⟨rfl, up_alloc _ _⟩
end Go.Proofs.Ytpgpncngamagdaa
