/- What trim and rename do to files. -/
import Derived.Test.YtpgpncngamagdaaDO
import Derived.BigRegion
set_option linter.unusedVariables false
set_option linter.unusedSimpArgs false
namespace Go.Proofs.Ytpgpncngamagdaa
open Go.RowKit
attribute [local go_sem ↓] Go.wp_at_zero Go.wp_at_succ
theorem Row.capped {A : Nat → Prop} {w : World} {a : Option Addr} {n c h : Nat} {vs : List Value} (hr : Row 1 A w (.slice a n c) n vs) (hh : h ≤ n) : Row 1 A w (.slice a h h) h (vs.take h) := by
  obtain ⟨hl, a', c', hv, hc, ha, H⟩ := hr.cutTo hh
  cases hv
  refine ⟨hl, _, _, rfl, Nat.le_refl _, fun e => ?_, H⟩
  have := ha e; omega
theorem row_hm {P : Program} {t : TypeId} {A : Nat → Prop} {w : World} {a : Option Addr} {n c : Nat} {vs : List Value} (ht : P.underlying t = some (.slice (P.elem t))) (hz : ∀ w, (sizeOf (P.elem t)).run P w = .ok 1 w) (hr : Row 1 A w (.slice a n c) n vs) (h : Nat) (hh : h ≤ n) :
    ∃ a', (∀ w, (Instr.slice t (.slice a n c) none (some (.int .i64 (h : Int))) (some (.int .i64 (h : Int)))).run P w = .ok (.slice a' h h) w) ∧ Row 1 A w (.slice a' h h) h (vs.take h) := by
  have hc : n ≤ c := by obtain ⟨_, _, _, hv, hc, _⟩ := hr; cases hv; exact hc
  obtain ⟨a', c', h1, h2⟩ := (hr.capped hh).sliced (l := 0) (h := h) (Nat.zero_le _) (Nat.le_refl _)
  have e : c' = h := by
    simp only [Go.sliced, Value.slice.injEq] at h1
    omega
  subst e
  simp only [Nat.sub_zero, List.take_take, Nat.min_self, List.drop_zero] at h2
  refine ⟨a', fun w => ?_, h2⟩
  rw [run_slice_hm w t a n c ht .i64 .i64 (c' : Int) (c' : Int) (by omega) (by omega) (by omega), hz]
  simp only [Result.andThen, Int.toNat_natCast, h1, Nat.sub_zero]
theorem hm_of {D : Nat → Prop} {w0 : World} {u : Value} {l : By} (hu : Bs D w0 u l) (p : Nat) (hp : p ≤ l.length) : ∃ a, (∀ w, (Instr.slice 22 u none (some (.int .i64 (p : Int))) (some (.int .i64 (p : Int)))).run Try.prog w = .ok (.slice a p p) w) ∧ Bs D w0 (.slice a p p) (l.take p) := by
  obtain ⟨a, c, rfl, hc, ha, _⟩ := hu.at
  obtain ⟨a', h1, h2⟩ := row_hm un22 sz22 hu.1 p hp
  refine ⟨a', h1, ?_, ?_⟩
  · have e : (l.take p).length = p := by rw [List.length_take]; omega
    rw [e]
    have e2 : bv (l.take p) = (bv l).take p := by simp [bv, List.map_take]
    rw [e2]; exact h2
  · have := hu.2; rw [List.length_take]; omega
set_option maxRecDepth 100000 in
set_option maxHeartbeats 1000000 in
/-- rename -/
theorem do_ren {D : Nat → Prop} {w : World} {k : Nat} {F : Fl} (n m : By) (y : Int) (hF : FI D w k F) (hn : n.length ≤ maxLen) (hm : m.length ≤ maxLen) (hk : ¬ D k) (hl : F.length < maxLen) :
    Calls Try.prog 128 #[.agg #[.string ⟨n.toArray⟩, .string ⟨m.toArray⟩], .map (some k), .int .i64 y] w (DoPost D w k (fput (fdel F n) m (foz F n))) := by
  obtain ⟨w0, hw0⟩ : ∃ w0, w0 = w.alloc (.cells #[.string ⟨n.toArray⟩, .string ⟨m.toArray⟩] 121) := ⟨_, rfl⟩
  have hb0 : Below w.heap.size w w0 := by rw [hw0]; exact up_alloc _ _
  have hk0 := hF.lt
  have hX : ∀ i, (fun _ : Nat => False) i → ¬ D i := fun i hi => hi.elim
  have h0 : FI D w0 k F := hF.wb (Wb.of_below (fun _ => False) hb0) hX id
  obtain ⟨v, hlk, hv⟩ := h0.looks n hn
  obtain ⟨w1, hd1, hF1, hW1⟩ := h0.dropped n 0 hn hk
  have hv1 : Bs D w1 v (foz F n) := hv.wb hW1 fun i hi => by subst hi; exact hk
  have hlen : (fdel F n).length < maxLen := by rw [len_del]; split <;> omega
  obtain ⟨w2, hs2, hF2, hW2⟩ := hF1.stored (w := w) (w2 := w) m (foz F n) v hm hlen hv1 hk
  have hlt : w.heap.size < w0.heap.size := by rw [hw0]; simp
  have hc0 : w1.cell? ⟨w.heap.size, 1, none⟩ = some (.string ⟨m.toArray⟩) := by
    rw [World.cell?_of_block (w := w0) (a := ⟨w.heap.size, 1, none⟩) (hW1.block _ hlt (by intro e; simp at e; omega)), hw0]; simp
  have HQ : Hid (DoPost D w k (fput (fdel F n) m (foz F n)) (.returned (.tuple #[])) w2) :=
    ⟨rfl, ((Wb.of_below _ hb0).trans hW1).trans hW2, D, fun _ h => h, fun _ h => .inl h, hF2⟩
  subst hw0
  clear hF hb0 hk0 hX h0 hv hF1 hW1 hv1 hlen hF2 hW2 hlt hn hm hk hl
  go_enter Try.func128, Try.ntmps128
  go_wp2
  go_end0
  exact HQ.out
theorem FI.lookK {D : Nat → Prop} {w : World} {k : Nat} {F : Fl} (h : FI D w k F) (s : By) (hs : s.length ≤ maxLen) :
    ∃ v, (∀ w' : World, (∀ b, b < w.heap.size → w'.heap[b]? = w.heap[b]?) → (Instr.lookup 43 (.map (some k)) (.string ⟨s.toArray⟩) false).run Try.prog w' = .ok v w') ∧ Bs D w v (foz F s) := by
  obtain ⟨hS, g, h2, h3⟩ := h
  have hn : Bs D w (.slice none 0 0) [] := ⟨⟨rfl, none, 0, rfl, Nat.le_refl _, fun _ => rfl, fun j u hj => by simp [bv] at hj⟩, by unfold lim; simp⟩
  refine ⟨(g s).getD (.slice none 0 0), fun w' hw => (h2.block (hw k h2.lt)).look0 Try.underlying9 Try.underlying43 (zero22 w') s hs, ?_⟩
  unfold foz
  rcases h3 s with ⟨a, b⟩ | ⟨v, l, a, b, c⟩
  · rw [a, b]; exact hn
  · rw [a, b]; exact c
set_option maxRecDepth 100000 in
set_option maxHeartbeats 1000000 in
/-- trim -/
theorem do_trim {D : Nat → Prop} {w : World} {k : Nat} {F : Fl} (n : By) (p : Nat) (y : Int) (hF : FI D w k F) (hn : n.length ≤ maxLen) (hk : ¬ D k) (hl : F.length < maxLen) (hp : p ≤ (foz F n).length) :
    Calls Try.prog 126 #[.agg #[.string ⟨n.toArray⟩, .int .i64 (p : Int)], .map (some k), .int .i64 y] w (DoPost D w k (fput F n ((foz F n).take p))) := by
  obtain ⟨W, hW⟩ : ∃ W, W = w.alloc (.cells #[.string ⟨n.toArray⟩, .int .i64 (p : Int)] 119) := ⟨_, rfl⟩
  have hb0 : Below w.heap.size w W := by rw [hW]; exact up_alloc _ _
  have hX : ∀ i, (fun _ : Nat => False) i → ¬ D i := fun i hi => hi.elim
  have h0 : FI D W k F := hF.wb (Wb.of_below (fun _ => False) hb0) hX id
  obtain ⟨v, hlk, hv⟩ := h0.lookK n hn
  have hc0 : W.cell? ⟨w.heap.size, 0, none⟩ = some (.string ⟨n.toArray⟩) := by rw [hW]; simp
  have hc1 : W.cell? ⟨w.heap.size, 1, none⟩ = some (.int .i64 (p : Int)) := by rw [hW]; simp
  have rr0 : ∀ q : Kp (fun _ => False) W, q.nx.cell? ⟨w.heap.size, 0, none⟩ = some (.string ⟨n.toArray⟩) := fun q => q.cell hc0 id
  have rr1 : ∀ q : Kp (fun _ => False) W, q.nx.cell? ⟨w.heap.size, 1, none⟩ = some (.int .i64 (p : Int)) := fun q => q.cell hc1 id
  have rl : ∀ q : Kp (fun _ => False) W, (Instr.lookup 43 (.map (some k)) (.string ⟨n.toArray⟩) false).run Try.prog q.nx = .ok v q.nx := fun q => hlk _ fun b hb => q.ok b hb id
  obtain ⟨a', hsl, hsv⟩ := hm_of hv p hp
  have hl1 : ((foz F n).take p).length = p := by rw [List.length_take]; omega
  have h0d : FI D W.drew k F := h0.wb (Wb.of_below (fun _ => False) (drew_blx W _)) hX id
  obtain ⟨w3, hst, hF3, hW3⟩ := h0d.stored (w := w) (w2 := w) n ((foz F n).take p) _ hn hl (hsv.wb (Wb.of_below (fun _ => False) (drew_blx W _)) hX) hk
  have HQ : Hid (DoPost D w k (fput F n ((foz F n).take p)) (.returned (.tuple #[])) w3) :=
    ⟨rfl, (Wb.of_below _ (hb0.trans (drew_blx W _))).trans hW3, D, fun _ h => h, fun _ h => .inl h, hF3⟩
  clear hF hb0 hX h0 hn hk hl hp hc0 hc1 hlk hv hsv hl1 h0d hF3 hW3
  go_enter Try.func126, Try.ntmps126
  go_wp2
  rw [← hW]
  clear hW
  refine wp_region_mix 12 (fun w' => ∃ q : Kp (fun _ => False) W, w' = q.nx) (by kernel_rfl) (by kernel_rfl) (kp_first _ W) ?_
  simp only [List.take_succ_cons, List.take_zero, List.drop_succ_cons, List.drop_zero]
  refine mx_take 12 rfl ?_
  simp only [List.take_succ_cons, List.take_zero, List.drop_succ_cons, List.drop_zero]
  repeat (go_big_quiet_step (fail))
  refine wpQuiet_nil ?_
  simp only [wpMix]
  clear rr0 rr1 rl
  go_wp2
  go_end0
  exact HQ.out
end Go.Proofs.Ytpgpncngamagdaa
