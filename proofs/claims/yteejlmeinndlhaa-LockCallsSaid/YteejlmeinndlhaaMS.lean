/- Two tables of one call's own. -/
import Derived.Test.YteejlmeinndlhaaOW
import Derived.Test.YteejlmeinndlhaaMR
set_option linter.unusedVariables false
set_option linter.unusedSimpArgs false
namespace Go.Proofs.Yteejlmeinndlhaa
open Go.RowKit Go.Maps
/-- two tables at b and c: what was before W stays, but those two -/
def Tw2 (W wz : World) (b c : Nat) (S T : Tb) : Prop := ∃ M D M' D' : Nat → Prop, ((∀ k, M k → W.heap.size ≤ k) ∧ (∀ k, D k → W.heap.size ≤ k) ∧ (∀ k, M' k → W.heap.size ≤ k) ∧ (∀ k, D' k → W.heap.size ≤ k)) ∧ (∀ k, M k → ¬ M' k ∧ ¬ D' k) ∧ (∀ k, M' k → ¬ D k) ∧
  TbIs M D wz b S ∧ TbIs M' D' wz c T ∧ Wb (fun k => k = b ∨ k = c) W wz ∧ b < W.heap.size ∧ c < W.heap.size ∧ b ≠ c
theorem Tw2.up {W wz w' : World} {b c : Nat} {S T : Tb} (h : Tw2 W wz b c S T) (hb : Below wz.heap.size wz w') : Tw2 W w' b c S T := by
  obtain ⟨M, D, M', D', h1, h2, h3, h4, h5, h6, h7⟩ := h
  exact ⟨M, D, M', D', h1, h2, h3, h4.below hb, h5.below hb, h6.trans (Wb.of_below _ hb), h7⟩
theorem Tw2.swap {W wz : World} {b c : Nat} {S T : Tb} (h : Tw2 W wz b c S T) : Tw2 W wz c b T S := by
  obtain ⟨M, D, M', D', ⟨a1, a2, a3, a4⟩, h2, h3, h4, h5, h6, h7, h8, h9⟩ := h
  exact ⟨M', D', M, D, ⟨a3, a4, a1, a2⟩, fun k hk => ⟨fun h => (h2 k h).1 hk, h3 k hk⟩, fun k hk => (h2 k hk).2, h5, h4, h6.mono fun k hk => hk.symm, h8, h7, fun e => h9 e.symm⟩
theorem Tw2.wb {W wz : World} {b c : Nat} {S T : Tb} (h : Tw2 W wz b c S T) : Wb (fun k => k = b ∨ k = c) W wz := by obtain ⟨M, D, M', D', _, _, _, _, _, h, _⟩ := h; exact h
theorem Tw2.kp {W wz : World} {b c : Nat} {S T : Tb} (h : Tw2 W wz b c S T) : ∃ q : Kp (fun k => k = b ∨ k = c) W, wz = q.nx := kp_mk h.wb.size fun k hk hx => h.wb.block k hk hx
/-- what lies before the tables reads on -/
theorem Tw2.rgs {A : Nat → Prop} {W wz : World} {b c : Nat} {S T : Tb} {v : Value} {l : List Rg} (h : Tw2 W wz b c S T) (hv : Rgs A W v l) (hA : ∀ k, A k → k ≠ b ∧ k ≠ c) : Rgs A wz v l := by
  obtain ⟨L, h1, h2, h3, h4⟩ := hv
  have hX : ∀ k, (k = b ∨ k = c) → ¬ A k := fun k hk hA' => by
    have := hA k hA'
    rcases hk with e | e
    · exact this.1 e
    · exact this.2 e
  exact ⟨L, h1, h2.wb h.wb hX, fun q hq => ⟨(h3 q hq).1.wb h.wb hX, (h3 q hq).2.wb h.wb hX⟩, h4⟩
theorem Tw2.ask {A : Nat → Prop} {W wz : World} {b c : Nat} {S T : Tb} {x : Tx} {v : Value} {l : List Rg} (h : Tw2 W wz b c S T) (hv : Rgs A wz v l) (hn : S.length < 1000000) (hm : (tgz S x).length ≤ 1000000) :
    Calls Try.prog 21 #[.pointer (some ⟨b, 0, none⟩), tv x, v] wz fun e w' => e = .returned (.int .i64 (askT S x l).1) ∧ Tw2 W w' b c (askT S x l).2 T := by
  obtain ⟨M, D, M', D', ⟨a1, a2, a3, a4⟩, h2, h3, h4, h5, h6, h7, h8, h9⟩ := h
  refine (ask_any h4 hv hn hm).mono ?_
  rintro e w' ⟨rfl, hw, M2, D2, hM2, hD2, ht⟩
  have hs := h6.size
  refine ⟨rfl, M2, D2, M', D', ⟨fun k hk => ?_, fun k hk => ?_, a3, a4⟩, fun k hk => ?_, fun k hk hd => ?_, ht, h5.keep hw fun k hk => ?_, h6.trans2 hw fun i hi h => ?_, h7, h8, h9⟩
  · rcases hM2 k hk with h | h
    · exact a1 k h
    · omega
  · rcases hD2 k hk with h | h
    · exact a2 k h
    · omega
  · rcases hM2 k hk with h | h
    · exact h2 k h
    · exact ⟨fun h' => by have := (h5.hM k h').1; omega, fun h' => by have := (h5.hD k h').1; omega⟩
  · rcases hD2 k hd with h | h
    · exact h3 k hk h
    · have := (h5.hM k hk).1; omega
  · rcases hk with rfl | hk
    · exact ⟨fun h => by have := a3 _ h; omega, fun h => by have := a4 _ h; omega, h9⟩
    · have h10 := h2 k hk
      exact ⟨h10.1, h10.2, by have := a1 k hk; omega⟩
  · rcases h with h | h
    · exact .inl h
    · have := a1 i h; omega
theorem Tw2.ask' {A : Nat → Prop} {W wz : World} {b c : Nat} {S T : Tb} {x : Tx} {v : Value} {l : List Rg} (h : Tw2 W wz b c S T) (hv : Rgs A wz v l) (hn : T.length < 1000000) (hm : (tgz T x).length ≤ 1000000) :
    Calls Try.prog 21 #[.pointer (some ⟨c, 0, none⟩), tv x, v] wz fun e w' => e = .returned (.int .i64 (askT T x l).1) ∧ Tw2 W w' b c S (askT T x l).2 :=
  (h.swap.ask hv hn hm).mono fun e w' ⟨h1, h2⟩ => ⟨h1, h2.swap⟩
theorem Tw2.rel {A : Nat → Prop} {W wz wy : World} {b c : Nat} {S T : Tb} {v : Value} {l : List Tx} (h : Tw2 W wz b c S T) (hb : Below wz.heap.size wz wy) (hv : Txr A wy v l) (hA : ∀ k, A k → wz.heap.size ≤ k) (hn : S.length ≤ 1000000) :
    Calls Try.prog 24 #[.pointer (some ⟨b, 0, none⟩), v] wy fun e w' => e = .returned (.int .i64 ((S.length : Int) - ((relT S l).length : Int))) ∧ Tw2 W w' b c (relT S l) T := by
  obtain ⟨M, D, M', D', ⟨a1, a2, a3, a4⟩, h2, h3, h4, h5, h6, h7, h8, h9⟩ := h
  refine (release_any (h4.below hb) hv (fun k hk hM => ?_) hn).mono ?_
  · have := hA k hk
    have := (h4.hM k hM).1
    omega
  rintro e w' ⟨rfl, hw, ht⟩
  refine ⟨rfl, M, D, M', D', ⟨a1, a2, a3, a4⟩, h2, h3, ht, (h5.below hb).keep hw fun k hk => ?_, (h6.trans (Wb.of_below _ hb)).trans2 hw fun i hi h => by have := a1 i h; omega, h7, h8, h9⟩
  have h10 := h2 k hk
  exact ⟨h10.1, h10.2, by have := a1 k hk; omega⟩
theorem Tw2.riv {A : Nat → Prop} {W wz : World} {b c : Nat} {S T : Tb} {x : Tx} {v : Value} {l : List Rg} (h : Tw2 W wz b c S T) (hv : Rgs A wz v l) (hn : S.length ≤ 1000000) :
    Calls Try.prog 18 #[.pointer (some ⟨b, 0, none⟩), tv x, v] wz fun e w' => ∃ v', e = .returned v' ∧ Ot wz.heap.size w' v' (rivT S x l) ∧ Below wz.heap.size wz w' := by
  obtain ⟨M, D, M', D', _, _, _, h4, _⟩ := h
  exact rivals_any h4 hv hn
theorem Tw2.held {W wz : World} {b c : Nat} {S T : Tb} {x : Tx} (h : Tw2 W wz b c S T) (hm : (tgz S x).length ≤ 1000000) : Calls Try.prog 27 #[.pointer (some ⟨b, 0, none⟩), tv x] wz (HeP wz (tgz S x)) := by
  obtain ⟨M, D, M', D', _, _, _, h4, _⟩ := h
  exact held_any h4 hm
/-- two new tables -/
theorem tw2_new (w : World) : Tw2 ((w.alloc (.cells #[.map none] 37)).alloc (.cells #[.map none] 37)) ((w.alloc (.cells #[.map none] 37)).alloc (.cells #[.map none] 37)) w.heap.size (w.heap.size + 1) [] [] := by
  have h1 := heap_alloc_new w (.cells #[.map none] 37)
  have h2 := heap_alloc_new (w.alloc (.cells #[.map none] 37)) (.cells #[.map none] 37)
  have h3 := (up_alloc (w.alloc (.cells #[.map none] 37)) (.cells #[.map none] 37)).block w.heap.size (by simp)
  rw [World.size_alloc] at h2
  have hs : ((w.alloc (.cells #[.map none] 37)).alloc (.cells #[.map none] 37)).heap.size = w.heap.size + 1 + 1 := by simp
  exact ⟨fun _ => False, fun _ => False, fun _ => False, fun _ => False, ⟨fun _ h => h.elim, fun _ h => h.elim, fun _ h => h.elim, fun _ h => h.elim⟩, fun _ h => h.elim, fun _ h => h.elim, ⟨⟨none, h3.trans h1, .inl ⟨rfl, rfl⟩⟩, fun _ h => h.elim, fun _ h => h.elim⟩, ⟨⟨none, h2, .inl ⟨rfl, rfl⟩⟩, fun _ h => h.elim, fun _ h => h.elim⟩, Wb.refl _ _, by omega, by omega, by omega⟩
end Go.Proofs.Yteejlmeinndlhaa
