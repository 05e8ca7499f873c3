/- Equality of transactions; maps by transactions: look, put, delete. -/
import Derived.Test.YteejlmeinndlhaaLW
set_option linter.unusedVariables false
set_option linter.unusedSimpArgs false
namespace Go.Proofs.Yteejlmeinndlhaa
open Go.RowKit Go.Maps
theorem stood30 : Try.prog.stoodInHeld 30 = false := by kernel_rfl
theorem Try.sizeOf28 (w : World) : (sizeOf 28).run Try.prog w = .ok 1 w := by kernel_rfl
theorem eq28 (d : Nat) (a b : Int) (w : World) : (Op.equalIn (d + 1) 28 (.int .u64 a) (.int .u64 b)).run Try.prog w = .ok (a == b) w := by
  simp [Op.equalIn, run_underlying Try.underlying28]
theorem eq30i (d : Nat) (a b c a' b' c' : Int) (w : World) : (Op.equalIn (d + 2) 30 (.agg #[.int .u64 a, .int .u64 b, .int .u64 c]) (.agg #[.int .u64 a', .int .u64 b', .int .u64 c'])).run Try.prog w = .ok (decide (a = a' ∧ b = b' ∧ c = c')) w := by
  have h28 := fun x y => eq28 d x y w
  unfold Op.equalIn
  simp [run_underlying Try.underlying30, stood30, part, Try.sizeOf28, h28]
  by_cases h1 : a = a' <;> by_cases h2 : b = b' <;> by_cases h3 : c = c' <;> simp [h1, h2, h3]
/-- x == y -/
theorem eq30 (x y : Tx) (w : World) : (binOp .eql 30 (tv x) (tv y)).run Try.prog w = .ok (.bool (decide (x = y))) w := by
  have e : decide (x = y) = decide (((x.1.toNat : Int) = y.1.toNat) ∧ ((x.2.1.toNat : Int) = y.2.1.toNat) ∧ ((x.2.2.toNat : Int) = y.2.2.toNat)) := by
    obtain ⟨a, b, c⟩ := x
    obtain ⟨a', b', c'⟩ := y
    rw [decide_eq_decide]
    simp only [Prod.mk.injEq, u64_ne]
    omega
  rw [e]
  simp only [binOp]
  simp only [Op.equal, Op.maxDepth, tv, tc, List.toArray]
  have := eq30i 9998 x.1.toNat x.2.1.toNat x.2.2.toNat y.1.toNat y.2.1.toNat y.2.2.toNat w
  simp only [Sem.run_bind, Sem.run_map, this, Result.andThen]
  simp
theorem zero40 (w : World) : (zeroValue 40).run Try.prog w = .ok (.slice none 0 0) w := by kernel_rfl
theorem rgs_nil {A : Nat → Prop} {w : World} : Rgs A w (.slice none 0 0) [] := ⟨[], rfl, ⟨rfl, none, 0, rfl, Nat.le_refl _, fun _ => rfl, fun j u hj => by simp [rcs] at hj⟩, fun q hq => by simp at hq, by unfold lim; simp⟩
def tgz (T : Tb) (x : Tx) : List Rg := (tget T x).getD []
theorem mlook {w : World} {b n : Nat} {g : List UInt8 → Option Value} (h : MapF Try.prog 30 w b g n) (x : Tx) : (Instr.lookup 35 (.map (some b)) (tv x) false).run Try.prog w = .ok ((g (tkb x)).getD (.slice none 0 0)) w := by
  obtain ⟨D, h, hn, hT, hf⟩ := h
  obtain ⟨v, ps, hr, hv⟩ := h.lookup K30 Try.underlying35 (zero40 w) (zd := .held (.slice none 0 0)) (zp := []) rfl (keyOf_tx x)
  rw [hr]
  have h2 := (hf (tkb x)).2 (.slice none 0 0)
  simp only [hR, Option.some.injEq, Prod.mk.injEq] at hv
  have h3 := hv.1
  rw [h2] at h3
  cases h3
  rfl
theorem mstore {w : World} {b n : Nat} {g : List UInt8 → Option Value} (h : MapF Try.prog 30 w b g n) (x : Tx) (v : Value) (hn : n < maxLen) :
    ∃ w', (Instr.mapUpdate 35 (.map (some b)) (tv x) v).run Try.prog w = .ok () w' ∧ MapF Try.prog 30 w' b (fun s => if s = tkb x then some v else g s) (if (g (tkb x)).isSome then n else n + 1) ∧ w.grownBy w' (some b) := by
  obtain ⟨D, h, hsz, hT, hf⟩ := h
  obtain ⟨w', hr, ho, hg⟩ := h.update K30 Try.underlying35 hn (keyOf_tx x) (d := .held v) (ps := []) (val := v) rfl
  have hsize : Maps.size (D.put (.string (tkb x)) (.held v)) = if (g (tkb x)).isSome then n else n + 1 := by
    rw [Maps.size_put hT, (hf (tkb x)).1, hsz]
  refine ⟨w', hr, ⟨D.put (.string (tkb x)) (.held v), ?_, hsize, hT.put (key_lit _) _, fun s => ?_⟩, hg⟩
  · obtain ⟨es, clock, hb, F, hs', hD⟩ := ho
    refine ⟨es, clock, hb, F, ?_, hD⟩
    have : Maps.size (D.put (.string (tkb x)) (.held v)) = es.size := by
      rw [hD]; exact length_read es
    rw [← hsize, this]; exact Nat.le_refl _
  · by_cases hx : s = tkb x
    · subst hx
      simp only [if_true]
      exact ⟨Maps.has_put_same hT.isMap (key_lit _) _, fun z => by rw [Maps.atKey_put_same hT.isMap (key_lit _)]; rfl⟩
    · simp only [if_neg hx]
      exact ⟨by rw [Maps.has_put_other (key_ne hx)]; exact (hf s).1, fun z => by rw [Maps.atKey_put_other (key_ne hx)]; exact (hf s).2 z⟩
theorem mdrop {w : World} {b n : Nat} {g : List UInt8 → Option Value} (h : MapF Try.prog 30 w b g n) (x : Tx) (ty : TypeId) :
    ∃ w', (Builtin.delete_ #[35, 30] ty #[.map (some b), tv x]).run Try.prog w = .ok (.tuple #[]) w' ∧ MapF Try.prog 30 w' b (fun s => if s = tkb x then none else g s) (if (g (tkb x)).isSome then n - 1 else n) ∧ w.grownBy w' (some b) := by
  obtain ⟨D, h, hsz, hT, hf⟩ := h
  obtain ⟨w', hr, ho, hg⟩ := h.drop K30 Try.underlying35 (keyOf_tx x) ty
  have hsize : Maps.size (D.del (.string (tkb x))) = if (g (tkb x)).isSome then n - 1 else n := by
    have := Maps.size_del (k := .string (tkb x)) hT
    rw [(hf (tkb x)).1, hsz] at this
    split <;> simp_all <;> omega
  refine ⟨w', hr, ⟨D.del (.string (tkb x)), ?_, hsize, hT.del _, fun s => ?_⟩, hg.grown⟩
  · obtain ⟨es, clock, hb, F, hs', hD⟩ := ho
    refine ⟨es, clock, hb, F, ?_, hD⟩
    have : Maps.size (D.del (.string (tkb x))) = es.size := by
      rw [hD]; exact length_read es
    rw [← hsize, this]; exact Nat.le_refl _
  · by_cases hx : s = tkb x
    · subst hx
      simp only [if_true]
      exact ⟨Maps.has_del_same, fun z => by rw [Maps.atKey_del_same]; rfl⟩
    · simp only [if_neg hx]
      exact ⟨by rw [Maps.has_del_other (key_ne hx)]; exact (hf s).1, fun z => by rw [Maps.atKey_del_other (key_ne hx)]; exact (hf s).2 z⟩
theorem TI.val {D : Nat → Prop} {w : World} {k : Nat} {T : Tb} (h : TI D w k T) (x : Tx) : ∃ v, (∀ w' : World, w'.heap[k]? = w.heap[k]? → (Instr.lookup 35 (.map (some k)) (tv x) false).run Try.prog w' = .ok v w') ∧ Rgs D w v (tgz T x) := by
  obtain ⟨h0, g, h1, h2⟩ := h
  refine ⟨(g (tkb x)).getD (.slice none 0 0), fun w' hw => mlook (h1.block hw) x, ?_⟩
  rcases h2 x with ⟨a, b⟩ | ⟨v, l, a, b, c⟩
  · unfold tgz; rw [a, b]; exact rgs_nil
  · unfold tgz; rw [a, b]; exact c
theorem mi_look {M D : Nat → Prop} {w : World} {m : Option Nat} {T : Tb} (h : (m = none ∧ T = []) ∨ ∃ k, m = some k ∧ M k ∧ TI D w k T) (x : Tx) :
    ∃ v, (∀ w' : World, (∀ i, i < w.heap.size → w'.heap[i]? = w.heap[i]?) → (Instr.lookup 35 (.map m) (tv x) false).run Try.prog w' = .ok v w') ∧ Rgs D w v (tgz T x) := by
  rcases h with ⟨rfl, rfl⟩ | ⟨k, rfl, hk, ht⟩
  · exact ⟨.slice none 0 0, fun w' _ => Maps.look_nil (w := w') false K30 Try.underlying35 (zero40 w') (keyOf_tx x), rgs_nil⟩
  · obtain ⟨v, h1, h2⟩ := ht.val x
    exact ⟨v, fun w' hw => h1 w' (hw k ht.lt), h2⟩
theorem TI.put {D : Nat → Prop} {w : World} {k : Nat} {T : Tb} (h : TI D w k T) (x : Tx) {v : Value} {l : List Rg} (hv : Rgs D w v l) (hk : ¬ D k) (hn : T.length < 1000000) :
    ∃ w', (Instr.mapUpdate 35 (.map (some k)) (tv x) v).run Try.prog w = .ok () w' ∧ TI D w' k (tput T x l) ∧ w.grownBy w' (some k) := by
  obtain ⟨h0, g, h1, h2⟩ := h
  obtain ⟨w', hr, hm, hg⟩ := mstore h1 x v (by unfold maxLen; omega)
  have hs : (g (tkb x)).isSome = (tget T x).isSome := by rcases h2 x with ⟨a, b⟩ | ⟨v, l, a, b, _⟩ <;> rw [a, b] <;> rfl
  have hwb := Wb.of_grown hg
  refine ⟨w', hr, ⟨h0.put x l, fun s => if s = tkb x then some v else g s, ?_, fun y => ?_⟩, hg⟩
  · rw [len_tput T h0, ← hs]; exact hm
  · by_cases hy : y = x
    · subst hy
      refine .inr ⟨v, l, by simp, by rw [tget_put h0, if_pos rfl], hv.wb hwb fun i hi => by cases hi; exact hk⟩
    · have hne : tkb y ≠ tkb x := fun e => hy (tkb_inj e)
      simp only [if_neg hne]
      rw [tget_put h0, if_neg hy]
      rcases h2 y with h | ⟨v, l, a, b, c⟩
      · exact .inl h
      · exact .inr ⟨v, l, a, b, c.wb hwb fun i hi => by cases hi; exact hk⟩
theorem TI.del {D : Nat → Prop} {w : World} {k : Nat} {T : Tb} (h : TI D w k T) (x : Tx) (hk : ¬ D k) (ty : TypeId) :
    ∃ w', (Builtin.delete_ #[35, 30] ty #[.map (some k), tv x]).run Try.prog w = .ok (.tuple #[]) w' ∧ TI D w' k (tdel T x) ∧ w.grownBy w' (some k) := by
  obtain ⟨h0, g, h1, h2⟩ := h
  obtain ⟨w', hr, hm, hg⟩ := mdrop h1 x ty
  have hs : (g (tkb x)).isSome = (tget T x).isSome := by rcases h2 x with ⟨a, b⟩ | ⟨v, l, a, b, _⟩ <;> rw [a, b] <;> rfl
  have hwb := Wb.of_grown hg
  refine ⟨w', hr, ⟨h0.del x, fun s => if s = tkb x then none else g s, ?_, fun y => ?_⟩, hg⟩
  · rw [len_tdel, ← hs]; exact hm
  · by_cases hy : y = x
    · subst hy
      exact .inl ⟨by simp, by rw [tget_del h0, if_pos rfl]⟩
    · have hne : tkb y ≠ tkb x := fun e => hy (tkb_inj e)
      simp only [if_neg hne]
      rw [tget_del h0, if_neg hy]
      rcases h2 y with h | ⟨v, l, a, b, c⟩
      · exact .inl h
      · exact .inr ⟨v, l, a, b, c.wb hwb fun i hi => by cases hi; exact hk⟩
end Go.Proofs.Yteejlmeinndlhaa
