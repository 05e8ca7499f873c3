/-
  Maps with string keys, read as a function from keys to values. No program is named here.
-/
import Derived.Test.YtfmbbpfklhkljaaKit
import Derived.Maps.OwnSet
import Derived.Maps.Views
set_option linter.unusedVariables false
set_option linter.unusedSimpArgs false
namespace Go.Proofs.Ytfmbbpfklhkljaa
open Go.RowKit
open Go.Maps (Keyed)

/-- a value reads as itself -/
def hR (v : Value) : Option (DataW Value × List MemPlace) := some (.held v, [])

/-- Block b is a map of n entries; at key s it holds f s. -/
def MapF (P : Program) (k : TypeId) (w : World) (b : Nat) (f : List UInt8 → Option Value) (n : Nat) : Prop :=
  ∃ D : DataW Value, w.ownsMap P k hR b n D ∧ Maps.size D = n ∧ Maps.Tidy D ∧ ∀ s, Maps.has D (.string s) = (f s).isSome ∧ ∀ z, D.atKey (.string s) (.held z) = .held ((f s).getD z)

theorem key_ne {s t : List UInt8} (h : s ≠ t) : (Lit.string s) ≠ .string t := fun e => h (by cases e; rfl)
theorem key_lit (s : List UInt8) : WideAt.IsKeyLit (.string s) := by simp [WideAt.IsKeyLit]

theorem MapF.made (P : Program) (k : TypeId) (w : World) : MapF P k (w.alloc (.map #[] 0)) w.heap.size (fun _ => none) 0 :=
  ⟨.map [], World.ownsMap_made w P k hR, rfl, Maps.tidy_empty, fun s => ⟨rfl, fun z => rfl⟩⟩
theorem MapF.block {P : Program} {k : TypeId} {w w' : World} {b n : Nat} {f : List UInt8 → Option Value} (h : MapF P k w b f n) (e : w'.heap[b]? = w.heap[b]?) : MapF P k w' b f n := by
  obtain ⟨D, ⟨es, clock, hb, r⟩, r2⟩ := h
  exact ⟨D, ⟨es, clock, e.trans hb, r⟩, r2⟩
theorem MapF.is {P : Program} {k : TypeId} {w : World} {b n : Nat} {f : List UInt8 → Option Value} (h : MapF P k w b f n) : ∃ es clock, w.heap[b]? = some (.map es clock) := by
  obtain ⟨D, ⟨es, clock, hb, r⟩, r2⟩ := h
  exact ⟨es, clock, hb⟩
theorem MapF.lt {P : Program} {k : TypeId} {w : World} {b n : Nat} {f : List UInt8 → Option Value} (h : MapF P k w b f n) : b < w.heap.size := by
  obtain ⟨D, h, _⟩ := h; exact h.lt

/-- 'v, ok := m[s]' -/
theorem MapF.look {P : Program} {k t e : TypeId} {w : World} {b n : Nat} {f : List UInt8 → Option Value} (h : MapF P k w b f n) (hk : P.underlying k = some .string) (ht : P.underlying t = some (.map k e)) {z : Value} (hz : (zeroValue e).run P w = .ok z w)
    (s : List UInt8) (hs : s.length ≤ maxLen) : (Instr.lookup t (.map (some b)) (.string ⟨s.toArray⟩) true).run P w = .ok (.tuple #[(f s).getD z, .bool (f s).isSome]) w := by
  obtain ⟨D, h, hn, hT, hf⟩ := h
  obtain ⟨v, ps, hr, hv⟩ := h.look_ok (Maps.string_keyed hk) ht hz (zd := .held z) (zp := []) rfl (WideMaps.keyOf_string_mk hk (s := ⟨s.toArray⟩) hs)
  rw [hr]
  have h1 := (hf s).1
  have h2 := (hf s).2 z
  simp only [hR, Option.some.injEq, Prod.mk.injEq] at hv
  have h3 := hv.1
  rw [h2] at h3
  cases h3
  rw [h1]

/-- 'm[s] = v' -/
theorem MapF.store {P : Program} {k t e : TypeId} {w : World} {b n : Nat} {f : List UInt8 → Option Value} (h : MapF P k w b f n) (hk : P.underlying k = some .string) (ht : P.underlying t = some (.map k e))
    (s : List UInt8) (hs : s.length ≤ maxLen) (v : Value) (hn : n < maxLen) :
    ∃ w', (Instr.mapUpdate t (.map (some b)) (.string ⟨s.toArray⟩) v).run P w = .ok () w' ∧ MapF P k w' b (fun x => if x = s then some v else f x) (if (f s).isSome then n else n + 1) ∧ w.grownBy w' (some b) := by
  obtain ⟨D, h, hsz, hT, hf⟩ := h
  obtain ⟨w', hr, ho, hg⟩ := h.update (Maps.string_keyed hk) ht hn (WideMaps.keyOf_string_mk hk (s := ⟨s.toArray⟩) hs) (d := .held v) (ps := []) (val := v) rfl
  have hsize : Maps.size (D.put (.string s) (.held v)) = if (f s).isSome then n else n + 1 := by
    rw [Maps.size_put hT, (hf s).1, hsz]
  refine ⟨w', hr, ⟨D.put (.string s) (.held v), ?_, hsize, hT.put (key_lit s) _, fun x => ?_⟩, hg⟩
  · obtain ⟨es, clock, hb, F, hs', hD⟩ := ho
    refine ⟨es, clock, hb, F, ?_, hD⟩
    have : Maps.size (D.put (.string s) (.held v)) = es.size := by
      show Maps.size (D.put (.string (⟨s.toArray⟩ : ByteArray).data.toList) (.held v)) = _
      rw [hD]; exact length_read es
    rw [← hsize, this]; exact Nat.le_refl _
  · by_cases hx : x = s
    · subst hx
      simp only [if_true]
      exact ⟨Maps.has_put_same hT.isMap (key_lit x) _, fun z => by rw [Maps.atKey_put_same hT.isMap (key_lit x)]; rfl⟩
    · simp only [if_neg hx]
      exact ⟨by rw [Maps.has_put_other (key_ne hx)]; exact (hf x).1, fun z => by rw [Maps.atKey_put_other (key_ne hx)]; exact (hf x).2 z⟩

/-- 'delete(m, s)' -/
theorem MapF.drop {P : Program} {k t e : TypeId} {w : World} {b n : Nat} {f : List UInt8 → Option Value} (h : MapF P k w b f n) (hk : P.underlying k = some .string) (ht : P.underlying t = some (.map k e))
    (s : List UInt8) (hs : s.length ≤ maxLen) (ty : TypeId) :
    ∃ w', (Builtin.delete_ #[t, k] ty #[.map (some b), .string ⟨s.toArray⟩]).run P w = .ok (.tuple #[]) w' ∧ MapF P k w' b (fun x => if x = s then none else f x) (if (f s).isSome then n - 1 else n) ∧ w.grownBy w' (some b) := by
  obtain ⟨D, h, hsz, hT, hf⟩ := h
  obtain ⟨w', hr, ho, hg⟩ := h.drop (Maps.string_keyed hk) ht (WideMaps.keyOf_string_mk hk (s := ⟨s.toArray⟩) hs) ty
  have hsize : Maps.size (D.del (.string s)) = if (f s).isSome then n - 1 else n := by
    have := Maps.size_del (k := .string s) hT
    rw [(hf s).1, hsz] at this
    split <;> simp_all <;> omega
  refine ⟨w', hr, ⟨D.del (.string s), ?_, hsize, hT.del _, fun x => ?_⟩, hg.grown⟩
  · obtain ⟨es, clock, hb, F, hs', hD⟩ := ho
    refine ⟨es, clock, hb, F, ?_, hD⟩
    have : Maps.size (D.del (.string s)) = es.size := by
      show Maps.size (D.del (.string (⟨s.toArray⟩ : ByteArray).data.toList)) = _
      rw [hD]; exact length_read es
    rw [← hsize, this]; exact Nat.le_refl _
  · by_cases hx : x = s
    · subst hx
      simp only [if_true]
      exact ⟨Maps.has_del_same, fun z => by rw [Maps.atKey_del_same]; rfl⟩
    · simp only [if_neg hx]
      exact ⟨by rw [Maps.has_del_other (key_ne hx)]; exact (hf x).1, fun z => by rw [Maps.atKey_del_other (key_ne hx)]; exact (hf x).2 z⟩

/-- 'len(m)' -/
theorem MapF.len {P : Program} {k t e : TypeId} {w : World} {b n : Nat} {f : List UInt8 → Option Value} (h : MapF P k w b f n) (ht : P.underlying t = some (.map k e)) (ty : TypeId) : (Builtin.len_ #[t] ty #[.map (some b)]).run P w = .ok (.int .i64 n) w := by
  obtain ⟨D, h, hsz, _⟩ := h
  rw [← hsz]; exact h.len ht ty
end Go.Proofs.Ytfmbbpfklhkljaa
