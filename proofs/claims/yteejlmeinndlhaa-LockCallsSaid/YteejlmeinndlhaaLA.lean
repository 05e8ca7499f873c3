/- Ranges of keys: bytes.Compare, check, formed, before, Clash, Covers. -/
import Derived.Test.YteejlmeinndlhaaRF
import Derived.Lib.BytesEntry
set_option linter.unusedVariables false
set_option linter.unusedSimpArgs false
namespace Go.Proofs.Yteejlmeinndlhaa
open Go.RowKit
attribute [local go_sem ↓] Go.wp_at_zero Go.wp_at_succ
abbrev By := List UInt8
theorem u8_lt (a b : UInt8) : a < b ↔ (a.toNat : Int) < b.toNat := by rw [UInt8.lt_iff_toNat_lt]; omega
theorem cmp_bytes : ∀ a b : By, Lib.compareBytes a b = cmp a b
  | [], [] => rfl
  | [], _ :: _ => rfl
  | _ :: _, [] => rfl
  | x :: a, y :: b => by
    rw [Lib.compareBytes, cmp, cmp_bytes a b]
    simp only [UInt8.lt_iff_toNat_lt]
theorem loaded {w : World} {p : Addr} {l : By} (h : ∀ j (hj : j < l.length), w.cell? (p.add j) = some (.int .u8 (l[j].toNat : Int))) : (Extern.Bytes.loadBytes p l.length .empty).run Try.prog w = .ok ⟨l.toArray⟩ w := by
  have h1 := Lib.run_loadBytesX (P := Try.prog) w (l.map fun x => (x.toNat : Int)) p .empty (fun j x hj => by
    rw [List.getElem?_map] at hj
    obtain ⟨y, hy, rfl⟩ := Option.map_eq_some_iff.1 hj
    obtain ⟨hj', rfl⟩ := List.getElem?_eq_some_iff.1 hy
    exact h j hj')
  rw [List.length_map] at h1
  rw [h1]
  congr 1
  apply ByteArray.ext
  show (#[] : Array UInt8) ++ (Lib.bytesOf (l.map fun x => (x.toNat : Int))).toArray = l.toArray
  simp [Lib.bytesOf]
  exact (List.map_congr_left (fun x _ => by simp)).trans (List.map_id' l)
theorem run_bytes_of {A : Nat → Prop} {w : World} {v : Value} {l : By} (h : Bs A w v l) : (Extern.Bytes.bytesOf v).run Try.prog w = .ok ⟨l.toArray⟩ w := by
  obtain ⟨a, c, rfl, hc, hn, H⟩ := h.at
  cases a with
  | none =>
    have : l = [] := by cases l with | nil => rfl | cons x r => obtain ⟨b, o, h, _⟩ := H 0 (by simp); cases h
    subst this
    rfl
  | some p =>
    refine loaded fun j hj => ?_
    obtain ⟨b, o, hp, _, hu⟩ := H j hj
    simp only [Option.some.injEq] at hp
    subst hp
    rw [addr_add]
    exact hu
theorem run_compare {A A' : Nat → Prop} {w : World} {v u : Value} {l m : By} (h : Bs A w v l) (h' : Bs A' w u m) : (Extern.BytealgCompare.compare #[v, u]).run Try.prog w = .ok (.int .i64 (cmp l m)) w := by
  change Sem.run Try.prog (do pure (goInt (Extern.BytealgCompare.cmp (← Extern.Bytes.bytesOf v) (← Extern.Bytes.bytesOf u)))) w = _
  simp only [Sem.run_bind, Sem.run_pure, run_bytes_of h, run_bytes_of h', Result.andThen]
  rw [Lib.cmp_eq]
  rw [← cmp_bytes]
  rfl
/-- bytes.Compare -/
theorem bcompare_any {A A' : Nat → Prop} {w : World} {v u : Value} {l m : By} (h : Bs A w v l) (h' : Bs A' w u m) : Calls Try.prog 55 #[v, u] w fun e w' => e = .returned (.int .i64 (cmp l m)) ∧ w = w' := by
  have hr := run_compare h h'
  obtain ⟨a, c, rfl, _⟩ := h.at
  obtain ⟨a', c', rfl, _⟩ := h'.at
  generalize cmp l m = z at *
  clear h h'
  go_enter Try.func55, Try.ntmps55
  go_wp2_with fail
  rw [run_callFunc_extern Try.func65 (by kernel_rfl) (by kernel_rfl) (by kernel_rfl) (e := Extern.BytealgCompare.compare) (by kernel_rfl), hr]
  simp only [Result.andThen]
  rw [Oper.upon_value]
  go_wp2_with fail
  go_ret
  exact ⟨rfl, rfl⟩
/-- pack.Compare -/
theorem pcompare_any {A A' : Nat → Prop} {w : World} {v u : Value} {l m : By} (h : Bs A w v l) (h' : Bs A' w u m) : Calls Try.prog 38 #[v, u] w fun e w' => e = .returned (.int .i64 (cmp l m)) ∧ w = w' := by
  have HC := Hid.mk' (bcompare_any h h')
  obtain ⟨a, c, rfl, _⟩ := h.at
  obtain ⟨a', c', rfl, _⟩ := h'.at
  generalize cmp l m = z at *
  clear h h'
  go_enter Try.func38, Try.ntmps38
  go_wp2_with fail
  refine HC.out.mono ?_
  rintro e w1 ⟨rfl, rfl⟩
  go_wp2_with fail
  go_ret
  exact ⟨rfl, rfl⟩
structure Rg where
  lo : By
  hi : By
  xc : Bool
def RgIs (A : Nat → Prop) (w : World) (v : Value) (r : Rg) : Prop := ∃ f t, v = .agg #[f, t, .bool r.xc] ∧ Bs A w f r.lo ∧ Bs A w t r.hi
theorem RgIs.up {A : Nat → Prop} {w w' : World} {v : Value} {r : Rg} (h : RgIs A w v r) (hb : Below w.heap.size w w') : RgIs A w' v r := by
  obtain ⟨f, t, e, h1, h2⟩ := h
  exact ⟨f, t, e, h1.up hb, h2.up hb⟩
theorem RgIs.keepS {A : Nat → Prop} {w w' : World} {v : Value} {r : Rg} (h : RgIs A w v r) (hb : Same A w w') : RgIs A w' v r := by
  obtain ⟨f, t, e, h1, h2⟩ := h
  exact ⟨f, t, e, h1.keepS hb, h2.keepS hb⟩
theorem RgIs.monoS {A A' : Nat → Prop} {w : World} {v : Value} {r : Rg} (h : RgIs A w v r) (hA : ∀ k, A k → A' k) : RgIs A' w v r := by
  obtain ⟨f, t, e, h1, h2⟩ := h
  exact ⟨f, t, e, h1.monoS hA, h2.monoS hA⟩
theorem RgIs.form {A : Nat → Prop} {w : World} {v : Value} {r : Rg} (h : RgIs A w v r) : ∃ fa fc ta tc, v = .agg #[.slice fa r.lo.length fc, .slice ta r.hi.length tc, .bool r.xc] ∧ Bs A w (.slice fa r.lo.length fc) r.lo ∧ Bs A w (.slice ta r.hi.length tc) r.hi := by
  obtain ⟨f, t, e, h1, h2⟩ := h
  obtain ⟨fa, fc, rfl, _⟩ := h1.at
  obtain ⟨ta, tc, rfl, _⟩ := h2.at
  exact ⟨fa, fc, ta, tc, e, h1, h2⟩
def ckR (r : Rg) : Int := if 65 < r.lo.length ∨ 65 < r.hi.length then 2 else if 0 < r.hi.length ∧ 0 ≤ cmp r.lo r.hi then 3 else 0
set_option maxRecDepth 100000 in
set_option maxHeartbeats 1000000 in
/-- lock.check -/
theorem check_any {A : Nat → Prop} {w : World} {v : Value} {r : Rg} (h : RgIs A w v r) : Calls Try.prog 54 #[v] w fun e w' => e = .returned (.int .i64 (ckR r)) ∧ Below w.heap.size w w' := by
  obtain ⟨fa, fc, ta, tc, rfl, hf, ht⟩ := h.form
  have hl1 : (r.lo.length : Int) ≤ 140737488351232 := by have := hf.2; unfold lim at this; omega
  have hl2 : (r.hi.length : Int) ≤ 140737488351232 := by have := ht.2; unfold lim at this; omega
  have HR : Hid (ckR r = if 65 < r.lo.length ∨ 65 < r.hi.length then 2 else if 0 < r.hi.length ∧ 0 ≤ cmp r.lo r.hi then 3 else 0) := rfl
  have HC := Hid.mk' (pcompare_any (hf.up (up_alloc w (.cells #[.slice fa r.lo.length fc, .slice ta r.hi.length tc, .bool r.xc] 24))) (ht.up (up_alloc w (.cells #[.slice fa r.lo.length fc, .slice ta r.hi.length tc, .bool r.xc] 24))))
  obtain ⟨l, m, ex⟩ := r
  simp only at *
  generalize ckR ⟨l, m, ex⟩ = R at *
  generalize cmp l m = z at *
  clear hf ht h
  by_cases h1 : 65 < l.length
  · have h1' : (65 : Int) < (l.length : Int) := by omega
    have HR2 : Hid (R = 2) := by show _ = _; rw [HR.out, if_pos (.inl h1)]
    clear HR
    go_enter Try.func54, Try.ntmps54
    go_wp2_with fail
    go_ret
    exact ⟨by rw [HR2.out] <;> rfl, up_alloc _ _⟩
  have h1' : ¬ (65 : Int) < (l.length : Int) := by omega
  by_cases h2 : 65 < m.length
  · have h2' : (65 : Int) < (m.length : Int) := by omega
    have HR2 : Hid (R = 2) := by show _ = _; rw [HR.out, if_pos (.inr h2)]
    clear HR
    go_enter Try.func54, Try.ntmps54
    go_wp2_with fail
    go_ret
    exact ⟨by rw [HR2.out] <;> rfl, up_alloc _ _⟩
  have h2' : ¬ (65 : Int) < (m.length : Int) := by omega
  have HR1 : Hid (R = if 0 < m.length ∧ 0 ≤ z then 3 else 0) := by show _ = _; rw [HR.out, if_neg (by omega)]
  clear HR
  by_cases h3 : 0 < m.length
  · have h3' : (0 : Int) < (m.length : Int) := by omega
    go_enter Try.func54, Try.ntmps54
    go_wp2_with fail
    refine HC.out.mono ?_
    rintro e w1 ⟨rfl, rfl⟩
    by_cases h4 : 0 ≤ z
    · have HR2 : Hid (R = 3) := by show _ = _; rw [HR1.out, if_pos ⟨h3, h4⟩]
      clear HR1
      go_wp2_with fail
      go_ret
      exact ⟨by rw [HR2.out] <;> rfl, up_alloc _ _⟩
    · have HR2 : Hid (R = 0) := by show _ = _; rw [HR1.out, if_neg (fun h => h4 h.2)]
      clear HR1
      go_wp2_with fail
      go_ret
      exact ⟨by rw [HR2.out] <;> rfl, up_alloc _ _⟩
  · have h3' : ¬ (0 : Int) < (m.length : Int) := by omega
    have HR2 : Hid (R = 0) := by show _ = _; rw [HR1.out, if_neg (fun h => h3 h.1)]
    clear HR1
    go_enter Try.func54, Try.ntmps54
    go_wp2_with fail
    go_ret
    exact ⟨by rw [HR2.out] <;> rfl, up_alloc _ _⟩
end Go.Proofs.Yteejlmeinndlhaa
