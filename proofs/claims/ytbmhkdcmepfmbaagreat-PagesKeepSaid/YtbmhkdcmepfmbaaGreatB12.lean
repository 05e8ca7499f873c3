/- Maps whose keys are ints; lists of pairs by rising numbers. The library's maps.Keys and slices.Sorted at ints: laid by the shelf. -/
import Derived.Test.YtbmhkdcmepfmbaaGreatB11
import Derived.Shelf.SlGeneric
import Derived.Shelf.SlIterI.Nil
import Derived.Shelf.SortM.Plain
import Derived.Shelf.SortM.SortNone
import Derived.Ground.GgzProg
import Derived.Ground.SlgmProg
set_option linter.unusedVariables false
set_option linter.unusedSimpArgs false
namespace Go.Proofs.YtbmhkdcmepfmbaaGreat
open Go.RowKit
open Go.Maps (Keyed)
def MapI (P : Program) (k : TypeId) (w : World) (b : Nat) (f : Int → Option Value) (n : Nat) : Prop :=
  ∃ D : DataW Value, w.ownsMap P k hR b n D ∧ Maps.size D = n ∧ Maps.Tidy D ∧ ∀ s, Maps.has D (.int .i64 s) = (f s).isSome ∧ ∀ z, D.atKey (.int .i64 s) (.held z) = .held ((f s).getD z)

theorem ikey_ne {s t : Int} (h : s ≠ t) : (Lit.int .i64 s) ≠ .int .i64 t := fun e => h (by cases e; rfl)
theorem ikey_lit (s : Int) : WideAt.IsKeyLit (.int .i64 s) := by simp [WideAt.IsKeyLit]
def Wi (s : Int) : Prop := (Lit.int .i64 s).wf = true
theorem Wi.of {s : Int} (h1 : -9223372036854775808 ≤ s) (h2 : s ≤ 9223372036854775807) : Wi s := by
  have e1 : IntKind.i64.min = -9223372036854775808 := rfl
  have e2 : IntKind.i64.max = 9223372036854775807 := rfl
  simp only [Wi, Lit.wf, Bool.and_eq_true, decide_eq_true_eq, e1, e2]
  omega
theorem MapI.made (P : Program) (k : TypeId) (w : World) : MapI P k (w.alloc (.map #[] 0)) w.heap.size (fun _ => none) 0 :=
  ⟨.map [], World.ownsMap_made w P k hR, rfl, Maps.tidy_empty, fun s => ⟨rfl, fun z => rfl⟩⟩
theorem MapI.block {P : Program} {k : TypeId} {w w' : World} {b n : Nat} {f : Int → Option Value} (h : MapI P k w b f n) (e : w'.heap[b]? = w.heap[b]?) : MapI P k w' b f n := by
  obtain ⟨D, ⟨es, clock, hb, r⟩, r2⟩ := h
  exact ⟨D, ⟨es, clock, e.trans hb, r⟩, r2⟩
theorem MapI.is {P : Program} {k : TypeId} {w : World} {b n : Nat} {f : Int → Option Value} (h : MapI P k w b f n) : ∃ es clock, w.heap[b]? = some (.map es clock) := by
  obtain ⟨D, ⟨es, clock, hb, r⟩, r2⟩ := h
  exact ⟨es, clock, hb⟩
theorem MapI.lt {P : Program} {k : TypeId} {w : World} {b n : Nat} {f : Int → Option Value} (h : MapI P k w b f n) : b < w.heap.size := by
  obtain ⟨D, h, _⟩ := h; exact h.lt

/-- 'v, ok := m[s]' -/
theorem MapI.look {P : Program} {k t e : TypeId} {w : World} {b n : Nat} {f : Int → Option Value} (h : MapI P k w b f n) (hk : P.underlying k = some (.int .i64)) (ht : P.underlying t = some (.map k e)) {z : Value} (hz : (zeroValue e).run P w = .ok z w)
    (s : Int) (hs : Wi s) : (Instr.lookup t (.map (some b)) (.int .i64 s) true).run P w = .ok (.tuple #[(f s).getD z, .bool (f s).isSome]) w := by
  obtain ⟨D, h, hn, hT, hf⟩ := h
  obtain ⟨v, ps, hr, hv⟩ := h.look_ok (Maps.int_keyed hk) ht hz (zd := .held z) (zp := []) rfl (Maps.keyOf_int_mk hk hs)
  rw [hr]
  have h1 := (hf s).1
  have h2 := (hf s).2 z
  simp only [hR, Option.some.injEq, Prod.mk.injEq] at hv
  have h3 := hv.1
  rw [h2] at h3
  cases h3
  rw [h1]

/-- 'm[s] = v' -/
theorem MapI.store {P : Program} {k t e : TypeId} {w : World} {b n : Nat} {f : Int → Option Value} (h : MapI P k w b f n) (hk : P.underlying k = some (.int .i64)) (ht : P.underlying t = some (.map k e))
    (s : Int) (hs : Wi s) (v : Value) (hn : n < maxLen) :
    ∃ w', (Instr.mapUpdate t (.map (some b)) (.int .i64 s) v).run P w = .ok () w' ∧ MapI P k w' b (fun x => if x = s then some v else f x) (if (f s).isSome then n else n + 1) ∧ w.grownBy w' (some b) := by
  obtain ⟨D, h, hsz, hT, hf⟩ := h
  obtain ⟨w', hr, ho, hg⟩ := h.update (Maps.int_keyed hk) ht hn (Maps.keyOf_int_mk hk hs) (d := .held v) (ps := []) (val := v) rfl
  have hsize : Maps.size (D.put (.int .i64 s) (.held v)) = if (f s).isSome then n else n + 1 := by
    rw [Maps.size_put hT, (hf s).1, hsz]
  refine ⟨w', hr, ⟨D.put (.int .i64 s) (.held v), ?_, hsize, hT.put (ikey_lit s) _, fun x => ?_⟩, hg⟩
  · obtain ⟨es, clock, hb, F, hs', hD⟩ := ho
    refine ⟨es, clock, hb, F, ?_, hD⟩
    have : Maps.size (D.put (.int .i64 s) (.held v)) = es.size := by
      rw [hD]; exact length_read es
    rw [← hsize, this]; exact Nat.le_refl _
  · by_cases hx : x = s
    · subst hx
      simp only [if_true]
      exact ⟨Maps.has_put_same hT.isMap (ikey_lit x) _, fun z => by rw [Maps.atKey_put_same hT.isMap (ikey_lit x)]; rfl⟩
    · simp only [if_neg hx]
      exact ⟨by rw [Maps.has_put_other (ikey_ne hx)]; exact (hf x).1, fun z => by rw [Maps.atKey_put_other (ikey_ne hx)]; exact (hf x).2 z⟩

/-- 'delete(m, s)' -/
theorem MapI.drop {P : Program} {k t e : TypeId} {w : World} {b n : Nat} {f : Int → Option Value} (h : MapI P k w b f n) (hk : P.underlying k = some (.int .i64)) (ht : P.underlying t = some (.map k e))
    (s : Int) (hs : Wi s) (ty : TypeId) :
    ∃ w', (Builtin.delete_ #[t, k] ty #[.map (some b), .int .i64 s]).run P w = .ok (.tuple #[]) w' ∧ MapI P k w' b (fun x => if x = s then none else f x) (if (f s).isSome then n - 1 else n) ∧ w.grownBy w' (some b) := by
  obtain ⟨D, h, hsz, hT, hf⟩ := h
  obtain ⟨w', hr, ho, hg⟩ := h.drop (Maps.int_keyed hk) ht (Maps.keyOf_int_mk hk hs) ty
  have hsize : Maps.size (D.del (.int .i64 s)) = if (f s).isSome then n - 1 else n := by
    have := Maps.size_del (k := .int .i64 s) hT
    rw [(hf s).1, hsz] at this
    split <;> simp_all <;> omega
  refine ⟨w', hr, ⟨D.del (.int .i64 s), ?_, hsize, hT.del _, fun x => ?_⟩, hg.grown⟩
  · obtain ⟨es, clock, hb, F, hs', hD⟩ := ho
    refine ⟨es, clock, hb, F, ?_, hD⟩
    have : Maps.size (D.del (.int .i64 s)) = es.size := by
      rw [hD]; exact length_read es
    rw [← hsize, this]; exact Nat.le_refl _
  · by_cases hx : x = s
    · subst hx
      simp only [if_true]
      exact ⟨Maps.has_del_same, fun z => by rw [Maps.atKey_del_same]; rfl⟩
    · simp only [if_neg hx]
      exact ⟨by rw [Maps.has_del_other (ikey_ne hx)]; exact (hf x).1, fun z => by rw [Maps.atKey_del_other (ikey_ne hx)]; exact (hf x).2 z⟩

/-- 'len(m)' -/
theorem MapI.len {P : Program} {k t e : TypeId} {w : World} {b n : Nat} {f : Int → Option Value} (h : MapI P k w b f n) (ht : P.underlying t = some (.map k e)) (ty : TypeId) : (Builtin.len_ #[t] ty #[.map (some b)]).run P w = .ok (.int .i64 n) w := by
  obtain ⟨D, h, hsz, _⟩ := h
  rw [← hsz]; exact h.len ht ty
section
variable {α : Type}
abbrev Al (α : Type) := List (Int × α)
def aget : Al α → Int → Option α
  | [], _ => none
  | (x, y) :: r, s => if s = x then some y else aget r s
def aput : Al α → Int → α → Al α
  | [], s, l => [(s, l)]
  | (x, y) :: r, s, l => if s = x then (s, l) :: r else if s < x then (s, l) :: (x, y) :: r else (x, y) :: aput r s l
def adel : Al α → Int → Al α
  | [], _ => []
  | (x, y) :: r, s => if s = x then r else (x, y) :: adel r s
def ASrt (F : Al α) : Prop := F.Pairwise (fun a b => a.1 < b.1)
theorem int_tri {a b : Int} (h : a ≠ b) (k : ¬ a < b) : b < a := by omega
theorem ASrt.nil : ASrt ([] : Al α) := List.Pairwise.nil
theorem ASrt.tail {a : Int × α} {r : Al α} (h : ASrt (a :: r)) : ASrt r := (List.pairwise_cons.1 h).2
theorem aget_lt {x : Int} {r : Al α} (h : ∀ a ∈ r, x < a.1) : aget r x = none := by
  induction r with
  | nil => rfl
  | cons a r ih =>
    obtain ⟨n, l⟩ := a
    have h1 := h (n, l) (List.mem_cons_self ..)
    rw [aget, if_neg (fun e => by subst e; exact Int.lt_irrefl _ h1)]
    exact ih fun a ha => h a (List.mem_cons_of_mem _ ha)
theorem aget_ltn {x s : Int} {r : Al α} (h : ∀ a ∈ r, x < a.1) (k : s < x) : aget r s = none := aget_lt fun a ha => Int.lt_trans k (h a ha)
theorem aget_put {F : Al α} (hF : ASrt F) (s : Int) (l : α) (x : Int) : aget (aput F s l) x = if x = s then some l else aget F x := by
  induction F with
  | nil => simp [aput, aget]
  | cons a r ih =>
    obtain ⟨n, m⟩ := a
    have h2 := (List.pairwise_cons.1 hF).1
    rw [aput]
    split
    · rename_i e; subst e
      simp only [aget]
      split <;> rfl
    · split
      · rename_i e e'
        rfl
      · rename_i e e'
        simp only [aget]
        split
        · rename_i e2; subst e2
          rw [if_neg (fun e3 => e e3.symm)]
        · exact ih hF.tail
theorem mem_aput {F : Al α} {s : Int} {l : α} {a : Int × α} (h : a ∈ aput F s l) : a = (s, l) ∨ a ∈ F := by
  induction F with
  | nil => simp [aput] at h; exact .inl h
  | cons b r ih =>
    obtain ⟨n, m⟩ := b
    rw [aput] at h
    split at h
    · rcases List.mem_cons.1 h with h | h
      · exact .inl h
      · exact .inr (List.mem_cons_of_mem _ h)
    · split at h
      · rcases List.mem_cons.1 h with h | h
        · exact .inl h
        · exact .inr h
      · rcases List.mem_cons.1 h with h | h
        · exact .inr (h ▸ List.mem_cons_self ..)
        · rcases ih h with h | h
          · exact .inl h
          · exact .inr (List.mem_cons_of_mem _ h)
theorem ASrt.put {F : Al α} (hF : ASrt F) (s : Int) (l : α) : ASrt (aput F s l) := by
  induction F with
  | nil => exact List.pairwise_singleton _ _
  | cons a r ih =>
    obtain ⟨n, m⟩ := a
    have h2 := (List.pairwise_cons.1 hF).1
    rw [aput]
    split
    · rename_i e; subst e
      exact List.pairwise_cons.2 ⟨h2, hF.tail⟩
    · split
      · rename_i e e'
        refine List.pairwise_cons.2 ⟨fun a ha => ?_, hF⟩
        rcases List.mem_cons.1 ha with rfl | ha
        · exact e'
        · exact Int.lt_trans e' (h2 a ha)
      · rename_i e e'
        refine List.pairwise_cons.2 ⟨fun a ha => ?_, ih hF.tail⟩
        rcases mem_aput ha with rfl | ha
        · exact int_tri e e'
        · exact h2 a ha
theorem len_aput (F : Al α) (hF : ASrt F) (s : Int) (l : α) : (aput F s l).length = if (aget F s).isSome then F.length else F.length + 1 := by
  induction F with
  | nil => rfl
  | cons a r ih =>
    obtain ⟨n, m⟩ := a
    have h2 := (List.pairwise_cons.1 hF).1
    rw [aput, aget]
    split
    · rename_i e; subst e; simp
    · split
      · rename_i e e'
        rw [aget_ltn h2 e']; rfl
      · rw [List.length_cons, ih hF.tail]; split <;> simp_all

theorem mem_adel {F : Al α} {s : Int} {a : Int × α} (h : a ∈ adel F s) : a ∈ F := by
  induction F with
  | nil => exact h
  | cons b r ih =>
    obtain ⟨n, m⟩ := b
    rw [adel] at h
    split at h
    · exact List.mem_cons_of_mem _ h
    · rcases List.mem_cons.1 h with h | h
      · exact h ▸ List.mem_cons_self ..
      · exact List.mem_cons_of_mem _ (ih h)
theorem ASrt.del {F : Al α} (hF : ASrt F) (s : Int) : ASrt (adel F s) := by
  induction F with
  | nil => exact hF
  | cons a r ih =>
    obtain ⟨n, m⟩ := a
    have h2 := (List.pairwise_cons.1 hF).1
    rw [adel]
    split
    · exact hF.tail
    · exact List.pairwise_cons.2 ⟨fun a ha => h2 a (mem_adel ha), ih hF.tail⟩
theorem aget_del {F : Al α} (hF : ASrt F) (s x : Int) : aget (adel F s) x = if x = s then none else aget F x := by
  induction F with
  | nil => simp [adel, aget]
  | cons a r ih =>
    obtain ⟨n, m⟩ := a
    have h2 := (List.pairwise_cons.1 hF).1
    rw [adel]
    split
    · rename_i e; subst e
      split
      · rename_i e2; subst e2; exact aget_lt h2
      · rename_i e2; rw [aget, if_neg e2]
    · rename_i e
      simp only [aget]
      split
      · rename_i e2; subst e2
        rw [if_neg (fun e3 => e e3.symm)]
      · exact ih hF.tail
theorem len_adel (F : Al α) (s : Int) : (adel F s).length = if (aget F s).isSome then F.length - 1 else F.length := by
  induction F with
  | nil => rfl
  | cons a r ih =>
    obtain ⟨n, m⟩ := a
    rw [adel, aget]
    split
    · simp
    · rw [List.length_cons, ih]
      split
      · rename_i h
        cases r with
        | nil => simp [aget] at h
        | cons b r => simp
      · simp

theorem aget_mem {F : Al α} {s : Int} {l : α} (h : aget F s = some l) : (s, l) ∈ F := by
  induction F with
  | nil => cases h
  | cons a r ih =>
    obtain ⟨n, m⟩ := a
    rw [aget] at h
    split at h
    · rename_i e; subst e; cases h; exact List.mem_cons_self ..
    · exact List.mem_cons_of_mem _ (ih h)
theorem aget_of_mem {F : Al α} (hF : ASrt F) {s : Int} {l : α} (h : (s, l) ∈ F) : aget F s = some l := by
  induction F with
  | nil => cases h
  | cons a r ih =>
    obtain ⟨n, m⟩ := a
    have h2 := (List.pairwise_cons.1 hF).1
    rw [aget]
    rcases List.mem_cons.1 h with h | h
    · cases h; rw [if_pos rfl]
    · have h3 := h2 _ h
      rw [if_neg (fun e => by subst e; exact Int.lt_irrefl _ h3)]; exact ih hF.tail h
end
theorem MapI.look1 {P : Program} {k t e : TypeId} {w : World} {b n : Nat} {f : Int → Option Value} (h : MapI P k w b f n) (hk : P.underlying k = some (.int .i64)) (ht : P.underlying t = some (.map k e)) {z : Value} (hz : (zeroValue e).run P w = .ok z w)
    (s : Int) (hs : Wi s) : (Instr.lookup t (.map (some b)) (.int .i64 s) false).run P w = .ok ((f s).getD z) w := by
  obtain ⟨D, h, hn, hT, hf⟩ := h
  obtain ⟨v, ps, hr, hv⟩ := h.lookup (Maps.int_keyed hk) ht hz (zd := .held z) (zp := []) rfl (Maps.keyOf_int_mk hk hs)
  rw [hr]
  have h2 := (hf s).2 z
  simp only [hR, Option.some.injEq, Prod.mk.injEq] at hv
  have h3 := hv.1
  rw [h2] at h3
  cases h3
  rfl
/-- the keys of a map, sorted, are those of the list -/
theorem ikeys_of {α : Type} {w : World} {M n : Nat} {g : Int → Option Value} {F : Al α} (hm : MapI Tryz.prog 3 w M g n) (hF : ASrt F) (he : ∀ s, (g s).isSome = (aget F s).isSome) : ∃ D : DataW Value, w.ownsMap Tryz.prog 3 hR M n D ∧ Maps.size D = n ∧ ∀ ss : List Int, ss.Perm (intKeys D) → ss.mergeSort leI = F.map (·.1) := by
  obtain ⟨D, h, hs, hT, hf⟩ := hm
  refine ⟨D, h, hs, fun ss hp => ?_⟩
  obtain ⟨es, hD, hpw⟩ := hT
  obtain ⟨es', hD', hko⟩ := h.keysOf
  obtain rfl : es = es' := by rw [hD] at hD'; simpa using hD'
  have hk : ∀ p ∈ es, ∃ x, p.1 = .int .i64 x := fun p hp => by obtain ⟨v, hv⟩ := hko p hp; obtain ⟨x, _, hx, _⟩ := Maps.keyOf_i64 Tryz.underlying3 hv; exact ⟨x, hx⟩
  have hnd2 : (F.map (·.1)).Nodup := List.pairwise_map.2 (hF.imp fun {a b} h e => by rw [e] at h; exact Int.lt_irrefl _ h)
  have hp2 : (F.map (·.1)).Perm (intKeys D) := by
    subst hD
    refine perm_intKeys hpw hk hnd2 fun x => ?_
    rw [(hf x).1, he x]
    constructor
    · intro hx
      obtain ⟨t, ht, rfl⟩ := List.mem_map.1 hx
      rw [aget_of_mem hF (s := t.1) (l := t.2) ht]; rfl
    · intro hx
      obtain ⟨l, hl⟩ := Option.isSome_iff_exists.1 hx
      exact List.mem_map.2 ⟨_, aget_mem hl, rfl⟩
  rw [mergeSort_of_perm_i (hp.trans hp2.symm)]
  refine List.mergeSort_of_pairwise (List.pairwise_map.2 (hF.imp fun {a b} h => ?_))
  simp only [leI, decide_eq_true_eq]
  omega
end Go.Proofs.YtbmhkdcmepfmbaaGreat
set_option linter.unusedVariables false
set_option linter.unusedSimpArgs false
namespace Go.Proofs.YtbmhkdcmepfmbaaGreat
open Go.RowKit Go.Maps Go.Sort Go.Shelf
def Tryz.keys37_ren : Go.Shelf.Ren := ⟨fun | 7 => 37 | 10 => 64 | n => n, fun | 23 => 63 | 26 => 3 | 3 => 87 | 28 => 85 | 0 => 0 | 27 => 84 | 33 => 79 | 4 => 4 | n => n, fun | n => n⟩
theorem Tryz.keys37 : Go.Proofs.SlLaysZI.n7 Tryz.prog Tryz.keys37_ren := {
  mixed := by kernel_rfl
  f7 := ⟨Tryz.f37.name, by decide, Tryz.func37.trans (congrArg some (by kernel_rfl))⟩
  f10 := ⟨Tryz.f64.name, by decide, Tryz.func64.trans (congrArg some (by kernel_rfl))⟩
  t0 := Tryz.underlying0
  a0 := Tryz.isAgg0
  z0 := Tryz.sizeOf0
  v0 := Tryz.zeroValue0
  t4 := Tryz.underlying4
  a4 := Tryz.isAgg4
  z4 := Tryz.sizeOf4
  v4 := Tryz.zeroValue4
  t23 := Tryz.underlying63
  a23 := Tryz.isAgg63
  z23 := Tryz.sizeOf63
  v23 := Tryz.zeroValue63
  t26 := Tryz.underlying3
  a26 := Tryz.isAgg3
  z26 := Tryz.sizeOf3
  v26 := Tryz.zeroValue3
  t27 := Tryz.underlying84
  a27 := Tryz.isAgg84
  z27 := Tryz.sizeOf84
  v27 := Tryz.zeroValue84
  t28 := Tryz.underlying85
  a28 := Tryz.isAgg85
  z28 := Tryz.sizeOf85
  v28 := Tryz.zeroValue85
  t33 := Tryz.underlying79
  a33 := Tryz.isAgg79
  z33 := Tryz.sizeOf79
  v33 := Tryz.zeroValue79 }
def Tryz.keys78_ren : Go.Shelf.Ren := ⟨fun | 7 => 78 | 10 => 101 | n => n, fun | 23 => 62 | 26 => 3 | 3 => 3 | 28 => 85 | 0 => 0 | 27 => 84 | 33 => 79 | 4 => 4 | n => n, fun | n => n⟩
theorem Tryz.keys78 : Go.Proofs.SlLaysZI.n7 Tryz.prog Tryz.keys78_ren := {
  mixed := by kernel_rfl
  f7 := ⟨Tryz.f78.name, by decide, Tryz.func78.trans (congrArg some (by kernel_rfl))⟩
  f10 := ⟨Tryz.f101.name, by decide, Tryz.func101.trans (congrArg some (by kernel_rfl))⟩
  t0 := Tryz.underlying0
  a0 := Tryz.isAgg0
  z0 := Tryz.sizeOf0
  v0 := Tryz.zeroValue0
  t4 := Tryz.underlying4
  a4 := Tryz.isAgg4
  z4 := Tryz.sizeOf4
  v4 := Tryz.zeroValue4
  t23 := Tryz.underlying62
  a23 := Tryz.isAgg62
  z23 := Tryz.sizeOf62
  v23 := Tryz.zeroValue62
  t26 := Tryz.underlying3
  a26 := Tryz.isAgg3
  z26 := Tryz.sizeOf3
  v26 := Tryz.zeroValue3
  t27 := Tryz.underlying84
  a27 := Tryz.isAgg84
  z27 := Tryz.sizeOf84
  v27 := Tryz.zeroValue84
  t28 := Tryz.underlying85
  a28 := Tryz.isAgg85
  z28 := Tryz.sizeOf85
  v28 := Tryz.zeroValue85
  t33 := Tryz.underlying79
  a33 := Tryz.isAgg79
  z33 := Tryz.sizeOf79
  v33 := Tryz.zeroValue79 }
def Tryz.sorted36_ren : Go.Shelf.Ren := ⟨fun | 6 => 36 | 8 => 62 | 9 => 63 | 11 => 86 | 13 => 88 | 12 => 87 | 23 => 116 | 24 => 117 | 14 => 107 | 15 => 108 | 16 => 109 | 17 => 110 | 18 => 111 | 19 => 112 | 20 => 113 | 21 => 114 | 22 => 115 | 25 => 127 | 26 => 128 | 27 => 129 | 28 => 130 | 29 => 131 | 30 => 132 | 31 => 139 | n => n, fun | 26 => 3 | 28 => 85 | 24 => 82 | 0 => 0 | 3 => 3 | 37 => 145 | 48 => 189 | 50 => 117 | 4 => 4 | 40 => 182 | 39 => 181 | 45 => 120 | 5 => 5 | 9 => 9 | 51 => 197 | 55 => 200 | 57 => 209 | 58 => 210 | 33 => 79 | n => n, fun | n => n⟩
theorem Tryz.sorted36 : Go.Proofs.SlLaysZI.n6 Tryz.prog Tryz.sorted36_ren := {
  mixed := by kernel_rfl
  f6 := ⟨Tryz.f36.name, by decide, Tryz.func36.trans (congrArg some (by kernel_rfl))⟩
  f8 := ⟨Tryz.f62.name, by decide, Tryz.func62.trans (congrArg some (by kernel_rfl))⟩
  f11 := ⟨Tryz.f86.name, by decide, Tryz.func86.trans (congrArg some (by kernel_rfl))⟩
  t0 := Tryz.underlying0
  a0 := Tryz.isAgg0
  z0 := Tryz.sizeOf0
  v0 := Tryz.zeroValue0
  t24 := Tryz.underlying82
  a24 := Tryz.isAgg82
  z24 := Tryz.sizeOf82
  v24 := Tryz.zeroValue82
  t26 := Tryz.underlying3
  a26 := Tryz.isAgg3
  z26 := Tryz.sizeOf3
  v26 := Tryz.zeroValue3
  t28 := Tryz.underlying85
  a28 := Tryz.isAgg85
  z28 := Tryz.sizeOf85
  v28 := Tryz.zeroValue85
  i26 := by kernel_rfl }
def Tryz.sort63_ren : Go.Shelf.Ren := ⟨fun | 5 => 63 | 8 => 88 | 7 => 87 | 19 => 116 | 20 => 117 | 10 => 107 | 11 => 108 | 12 => 109 | 13 => 110 | 14 => 111 | 15 => 112 | 16 => 113 | 17 => 114 | 18 => 115 | 30 => 127 | 31 => 128 | 32 => 129 | 33 => 130 | 34 => 131 | 35 => 132 | 40 => 139 | n => n, fun | 23 => 82 | 25 => 3 | 3 => 3 | 32 => 145 | 22 => 82 | 0 => 0 | 44 => 189 | 46 => 117 | 4 => 4 | 36 => 182 | 35 => 181 | 41 => 120 | 5 => 5 | 9 => 9 | 53 => 197 | 57 => 200 | 63 => 209 | 64 => 210 | n => n, fun | n => n⟩
theorem Tryz.sort63 : Go.Proofs.SlLaysM.n5 Tryz.prog Tryz.sort63_ren := {
  mixed := by kernel_rfl
  f5 := ⟨Tryz.f63.name, by decide, Tryz.func63.trans (congrArg some (by kernel_rfl))⟩
  f7 := ⟨Tryz.f87.name, by decide, Tryz.func87.trans (congrArg some (by kernel_rfl))⟩
  f8 := Tryz.func88.trans (congrArg some (by kernel_rfl))
  f10 := ⟨Tryz.f107.name, by decide, Tryz.func107.trans (congrArg some (by kernel_rfl))⟩
  f11 := ⟨Tryz.f108.name, by decide, Tryz.func108.trans (congrArg some (by kernel_rfl))⟩
  f12 := ⟨Tryz.f109.name, by decide, Tryz.func109.trans (congrArg some (by kernel_rfl))⟩
  f13 := ⟨Tryz.f110.name, by decide, Tryz.func110.trans (congrArg some (by kernel_rfl))⟩
  f14 := ⟨Tryz.f111.name, by decide, Tryz.func111.trans (congrArg some (by kernel_rfl))⟩
  f15 := ⟨Tryz.f112.name, by decide, Tryz.func112.trans (congrArg some (by kernel_rfl))⟩
  f16 := ⟨Tryz.f113.name, by decide, Tryz.func113.trans (congrArg some (by kernel_rfl))⟩
  f17 := ⟨Tryz.f114.name, by decide, Tryz.func114.trans (congrArg some (by kernel_rfl))⟩
  f18 := ⟨Tryz.f115.name, by decide, Tryz.func115.trans (congrArg some (by kernel_rfl))⟩
  f19 := Tryz.func116.trans (congrArg some (by kernel_rfl))
  f20 := Tryz.func117.trans (congrArg some (by kernel_rfl))
  f30 := ⟨Tryz.f127.name, by decide, Tryz.func127.trans (congrArg some (by kernel_rfl))⟩
  f31 := Tryz.func128.trans (congrArg some (by kernel_rfl))
  f32 := Tryz.func129.trans (congrArg some (by kernel_rfl))
  f33 := ⟨Tryz.f130.name, by decide, Tryz.func130.trans (congrArg some (by kernel_rfl))⟩
  f34 := ⟨Tryz.f131.name, by decide, Tryz.func131.trans (congrArg some (by kernel_rfl))⟩
  f35 := ⟨Tryz.f132.name, by decide, Tryz.func132.trans (congrArg some (by kernel_rfl))⟩
  f40 := ⟨Tryz.f139.name, by decide, Tryz.func139.trans (congrArg some (by kernel_rfl))⟩
  t0 := Tryz.underlying0
  a0 := Tryz.isAgg0
  z0 := Tryz.sizeOf0
  v0 := Tryz.zeroValue0
  t3 := Tryz.underlying3
  a3 := Tryz.isAgg3
  z3 := Tryz.sizeOf3
  v3 := Tryz.zeroValue3
  t4 := Tryz.underlying4
  a4 := Tryz.isAgg4
  z4 := Tryz.sizeOf4
  v4 := Tryz.zeroValue4
  t5 := Tryz.underlying5
  a5 := Tryz.isAgg5
  z5 := Tryz.sizeOf5
  v5 := Tryz.zeroValue5
  t9 := Tryz.underlying9
  a9 := Tryz.isAgg9
  z9 := Tryz.sizeOf9
  v9 := Tryz.zeroValue9
  t22 := Tryz.underlying82
  a22 := Tryz.isAgg82
  z22 := Tryz.sizeOf82
  v22 := Tryz.zeroValue82
  t23 := Tryz.underlying82
  a23 := Tryz.isAgg82
  z23 := Tryz.sizeOf82
  v23 := Tryz.zeroValue82
  t25 := Tryz.underlying3
  a25 := Tryz.isAgg3
  z25 := Tryz.sizeOf3
  v25 := Tryz.zeroValue3
  t32 := Tryz.underlying145
  a32 := Tryz.isAgg145
  z32 := Tryz.sizeOf145
  v32 := Tryz.zeroValue145
  t35 := Tryz.underlying181
  a35 := Tryz.isAgg181
  z35 := Tryz.sizeOf181
  v35 := Tryz.zeroValue181
  t36 := Tryz.underlying182
  a36 := Tryz.isAgg182
  z36 := Tryz.sizeOf182
  v36 := Tryz.zeroValue182
  t41 := Tryz.underlying120
  a41 := Tryz.isAgg120
  z41 := Tryz.sizeOf120
  v41 := Tryz.zeroValue120
  t44 := Tryz.underlying189
  a44 := Tryz.isAgg189
  z44 := Tryz.sizeOf189
  v44 := Tryz.zeroValue189
  t46 := Tryz.underlying117
  a46 := Tryz.isAgg117
  z46 := Tryz.sizeOf117
  v46 := Tryz.zeroValue117
  t53 := Tryz.underlying197
  a53 := Tryz.isAgg197
  z53 := Tryz.sizeOf197
  v53 := Tryz.zeroValue197
  t57 := Tryz.underlying200
  a57 := Tryz.isAgg200
  z57 := Tryz.sizeOf200
  v57 := Tryz.zeroValue200
  t63 := Tryz.underlying209
  a63 := Tryz.isAgg209
  z63 := Tryz.sizeOf209
  v63 := Tryz.zeroValue209
  t64 := Tryz.underlying210
  a64 := Tryz.isAgg210
  z64 := Tryz.sizeOf210
  v64 := Tryz.zeroValue210 }
theorem Tryz.sorts36 (m : Nat) : AnyZI.SortsIn Tryz.prog Tryz.sorted36_ren Fence.wide m :=
  ⟨fun blk off cap ss W hH hblk hsz => callsIn_wide.2 (AnyM.slices_Sort_int Tryz.sort63 blk off cap ss W hH hblk hsz),
   fun p cap W => callsIn_wide.2 (AnyM.slices_Sort_int_none Tryz.sort63 p cap W)⟩
/-- a list of ints of the call's own -/
def Io (B : Nat) (w : World) (v : Value) (l : List Int) : Prop := w.ownsRow B 3 1 v l.length (iv l)
theorem keys_37 (mb : Option Nat) (W : World) : Calls Tryz.prog 37 #[.map mb] W fun e w' => e = .returned (.func (.func 64) #[] #[.pointer (some ⟨W.heap.size, 0, none⟩)]) ∧ w' = W.alloc (.cells #[.map mb] 63) :=
  callsIn_wide.1 (AnyZI.keys_in Tryz.keys37 Fence.wide 5 trivial rfl mb W)
set_option maxHeartbeats 1000000 in
theorem sorted_37 {α : Type} {w : World} {b n : Nat} {g : Int → Option Value} {F : Al α} (hm : MapI Tryz.prog 3 w b g n) (hF : ASrt F) (he : ∀ s, (g s).isSome = (aget F s).isSome) (hn : n ≤ 1000000) :
    Calls Tryz.prog 36 #[.func (.func 64) #[] #[.pointer (some ⟨w.heap.size, 0, none⟩)]] (w.alloc (.cells #[.map (some b)] 63)) fun e w' => ∃ v, e = .returned v ∧ Io (w.alloc (.cells #[.map (some b)] 63)).heap.size w' v (F.map (·.1)) ∧ Below (w.alloc (.cells #[.map (some b)] 63)).heap.size (w.alloc (.cells #[.map (some b)] 63)) w' := by
  obtain ⟨D0, hown, hsz, hK⟩ := ikeys_of hm hF he
  have hbl := hown.lt
  have hseq : SeqGives Fence.wide 2 Tryz.prog 64 #[.pointer (some ⟨w.heap.size, 0, none⟩)] encZ (fun ss => ss.Perm (intKeys D0)) (Maps.size D0) (w.alloc (.cells #[.map (some b)] 63)) :=
    AnyZI.keys_gives (ρ := Tryz.keys37_ren) { Tryz.keys37 with } Fence.wide _ trivial rfl (by omega) w.heap.size b n D0 _ (by simp) (by simp) (by
      obtain ⟨es, clock, hb, Ft, hs, hD⟩ := hown
      exact ⟨es, clock, (Below.heap_alloc _ _ b hbl).trans hb, Ft, hs, hD⟩)
  have cS := AnyZI.sorted_in Tryz.sorted36 Fence.wide 5 trivial trivial trivial trivial rfl (by omega) (Tryz.sorts36 _) (enters_of Tryz.func63 (by kernel_rfl) rfl) 64 #[.pointer (some ⟨w.heap.size, 0, none⟩)] trivial (enters_of Tryz.func64 (by kernel_rfl) rfl) _ _ (by rw [hsz]; unfold maxLen; omega) (by rw [hsz]; omega) _ hseq
  refine (callsIn_wide.1 cS).mono ?_
  rintro e w' ⟨v, ss, rfl, hS, hrow, hnil, hb⟩
  have hk := hK ss hS
  have hl : ss.length = (F.map (·.1)).length := by rw [← hk, List.length_mergeSort]
  refine ⟨v, rfl, ?_, hb⟩
  unfold Io iv
  rw [← hl, ← hk]
  exact hrow
theorem keys_78 (mb : Option Nat) (W : World) : Calls Tryz.prog 78 #[.map mb] W fun e w' => e = .returned (.func (.func 101) #[] #[.pointer (some ⟨W.heap.size, 0, none⟩)]) ∧ w' = W.alloc (.cells #[.map mb] 62) :=
  callsIn_wide.1 (AnyZI.keys_in Tryz.keys78 Fence.wide 5 trivial rfl mb W)
set_option maxHeartbeats 1000000 in
theorem sorted_78 {α : Type} {w : World} {b n : Nat} {g : Int → Option Value} {F : Al α} (hm : MapI Tryz.prog 3 w b g n) (hF : ASrt F) (he : ∀ s, (g s).isSome = (aget F s).isSome) (hn : n ≤ 1000000) :
    Calls Tryz.prog 36 #[.func (.func 101) #[] #[.pointer (some ⟨w.heap.size, 0, none⟩)]] (w.alloc (.cells #[.map (some b)] 62)) fun e w' => ∃ v, e = .returned v ∧ Io (w.alloc (.cells #[.map (some b)] 62)).heap.size w' v (F.map (·.1)) ∧ Below (w.alloc (.cells #[.map (some b)] 62)).heap.size (w.alloc (.cells #[.map (some b)] 62)) w' := by
  obtain ⟨D0, hown, hsz, hK⟩ := ikeys_of hm hF he
  have hbl := hown.lt
  have hseq : SeqGives Fence.wide 2 Tryz.prog 101 #[.pointer (some ⟨w.heap.size, 0, none⟩)] encZ (fun ss => ss.Perm (intKeys D0)) (Maps.size D0) (w.alloc (.cells #[.map (some b)] 62)) :=
    AnyZI.keys_gives (ρ := Tryz.keys78_ren) { Tryz.keys78 with } Fence.wide _ trivial rfl (by omega) w.heap.size b n D0 _ (by simp) (by simp) (by
      obtain ⟨es, clock, hb, Ft, hs, hD⟩ := hown
      exact ⟨es, clock, (Below.heap_alloc _ _ b hbl).trans hb, Ft, hs, hD⟩)
  have cS := AnyZI.sorted_in Tryz.sorted36 Fence.wide 5 trivial trivial trivial trivial rfl (by omega) (Tryz.sorts36 _) (enters_of Tryz.func63 (by kernel_rfl) rfl) 101 #[.pointer (some ⟨w.heap.size, 0, none⟩)] trivial (enters_of Tryz.func101 (by kernel_rfl) rfl) _ _ (by rw [hsz]; unfold maxLen; omega) (by rw [hsz]; omega) _ hseq
  refine (callsIn_wide.1 cS).mono ?_
  rintro e w' ⟨v, ss, rfl, hS, hrow, hnil, hb⟩
  have hk := hK ss hS
  have hl : ss.length = (F.map (·.1)).length := by rw [← hk, List.length_mergeSort]
  refine ⟨v, rfl, ?_, hb⟩
  unfold Io iv
  rw [← hl, ← hk]
  exact hrow
end Go.Proofs.YtbmhkdcmepfmbaaGreat
