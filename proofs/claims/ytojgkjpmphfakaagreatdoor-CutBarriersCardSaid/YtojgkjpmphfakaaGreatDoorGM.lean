/- A region that draws: its deeds stand in one order, also through what hangs between them (guards). -/
import Derived.Test.YtojgkjpmphfakaaGreatDoorGX
set_option linter.unusedVariables false
namespace Go.Proofs.YtojgkjpmphfakaaGreatDoor
open Go.RowKit
section
variable {P : Program} {ops : Array Oper} {md : Region.Mode} {C : World → Prop}
/-- j waits for i, also through others -/
def mustB (md : Region.Mode) (ops : Array Oper) : Nat → Nat → Nat → Bool
  | 0, j, i => Region.waitsFor md ops j i
  | f + 1, j, i => Region.waitsFor md ops j i || (List.range j).any fun k => decide (i < k) && Region.waitsFor md ops j k && mustB md ops f k i
def moxB (md : Region.Mode) (ops : Array Oper) (n : Nat) : Bool :=
  Region.noSelect ops && (List.range ops.size).all fun j => match ops[j]? with
    | some oj => oj.after.all (fun e => !Region.binds md e || decide (e.on < j)) && (List.range j).all fun i => decide (n ≤ j) ||
        (match ops[i]? with | some oi => oi.apart ops oj && (plainB oi || plainB oj) | none => true) || mustB md ops 4 j i
    | none => true
structure MoxOk (md : Region.Mode) (ops : Array Oper) (n : Nat) : Prop where
  sel : Region.noSelect ops = true
  lt : ∀ j oj, ops[j]? = some oj → ∀ e ∈ oj.after, Region.binds md e = true → e.on < j
  ap : ∀ j oj, j < n → ops[j]? = some oj → ∀ i oi, i < j → ops[i]? = some oi → mustB md ops 4 j i = true ∨ (oi.apart ops oj = true ∧ (plainB oi = true ∨ plainB oj = true))
theorem moxB_ok {n : Nat} (h : moxB md ops n = true) : MoxOk md ops n := by
  unfold moxB at h
  rw [Bool.and_eq_true] at h
  obtain ⟨h1, h2⟩ := h
  rw [List.all_eq_true] at h2
  refine ⟨h1, fun j oj hj e he hb => ?_, fun j oj hjn hj i oi hi hoi => ?_⟩
  · have h3 := h2 j (List.mem_range.2 (Array.getElem?_eq_some_iff.1 hj).1)
    simp only [hj, Bool.and_eq_true] at h3
    have h4 := Array.all_eq_true'.1 h3.1 e he
    simpa [hb] using h4
  · have h3 := h2 j (List.mem_range.2 (Array.getElem?_eq_some_iff.1 hj).1)
    simp only [hj, Bool.and_eq_true] at h3
    have h4 := List.all_eq_true.1 h3.2 i (List.mem_range.2 hi)
    simp only [hoi, Bool.or_eq_true, Bool.and_eq_true, decide_eq_true_eq] at h4
    rcases h4 with (h4 | h4) | h4
    · omega
    · exact .inr h4
    · exact .inl h4
theorem must_done {n : Nat} {listed : Array Bool} (inv : HeadInv md ops n listed) : ∀ (f j i : Nat), mustB md ops f j i = true → ∀ oj, ops[j]? = some oj → (∀ e ∈ oj.after, Region.binds md e = true → listed.getD e.on false = true) → listed.getD i false = true := by
  intro f
  have h0 : ∀ j i, Region.waitsFor md ops j i = true → ∀ oj, ops[j]? = some oj → (∀ e ∈ oj.after, Region.binds md e = true → listed.getD e.on false = true) → listed.getD i false = true := by
    intro j i h oj hj hall
    obtain ⟨o', ho', e, he, hb, hon⟩ := Region.waitsFor_spec h
    have : o' = oj := Option.some.inj (ho'.symm.trans hj)
    subst this
    rw [← hon]
    exact hall e he hb
  induction f with
  | zero => exact h0
  | succ f ih =>
    intro j i h oj hj hall
    unfold mustB at h
    rw [Bool.or_eq_true] at h
    rcases h with h | h
    · exact h0 j i h oj hj hall
    · obtain ⟨k, hk, h2⟩ := List.any_eq_true.1 h
      simp only [Bool.and_eq_true, decide_eq_true_eq] at h2
      obtain ⟨⟨h3, h4⟩, h5⟩ := h2
      have hk2 := h0 j k h4 oj hj hall
      cases hok : ops[k]? with
      | none =>
        have h6 : ¬ k < ops.size := by intro h; rw [Array.getElem?_eq_getElem h] at hok; cases hok
        have h7 : listed.getD k false = false := by
          have : ¬ k < listed.size := by rw [inv.size]; exact h6
          simp [this]
        rw [h7] at hk2; cases hk2
      | some ok => exact ih k i h5 ok hok fun e he hb => inv.closed k ok hok hk2 e he hb
theorem any_mox {n g : Nat} {Q : Act → World → Prop} {Q' : Exit → Act → World → Prop} (hok : MoxOk md ops n) (hns : n ≤ ops.size)
    (htail : ∀ listed i, HeadInv md ops n listed → i < n → listed.getD i true = false → ∀ t, n ≤ t → t ∉ Region.ready md ops listed)
    (hQ : ∀ listed a w, HeadInv md ops n listed → (∀ i, i < n → listed.getD i true = true) → C w → Q a w → wpAny P md ops Q' g listed a w) :
    ∀ (f : Nat) (listed : Array Bool) (I : List Nat) (a : Act) (w : World), I.length = f → Left md ops n listed I → HeadInv md ops n listed → C w →
      wpMix P ops C Q (I.filterMap (ops[·]?)) a w → wpAny P md ops Q' (f + g) listed a w
  | 0, listed, I, a, w, hl, hL, inv, hC, h => by
    obtain rfl := List.length_eq_zero_iff.1 hl
    rw [Nat.zero_add]
    refine hQ listed a w inv (fun i hi => ?_) hC h
    cases hc : listed.getD i true with
    | true => rfl
    | false => exact absurd ((hL.mem i).2 ⟨hi, hc⟩) (by simp)
  | f + 1, listed, I, a, w, hl, hL, inv, hC, h => by
    rw [show f + 1 + g = (f + g) + 1 by omega]
    obtain ⟨i0, I0, rfl⟩ : ∃ i0 I0, I = i0 :: I0 := by cases I with | nil => simp at hl | cons i I => exact ⟨i, I, rfl⟩
    have hi0 := (hL.mem i0).1 (List.mem_cons_self ..)
    refine ⟨fun h0 => ?_, fun j hj => ?_⟩
    · have h0' : i0 < ops.size := by omega
      have : i0 ∈ Region.ready md ops listed := by
        refine mem_ready.2 ⟨hi0.2, ops[i0], Array.getElem?_eq_getElem h0', fun e he hb => ?_⟩
        have hlt := hok.lt i0 _ (Array.getElem?_eq_getElem h0') e he hb
        cases hc : listed.getD e.on false with
        | true => rfl
        | false =>
          have h1 := (hL.mem e.on).2 ⟨by omega, getD_in (by rw [inv.size]; omega) hc⟩
          rcases List.mem_cons.1 h1 with h2 | h2
          · omega
          · have := (List.pairwise_cons.1 hL.inc).1 _ h2
            omega
      rw [h0] at this
      cases this
    · have hjn : j < n := by
        rcases Nat.lt_or_ge j n with h | h
        · exact h
        · exact absurd hj (htail listed i0 inv hi0.1 hi0.2 j h)
      obtain ⟨hjun, oj, hoj, hall⟩ := mem_ready.1 hj
      have hjI := (hL.mem j).2 ⟨hjn, hjun⟩
      obtain ⟨I1, I2, hI⟩ := List.append_of_mem hjI
      rw [hI] at h hL hl
      have hpw := List.pairwise_append.1 hL.inc
      have hpw2 := List.pairwise_cons.1 hpw.2.1
      rw [List.filterMap_append, List.filterMap_cons, hoj] at h
      have hp := mpull (Region.noSelect_spec hok.sel) hoj I1 (I2.filterMap (ops[·]?)) a w hC (fun i hi oi hoi => by
        have hlt : i < j := hpw.2.2 i hi j (List.mem_cons_self ..)
        have hun : listed.getD i false = false := getD_both ((hL.mem i).1 (List.mem_append_left _ hi)).2
        rcases hok.ap j oj hjn hoj i oi hlt hoi with h5 | h5
        · have h1 := must_done inv _ j i h5 oj hoj hall
          rw [hun] at h1
          cases h1
        · exact h5) h
      rw [← List.filterMap_append] at hp
      refine wpOp_of_pmix hoj hC hp fun a' w' hC' h' => any_mox hok hns htail hQ f _ (I1 ++ I2) a' w' (by simp at hl ⊢; omega) ⟨fun i => ?_, ?_⟩ (inv.set hj hjn) hC' h'
      · by_cases hij : j = i
        · subst hij
          have h1 : j ∉ I1 ++ I2 := by
            intro hm
            rcases List.mem_append.1 hm with hm | hm
            · have := hpw.2.2 j hm j (List.mem_cons_self ..); omega
            · have := hpw2.1 j hm; omega
          have h2 : (listed.setIfInBounds j true).getD j true = true := by
            have : j < listed.size := by rw [inv.size]; omega
            simp [this]
          simp [h1, h2]
        · have h2 := hL.mem i
          rw [getD_set_ne true hij, ← h2]
          simp [Ne.symm hij]
      · refine List.pairwise_append.2 ⟨hpw.1, hpw2.2, fun x hx y hy => hpw.2.2 x hx y (List.mem_cons_of_mem _ hy)⟩
def xregB (md : Region.Mode) (ops : Array Oper) (n : Nat) : Bool :=
  moxB md ops n && decide (n ≤ ops.size) && (decide (n = ops.size) || (Region.sinkB md ops n && Region.chainB md ops n)) && Region.seqB md ops (ops.size - n) n ((Array.range ops.size).map fun i => decide (i < n))
/-- **one walk serves every order** -/
theorem wp_region_mox {id : Nat} {Q : Exit → Act → World → Prop} {a : Act} {w : World} {l : List Oper} (n : Nat) (C : World → Prop) (hm : P.follows .mixedOrders = true) (hB : xregB .any l.toArray n = true) (hC : C w.drew)
    (h : wpMix P l.toArray C (fun a' w' => wpList P l.toArray Q (l.drop n) a' w') (l.take n) a w.drew) : (Code.region id l.toArray true).wp P Q a w := by
  simp only [xregB, Bool.and_eq_true, Bool.or_eq_true, decide_eq_true_eq] at hB
  obtain ⟨⟨⟨hf, hns⟩, ht⟩, hseq⟩ := hB
  have hok := moxB_ok hf
  have inv0 : HeadInv .any l.toArray n (Array.replicate l.toArray.size false) :=
    ⟨by simp, fun j oj _ hl => (by rw [getD_replicate_false] at hl; cases hl), fun t _ ht => getD_in (by simpa using ht) (getD_replicate_false _ _)⟩
  refine wp_region_any hm ?_
  have hL0 : Left .any l.toArray n (Array.replicate l.toArray.size false) (List.range n) := ⟨fun i => by
    rw [List.mem_range]
    refine ⟨fun hi => ⟨hi, getD_in (by simp at hns ⊢; omega) (getD_replicate_false _ _)⟩, fun h => h.1⟩, List.pairwise_lt_range⟩
  have hfm : (List.range n).filterMap (l.toArray[·]?) = l.take n := by
    have hns' : n ≤ l.length := by simpa using hns
    clear h ht hseq hok inv0 hL0 hf hns
    induction n with
    | zero => rfl
    | succ n ih =>
      rw [List.range_succ, List.filterMap_append, ih (by omega), List.take_succ_eq_append_getElem (by omega)]
      simp [show n < l.length by omega]
  have := any_mox (P := P) (C := C) (Q := fun a' w' => wpList P l.toArray Q (l.drop n) a' w') (Q' := Q) (g := l.toArray.size - n) hok hns (fun listed i inv hi hun t ht' => by
      rcases ht with h0 | ⟨h1, h2⟩
      · intro hr
        obtain ⟨_, o, ho, _⟩ := mem_ready.1 hr
        have := (Array.getElem?_eq_some_iff.1 ho).1
        omega
      · rcases Nat.lt_or_ge n l.toArray.size with h3 | h3
        · exact tail_waits h1 h2 h3 inv _ i rfl hi hun t ht'
        · intro hr
          obtain ⟨_, o, ho, _⟩ := mem_ready.1 hr
          have := (Array.getElem?_eq_some_iff.1 ho).1
          omega)
    (fun listed a' w' inv hall hC' hq => by
      have he : listed = (Array.range l.toArray.size).map fun i => decide (i < n) := by
        apply Array.ext
        · rw [inv.size]; simp
        · intro i h1 h2
          have h3 : i < l.toArray.size := by rw [← inv.size]; exact h1
          have h4 : ((Array.range l.toArray.size).map fun i => decide (i < n))[i] = decide (i < n) := by simp
          rw [h4]
          rcases Nat.lt_or_ge i n with h5 | h5
          · have := hall i h5
            simp [h1] at this
            simp [this, h5]
          · have := inv.tail i h5 h3
            simp [h1] at this
            simp [this, Nat.not_lt.2 h5]
      have hdl : (l.drop n).length = l.toArray.size - n := by simp
      rw [← he] at hseq
      have := wpAny_of_seq (P := P) (md := .any) (ops := l.toArray) (Q' := Q) (l.drop n) n listed a' w' (fun j => by simp [List.getElem?_drop]) (by rw [hdl]; exact hseq) hq
      rwa [hdl] at this)
    n (Array.replicate l.toArray.size false) (List.range n) a w.drew (by simp) hL0 inv0 hC (by rw [hfm]; exact h)
  rw [show n + (l.toArray.size - n) = l.toArray.size by omega] at this
  exact this
end
end Go.Proofs.YtojgkjpmphfakaaGreatDoor
