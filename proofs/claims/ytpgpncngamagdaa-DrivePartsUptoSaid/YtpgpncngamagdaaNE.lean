/- A drawn region whose head holds stores, behind which parts of a tuple may be taken. -/
import Derived.Test.YtpgpncngamagdaaGR
set_option linter.unusedVariables false
namespace Go.Proofs.Ytpgpncngamagdaa.NE
open Go.RowKit
/-- reads no memory -/
def pureB (o : Oper) : Bool := match o.op with
  | .move _ | .assign _ | .nilCheck _ | .fieldAddr .. | .binOp .. | .extract .. => true
  | _ => false
def loadB (o : Oper) : Bool := plainB o && !pureB o
def clB (o : Oper) : Bool := match o.op with
  | .store .. => true
  | _ => false
section
variable {P : Program} {ops : Array Oper} {md : Region.Mode} {C C2 : World → Prop}
def Cq (C C2 : World → Prop) (o : Oper) (w : World) : Prop := if pureB o then C2 w else C w
def Dq (C C2 : World → Prop) (o : Oper) (w : World) : Prop := if clB o then C2 w else C w
def nmix (P : Program) (ops : Array Oper) (C C2 : World → Prop) (o : Oper) (a : Act) (w : World) (K : Act → World → Prop) : Prop :=
  if Region.wanted o (yielded ops a.tmps) then
    if plainB o then ∃ v, (∀ w', Cq C C2 o w' → detUpon w' v ((execOp a.eval o).run P w')) ∧ K (a.put o.dst v) w
    else chUpon P (fun u w' => Dq C C2 o w' ∧ K (a.put o.dst u) w') ((execOp a.eval o).run P w)
  else K (a.put o.dst undef) w
def wpNix (P : Program) (ops : Array Oper) (C C2 : World → Prop) (Q : Act → World → Prop) : List Oper → Act → World → Prop
  | [], a, w => Q a w
  | o :: rest, a, w => nmix P ops C C2 o a w (wpNix P ops C C2 Q rest)
/-- where one is behind an operation -/
def Step (C C2 : World → Prop) (o : Oper) (w w' : World) : Prop := w' = w ∨ (plainB o = false ∧ Dq C C2 o w')
theorem nmix_mono {o : Oper} {a : Act} {w : World} {K K' : Act → World → Prop} (h : ∀ a w', Step C C2 o w w' → K a w' → K' a w') (hh : nmix P ops C C2 o a w K) : nmix P ops C C2 o a w K' := by
  unfold nmix at *
  split at hh
  · rename_i hw
    rw [if_pos hw]
    split at hh
    · rename_i hp
      rw [if_pos hp]
      obtain ⟨v, h1, h2⟩ := hh
      exact ⟨v, h1, h _ _ (.inl rfl) h2⟩
    · rename_i hp
      rw [if_neg hp]
      exact chUpon_mono (fun u w' ⟨h1, h2⟩ => ⟨h1, h _ _ (.inr ⟨by simpa using hp, h1⟩) h2⟩) hh
  · rename_i hw
    rw [if_neg hw]
    exact h _ _ (.inl rfl) hh
theorem nmix_swap {oi oj : Oper} {a : Act} {w : World} {K : Act → World → Prop} (hq : plainB oj = true → Cq C C2 oj w) (hap : oi.apart ops oj = true) (hpl : plainB oi = true ∨ plainB oj = true) (hsi : ∀ cs b, oi.op ≠ .select cs b) (hsj : ∀ cs b, oj.op ≠ .select cs b)
    (h : nmix P ops C C2 oi a w fun a' w' => nmix P ops C C2 oj a' w' K) : nmix P ops C C2 oj a w fun a' w' => nmix P ops C C2 oi a' w' K := by
  obtain ⟨h1, h2, h3⟩ := Oper.apart_spec hap
  have ei : ∀ (a : Act) v, execOp (a.put oj.dst v).eval oi = execOp a.eval oi := fun a v => execOp_put oi hsi a oj.dst v h3
  have ej : ∀ (a : Act) v, execOp (a.put oi.dst v).eval oj = execOp a.eval oj := fun a v => execOp_put oj hsj a oi.dst v h1
  have wi : ∀ (a : Act) v, Region.wanted oi (yielded ops (a.put oj.dst v).tmps) = Region.wanted oi (yielded ops a.tmps) := fun a v => wanted_put oi a oj.dst v h3
  have wj : ∀ (a : Act) v, Region.wanted oj (yielded ops (a.put oi.dst v).tmps) = Region.wanted oj (yielded ops a.tmps) := fun a v => wanted_put oj a oi.dst v h1
  have pc : ∀ (a : Act) v u, (a.put oi.dst v).put oj.dst u = (a.put oj.dst u).put oi.dst v := fun a v u => Act.put_comm a v u h2
  have fw : ∀ (w' : World) (v : Value) (K2 : Act → World → Prop), (∀ u w2, K ((a.put oj.dst u).put oi.dst v) w2 → K2 (a.put oj.dst u) w2) → nmix P ops C C2 oj (a.put oi.dst v) w' K → nmix P ops C C2 oj a w' K2 := by
    intro w' v K2 hk hj
    unfold nmix at hj ⊢
    rw [wj, ej] at hj
    split at hj
    · rename_i hw
      rw [if_pos hw]
      split at hj
      · rename_i hp
        rw [if_pos hp]
        obtain ⟨u, k1, k2⟩ := hj
        exact ⟨u, k1, hk _ _ (by rw [← pc]; exact k2)⟩
      · rename_i hp
        rw [if_neg hp]
        exact chUpon_mono (fun u w2 ⟨k1, k2⟩ => ⟨k1, hk _ _ (by rw [← pc]; exact k2)⟩) hj
    · rename_i hw
      rw [if_neg hw]
      exact hk _ _ (by rw [← pc]; exact hj)
  unfold nmix at h
  by_cases hw : Region.wanted oi (yielded ops a.tmps) = true
  · rw [if_pos hw] at h
    by_cases hp : plainB oi = true
    · rw [if_pos hp] at h
      obtain ⟨v, k1, k2⟩ := h
      refine fw w v _ (fun u w2 k3 => ?_) k2
      unfold nmix
      rw [wi, if_pos hw, if_pos hp, ei]
      exact ⟨v, k1, k3⟩
    · rw [if_neg hp] at h
      have hpj : plainB oj = true := hpl.resolve_left hp
      unfold nmix
      by_cases hwj : Region.wanted oj (yielded ops a.tmps) = true
      · rw [if_pos hwj, if_pos hpj]
        have hj : ∀ u w', Dq C C2 oi w' ∧ (if Region.wanted oj (yielded ops (a.put oi.dst u).tmps) then if plainB oj then ∃ v, (∀ w', Cq C C2 oj w' → detUpon w' v ((execOp (a.put oi.dst u).eval oj).run P w')) ∧ K ((a.put oi.dst u).put oj.dst v) w' else chUpon P (fun v w' => Dq C C2 oj w' ∧ K ((a.put oi.dst u).put oj.dst v) w') ((execOp (a.put oi.dst u).eval oj).run P w') else K ((a.put oi.dst u).put oj.dst undef) w') →
            ∃ v, (∀ w', Cq C C2 oj w' → detUpon w' v ((execOp a.eval oj).run P w')) ∧ Dq C C2 oi w' ∧ K ((a.put oj.dst v).put oi.dst u) w' := by
          intro u w' ⟨k1, k2⟩
          rw [wj, if_pos hwj, if_pos hpj, ej] at k2
          obtain ⟨v, k3, k4⟩ := k2
          exact ⟨v, k3, k1, by rw [← pc]; exact k4⟩
        obtain ⟨u0, w0, k0⟩ := chUpon_some h
        obtain ⟨v, k1, _, _⟩ := hj u0 w0 k0
        refine ⟨v, k1, ?_⟩
        show (if Region.wanted oi (yielded ops (a.put oj.dst v).tmps) then _ else _)
        rw [wi, if_pos hw, if_neg hp, ei]
        refine chUpon_mono (fun u w' k => ?_) h
        obtain ⟨v', k3, k4, k5⟩ := hj u w' k
        have : v = v' := detUpon_inj (k1 w (hq hpj)) (k3 w (hq hpj))
        rw [this]; exact ⟨k4, k5⟩
      · rw [if_neg hwj]
        show (if Region.wanted oi (yielded ops (a.put oj.dst undef).tmps) then _ else _)
        rw [wi, if_pos hw, if_neg hp, ei]
        refine chUpon_mono (fun u w' ⟨k1, k2⟩ => ⟨k1, ?_⟩) h
        have k2 : (if Region.wanted oj (yielded ops (a.put oi.dst u).tmps) then _ else _) := k2
        rw [wj, if_neg hwj] at k2
        rw [← pc]; exact k2
  · rw [if_neg hw] at h
    refine fw w undef _ (fun u w2 k3 => ?_) h
    unfold nmix
    rw [wi, if_neg hw]
    exact k3
/-- the earlier one may be passed over -/
def pairB (oi oj : Oper) : Bool := (plainB oi || plainB oj) && !(clB oi && loadB oj)
theorem npull (hCC : ∀ w, C w → C2 w) (hsel : ∀ (j : Nat) (o : Oper) cs b, ops[j]? = some o → o.op ≠ .select cs b) {Q : Act → World → Prop} {j : Nat} {oj : Oper} (hj : ops[j]? = some oj) :
    ∀ (I : List Nat) (L : List Oper) (a : Act) (w : World), (plainB oj = true → Cq C C2 oj w) → (∀ i ∈ I, ∀ oi, ops[i]? = some oi → oi.apart ops oj = true ∧ pairB oi oj = true) →
      wpNix P ops C C2 Q (I.filterMap (ops[·]?) ++ oj :: L) a w → nmix P ops C C2 oj a w (wpNix P ops C C2 Q (I.filterMap (ops[·]?) ++ L))
  | [], L, a, w, hC, hap, h => h
  | i :: I, L, a, w, hC, hap, h => by
    cases hi : ops[i]? with
    | none =>
      rw [List.filterMap_cons, hi] at h ⊢
      exact npull hCC hsel hj I L a w hC (fun i hi => hap i (List.mem_cons_of_mem _ hi)) h
    | some oi =>
      rw [List.filterMap_cons, hi] at h ⊢
      simp only [List.cons_append, wpNix] at h ⊢
      have hh := hap i (List.mem_cons_self ..) oi hi
      have hpb := hh.2
      simp only [pairB, Bool.and_eq_true, Bool.or_eq_true, Bool.not_eq_true', Bool.and_eq_false_iff] at hpb
      refine nmix_swap hC hh.1 hpb.1 (fun cs b => hsel i oi cs b hi) (fun cs b => hsel j oj cs b hj) ?_
      refine nmix_mono (fun a' w' hs h' => npull hCC hsel hj I L a' w' (fun hp => ?_) (fun i hi => hap i (List.mem_cons_of_mem _ hi)) h') h
      rcases hs with rfl | ⟨_, hd⟩
      · exact hC hp
      · unfold Dq at hd
        unfold Cq
        by_cases hpu : pureB oj = true
        · rw [if_pos hpu]
          split at hd
          · exact hd
          · exact hCC _ hd
        · rw [if_neg hpu]
          split at hd
          · rename_i hcl
            rcases hpb.2 with h1 | h1
            · rw [hcl] at h1; cases h1
            · unfold loadB at h1; rw [hp] at h1; simp at h1; exact absurd h1 hpu
          · exact hd
/-- the Bool over a region's head -/
def nixB (md : Region.Mode) (ops : Array Oper) (n : Nat) : Bool :=
  Region.noSelect ops && (List.range ops.size).all fun j => match ops[j]? with
    | some oj => oj.after.all (fun e => !Region.binds md e || decide (e.on < j)) && ((List.range j).all fun i => decide (n ≤ j) || Region.waitsFor md ops j i ||
        (match ops[i]? with | some oi => oi.apart ops oj && pairB oi oj | none => true) ||
        (deedB ops i && (List.range j).any fun k => decide (i < k) && deedB ops k && Region.waitsFor md ops j k)) &&
        (decide (n ≤ j) || !clB oj || (List.range n).all fun i => (match ops[i]? with | some oi => !loadB oi | none => true) || Region.waitsFor md ops j i)
    | none => true
structure NixOk (md : Region.Mode) (ops : Array Oper) (n : Nat) : Prop where
  sel : Region.noSelect ops = true
  lt : ∀ j oj, ops[j]? = some oj → ∀ e ∈ oj.after, Region.binds md e = true → e.on < j
  ap : ∀ j oj, j < n → ops[j]? = some oj → ∀ i oi, i < j → ops[i]? = some oi → (∃ e ∈ oj.after, Region.binds md e = true ∧ e.on = i) ∨ (oi.apart ops oj = true ∧ pairB oi oj = true) ∨
    (plainB oi = false ∧ ∃ k ok, i < k ∧ k < j ∧ ops[k]? = some ok ∧ plainB ok = false ∧ ∃ e ∈ oj.after, Region.binds md e = true ∧ e.on = k)
  cl : ∀ j oj, j < n → ops[j]? = some oj → clB oj = true → ∀ i oi, i < n → ops[i]? = some oi → loadB oi = true → ∃ e ∈ oj.after, Region.binds md e = true ∧ e.on = i
theorem nixB_ok {n : Nat} (h : nixB md ops n = true) : NixOk md ops n := by
  unfold nixB at h
  rw [Bool.and_eq_true] at h
  obtain ⟨h1, h2⟩ := h
  rw [List.all_eq_true] at h2
  refine ⟨h1, fun j oj hj e he hb => ?_, fun j oj hjn hj i oi hi hoi => ?_, fun j oj hjn hj hcl i oi hi hoi hld => ?_⟩
  · have h3 := h2 j (List.mem_range.2 (Array.getElem?_eq_some_iff.1 hj).1)
    simp only [hj, Bool.and_eq_true] at h3
    have h4 := Array.all_eq_true'.1 h3.1.1 e he
    simpa [hb] using h4
  · have h3 := h2 j (List.mem_range.2 (Array.getElem?_eq_some_iff.1 hj).1)
    simp only [hj, Bool.and_eq_true] at h3
    have h4 := List.all_eq_true.1 h3.1.2 i (List.mem_range.2 hi)
    simp only [hoi, Bool.or_eq_true, Bool.and_eq_true, decide_eq_true_eq] at h4
    rcases h4 with ((h4 | h4) | h4) | h4
    · omega
    · obtain ⟨o', ho', e, he, hb, hon⟩ := Region.waitsFor_spec h4
      have : o' = oj := Option.some.inj (ho'.symm.trans hj)
      subst this
      exact .inl ⟨e, he, hb, hon⟩
    · exact .inr (.inl h4)
    · obtain ⟨h5, h6⟩ := h4
      obtain ⟨k, hk, h7⟩ := List.any_eq_true.1 h6
      simp only [Bool.and_eq_true, decide_eq_true_eq] at h7
      obtain ⟨⟨h8, h9⟩, h10⟩ := h7
      obtain ⟨o', ho', e, he, hb, hon⟩ := Region.waitsFor_spec h10
      have : o' = oj := Option.some.inj (ho'.symm.trans hj)
      subst this
      unfold deedB at h5 h9
      rw [hoi] at h5
      cases hok : ops[k]? with
      | none => rw [hok] at h9; cases h9
      | some ok => rw [hok] at h9; exact .inr (.inr ⟨by simpa using h5, k, ok, h8, List.mem_range.1 hk, hok, by simpa using h9, e, he, hb, hon⟩)
  · have h3 := h2 j (List.mem_range.2 (Array.getElem?_eq_some_iff.1 hj).1)
    simp only [hj, Bool.and_eq_true, Bool.or_eq_true, decide_eq_true_eq, Bool.not_eq_true'] at h3
    rcases h3.2 with (h4 | h4) | h4
    · omega
    · rw [hcl] at h4; cases h4
    · have h5 := List.all_eq_true.1 h4 i (List.mem_range.2 hi)
      simp only [hoi, Bool.or_eq_true, Bool.not_eq_true'] at h5
      rcases h5 with h5 | h5
      · rw [hld] at h5; cases h5
      · obtain ⟨o', ho', e, he, hb, hon⟩ := Region.waitsFor_spec h5
        have : o' = oj := Option.some.inj (ho'.symm.trans hj)
        subst this
        exact ⟨e, he, hb, hon⟩
theorem ndeeds_done {n : Nat} {listed : Array Bool} (hok : NixOk md ops n) (inv : HeadInv md ops n listed) : ∀ (d j : Nat) (oj : Oper), j = d → j < n → ops[j]? = some oj → (∀ e ∈ oj.after, Region.binds md e = true → listed.getD e.on false = true) →
    ∀ i oi, i < j → ops[i]? = some oi → plainB oi = false → plainB oj = false → listed.getD i false = true := by
  intro d
  induction d using Nat.strongRecOn with
  | _ d ih =>
    intro j oj hd hjn hoj hall i oi hi hoi hpi hpj
    rcases hok.ap j oj hjn hoj i oi hi hoi with ⟨e, he, hb, hon⟩ | ⟨_, h⟩ | ⟨_, k, ok, h1, h2, h3, h4, e, he, hb, hon⟩
    · rw [← hon]; exact hall e he hb
    · unfold pairB at h; rw [hpi, hpj] at h; cases h
    · have hk := hall e he hb
      rw [hon] at hk
      exact ih k (by omega) k ok rfl (by omega) h3 (fun e' he' hb' => inv.closed k ok h3 hk e' he' hb') i oi h1 hoi hpi h4
theorem wpOp_of_nmix {j : Nat} {o : Oper} {a : Act} {w : World} {K : Act → World → Prop} {K' : Act → World → Prop} {Q' : Exit → Act → World → Prop} (hj : ops[j]? = some o) (hC : plainB o = true → Cq C C2 o w)
    (h : nmix P ops C C2 o a w K) (hn : ∀ a' w', Step C C2 o w w' → K a' w' → K' a' w') : wpOp P ops Q' j K' a w := by
  unfold wpOp
  simp only [hj]
  unfold nmix at h
  by_cases hw : Region.wanted o (yielded ops a.tmps) = true
  · rw [if_pos hw] at h ⊢
    refine .inl ?_
    unfold Oper.wp
    by_cases hp : plainB o = true
    · rw [if_pos hp] at h
      obtain ⟨v, h1, h2⟩ := h
      have h3 := h1 w (hC hp)
      generalize (execOp a.eval o).run P w = r at *
      cases r with
      | ok nx w' =>
        cases nx <;> simp only [detUpon] at h3 <;> simp only [Oper.upon]
        case value u => obtain ⟨rfl, rfl⟩ := h3; exact hn _ _ (.inl rfl) h2
        case skip => obtain ⟨rfl, rfl⟩ := h3; exact hn _ _ (.inl rfl) h2
      | halt x w' => exact h3.elim
    · rw [if_neg hp] at h
      have hp : plainB o = false := by simpa using hp
      generalize (execOp a.eval o).run P w = r at *
      cases r with
      | ok nx w' =>
        cases nx <;> simp only [chUpon] at h <;> simp only [Oper.upon]
        case value u => exact hn _ _ (.inr ⟨hp, h.1⟩) h.2
        case skip => exact hn _ _ (.inr ⟨hp, h.1⟩) h.2
        case enter f args =>
          refine h.mono fun e w'' he => ?_
          obtain ⟨u, rfl, k1, k2⟩ := he
          exact hn _ _ (.inr ⟨hp, k1⟩) k2
      | halt x w' => exact h.elim
  · rw [if_neg hw] at h ⊢
    exact hn _ _ (.inl rfl) h
theorem any_nix {n g : Nat} {Q : Act → World → Prop} {Q' : Exit → Act → World → Prop} (hCC : ∀ w, C w → C2 w) (hok : NixOk md ops n) (hns : n ≤ ops.size)
    (htail : ∀ listed i, HeadInv md ops n listed → i < n → listed.getD i true = false → ∀ t, n ≤ t → t ∉ Region.ready md ops listed)
    (hQ : ∀ listed a w, HeadInv md ops n listed → (∀ i, i < n → listed.getD i true = true) → Q a w → wpAny P md ops Q' g listed a w) :
    ∀ (f : Nat) (listed : Array Bool) (I : List Nat) (a : Act) (w : World), I.length = f → Left md ops n listed I → HeadInv md ops n listed → C2 w → ((∃ i oi, i < n ∧ listed.getD i true = false ∧ ops[i]? = some oi ∧ loadB oi = true) → C w) →
      wpNix P ops C C2 Q (I.filterMap (ops[·]?)) a w → wpAny P md ops Q' (f + g) listed a w
  | 0, listed, I, a, w, hl, hL, inv, hC2, hC, h => by
    obtain rfl := List.length_eq_zero_iff.1 hl
    rw [Nat.zero_add]
    refine hQ listed a w inv (fun i hi => ?_) h
    cases hc : listed.getD i true with
    | true => rfl
    | false => exact absurd ((hL.mem i).2 ⟨hi, hc⟩) (by simp)
  | f + 1, listed, I, a, w, hl, hL, inv, hC2, hC, h => by
    rw [show f + 1 + g = (f + g) + 1 by omega]
    obtain ⟨i0, I0, rfl⟩ : ∃ i0 I0, I = i0 :: I0 := by cases I with | nil => simp at hl | cons i I => exact ⟨i, I, rfl⟩
    have hi0 := (hL.mem i0).1 (List.mem_cons_self ..)
    refine ⟨fun h0 => ?_, fun j hj => ?_⟩
    · have h0' : i0 < ops.size := by omega
      have : i0 ∈ Region.ready md ops listed := by
        refine mem_ready.2 ⟨hi0.2, ops[i0], Array.getElem?_eq_getElem h0', fun e he hb => ?_⟩
        have hlt := hok.lt i0 _ (Array.getElem?_eq_getElem h0') e he hb
        cases hc : listed.getD e.on false with
        | true => rfl
        | false =>
          have h1 := (hL.mem e.on).2 ⟨by omega, getD_in (by rw [inv.size]; omega) hc⟩
          rcases List.mem_cons.1 h1 with h2 | h2
          · omega
          · have := (List.pairwise_cons.1 hL.inc).1 _ h2
            omega
      rw [h0] at this
      cases this
    · have hjn : j < n := by
        rcases Nat.lt_or_ge j n with h | h
        · exact h
        · exact absurd hj (htail listed i0 inv hi0.1 hi0.2 j h)
      obtain ⟨hjun, oj, hoj, hall⟩ := mem_ready.1 hj
      have hjI := (hL.mem j).2 ⟨hjn, hjun⟩
      obtain ⟨I1, I2, hI⟩ := List.append_of_mem hjI
      rw [hI] at h hL hl
      have hpw := List.pairwise_append.1 hL.inc
      have hpw2 := List.pairwise_cons.1 hpw.2.1
      rw [List.filterMap_append, List.filterMap_cons, hoj] at h
      have hqj : plainB oj = true → Cq C C2 oj w := fun hp => by
        unfold Cq
        by_cases hpu : pureB oj = true
        · rw [if_pos hpu]; exact hC2
        · rw [if_neg hpu]; exact hC ⟨j, oj, hjn, hjun, hoj, by unfold loadB; simp [hp, hpu]⟩
      have hp := npull hCC (Region.noSelect_spec hok.sel) hoj I1 (I2.filterMap (ops[·]?)) a w hqj (fun i hi oi hoi => by
        have hlt : i < j := hpw.2.2 i hi j (List.mem_cons_self ..)
        have hun : listed.getD i false = false := getD_both ((hL.mem i).1 (List.mem_append_left _ hi)).2
        rcases hok.ap j oj hjn hoj i oi hlt hoi with ⟨e, he, hb, hon⟩ | h5 | ⟨h5, k, ok, h6, h7, h8, h9, e, he, hb, hon⟩
        · have h1 := hall e he hb
          rw [hon, hun] at h1
          cases h1
        · exact h5
        · have hk := hall e he hb
          rw [hon] at hk
          have := ndeeds_done hok inv k k ok rfl (by omega) h8 (fun e' he' hb' => inv.closed k ok h8 hk e' he' hb') i oi h6 hoi h5 h9
          rw [hun] at this
          cases this) h
      rw [← List.filterMap_append] at hp
      refine wpOp_of_nmix hoj hqj hp fun a' w' hs h' => any_nix hCC hok hns htail hQ f _ (I1 ++ I2) a' w' (by simp at hl ⊢; omega) ⟨fun i => ?_, ?_⟩ (inv.set hj hjn) ?_ ?_ h'
      · by_cases hij : j = i
        · subst hij
          have h1 : j ∉ I1 ++ I2 := by
            intro hm
            rcases List.mem_append.1 hm with hm | hm
            · have := hpw.2.2 j hm j (List.mem_cons_self ..); omega
            · have := hpw2.1 j hm; omega
          have h2 : (listed.setIfInBounds j true).getD j true = true := by
            have : j < listed.size := by rw [inv.size]; omega
            simp [this]
          simp [h1, h2]
        · have h2 := hL.mem i
          rw [getD_set_ne true hij, ← h2]
          simp [Ne.symm hij]
      · refine List.pairwise_append.2 ⟨hpw.1, hpw2.2, fun x hx y hy => hpw.2.2 x hx y (List.mem_cons_of_mem _ hy)⟩
      · rcases hs with rfl | ⟨_, hd⟩
        · exact hC2
        · unfold Dq at hd
          split at hd
          · exact hd
          · exact hCC _ hd
      · rintro ⟨i, oi, hi, hli, hoi, hld⟩
        have hij : j ≠ i := by
          rintro rfl
          have : j < listed.size := by rw [inv.size]; omega
          simp [this] at hli
        rw [getD_set_ne true hij] at hli
        rcases hs with rfl | ⟨_, hd⟩
        · exact hC ⟨i, oi, hi, hli, hoi, hld⟩
        · unfold Dq at hd
          split at hd
          · rename_i hcl
            obtain ⟨e, he, hb, hon⟩ := hok.cl j oj hjn hoj hcl i oi hi hoi hld
            have := hall e he hb
            rw [hon, getD_both hli] at this
            cases this
          · exact hd
def nregB (md : Region.Mode) (ops : Array Oper) (n : Nat) : Bool :=
  nixB md ops n && decide (n ≤ ops.size) && (decide (n = ops.size) || (Region.sinkB md ops n && Region.chainB md ops n)) && Region.seqB md ops (ops.size - n) n ((Array.range ops.size).map fun i => decide (i < n))
/-- **one walk serves every order** -/
theorem wp_region_nix {id : Nat} {Q : Exit → Act → World → Prop} {a : Act} {w : World} {l : List Oper} (n : Nat) (C C2 : World → Prop) (hm : P.follows .mixedOrders = true) (hB : nregB .any l.toArray n = true) (hCC : ∀ w, C w → C2 w) (hC : C w.drew)
    (h : wpNix P l.toArray C C2 (fun a' w' => wpList P l.toArray Q (l.drop n) a' w') (l.take n) a w.drew) : (Code.region id l.toArray true).wp P Q a w := by
  simp only [nregB, Bool.and_eq_true, Bool.or_eq_true, decide_eq_true_eq] at hB
  obtain ⟨⟨⟨hf, hns⟩, ht⟩, hseq⟩ := hB
  have hok := nixB_ok hf
  have inv0 : HeadInv .any l.toArray n (Array.replicate l.toArray.size false) :=
    ⟨by simp, fun j oj _ hl => (by rw [getD_replicate_false] at hl; cases hl), fun t _ ht => getD_in (by simpa using ht) (getD_replicate_false _ _)⟩
  refine wp_region_any hm ?_
  have hL0 : Left .any l.toArray n (Array.replicate l.toArray.size false) (List.range n) := ⟨fun i => by
    rw [List.mem_range]
    refine ⟨fun hi => ⟨hi, getD_in (by simp at hns ⊢; omega) (getD_replicate_false _ _)⟩, fun h => h.1⟩, List.pairwise_lt_range⟩
  have hfm : (List.range n).filterMap (l.toArray[·]?) = l.take n := by
    have hns' : n ≤ l.length := by simpa using hns
    clear h ht hseq hok inv0 hL0 hf hns
    induction n with
    | zero => rfl
    | succ n ih =>
      rw [List.range_succ, List.filterMap_append, ih (by omega), List.take_succ_eq_append_getElem (by omega)]
      simp [show n < l.length by omega]
  have := any_nix (P := P) (C := C) (C2 := C2) (Q := fun a' w' => wpList P l.toArray Q (l.drop n) a' w') (Q' := Q) (g := l.toArray.size - n) hCC hok hns (fun listed i inv hi hun t ht' => by
      rcases ht with h0 | ⟨h1, h2⟩
      · intro hr
        obtain ⟨_, o, ho, _⟩ := mem_ready.1 hr
        have := (Array.getElem?_eq_some_iff.1 ho).1
        omega
      · rcases Nat.lt_or_ge n l.toArray.size with h3 | h3
        · exact tail_waits h1 h2 h3 inv _ i rfl hi hun t ht'
        · intro hr
          obtain ⟨_, o, ho, _⟩ := mem_ready.1 hr
          have := (Array.getElem?_eq_some_iff.1 ho).1
          omega)
    (fun listed a' w' inv hall hq => by
      have he : listed = (Array.range l.toArray.size).map fun i => decide (i < n) := by
        apply Array.ext
        · rw [inv.size]; simp
        · intro i h1 h2
          have h3 : i < l.toArray.size := by rw [← inv.size]; exact h1
          have h4 : ((Array.range l.toArray.size).map fun i => decide (i < n))[i] = decide (i < n) := by simp
          rw [h4]
          rcases Nat.lt_or_ge i n with h5 | h5
          · have := hall i h5
            simp [h1] at this
            simp [this, h5]
          · have := inv.tail i h5 h3
            simp [h1] at this
            simp [this, Nat.not_lt.2 h5]
      have hdl : (l.drop n).length = l.toArray.size - n := by simp
      rw [← he] at hseq
      have := wpAny_of_seq (P := P) (md := .any) (ops := l.toArray) (Q' := Q) (l.drop n) n listed a' w' (fun j => by simp [List.getElem?_drop]) (by rw [hdl]; exact hseq) hq
      rwa [hdl] at this)
    n (Array.replicate l.toArray.size false) (List.range n) a w.drew (by simp) hL0 inv0 (hCC _ hC) (fun _ => hC) (by rw [hfm]; exact h)
  rw [show n + (l.toArray.size - n) = l.toArray.size by omega] at this
  exact this
end
section
variable {P : Program} {ops : Array Oper} {C C2 : World → Prop} {Q : Act → World → Prop} {o : Oper} {rest : List Oper} {a : Act} {w : World}
theorem nx_read (D : World → Prop) (hD : ∀ w, Cq C C2 o w → D w) (hp : plainB o = true) (h : wpQuiet P ops D (fun a' => wpNix P ops C C2 Q rest a' w) [o] a) : wpNix P ops C C2 Q (o :: rest) a w := by
  show nmix P ops C C2 o a w _
  unfold nmix
  have h : if Region.wanted o (yielded ops a.tmps) then o.quiet P a D (fun a' => wpNix P ops C C2 Q rest a' w) else wpNix P ops C C2 Q rest (a.put o.dst undef) w := h
  by_cases hw : Region.wanted o (yielded ops a.tmps) = true
  · rw [if_pos hw] at h ⊢
    rw [if_pos hp]
    obtain ⟨v, h1, h2⟩ := h
    refine ⟨v, fun w hC => ?_, h2⟩
    have h3 := h1 w (hD w hC)
    unfold Oper.quietAt at h3
    generalize hr : (execOp a.eval o).run P w = r at *
    cases r with
    | ok nx w' =>
      cases nx <;> simp only [Oper.quietUpon] at h3 <;> simp only [detUpon]
      case value u => exact h3
      case skip => exact h3
      case enter f args => exact absurd hr (plain_ne hp)
    | halt x w' => exact h3
  · rw [if_neg hw] at h ⊢
    exact h
/-- an operation that reads memory -/
theorem nx_load (hp : plainB o = true) (hu : pureB o = false) (h : wpQuiet P ops C (fun a' => wpNix P ops C C2 Q rest a' w) [o] a) : wpNix P ops C C2 Q (o :: rest) a w :=
  nx_read C (fun w hc => by unfold Cq at hc; rw [hu] at hc; exact hc) hp h
/-- an operation that reads none -/
theorem nx_pure (hp : plainB o = true) (hu : pureB o = true) (h : wpQuiet P ops C2 (fun a' => wpNix P ops C C2 Q rest a' w) [o] a) : wpNix P ops C C2 Q (o :: rest) a w :=
  nx_read C2 (fun w hc => by unfold Cq at hc; rw [hu] at hc; exact hc) hp h
theorem nx_skip (hw : Region.wanted o (yielded ops a.tmps) = false) (h : wpNix P ops C C2 Q rest (a.put o.dst undef) w) : wpNix P ops C C2 Q (o :: rest) a w := by
  show nmix P ops C C2 o a w _
  unfold nmix
  rw [hw]
  exact h
/-- a call -/
theorem nx_call {f : FuncId} {fn : Func} {x : Operand} {args : List Operand} {ty : Array TypeId} {cap vals : List Value} {post : Ending → World → Prop} (hf : P.funcs[f]? = some fn) (hname : (fn.name == "runtime.NumGoroutine" || fn.body.isNone) = false)
    (ho : o.op = .call { callee := .value x, args := args.toArray, argTypes := ty }) (hx : a.eval x = .func (.func f) #[] cap.toArray) (hv : args.map a.eval ++ cap = vals) (hw : Region.wanted o (yielded ops a.tmps) = true)
    (h : Calls P f vals.toArray w post) (hn : ∀ e w', post e w' → ∃ u, e = .returned u ∧ C w' ∧ wpNix P ops C C2 Q rest (a.put o.dst u) w') : wpNix P ops C C2 Q (o :: rest) a w := by
  show nmix P ops C C2 o a w _
  unfold nmix
  have hp : plainB o = false := by unfold plainB; rw [ho]
  have hc : clB o = false := by unfold clB; rw [ho]
  rw [if_pos hw, if_neg (by rw [hp]; decide)]
  have hr : (execOp a.eval o).run P w = .ok (.enter f vals.toArray) w := by
    rw [Bool.or_eq_false_iff] at hname
    have h1 : fn.name ≠ "runtime.NumGoroutine" := by simpa using hname.1
    have h2 : fn.body ≠ none := by intro e; have := hname.2; rw [e] at this; cases this
    subst hv
    simp [execOp, ho, resolve, hx, Deferred.ofValue, invoke, callFunc, hf, h1, h2]
  rw [hr]
  refine h.mono fun e w' he => ?_
  obtain ⟨u, h1, h2, h3⟩ := hn e w' he
  exact ⟨u, h1, by unfold Dq; rw [hc]; exact h2, h3⟩
/-- a deed whose run is known -/
theorem nx_make {u : Value} {w' : World} (hp : plainB o = false) (hc : clB o = false) (hw : Region.wanted o (yielded ops a.tmps) = true) (h : (execOp a.eval o).run P w = .ok (.value u) w') (hC : C w')
    (hn : wpNix P ops C C2 Q rest (a.put o.dst u) w') : wpNix P ops C C2 Q (o :: rest) a w := by
  show nmix P ops C C2 o a w _
  unfold nmix
  rw [if_pos hw, if_neg (by rw [hp]; decide), h]
  exact ⟨by unfold Dq; rw [hc]; exact hC, hn⟩
/-- a store -/
theorem nx_store {w' : World} (hp : plainB o = false) (hc : clB o = true) (hw : Region.wanted o (yielded ops a.tmps) = true) (h : (execOp a.eval o).run P w = .ok .skip w') (hC : C2 w')
    (hn : wpNix P ops C C2 Q rest (a.put o.dst undef) w') : wpNix P ops C C2 Q (o :: rest) a w := by
  show nmix P ops C C2 o a w _
  unfold nmix
  rw [if_pos hw, if_neg (by rw [hp]; decide), h]
  exact ⟨by unfold Dq; rw [hc]; exact hC, hn⟩
end
theorem kp_any {V w' : World} (hs : V.heap.size ≤ w'.heap.size) : ∃ q : Kp (fun _ => True) V, w' = q.nx := ⟨⟨w', hs, fun _ _ h => absurd trivial h⟩, rfl⟩
theorem kp_all {g : Nat → Prop} {V w' : World} (h : ∃ q : Kp g V, w' = q.nx) : ∃ q : Kp (fun _ => True) V, w' = q.nx := by
  obtain ⟨q, rfl⟩ := h; exact kp_any q.sz
end Go.Proofs.Ytpgpncngamagdaa.NE
