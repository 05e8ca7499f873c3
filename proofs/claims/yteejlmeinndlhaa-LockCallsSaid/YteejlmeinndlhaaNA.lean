/- Rows of owners (the reference's table). -/
import Derived.Test.YteejlmeinndlhaaAL
import Derived.Test.YteejlmeinndlhaaSG
import Derived.Test.YteejlmeinndlhaaST
set_option linter.unusedVariables false
set_option linter.unusedSimpArgs false
namespace Go.Proofs.Yteejlmeinndlhaa
open Go.RowKit Go.Maps
abbrev Nq := (Tx × List Rg) × Value
def nqc (q : Nq) : List Value := tc q.1.1 ++ [q.2]
def nqcs (L : List Nq) : List Value := (L.map nqc).flatten
theorem nqcs_get (L : List Nq) (i : Nat) (h : i < L.length) (j : Nat) (hj : j < 4) : (nqcs L)[i * 4 + j]? = (nqc L[i])[j]? := by
  induction L generalizing i with
  | nil => cases h
  | cons q L ih =>
    have e : nqcs (q :: L) = nqc q ++ nqcs L := by simp [nqcs]
    have hl : (nqc q).length = 4 := rfl
    rw [e]
    cases i with
    | zero => rw [List.getElem?_append_left (by omega)]; simp
    | succ i =>
      rw [List.getElem?_append_right (by omega), hl, show (i + 1) * 4 + j - 4 = i * 4 + j by omega]
      exact ih i (by simpa using h)
theorem nqcs_len (L : List Nq) : (nqcs L).length = L.length * 4 := by
  induction L with
  | nil => rfl
  | cons q L ih => have e : nqcs (q :: L) = nqc q ++ nqcs L := by simp [nqcs]
                   rw [e, List.length_append, ih, List.length_cons]; simp [nqc, tc]; omega
theorem nqcs_app (L M : List Nq) : nqcs (L ++ M) = nqcs L ++ nqcs M := by simp [nqcs]
theorem nqcs_take (L : List Nq) (m : Nat) : (nqcs L).take (m * 4) = nqcs (L.take m) := by
  induction L generalizing m with
  | nil => simp [nqcs]
  | cons q L ih =>
    cases m with
    | zero => simp [nqcs]
    | succ m =>
      have : nqcs (q :: L) = nqc q ++ nqcs L := by simp [nqcs]
      rw [this, List.take_succ_cons, show nqcs (q :: L.take m) = nqc q ++ nqcs (L.take m) by simp [nqcs], ← ih m]
      rw [show (m + 1) * 4 = m * 4 + 1 + 1 + 1 + 1 by omega]
      simp [nqc, tc]
theorem nqcs_drop (L : List Nq) (m : Nat) : (nqcs L).drop (m * 4) = nqcs (L.drop m) := by
  induction L generalizing m with
  | nil => simp [nqcs]
  | cons q L ih =>
    cases m with
    | zero => simp [nqcs]
    | succ m =>
      have : nqcs (q :: L) = nqc q ++ nqcs L := by simp [nqcs]
      rw [this, List.drop_succ_cons, ← ih m]
      rw [show (m + 1) * 4 = m * 4 + 1 + 1 + 1 + 1 by omega]
      simp [nqc, tc]
/-- v reads as the owners T -/
def Nws (A : Nat → Prop) (w : World) (v : Value) (T : Tb) : Prop := ∃ L : List Nq, L.map (·.1) = T ∧ Row 4 A w v L.length (nqcs L) ∧ (∀ q ∈ L, Rgs A w q.2 q.1.2) ∧ L.length * 48 ≤ lim
theorem Nws.up {A : Nat → Prop} {w w' : World} {v : Value} {T : Tb} (h : Nws A w v T) (hb : Below w.heap.size w w') : Nws A w' v T := by
  obtain ⟨L, h1, h2, h3, h4⟩ := h
  exact ⟨L, h1, h2.up hb, fun q hq => (h3 q hq).up hb, h4⟩
theorem Nws.monoS {A A' : Nat → Prop} {w : World} {v : Value} {T : Tb} (h : Nws A w v T) (hA : ∀ k, A k → A' k) : Nws A' w v T := by
  obtain ⟨L, h1, h2, h3, h4⟩ := h
  exact ⟨L, h1, h2.monoS hA, fun q hq => (h3 q hq).monoS hA, h4⟩
theorem Nws.wb {A X : Nat → Prop} {w w' : World} {v : Value} {T : Tb} (h : Nws A w v T) (hw : Wb X w w') (hX : ∀ k, X k → ¬ A k) : Nws A w' v T := by
  obtain ⟨L, h1, h2, h3, h4⟩ := h
  exact ⟨L, h1, h2.wb hw hX, fun q hq => (h3 q hq).wb hw hX, h4⟩
theorem nws_nil {A : Nat → Prop} {w : World} : Nws A w (.slice none 0 0) [] := ⟨[], rfl, ⟨rfl, none, 0, rfl, Nat.le_refl _, fun _ => rfl, fun j u hj => by simp [nqcs] at hj⟩, fun q hq => by simp at hq, by unfold lim; simp⟩
theorem Nws.sl {A : Nat → Prop} {w : World} {v : Value} {T : Tb} (h : Nws A w v T) : ∃ a c, v = .slice a T.length c := by
  obtain ⟨L, rfl, ⟨_, a, c, hv, _⟩, _⟩ := h
  exact ⟨a, c, by rw [hv, List.length_map]⟩
theorem Nws.at {A : Nat → Prop} {w : World} {v : Value} {T : Tb} (h : Nws A w v T) : ∃ (a : Option Addr) (c : Nat), v = .slice a T.length c ∧ T.length ≤ c ∧ T.length * 48 ≤ lim ∧
    ∀ j (hj : j < T.length), ∃ b o ua uc, a = some ⟨b, o, none⟩ ∧ A b ∧ (w.cell? ⟨b, o + j * 4, none⟩ = some (.int .u64 (T[j].1.1.toNat : Int)) ∧ w.cell? ⟨b, o + j * 4 + 1, none⟩ = some (.int .u64 (T[j].1.2.1.toNat : Int)) ∧ w.cell? ⟨b, o + j * 4 + 2, none⟩ = some (.int .u64 (T[j].1.2.2.toNat : Int)) ∧ w.cell? ⟨b, o + j * 4 + 3, none⟩ = some (.slice ua T[j].2.length uc)) ∧ Rgs A w (.slice ua T[j].2.length uc) T[j].2 := by
  obtain ⟨L, rfl, ⟨hl, a, c, hv, hc, ha, H⟩, h3, h4⟩ := h
  refine ⟨a, c, by rw [hv, List.length_map], by rw [List.length_map]; exact hc, by rw [List.length_map]; exact h4, fun j hj => ?_⟩
  have hj' : j < L.length := by simpa using hj
  have g := nqcs_get L j hj'
  have g0 := g 0 (by decide)
  have g1 := g 1 (by decide)
  have g2 := g 2 (by decide)
  have g3 := g 3 (by decide)
  unfold nqc tc at g0 g1 g2 g3
  obtain ⟨b, o, rfl, hA, e0⟩ := H _ _ g0
  obtain ⟨_, _, k, _, e1⟩ := H _ _ g1; cases k
  obtain ⟨_, _, k, _, e2⟩ := H _ _ g2; cases k
  obtain ⟨_, _, k, _, e3⟩ := H _ _ g3; cases k
  have hq := h3 L[j] (List.getElem_mem hj')
  obtain ⟨ua, uc, eu⟩ := hq.sl
  simp only [List.getElem_map]
  rw [eu] at e3 hq
  exact ⟨b, o, ua, uc, rfl, hA, ⟨e0, e1, e2, e3⟩, hq⟩
theorem box4 {w : World} {b : Nat} {c0 c1 c2 c3 : Value} {e : TypeId} (h : w.heap[b]? = some (.cells #[c0, c1, c2, c3] e (0, 0))) : w.cell? ⟨b, 0, none⟩ = some c0 ∧ w.cell? ⟨b, 1, none⟩ = some c1 ∧ w.cell? ⟨b, 2, none⟩ = some c2 ∧ w.cell? ⟨b, 3, none⟩ = some c3 := by
  refine ⟨?_, ?_, ?_, ?_⟩ <;> simp [World.cell?, h]
theorem row_one4 {w : World} {c0 c1 c2 c3 : Value} {e : TypeId} : Row 4 (Lt (w.heap.size + 1)) (w.alloc (.cells #[c0, c1, c2, c3] e)) (.slice (some ⟨w.heap.size, 0, none⟩) 1 1) 1 [c0, c1, c2, c3] := by
  refine ⟨rfl, _, _, rfl, Nat.le_refl _, by simp, fun j u hj => ⟨_, _, rfl, Nat.lt_succ_self _, ?_⟩⟩
  match j, hj with
  | 0, hj => simp at hj; subst hj; simp
  | 1, hj => simp at hj; subst hj; simp
  | 2, hj => simp at hj; subst hj; simp
  | 3, hj => simp at hj; subst hj; simp
theorem Try.info59 : (Try.prog.info? 59).map (fun i => (i.zero, i.size, i.bytes)) = some (some (.agg #[.int .u64 0, .int .u64 0, .int .u64 0, .slice none 0 0]), 4, 48) := by kernel_rfl
/-! the reference's table in plain words -/
def rrT (T : Tb) (x : Tx) (l : List Rg) : List Tx := (T.filter fun p => clsB p.2 l && !decide (p.1 = x)).map (·.1)
theorem rrT_eq {T : Tb} (h : Tsrt T) (x : Tx) (l : List Rg) : rrT T x l = rivT T x l := by
  unfold rrT rivT Stay noRiv
  rw [List.filter_map]
  congr 1
  refine List.filter_congr fun p hp => ?_
  simp only [Function.comp_def, tgz_of_mem h hp, Bool.not_or, Bool.not_not]
  rw [Bool.and_comm]
theorem rrT_take {T : Tb} {x : Tx} {l : List Rg} {k : Nat} (h : k < T.length) : rrT (T.take (k + 1)) x l = rrT (T.take k) x l ++ if clsB T[k].2 l && !decide (T[k].1 = x) then [T[k].1] else [] := by
  unfold rrT
  rw [List.take_succ_eq_append_getElem h, List.filter_append, List.map_append]
  congr 1
  cases hd : (clsB T[k].2 l && !decide (T[k].1 = x)) <;> simp [hd]
def delL (T : Tb) (x : Tx) : Tb := T.filter fun p => !decide (p.1 = x)
theorem delL_take {T : Tb} {x : Tx} {k : Nat} (h : k < T.length) : delL (T.take (k + 1)) x = delL (T.take k) x ++ if decide (T[k].1 = x) then [] else [T[k]] := by
  unfold delL
  rw [List.take_succ_eq_append_getElem h, List.filter_append]
  congr 1
  cases hd : decide (T[k].1 = x) <;> simp [hd]
theorem delL_eq : ∀ {T : Tb}, Tsrt T → ∀ x, delL T x = tdel T x
  | [], _, _ => rfl
  | (y, m) :: r, h, x => by
    have ht := delL_eq h.tail x
    unfold delL at ht ⊢
    by_cases e : x = y
    · subst e
      have h1 : ∀ p ∈ r, p.1 ≠ x := fun p hp e2 => by
        have := (List.pairwise_cons.1 h).1 p hp
        rw [e2] at this
        exact tk_irr _ this
      have h2 : r.filter (fun p => !decide (p.1 = x)) = r := List.filter_eq_self.2 fun p hp => by simp [h1 p hp]
      simp [tdel, h2]
    · have e' : ¬ y = x := fun h => e h.symm
      rw [List.filter_cons, if_pos (by simp [e'])]
      simp only [tdel, if_neg e, ht]
end Go.Proofs.Yteejlmeinndlhaa
