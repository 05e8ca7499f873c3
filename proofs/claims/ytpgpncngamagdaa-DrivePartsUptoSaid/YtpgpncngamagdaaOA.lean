/- Rows of acts; what a list of acts that was handed in reads as. -/
import Derived.Test.YtpgpncngamagdaaPV
import Derived.Test.YtpgpncngamagdaaGL
set_option linter.unusedVariables false
set_option linter.unusedSimpArgs false
namespace Go.Proofs.Ytpgpncngamagdaa
open Go.RowKit
open Go.WideShapes
abbrev Aq := Ac × Value
def ac (q : Aq) : List Value := [.int .i64 q.1.kind, .string ⟨q.1.nm.toArray⟩, .string ⟨q.1.tn.toArray⟩, .int .i64 q.1.n, q.2]
def acs (L : List Aq) : List Value := (L.map ac).flatten
theorem acs_five (L : List Aq) : ∀ c ∈ L.map ac, c.length = 5 := by
  intro c hc; obtain ⟨q, _, rfl⟩ := List.mem_map.1 hc; rfl
theorem acs_get (L : List Aq) (i : Nat) (h : i < L.length) (j : Nat) (hj : j < 5) : (acs L)[i * 5 + j]? = (ac L[i])[j]? := by
  unfold acs
  rw [flatten_get (by decide) _ (acs_five L)]
  rw [show (i * 5 + j) / 5 = i by omega, show (i * 5 + j) % 5 = j by omega]
  simp [h]
/-- an act in form -/
def Ain (x : Ac) : Prop := x.nm.length ≤ maxLen ∧ x.tn.length ≤ maxLen ∧ -9223372036854775808 ≤ x.n ∧ x.n ≤ 9223372036854775807
/-- v reads as the acts l -/
def As (A : Nat → Prop) (w : World) (v : Value) (l : List Ac) : Prop := ∃ L : List Aq, L.map (·.1) = l ∧ Row 5 A w v L.length (acs L) ∧ (∀ q ∈ L, Bs A w q.2 q.1.da ∧ Ain q.1) ∧ L.length * 72 ≤ lim
theorem As.up {A : Nat → Prop} {w w' : World} {v : Value} {l : List Ac} (h : As A w v l) (hb : Below w.heap.size w w') : As A w' v l := by
  obtain ⟨L, h1, h2, h3, h4⟩ := h
  exact ⟨L, h1, h2.up hb, fun q hq => ⟨(h3 q hq).1.up hb, (h3 q hq).2⟩, h4⟩
theorem As.keepS {A : Nat → Prop} {w w' : World} {v : Value} {l : List Ac} (h : As A w v l) (hb : Same A w w') : As A w' v l := by
  obtain ⟨L, h1, h2, h3, h4⟩ := h
  exact ⟨L, h1, h2.keepS hb, fun q hq => ⟨(h3 q hq).1.keepS hb, (h3 q hq).2⟩, h4⟩
theorem As.monoS {A A' : Nat → Prop} {w : World} {v : Value} {l : List Ac} (h : As A w v l) (hA : ∀ k, A k → A' k) : As A' w v l := by
  obtain ⟨L, h1, h2, h3, h4⟩ := h
  exact ⟨L, h1, h2.monoS hA, fun q hq => ⟨(h3 q hq).1.monoS hA, (h3 q hq).2⟩, h4⟩
theorem As.andLt {A : Nat → Prop} {w : World} {v : Value} {l : List Ac} (h : As A w v l) : As (fun k => A k ∧ k < w.heap.size) w v l := by
  have row : ∀ {sz n : Nat} {v : Value} {vs : List Value}, Row sz A w v n vs → Row sz (fun k => A k ∧ k < w.heap.size) w v n vs := by
    intro sz n v vs h
    obtain ⟨hl, a, c, rfl, hc, ha, H⟩ := h
    refine ⟨hl, a, c, rfl, hc, ha, fun j u hj => ?_⟩
    obtain ⟨b, o, h1, h2, h3⟩ := H j u hj
    exact ⟨b, o, h1, ⟨h2, World.block_lt_of_cell? w ⟨b, o + j, none⟩ h3⟩, h3⟩
  obtain ⟨L, h1, h2, h3, h4⟩ := h
  exact ⟨L, h1, row h2, fun q hq => ⟨⟨row (h3 q hq).1.1, (h3 q hq).1.2⟩, (h3 q hq).2⟩, h4⟩
theorem As.at {A : Nat → Prop} {w : World} {v : Value} {l : List Ac} (h : As A w v l) : ∃ (a : Option Addr) (c : Nat), v = .slice a l.length c ∧ l.length ≤ c ∧ (a = none → c = 0) ∧ l.length * 72 ≤ lim ∧
    ∀ j (hj : j < l.length), ∃ b o u, a = some ⟨b, o, none⟩ ∧ (w.cell? ⟨b, o + j * 5, none⟩ = some (.int .i64 l[j].kind) ∧ w.cell? ⟨b, o + j * 5 + 1, none⟩ = some (.string ⟨l[j].nm.toArray⟩) ∧ w.cell? ⟨b, o + j * 5 + 2, none⟩ = some (.string ⟨l[j].tn.toArray⟩) ∧ w.cell? ⟨b, o + j * 5 + 3, none⟩ = some (.int .i64 l[j].n) ∧ w.cell? ⟨b, o + j * 5 + 4, none⟩ = some u) ∧ Bs A w u l[j].da ∧ Ain l[j] := by
  obtain ⟨L, rfl, ⟨hl, a, c, hv, hc, ha, H⟩, h3, h4⟩ := h
  refine ⟨a, c, by rw [hv, List.length_map], by rw [List.length_map]; exact hc, ha, by rw [List.length_map]; exact h4, fun j hj => ?_⟩
  have hj' : j < L.length := by simpa using hj
  have g := acs_get L j hj'
  have g0 := g 0 (by decide)
  have g1 := g 1 (by decide)
  have g2 := g 2 (by decide)
  have g3 := g 3 (by decide)
  have g4 := g 4 (by decide)
  unfold ac at g0 g1 g2 g3 g4
  obtain ⟨b, o, rfl, hA, e0⟩ := H _ _ g0
  obtain ⟨_, _, k, _, e1⟩ := H _ _ g1; cases k
  obtain ⟨_, _, k, _, e2⟩ := H _ _ g2; cases k
  obtain ⟨_, _, k, _, e3⟩ := H _ _ g3; cases k
  obtain ⟨_, _, k, _, e4⟩ := H _ _ g4; cases k
  have := h3 L[j] (List.getElem_mem hj')
  simp only [List.getElem_map]
  exact ⟨b, o, L[j].2, rfl, ⟨e0, e1, e2, e3, e4⟩, this.1, this.2⟩
/-- cut to at most n acts -/
theorem As.take {A : Nat → Prop} {w : World} {a : Option Addr} {n c m : Nat} {l : List Ac} (h : As A w (.slice a n c) l) (hm : m ≤ l.length) : As A w (.slice a m c) (l.take m) := by
  obtain ⟨L, rfl, hrow, h3, h4⟩ := h
  rw [List.length_map] at hm
  have hnL : n = L.length := by obtain ⟨_, _, _, e, _⟩ := hrow; cases e; rfl
  subst hnL
  have hr := Row.cutToN hrow hm
  have e1 : (acs L).take (m * 5) = acs (L.take m) := by
    clear hrow hr h3 h4
    induction L generalizing m with
    | nil => simp [acs]
    | cons q L ih =>
      cases m with
      | zero => simp [acs]
      | succ m =>
        have : acs (q :: L) = ac q ++ acs L := by simp [acs]
        rw [this, List.take_succ_cons, show acs (q :: L.take m) = ac q ++ acs (L.take m) by simp [acs], ← ih (by simp at hm; omega)]
        rw [show (m + 1) * 5 = m * 5 + 1 + 1 + 1 + 1 + 1 by omega]
        simp [ac]
  have e2 : (L.take m).length = m := by rw [List.length_take]; omega
  rw [e1] at hr
  refine ⟨L.take m, List.map_take, by rw [e2]; exact hr, fun q hq => h3 q (List.mem_of_mem_take hq), by rw [e2]; omega⟩
def numOf {H : Type} (d : DataW H) : Int := match d with | .lit (.int _ n) => n | _ => 0
def txtOf {H : Type} (d : DataW H) : By := match d with | .lit (.string b) => b | _ => []
def actOf {H : Type} (d : DataW H) : Ac := match d with | .agg [d0, d1, d2, d3, d4] => ⟨numOf d0, txtOf d1, txtOf d2, numOf d3, bytesOf d4⟩ | _ => ⟨0, [], [], 0, []⟩
def actsOf {H : Type} (d : DataW H) : List Ac := match d with | .slice elems _ => elems.map actOf | _ => []
set_option maxRecDepth 100000 in
/-- an act -/
theorem open_act {H : Type} {enc : TypeId × Value → H} {W : World} {base : Nat} {spare : Nat → Bool} {held : Bool} {fuel : Nat} {cs : List Value} {x : DataW H × List MemPlace} (h4 : cs.length = 5)
    (h : DataW.trod enc Try.prog W base spare held fuel 55 cs = some x) (hz : Sz Try.prog 55 x.1) : ∃ u, cs = ac (actOf x.1, u) ∧ Bs (Lt W.heap.size) W u (actOf x.1).da ∧ Ain (actOf x.1) := by
  obtain ⟨xs, n, _, hx, hl, hlen, hf⟩ := DataW.trod_struct Try.underlying55 h
  have f0 := hf 0 _ rfl
  have f1 := hf 1 _ rfl
  have f2 := hf 2 _ rfl
  have f3 := hf 3 _ rfl
  have f4 := hf 4 _ rfl
  obtain ⟨y0, y1, y2, y3, y4, rfl⟩ : ∃ y0 y1 y2 y3 y4, xs = [y0, y1, y2, y3, y4] := by
    match xs, hlen with
    | [y0, y1, y2, y3, y4], _ => exact ⟨y0, y1, y2, y3, y4, rfl⟩
  obtain ⟨q0, q1, q2, q3, q4, rfl⟩ : ∃ q0 q1 q2 q3 q4, cs = [q0, q1, q2, q3, q4] := by
    match cs, h4 with
    | [q0, q1, q2, q3, q4], _ => exact ⟨q0, q1, q2, q3, q4, rfl⟩
  have k3 : Try.prog.cellsOf 3 = 1 := by kernel_rfl
  have k9 : Try.prog.cellsOf 9 = 1 := by kernel_rfl
  have k22 : Try.prog.cellsOf 22 = 1 := by kernel_rfl
  simp only [k3, k9, k22, List.drop_zero, List.drop_succ_cons, List.take_succ_cons, List.take_zero, List.getElem?_cons_zero, List.getElem?_cons_succ] at f0 f1 f2 f3 f4
  subst hx
  have hz' : Sz Try.prog 22 y4.1 := by
    unfold Sz at hz ⊢
    rw [List.all_eq_true] at hz ⊢
    intro m hm
    refine hz m ?_
    simp only [List.map_cons, List.map_nil, DataW.weights, Try.underlying55, DataW.weightsEach, List.mem_append]
    simp [hm]
  obtain ⟨m, a1, a2, a3⟩ := DataW.trod_int Try.underlying3 f0
  obtain ⟨s1, b1, b2, b3⟩ := DataW.trod_string Try.underlying9 f1
  obtain ⟨s2, c1, c2, c3⟩ := DataW.trod_string Try.underlying9 f2
  obtain ⟨m3, e1, e2, e3⟩ := DataW.trod_int Try.underlying3 f3
  obtain ⟨v3, g3, r3⟩ := open_bs Try.underlying22 Try.underlying5 (by kernel_rfl) (by kernel_rfl) f4 hz'
  obtain rfl : q0 = .int .i64 m := (List.cons.inj (show [q0] = [Value.int .i64 m] from a1)).1
  obtain rfl : q1 = .string s1 := (List.cons.inj (show [q1] = [Value.string s1] from b1)).1
  obtain rfl : q2 = .string s2 := (List.cons.inj (show [q2] = [Value.string s2] from c1)).1
  obtain rfl : q3 = .int .i64 m3 := (List.cons.inj (show [q3] = [Value.int .i64 m3] from e1)).1
  obtain rfl : q4 = v3 := (List.cons.inj (show [q4] = [v3] from g3)).1
  have x0 : numOf y0.1 = m := by rw [a2]; rfl
  have x1 : txtOf y1.1 = s1.data.toList := by rw [b2]; rfl
  have x2 : txtOf y2.1 = s2.data.toList := by rw [c2]; rfl
  have x3 : numOf y3.1 = m3 := by rw [e2]; rfl
  refine ⟨q4, ?_, r3, ?_, ?_, ?_⟩
  · simp [ac, actOf, x0, x1, x2, x3]
  · simp only [actOf, List.map_cons, List.map_nil, x1]; simpa using b3
  · simp only [actOf, List.map_cons, List.map_nil, x2]; simpa using c3
  · simp only [actOf, List.map_cons, List.map_nil, x3]
    have e4 := e3
    simp only [Lit.wf, Bool.and_eq_true, decide_eq_true_eq] at e4
    exact e4
/-- []Act -/
theorem open_acts {H : Type} {enc : TypeId × Value → H} {W : World} {base : Nat} {spare : Nat → Bool} {held : Bool} {fuel : Nat} {cs : List Value} {x : DataW H × List MemPlace}
    (h : DataW.trod enc Try.prog W base spare held fuel 41 cs = some x) (hz : Sz Try.prog 41 x.1) : ∃ v, cs = [v] ∧ As (Lt W.heap.size) W v (actsOf x.1) := by
  obtain ⟨v, css, ds, h1, h2, h3, h4, h5, h6, h7⟩ := open_rows (k := 5) Try.underlying41 (by kernel_rfl) (by decide) h hz
  have h9 : actsOf x.1 = ds.map actOf := by
    rcases h7 with ⟨h7, rfl⟩ | ⟨sp, h7⟩ <;> rw [h7] <;> rfl
  have hex : ∀ i (hi : i < css.length), ∃ u, css[i] = ac (actOf (ds[i]'(by omega)), u) ∧ Bs (Lt W.heap.size) W u (actOf (ds[i]'(by omega))).da ∧ Ain (actOf (ds[i]'(by omega))) := by
    intro i hi
    obtain ⟨n, ps, h10, hz'⟩ := h6 i hi (by omega)
    exact open_act (h3 _ (List.getElem_mem hi)) h10 hz'
  refine ⟨v, h1, (List.range css.length).attach.map fun i => (actOf (ds[i.1]'(by have := List.mem_range.1 i.2; omega)), Classical.choose (hex i.1 (List.mem_range.1 i.2))), ?_, ?_, ?_, ?_⟩
  · rw [h9]
    apply List.ext_getElem
    · simp [h4]
    · intro i a b; simp
  · have e : acs ((List.range css.length).attach.map fun i => (actOf (ds[i.1]'(by have := List.mem_range.1 i.2; omega)), Classical.choose (hex i.1 (List.mem_range.1 i.2)))) = css.flatten := by
      unfold acs
      congr 1
      apply List.ext_getElem
      · simp
      · intro i a b
        simp only [List.getElem_map, List.getElem_attach, List.getElem_range]
        exact (Classical.choose_spec (hex i b)).1.symm
    rw [e]
    simpa using h2
  · intro q hq
    obtain ⟨i, hi, rfl⟩ := List.mem_map.1 hq
    exact (Classical.choose_spec (hex i.1 (List.mem_range.1 i.2))).2
  · simp only [List.length_map, List.length_attach, List.length_range]
    have hb : Try.prog.bytesOf 55 = 72 := by kernel_rfl
    rw [hb] at h5
    have : reachBytes = lim := by decide
    omega
end Go.Proofs.Ytpgpncngamagdaa
