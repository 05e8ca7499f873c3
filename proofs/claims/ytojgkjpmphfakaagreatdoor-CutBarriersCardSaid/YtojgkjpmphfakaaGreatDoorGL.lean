/- From a walk of a law ('it returns true, and what lay in memory lies as it lay') to the post of its row. No program is named here. What an argument that was handed in reads as. No program is named here. -/
import Derived.Test.YtojgkjpmphfakaaGreatDoorGK
import Derived.ProofKit
import Derived.SizedLaws
import Derived.ChangeSlices
import Derived.ChangeMaps5
set_option linter.unusedVariables false
set_option linter.unusedSimpArgs false
namespace Go.Proofs.YtojgkjpmphfakaaGreatDoor
open Go.RowKit
open Go.ChangeShapes Go.WideShapes Go.ChangeAt

theorem all_stay {H : Type} {enc : TypeId × Value → H} {P : Program} (hl : laidOutB P = true) {W W' : World} {sp : Nat → Bool} (hb : Below W.heap.size W W') : ∀ (ts : List TypeId) (vs : List Value) (ds : List (DataW H)) (ps : List MemPlace),
    (ts.all fun t => P.readableRec t && decide (t < P.types.size)) = true → DataW.TrodAll enc P W 0 (fun _ => true) true ts vs ds ps → (∀ x ∈ ps, x.block < W.heap.size) → (∀ x ∈ ps, sp x.block = true) → DataW.TrodAll enc P W' 0 sp true ts vs ds ps
  | [], vs, ds, ps, _, h, _, _ => by
    obtain ⟨rfl, rfl, rfl⟩ := trodAll_nil h
    exact trodAll_mk0
  | t :: ts, vs, ds, ps, ha, h, hlt, hsp => by
    obtain ⟨v, vs', d, ds', p, q, rfl, rfl, rfl, h1, h2⟩ := trodAll_cons h
    simp only [List.all_cons, Bool.and_eq_true, decide_eq_true_eq] at ha
    exact ⟨p, q, WideElems.Trod_stays hl ha.1.1 ha.1.2 h1 (fun x hx => hb.same (hlt x (List.mem_append_left _ hx))) (fun x hx => hsp x (List.mem_append_left _ hx)),
      all_stay hl hb ts vs' ds' q ha.2 h2 (fun x hx => hlt x (List.mem_append_right _ hx)) (fun x hx => hsp x (List.mem_append_right _ hx)), rfl⟩

theorem law_post {H : Type} {enc : TypeId × Value → H} {P : Program} {f : Func} {s : ChangeSpec} {apart fresh handsOn again : Bool} {t : TypeId} {W W' : World} {args : Array Value} {ds gs : List (DataW H)} {before : List MemPlace}
    (hl : laidOutB P = true) (hp : (f.params.toList.all fun t => P.readableRec t && decide (t < P.types.size)) = true) (hr : f.resultTypes = #[t]) (ht : P.underlying t = some .bool) (hv : s.vars = [])
    (hW : DataW.Whole enc P f.params.toList s.vars apart W args.toList ds gs before) (hs : s.fn H ds = { results := [.lit (.bool true)], args := ds }) (hb : Below W.heap.size W W') :
    s.post enc P f apart fresh handsOn again W args (.bool true) W' := by
  have hlt := hW.lt
  have hW0 := hW
  obtain ⟨p, q, hA, hV, rfl, hfz, hnd⟩ := hW
  rw [hv] at hV
  obtain ⟨rfl, rfl⟩ := trodVars_none hV
  simp only [List.append_nil] at hlt hfz hnd hW0
  have e1 : (s.fn H (ds ++ [])) = { results := [.lit (.bool true)], args := ds } := by rw [List.append_nil]; exact hs
  have hargs : ∀ sp : Nat → Bool, (∀ x ∈ p, sp x.block = true) → DataW.TrodAll enc P W' 0 sp true f.params.toList args.toList ds p := fun sp hsp => all_stay hl hb _ _ _ _ hp hA hlt hsp
  have hres : ∀ (b : Nat) (sp : Nat → Bool) (hd : Bool), DataW.TrodAll enc P W' b sp hd f.resultTypes.toList ((Value.bool true).resultList f.resultTypes.size) [.lit (.bool true)] [] := by
    intro b sp hd
    rw [hr]
    exact trodAll_mk1 (shut_bool ht true)
  refine ⟨ds, [], p, [], p, [], hW0, by rw [e1]; exact hres _ _ _, by rw [e1]; exact hargs _ (fun x hx => by simpa using hlt x hx), ?_, ?_, fun _ => ⟨?_, .lit (.bool true) :: ds, [], p, ⟨p, [], ?_, ?_, by simp, ?_, hnd⟩, fun x hx _ => hx⟩⟩
  · rw [e1, hv]; rfl
  · exact World.keptBut_mono (fun x hx => ⟨hx, Or.inr (Or.inl hx)⟩) (hb.frame (· ∈ p))
  · exact ok_one hr rfl (okWide_bool_mk ht true)
  · have := trodAll_append (hargs (fun _ => true) (fun _ _ => rfl)) (hres 0 (fun _ => true) true)
    simpa using this
  · rw [hv]; rfl
  · intro b off hx
    rw [hb.frozen (p := ⟨b, off, none⟩) (hlt _ hx)]
    exact hfz b off hx
end Go.Proofs.YtojgkjpmphfakaaGreatDoor
set_option linter.unusedVariables false
set_option linter.unusedSimpArgs false
namespace Go.Proofs.YtojgkjpmphfakaaGreatDoor
open Go.RowKit
section
variable {H : Type} {enc : TypeId × Value → H} {P : Program} {W : World} {base : Nat} {spare : Nat → Bool} {held : Bool}
/-- what is read weighs no more than the reach -/
def Sz (P : Program) (t : TypeId) (d : DataW H) : Prop := (DataW.weights P t d).all (· ≤ reachBytes) = true
theorem sz_each {ts : List TypeId} {ds : List (DataW H)} (h : (DataW.weightsEach P ts ds).all (· ≤ reachBytes) = true) {j : Nat} {t : TypeId} {d : DataW H} (ht : ts[j]? = some t) (hd : ds[j]? = some d) : Sz P t d := by
  unfold Sz
  rw [List.all_eq_true] at h ⊢
  exact fun n hn => h n (DataW.weights_mem_each ht hd n hn)
theorem weights_mem_all {e : TypeId} : ∀ {l : List (DataW H)} {d : DataW H}, d ∈ l → ∀ n ∈ d.weights P e, n ∈ DataW.weightsAll P e l
  | x :: l, d, hd, n, hn => by
    rw [DataW.weightsAll, List.mem_append]
    rcases List.mem_cons.1 hd with rfl | h
    · exact .inl hn
    · exact .inr (weights_mem_all h n hn)
theorem flatten_get {k : Nat} (hk : 0 < k) : ∀ (css : List (List Value)), (∀ c ∈ css, c.length = k) → ∀ j, css.flatten[j]? = css[j / k]?.bind (·[j % k]?)
  | [], _, j => by simp
  | c :: css, h, j => by
    have hc := h c (List.mem_cons_self ..)
    rw [List.flatten_cons]
    by_cases hj : j < k
    · rw [List.getElem?_append_left (by omega), Nat.div_eq_of_lt hj, Nat.mod_eq_of_lt hj]; rfl
    · rw [List.getElem?_append_right (by omega), flatten_get hk css (fun c' h' => h c' (List.mem_cons_of_mem _ h')), hc]
      have : j / k = (j - k) / k + 1 := by
        have := Nat.sub_mul_div_of_le (x := j) (n := k) (p := 1) (by omega)
        rw [Nat.mul_one] at this
        have h2 : 1 ≤ j / k := (Nat.le_div_iff_mul_le hk).2 (by omega)
        omega
      rw [this, List.getElem?_cons_succ]
      have h3 : j % k = (j - k) % k := by
        conv => lhs; rw [show j = (j - k) + k from by omega]
        simp
      rw [h3]
theorem flatten_len {k : Nat} : ∀ (css : List (List Value)), (∀ c ∈ css, c.length = k) → css.flatten.length = css.length * k
  | [], _ => by simp
  | c :: css, h => by
    rw [List.flatten_cons, List.length_append, h c (List.mem_cons_self ..), flatten_len css (fun c' h' => h c' (List.mem_cons_of_mem _ h')), List.length_cons, Nat.add_mul]; omega
/-- a slice that was handed in, its elements of k cells each -/
theorem open_rows {t e : TypeId} {k fuel : Nat} {cs : List Value} {x : DataW H × List MemPlace} (ht : P.underlying t = some (.slice e)) (hc : P.cellsOf e = k) (hk : 0 < k)
    (h : DataW.trod enc P W base spare held fuel t cs = some x) (hz : Sz P t x.1) :
    ∃ (v : Value) (css : List (List Value)) (ds : List (DataW H)), cs = [v] ∧ Row k (Lt W.heap.size) W v css.length css.flatten ∧ (∀ c ∈ css, c.length = k) ∧ ds.length = css.length ∧ css.length * P.bytesOf e ≤ reachBytes ∧
      (∀ i (h : i < css.length) (h' : i < ds.length), ∃ n ps, DataW.trod enc P W base spare held n e css[i] = some (ds[i], ps) ∧ Sz P e ds[i]) ∧ (x.1 = .nil ∧ ds = [] ∨ ∃ sp, x.1 = .slice ds sp) := by
  rcases DataW.trod_slice ht h with ⟨rfl, rfl⟩ | ⟨a, len, cap, elems, rest, n, _, rfl, rfl, hb, hl, hm, hlen, hel, _, _⟩
  · refine ⟨_, [], [], rfl, ⟨by simp, none, 0, rfl, Nat.le_refl _, fun _ => rfl, fun j u hj => by simp at hj⟩, by simp, rfl, by simp, fun i h => by simp at h, .inl ⟨rfl, rfl⟩⟩
  · rw [hc] at hel
    have hex : ∀ i, i < len → ∃ cs', W.cells? base (a.add (i * k)) k = some cs' ∧ DataW.trod enc P W base spare held n e cs' = elems[i]? := by
      intro i hi
      have h1 := hel i hi
      have h2 : i < elems.length := by omega
      rw [List.getElem?_eq_getElem h2] at h1
      obtain ⟨cs', h3, h4⟩ := Option.bind_eq_some_iff.1 h1
      exact ⟨cs', h3, by rw [h4, List.getElem?_eq_getElem h2]⟩
    have hlenC : ((List.range len).map fun i => (W.cells? base (a.add (i * k)) k).getD []).length = len := by simp
    have hgetC : ∀ i (hi : i < len), ((List.range len).map fun i => (W.cells? base (a.add (i * k)) k).getD [])[i]? = W.cells? base (a.add (i * k)) k := by
      intro i hi
      obtain ⟨cs', h3, _⟩ := hex i hi
      simp [hi, h3]
    generalize ((List.range len).map fun i => (W.cells? base (a.add (i * k)) k).getD []) = css at *
    have hone : ∀ c ∈ css, c.length = k := by
      intro c hcm
      obtain ⟨i, hi, rfl⟩ := List.mem_iff_getElem.1 hcm
      have h1 := hgetC i (by omega)
      rw [List.getElem?_eq_getElem hi] at h1
      exact (World.cells?_some h1.symm).2.1
    have hzz := hz
    refine ⟨_, css, elems.map (·.1), rfl, ⟨?_, _, cap, by rw [hlenC], by omega, by simp, fun j u hj => ?_⟩, hone, by simp; omega, ?_, fun i hi hi' => ?_, .inr ⟨_, rfl⟩⟩
    · exact flatten_len css hone
    · rw [flatten_get hk css hone] at hj
      obtain ⟨c, h1, h2⟩ := Option.bind_eq_some_iff.1 hj
      have hi : j / k < len := by have := (List.getElem?_eq_some_iff.1 h1).1; omega
      have h3 := hgetC (j / k) hi
      rw [h1] at h3
      have h4 := (World.cells?_some h3.symm).2.2 (j % k) (Nat.mod_lt _ hk)
      rw [h2] at h4
      have h6 : W.cell? a ≠ none := by
        obtain ⟨cs', h7, _⟩ := hex 0 (Nat.lt_of_le_of_lt (Nat.zero_le _) hi)
        have h8 := World.cells?_some h7
        have h9 := h8.2.2 0 hk
        rw [List.getElem?_eq_getElem (by omega)] at h9
        rw [show (a.add (0 * k)).add 0 = a from by simp [Addr.add]] at h9
        rw [h9]; simp
      obtain ⟨b, o, i⟩ := a
      cases i with
      | some i => exact absurd (by unfold World.cell?; dsimp only; split <;> simp) h6
      | none =>
        have hadd : ((⟨b, o, none⟩ : Addr).add (j / k * k)).add (j % k) = ⟨b, o + j, none⟩ := by
          have e1 : ∀ m, (⟨b, o, none⟩ : Addr).add m = ⟨b, o + m, none⟩ := fun m => by unfold Addr.add; split <;> simp_all
          have e2 : ∀ q m, (⟨b, q, none⟩ : Addr).add m = ⟨b, q + m, none⟩ := fun q m => by unfold Addr.add; split <;> simp_all
          have : j / k * k + j % k = j := by rw [Nat.mul_comm]; exact Nat.div_add_mod j k
          rw [e2, e2, Nat.add_assoc, this]
        rw [hadd] at h4
        exact ⟨b, o, rfl, World.block_lt_of_cell? W ⟨b, o + j, none⟩ h4, h4⟩
    · unfold Sz at hz
      rw [List.all_eq_true] at hz
      have := hz ((elems.length + rest.length) * P.bytesOf e) (by simp [DataW.weights, ht])
      simp only [decide_eq_true_eq] at this
      rw [hlenC, ← hlen]
      exact Nat.le_trans (Nat.mul_le_mul_right _ (by omega)) this
    · have hi2 : i < len := by omega
      obtain ⟨cs', h3, h4⟩ := hex i hi2
      have h5 := hgetC i hi2
      rw [h3, List.getElem?_eq_getElem hi] at h5
      rw [Option.some.inj h5]
      have hie : i < elems.length := by omega
      refine ⟨n, elems[i].2, by rw [h4, List.getElem?_eq_getElem hie]; simp, ?_⟩
      unfold Sz at hz ⊢
      rw [List.all_eq_true] at hz ⊢
      intro m hm
      refine hz m ?_
      simp only [DataW.weights, ht, List.mem_cons, List.mem_append]
      exact .inr (.inl (weights_mem_all (List.mem_map.2 ⟨elems[i], List.getElem_mem hie, rfl⟩) m (by simpa using hm)))
theorem sz_elem {t e : TypeId} (ht : P.underlying t = some (.slice e)) : True := trivial
theorem flat_one : ∀ vs : List Value, (vs.map (fun v => [v])).flatten = vs
  | [] => rfl
  | v :: vs => by rw [List.map_cons, List.flatten_cons, flat_one vs]; rfl
theorem cells_one {css : List (List Value)} (h : ∀ c ∈ css, c.length = 1) : ∃ vs : List Value, css = vs.map (fun v => [v]) := by
  induction css with
  | nil => exact ⟨[], rfl⟩
  | cons c css ih =>
    obtain ⟨vs, rfl⟩ := ih (fun c' h' => h c' (List.mem_cons_of_mem _ h'))
    obtain ⟨v, rfl⟩ := List.length_eq_one_iff.1 (h c (List.mem_cons_self ..))
    exact ⟨v :: vs, rfl⟩
/-- .. of one cell each -/
theorem open_row1 {t e : TypeId} {fuel : Nat} {cs : List Value} {x : DataW H × List MemPlace} (ht : P.underlying t = some (.slice e)) (hc : P.cellsOf e = 1)
    (h : DataW.trod enc P W base spare held fuel t cs = some x) (hz : Sz P t x.1) :
    ∃ (v : Value) (vs : List Value) (ds : List (DataW H)), cs = [v] ∧ Row 1 (Lt W.heap.size) W v vs.length vs ∧ ds.length = vs.length ∧ vs.length * P.bytesOf e ≤ reachBytes ∧
      (∀ i (h : i < vs.length) (h' : i < ds.length), ∃ n ps, DataW.trod enc P W base spare held n e [vs[i]] = some (ds[i], ps) ∧ Sz P e ds[i]) ∧ (x.1 = .nil ∧ ds = [] ∨ ∃ sp, x.1 = .slice ds sp) := by
  obtain ⟨v, css, ds, h1, h2, h3, h4, h5, h6, h7⟩ := open_rows ht hc (by decide) h hz
  obtain ⟨vs, rfl⟩ := cells_one h3
  refine ⟨v, vs, ds, h1, ?_, by simpa using h4, by simpa using h5, fun i hi hi' => ?_, h7⟩
  · have e1 : (vs.map (fun v => [v])).flatten = vs := flat_one vs
    rw [e1, List.length_map] at h2; exact h2
  · have := h6 i (by simpa using hi) hi'
    simpa using this
def byteOf (d : DataW H) : UInt8 := match d with | .lit (.int _ n) => UInt8.ofNat n.toNat | _ => 0
def bytesOf (d : DataW H) : List UInt8 := match d with | .slice elems _ => elems.map byteOf | _ => []
theorem lits_bytes {k : IntKind} {vs : List Value} {ds : List (DataW H)} (hk : k = .u8) (hl : ds.length = vs.length) (h : ∀ i (h : i < vs.length) (h' : i < ds.length), ∃ n : Int, vs[i] = .int k n ∧ ds[i] = .lit (.int k n) ∧ (Lit.int k n).wf = true) : vs = bv (ds.map byteOf) := by
  apply List.ext_getElem (by simp [hl])
  intro i h1 h2
  obtain ⟨n, e1, e2, e3⟩ := h i h1 (by omega)
  subst hk
  have e4 : 0 ≤ n ∧ n < 256 := by
    simp only [Lit.wf, Bool.and_eq_true, decide_eq_true_eq] at e3
    have a1 : IntKind.u8.min = 0 := rfl
    have a2 : IntKind.u8.max = 255 := rfl
    omega
  simp only [bv, List.getElem_map, e1, e2, byteOf]
  congr 1
  simp; omega
/-- []byte -/
theorem open_bs {t e : TypeId} {fuel : Nat} {cs : List Value} {x : DataW H × List MemPlace} (ht : P.underlying t = some (.slice e)) (he : P.underlying e = some (.int .u8)) (hc : P.cellsOf e = 1) (hb : P.bytesOf e = 1)
    (h : DataW.trod enc P W base spare held fuel t cs = some x) (hz : Sz P t x.1) :
    ∃ v, cs = [v] ∧ Bs (Lt W.heap.size) W v (bytesOf x.1) := by
  obtain ⟨v, vs, ds, h1, h2, h4, h5, h6, h7⟩ := open_row1 ht hc h hz
  have h8 : vs = bv (ds.map byteOf) := by
    refine lits_bytes rfl h4 fun i hi hi' => ?_
    obtain ⟨n, ps, h9, _⟩ := h6 i hi hi'
    obtain ⟨m, e1, e2, e3⟩ := DataW.trod_int he h9
    simp only [List.cons.injEq, and_true] at e1
    simp only [Prod.mk.injEq] at e2
    exact ⟨m, e1, e2.1, e3⟩
  have h9 : bytesOf x.1 = ds.map byteOf := by
    rcases h7 with ⟨h7, rfl⟩ | ⟨sp, h7⟩ <;> rw [h7] <;> rfl
  refine ⟨v, h1, ?_, ?_⟩
  · rw [h9, ← h8, List.length_map, h4]; exact h2
  · rw [h9, List.length_map, h4]
    rw [hb] at h5
    have : reachBytes = lim := by decide
    omega
theorem slice_okWide {r : Reach} {b0 : Nat} {t e : TypeId} {v : Value} (ht : P.underlying t = some (.slice e)) (hval : Value.okWide P W r b0 t v) : v.cells = #[v] := by
  unfold Value.okWide at hval
  rw [ht] at hval
  simp only [Cell.okWide] at hval
  cases v <;> simp_all [Value.cells, Cell.ok]
end
end Go.Proofs.YtojgkjpmphfakaaGreatDoor
