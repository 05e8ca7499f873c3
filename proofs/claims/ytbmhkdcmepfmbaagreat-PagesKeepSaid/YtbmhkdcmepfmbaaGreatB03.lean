/- From a walk of a law ('it returns true, and what lay in memory lies as it lay') to the post of its row. No program is named here. What an argument that was handed in reads as. No program is named here. Frames of worlds. No program is named here. A region that draws: its deeds stand in one order, also through what hangs between them (guards). -/
import Derived.Test.YtbmhkdcmepfmbaaGreatB01
import Derived.ProofKit
import Derived.SizedLaws
import Derived.ChangeSlices
import Derived.ChangeMaps5
import Derived.Test.YtbmhkdcmepfmbaaGreatB02
import Derived.Lib.SliceRun
import Derived.Laws.IdiomCopy
set_option linter.unusedVariables false
set_option linter.unusedSimpArgs false
namespace Go.Proofs.YtbmhkdcmepfmbaaGreat
open Go.RowKit
open Go.ChangeShapes Go.WideShapes Go.ChangeAt

theorem all_stay {H : Type} {enc : TypeId × Value → H} {P : Program} (hl : laidOutB P = true) {W W' : World} {sp : Nat → Bool} (hb : Below W.heap.size W W') : ∀ (ts : List TypeId) (vs : List Value) (ds : List (DataW H)) (ps : List MemPlace),
    (ts.all fun t => P.readableRec t && decide (t < P.types.size)) = true → DataW.TrodAll enc P W 0 (fun _ => true) true ts vs ds ps → (∀ x ∈ ps, x.block < W.heap.size) → (∀ x ∈ ps, sp x.block = true) → DataW.TrodAll enc P W' 0 sp true ts vs ds ps
  | [], vs, ds, ps, _, h, _, _ => by
    obtain ⟨rfl, rfl, rfl⟩ := trodAll_nil h
    exact trodAll_mk0
  | t :: ts, vs, ds, ps, ha, h, hlt, hsp => by
    obtain ⟨v, vs', d, ds', p, q, rfl, rfl, rfl, h1, h2⟩ := trodAll_cons h
    simp only [List.all_cons, Bool.and_eq_true, decide_eq_true_eq] at ha
    exact ⟨p, q, WideElems.Trod_stays hl ha.1.1 ha.1.2 h1 (fun x hx => hb.same (hlt x (List.mem_append_left _ hx))) (fun x hx => hsp x (List.mem_append_left _ hx)),
      all_stay hl hb ts vs' ds' q ha.2 h2 (fun x hx => hlt x (List.mem_append_right _ hx)) (fun x hx => hsp x (List.mem_append_right _ hx)), rfl⟩

theorem law_post {H : Type} {enc : TypeId × Value → H} {P : Program} {f : Func} {s : ChangeSpec} {apart fresh handsOn again : Bool} {t : TypeId} {W W' : World} {args : Array Value} {ds gs : List (DataW H)} {before : List MemPlace}
    (hl : laidOutB P = true) (hp : (f.params.toList.all fun t => P.readableRec t && decide (t < P.types.size)) = true) (hr : f.resultTypes = #[t]) (ht : P.underlying t = some .bool) (hv : s.vars = [])
    (hW : DataW.Whole enc P f.params.toList s.vars apart W args.toList ds gs before) (hs : s.fn H ds = { results := [.lit (.bool true)], args := ds }) (hb : Below W.heap.size W W') :
    s.post enc P f apart fresh handsOn again W args (.bool true) W' := by
  have hlt := hW.lt
  have hW0 := hW
  obtain ⟨p, q, hA, hV, rfl, hfz, hnd⟩ := hW
  rw [hv] at hV
  obtain ⟨rfl, rfl⟩ := trodVars_none hV
  simp only [List.append_nil] at hlt hfz hnd hW0
  have e1 : (s.fn H (ds ++ [])) = { results := [.lit (.bool true)], args := ds } := by rw [List.append_nil]; exact hs
  have hargs : ∀ sp : Nat → Bool, (∀ x ∈ p, sp x.block = true) → DataW.TrodAll enc P W' 0 sp true f.params.toList args.toList ds p := fun sp hsp => all_stay hl hb _ _ _ _ hp hA hlt hsp
  have hres : ∀ (b : Nat) (sp : Nat → Bool) (hd : Bool), DataW.TrodAll enc P W' b sp hd f.resultTypes.toList ((Value.bool true).resultList f.resultTypes.size) [.lit (.bool true)] [] := by
    intro b sp hd
    rw [hr]
    exact trodAll_mk1 (shut_bool ht true)
  refine ⟨ds, [], p, [], p, [], hW0, by rw [e1]; exact hres _ _ _, by rw [e1]; exact hargs _ (fun x hx => by simpa using hlt x hx), ?_, ?_, fun _ => ⟨?_, .lit (.bool true) :: ds, [], p, ⟨p, [], ?_, ?_, by simp, ?_, hnd⟩, fun x hx _ => hx⟩⟩
  · rw [e1, hv]; rfl
  · exact World.keptBut_mono (fun x hx => ⟨hx, Or.inr (Or.inl hx)⟩) (hb.frame (· ∈ p))
  · exact ok_one hr rfl (okWide_bool_mk ht true)
  · have := trodAll_append (hargs (fun _ => true) (fun _ _ => rfl)) (hres 0 (fun _ => true) true)
    simpa using this
  · rw [hv]; rfl
  · intro b off hx
    rw [hb.frozen (p := ⟨b, off, none⟩) (hlt _ hx)]
    exact hfz b off hx
end Go.Proofs.YtbmhkdcmepfmbaaGreat
set_option linter.unusedVariables false
set_option linter.unusedSimpArgs false
namespace Go.Proofs.YtbmhkdcmepfmbaaGreat
open Go.RowKit
section
variable {H : Type} {enc : TypeId × Value → H} {P : Program} {W : World} {base : Nat} {spare : Nat → Bool} {held : Bool}
/-- what is read weighs no more than the reach -/
def Sz (P : Program) (t : TypeId) (d : DataW H) : Prop := (DataW.weights P t d).all (· ≤ reachBytes) = true
theorem sz_each {ts : List TypeId} {ds : List (DataW H)} (h : (DataW.weightsEach P ts ds).all (· ≤ reachBytes) = true) {j : Nat} {t : TypeId} {d : DataW H} (ht : ts[j]? = some t) (hd : ds[j]? = some d) : Sz P t d := by
  unfold Sz
  rw [List.all_eq_true] at h ⊢
  exact fun n hn => h n (DataW.weights_mem_each ht hd n hn)
theorem weights_mem_all {e : TypeId} : ∀ {l : List (DataW H)} {d : DataW H}, d ∈ l → ∀ n ∈ d.weights P e, n ∈ DataW.weightsAll P e l
  | x :: l, d, hd, n, hn => by
    rw [DataW.weightsAll, List.mem_append]
    rcases List.mem_cons.1 hd with rfl | h
    · exact .inl hn
    · exact .inr (weights_mem_all h n hn)
theorem flatten_get {k : Nat} (hk : 0 < k) : ∀ (css : List (List Value)), (∀ c ∈ css, c.length = k) → ∀ j, css.flatten[j]? = css[j / k]?.bind (·[j % k]?)
  | [], _, j => by simp
  | c :: css, h, j => by
    have hc := h c (List.mem_cons_self ..)
    rw [List.flatten_cons]
    by_cases hj : j < k
    · rw [List.getElem?_append_left (by omega), Nat.div_eq_of_lt hj, Nat.mod_eq_of_lt hj]; rfl
    · rw [List.getElem?_append_right (by omega), flatten_get hk css (fun c' h' => h c' (List.mem_cons_of_mem _ h')), hc]
      have : j / k = (j - k) / k + 1 := by
        have := Nat.sub_mul_div_of_le (x := j) (n := k) (p := 1) (by omega)
        rw [Nat.mul_one] at this
        have h2 : 1 ≤ j / k := (Nat.le_div_iff_mul_le hk).2 (by omega)
        omega
      rw [this, List.getElem?_cons_succ]
      have h3 : j % k = (j - k) % k := by
        conv => lhs; rw [show j = (j - k) + k from by omega]
        simp
      rw [h3]
theorem flatten_len {k : Nat} : ∀ (css : List (List Value)), (∀ c ∈ css, c.length = k) → css.flatten.length = css.length * k
  | [], _ => by simp
  | c :: css, h => by
    rw [List.flatten_cons, List.length_append, h c (List.mem_cons_self ..), flatten_len css (fun c' h' => h c' (List.mem_cons_of_mem _ h')), List.length_cons, Nat.add_mul]; omega
/-- a slice that was handed in, its elements of k cells each -/
theorem open_rows {t e : TypeId} {k fuel : Nat} {cs : List Value} {x : DataW H × List MemPlace} (ht : P.underlying t = some (.slice e)) (hc : P.cellsOf e = k) (hk : 0 < k)
    (h : DataW.trod enc P W base spare held fuel t cs = some x) (hz : Sz P t x.1) :
    ∃ (v : Value) (css : List (List Value)) (ds : List (DataW H)), cs = [v] ∧ Row k (Lt W.heap.size) W v css.length css.flatten ∧ (∀ c ∈ css, c.length = k) ∧ ds.length = css.length ∧ css.length * P.bytesOf e ≤ reachBytes ∧
      (∀ i (h : i < css.length) (h' : i < ds.length), ∃ n ps, DataW.trod enc P W base spare held n e css[i] = some (ds[i], ps) ∧ Sz P e ds[i]) ∧ (x.1 = .nil ∧ ds = [] ∨ ∃ sp, x.1 = .slice ds sp) := by
  rcases DataW.trod_slice ht h with ⟨rfl, rfl⟩ | ⟨a, len, cap, elems, rest, n, _, rfl, rfl, hb, hl, hm, hlen, hel, _, _⟩
  · refine ⟨_, [], [], rfl, ⟨by simp, none, 0, rfl, Nat.le_refl _, fun _ => rfl, fun j u hj => by simp at hj⟩, by simp, rfl, by simp, fun i h => by simp at h, .inl ⟨rfl, rfl⟩⟩
  · rw [hc] at hel
    have hex : ∀ i, i < len → ∃ cs', W.cells? base (a.add (i * k)) k = some cs' ∧ DataW.trod enc P W base spare held n e cs' = elems[i]? := by
      intro i hi
      have h1 := hel i hi
      have h2 : i < elems.length := by omega
      rw [List.getElem?_eq_getElem h2] at h1
      obtain ⟨cs', h3, h4⟩ := Option.bind_eq_some_iff.1 h1
      exact ⟨cs', h3, by rw [h4, List.getElem?_eq_getElem h2]⟩
    have hlenC : ((List.range len).map fun i => (W.cells? base (a.add (i * k)) k).getD []).length = len := by simp
    have hgetC : ∀ i (hi : i < len), ((List.range len).map fun i => (W.cells? base (a.add (i * k)) k).getD [])[i]? = W.cells? base (a.add (i * k)) k := by
      intro i hi
      obtain ⟨cs', h3, _⟩ := hex i hi
      simp [hi, h3]
    generalize ((List.range len).map fun i => (W.cells? base (a.add (i * k)) k).getD []) = css at *
    have hone : ∀ c ∈ css, c.length = k := by
      intro c hcm
      obtain ⟨i, hi, rfl⟩ := List.mem_iff_getElem.1 hcm
      have h1 := hgetC i (by omega)
      rw [List.getElem?_eq_getElem hi] at h1
      exact (World.cells?_some h1.symm).2.1
    have hzz := hz
    refine ⟨_, css, elems.map (·.1), rfl, ⟨?_, _, cap, by rw [hlenC], by omega, by simp, fun j u hj => ?_⟩, hone, by simp; omega, ?_, fun i hi hi' => ?_, .inr ⟨_, rfl⟩⟩
    · exact flatten_len css hone
    · rw [flatten_get hk css hone] at hj
      obtain ⟨c, h1, h2⟩ := Option.bind_eq_some_iff.1 hj
      have hi : j / k < len := by have := (List.getElem?_eq_some_iff.1 h1).1; omega
      have h3 := hgetC (j / k) hi
      rw [h1] at h3
      have h4 := (World.cells?_some h3.symm).2.2 (j % k) (Nat.mod_lt _ hk)
      rw [h2] at h4
      have h6 : W.cell? a ≠ none := by
        obtain ⟨cs', h7, _⟩ := hex 0 (Nat.lt_of_le_of_lt (Nat.zero_le _) hi)
        have h8 := World.cells?_some h7
        have h9 := h8.2.2 0 hk
        rw [List.getElem?_eq_getElem (by omega)] at h9
        rw [show (a.add (0 * k)).add 0 = a from by simp [Addr.add]] at h9
        rw [h9]; simp
      obtain ⟨b, o, i⟩ := a
      cases i with
      | some i => exact absurd (by unfold World.cell?; dsimp only; split <;> simp) h6
      | none =>
        have hadd : ((⟨b, o, none⟩ : Addr).add (j / k * k)).add (j % k) = ⟨b, o + j, none⟩ := by
          have e1 : ∀ m, (⟨b, o, none⟩ : Addr).add m = ⟨b, o + m, none⟩ := fun m => by unfold Addr.add; split <;> simp_all
          have e2 : ∀ q m, (⟨b, q, none⟩ : Addr).add m = ⟨b, q + m, none⟩ := fun q m => by unfold Addr.add; split <;> simp_all
          have : j / k * k + j % k = j := by rw [Nat.mul_comm]; exact Nat.div_add_mod j k
          rw [e2, e2, Nat.add_assoc, this]
        rw [hadd] at h4
        exact ⟨b, o, rfl, World.block_lt_of_cell? W ⟨b, o + j, none⟩ h4, h4⟩
    · unfold Sz at hz
      rw [List.all_eq_true] at hz
      have := hz ((elems.length + rest.length) * P.bytesOf e) (by simp [DataW.weights, ht])
      simp only [decide_eq_true_eq] at this
      rw [hlenC, ← hlen]
      exact Nat.le_trans (Nat.mul_le_mul_right _ (by omega)) this
    · have hi2 : i < len := by omega
      obtain ⟨cs', h3, h4⟩ := hex i hi2
      have h5 := hgetC i hi2
      rw [h3, List.getElem?_eq_getElem hi] at h5
      rw [Option.some.inj h5]
      have hie : i < elems.length := by omega
      refine ⟨n, elems[i].2, by rw [h4, List.getElem?_eq_getElem hie]; simp, ?_⟩
      unfold Sz at hz ⊢
      rw [List.all_eq_true] at hz ⊢
      intro m hm
      refine hz m ?_
      simp only [DataW.weights, ht, List.mem_cons, List.mem_append]
      exact .inr (.inl (weights_mem_all (List.mem_map.2 ⟨elems[i], List.getElem_mem hie, rfl⟩) m (by simpa using hm)))
theorem sz_elem {t e : TypeId} (ht : P.underlying t = some (.slice e)) : True := trivial
theorem flat_one : ∀ vs : List Value, (vs.map (fun v => [v])).flatten = vs
  | [] => rfl
  | v :: vs => by rw [List.map_cons, List.flatten_cons, flat_one vs]; rfl
theorem cells_one {css : List (List Value)} (h : ∀ c ∈ css, c.length = 1) : ∃ vs : List Value, css = vs.map (fun v => [v]) := by
  induction css with
  | nil => exact ⟨[], rfl⟩
  | cons c css ih =>
    obtain ⟨vs, rfl⟩ := ih (fun c' h' => h c' (List.mem_cons_of_mem _ h'))
    obtain ⟨v, rfl⟩ := List.length_eq_one_iff.1 (h c (List.mem_cons_self ..))
    exact ⟨v :: vs, rfl⟩
/-- .. of one cell each -/
theorem open_row1 {t e : TypeId} {fuel : Nat} {cs : List Value} {x : DataW H × List MemPlace} (ht : P.underlying t = some (.slice e)) (hc : P.cellsOf e = 1)
    (h : DataW.trod enc P W base spare held fuel t cs = some x) (hz : Sz P t x.1) :
    ∃ (v : Value) (vs : List Value) (ds : List (DataW H)), cs = [v] ∧ Row 1 (Lt W.heap.size) W v vs.length vs ∧ ds.length = vs.length ∧ vs.length * P.bytesOf e ≤ reachBytes ∧
      (∀ i (h : i < vs.length) (h' : i < ds.length), ∃ n ps, DataW.trod enc P W base spare held n e [vs[i]] = some (ds[i], ps) ∧ Sz P e ds[i]) ∧ (x.1 = .nil ∧ ds = [] ∨ ∃ sp, x.1 = .slice ds sp) := by
  obtain ⟨v, css, ds, h1, h2, h3, h4, h5, h6, h7⟩ := open_rows ht hc (by decide) h hz
  obtain ⟨vs, rfl⟩ := cells_one h3
  refine ⟨v, vs, ds, h1, ?_, by simpa using h4, by simpa using h5, fun i hi hi' => ?_, h7⟩
  · have e1 : (vs.map (fun v => [v])).flatten = vs := flat_one vs
    rw [e1, List.length_map] at h2; exact h2
  · have := h6 i (by simpa using hi) hi'
    simpa using this
def byteOf (d : DataW H) : UInt8 := match d with | .lit (.int _ n) => UInt8.ofNat n.toNat | _ => 0
def bytesOf (d : DataW H) : List UInt8 := match d with | .slice elems _ => elems.map byteOf | _ => []
theorem lits_bytes {k : IntKind} {vs : List Value} {ds : List (DataW H)} (hk : k = .u8) (hl : ds.length = vs.length) (h : ∀ i (h : i < vs.length) (h' : i < ds.length), ∃ n : Int, vs[i] = .int k n ∧ ds[i] = .lit (.int k n) ∧ (Lit.int k n).wf = true) : vs = bv (ds.map byteOf) := by
  apply List.ext_getElem (by simp [hl])
  intro i h1 h2
  obtain ⟨n, e1, e2, e3⟩ := h i h1 (by omega)
  subst hk
  have e4 : 0 ≤ n ∧ n < 256 := by
    simp only [Lit.wf, Bool.and_eq_true, decide_eq_true_eq] at e3
    have a1 : IntKind.u8.min = 0 := rfl
    have a2 : IntKind.u8.max = 255 := rfl
    omega
  simp only [bv, List.getElem_map, e1, e2, byteOf]
  congr 1
  simp; omega
/-- []byte -/
theorem open_bs {t e : TypeId} {fuel : Nat} {cs : List Value} {x : DataW H × List MemPlace} (ht : P.underlying t = some (.slice e)) (he : P.underlying e = some (.int .u8)) (hc : P.cellsOf e = 1) (hb : P.bytesOf e = 1)
    (h : DataW.trod enc P W base spare held fuel t cs = some x) (hz : Sz P t x.1) :
    ∃ v, cs = [v] ∧ Bs (Lt W.heap.size) W v (bytesOf x.1) := by
  obtain ⟨v, vs, ds, h1, h2, h4, h5, h6, h7⟩ := open_row1 ht hc h hz
  have h8 : vs = bv (ds.map byteOf) := by
    refine lits_bytes rfl h4 fun i hi hi' => ?_
    obtain ⟨n, ps, h9, _⟩ := h6 i hi hi'
    obtain ⟨m, e1, e2, e3⟩ := DataW.trod_int he h9
    simp only [List.cons.injEq, and_true] at e1
    simp only [Prod.mk.injEq] at e2
    exact ⟨m, e1, e2.1, e3⟩
  have h9 : bytesOf x.1 = ds.map byteOf := by
    rcases h7 with ⟨h7, rfl⟩ | ⟨sp, h7⟩ <;> rw [h7] <;> rfl
  refine ⟨v, h1, ?_, ?_⟩
  · rw [h9, ← h8, List.length_map, h4]; exact h2
  · rw [h9, List.length_map, h4]
    rw [hb] at h5
    have : reachBytes = lim := by decide
    omega
theorem slice_okWide {r : Reach} {b0 : Nat} {t e : TypeId} {v : Value} (ht : P.underlying t = some (.slice e)) (hval : Value.okWide P W r b0 t v) : v.cells = #[v] := by
  unfold Value.okWide at hval
  rw [ht] at hval
  simp only [Cell.okWide] at hval
  cases v <;> simp_all [Value.cells, Cell.ok]
end
end Go.Proofs.YtbmhkdcmepfmbaaGreat
set_option linter.unusedVariables false
set_option linter.unusedSimpArgs false
namespace Go.Proofs.YtbmhkdcmepfmbaaGreat
open Go.RowKit
theorem size_setCell (w : World) (a : Addr) (u : Value) : (w.setCell a u).heap.size = w.heap.size := by simp [World.setCell]
structure Wb (X : Nat → Prop) (w w' : World) : Prop where
  os : w'.os = w.os
  tape : w'.tape = w.tape
  output : w'.output = w.output
  size : w.heap.size ≤ w'.heap.size
  block : ∀ k, k < w.heap.size → ¬ X k → w'.heap[k]? = w.heap[k]?
theorem Wb.refl (X : Nat → Prop) (w : World) : Wb X w w := ⟨rfl, rfl, rfl, Nat.le_refl _, fun _ _ _ => rfl⟩
theorem Wb.trans {X : Nat → Prop} {a b c : World} (h : Wb X a b) (k : Wb X b c) : Wb X a c :=
  ⟨k.os.trans h.os, k.tape.trans h.tape, k.output.trans h.output, Nat.le_trans h.size k.size, fun i hi hx => (k.block i (Nat.lt_of_lt_of_le hi h.size) hx).trans (h.block i hi hx)⟩
theorem Wb.mono {X Y : Nat → Prop} {a b : World} (h : Wb X a b) (hXY : ∀ k, X k → Y k) : Wb Y a b := ⟨h.os, h.tape, h.output, h.size, fun i hi hx => h.block i hi fun e => hx (hXY i e)⟩
theorem Wb.of_grown {w w' : World} {g : Option Nat} (h : w.grownBy w' g) : Wb (fun k => some k = g) w w' := ⟨h.os, h.tape, h.output, h.size, fun i hi hx => h.block i hi hx⟩
theorem Wb.of_below {w w' : World} (X : Nat → Prop) (h : Below w.heap.size w w') : Wb X w w' := ⟨h.os, h.tape, h.output, h.size, fun i hi _ => h.block i hi⟩
theorem Wb.below {X : Nat → Prop} {w w' : World} {D : Nat} (h : Wb X w w') (hD : D ≤ w.heap.size) (hX : ∀ k, X k → D ≤ k) : Below D w w' :=
  ⟨h.os, h.tape, h.output, h.size, fun i hi => h.block i (by omega) fun e => by have := hX i e; omega⟩
theorem Wb.set {X : Nat → Prop} (w : World) (b o : Nat) (u : Value) (hb : X b) : Wb X w (w.setCell ⟨b, o, none⟩ u) :=
  ⟨rfl, rfl, rfl, by rw [size_setCell]; exact Nat.le_refl _, fun i hi hx => Below.heap_setCell _ _ _ _ (fun e => hx (by rw [e]; exact hb))⟩
theorem own_wb {X : Nat → Prop} {B size n : Nat} {e : TypeId} {w w' : World} {v : Value} {vs : List Value} (h : w.ownsRow B e size v n vs) (hb : Wb X w w') (hX : ∀ k, X k → some k ≠ v.ownBlock) : w'.ownsRow B e size v n vs := by
  obtain ⟨h0, h | ⟨g, cap, cur, hv, hbg, hg, r⟩⟩ := h
  · exact ⟨h0, .inl h⟩
  · refine ⟨h0, .inr ⟨g, cap, cur, hv, hbg, ?_, r⟩⟩
    rw [hb.block g (Array.getElem?_eq_some_iff.1 hg).1 (fun e => hX g e (by rw [hv]; rfl))]; exact hg
theorem own_typed {B size n : Nat} {e : TypeId} {w : World} {v : Value} {vs : List Value} (h : w.ownsRow B e size v n vs) : ∀ k, v.ownBlock = some k → B ≤ k ∧ ∃ cur fr, w.heap[k]? = some (.cells cur e fr) := by
  obtain ⟨_, h | ⟨g, cap, cur, hv, hb, hg, _⟩⟩ := h
  · intro k hk; rw [h.1] at hk; cases hk
  · intro k hk; rw [hv] at hk; cases hk; exact ⟨hb, cur, _, hg⟩
theorem setCells_heap {b : Nat} {e : TypeId} {fr : Nat × Nat} : ∀ (vs : List Value) (o : Nat) {w : World} {cur : Array Value}, w.heap[b]? = some (.cells cur e fr) → o + vs.length ≤ cur.size →
    (w.setCells b o vs).heap[b]? = some (.cells (cur.toList.take o ++ vs ++ cur.toList.drop (o + vs.length)).toArray e fr)
  | [], o, w, cur, h, _ => by simpa [World.setCells] using h
  | v :: r, o, w, cur, h, hl => by
    have hl : o + (r.length + 1) ≤ cur.size := hl
    have h1 : (w.setCell ⟨b, o, none⟩ v).heap[b]? = some (.cells (cur.setIfInBounds o v) e fr) := by
      have hlt := (Array.getElem?_eq_some_iff.1 h).1
      have h2 := (Array.getElem?_eq_some_iff.1 h).2
      simp [World.setCell, hlt, Array.getElem_modify, h2]
    have h2 := setCells_heap r (o + 1) h1 (by simp; omega)
    rw [World.setCells, h2]
    congr 2
    rw [Array.toList_setIfInBounds]
    have e1 : (cur.toList.set o v).take (o + 1) = cur.toList.take o ++ [v] := by
      rw [List.take_succ_eq_append_getElem (by simp; omega), List.take_set_of_le (Nat.le_refl _)]; simp
    have e2 : (cur.toList.set o v).drop (o + 1 + r.length) = cur.toList.drop (o + (v :: r).length) := by
      rw [List.drop_set_of_lt (by omega)]; congr 1; simp; omega
    rw [e1, e2]; simp
theorem setCells_wb {b : Nat} : ∀ (vs : List Value) (o : Nat) (w : World), Wb (fun k => k = b) w (w.setCells b o vs)
  | [], _, w => Wb.refl _ w
  | v :: r, o, w => (Wb.set (X := fun k => k = b) w b o v rfl).trans (setCells_wb r (o + 1) _)
theorem own_fr {B size n : Nat} {e : TypeId} {w w' : World} {v : Value} {vs : List Value} (h : w.ownsRow B e size v n vs) (hw : ∀ k, v.ownBlock = some k → w'.heap[k]? = w.heap[k]?) : w'.ownsRow B e size v n vs := by
  obtain ⟨h0, h | ⟨g', cap', cur, hv, hb, hg, r⟩⟩ := h
  · exact ⟨h0, .inl h⟩
  · exact ⟨h0, .inr ⟨g', cap', cur, hv, hb, by rw [hw g' (by rw [hv]; rfl)]; exact hg, r⟩⟩
theorem Row.cutToN {sz : Nat} {A : Nat → Prop} {w : World} {a : Option Addr} {n m c : Nat} {vs : List Value} (h : Row sz A w (.slice a n c) n vs) (hm : m ≤ n) : Row sz A w (.slice a m c) m (vs.take (m * sz)) := by
  obtain ⟨hl, a', c', hv, hc, ha, H⟩ := h
  cases hv
  refine ⟨by rw [List.length_take, hl]; exact Nat.min_eq_left (Nat.mul_le_mul_right _ hm), a, c, rfl, by omega, ha, fun j u hj => H j u ?_⟩
  rw [List.getElem?_take] at hj
  split at hj
  · exact hj
  · cases hj
theorem Row.cutOffN {sz : Nat} {A : Nat → Prop} {w : World} {b o n m c : Nat} {vs : List Value} (h : Row sz A w (.slice (some ⟨b, o, none⟩) n c) n vs) (hm : m ≤ n) : Row sz A w (.slice (some ⟨b, o + m * sz, none⟩) (n - m) (c - m)) (n - m) (vs.drop (m * sz)) := by
  obtain ⟨hl, a', c', hv, hc, ha, H⟩ := h
  cases hv
  refine ⟨by rw [List.length_drop, hl, Nat.sub_mul], _, _, rfl, by omega, by simp, fun j u hj => ?_⟩
  rw [List.getElem?_drop] at hj
  obtain ⟨b', o', he, hA, hu⟩ := H _ _ hj
  cases he
  exact ⟨b, o + m * sz, rfl, hA, by rw [← hu, Nat.add_assoc]⟩
theorem Row.voidN {sz : Nat} {A : Nat → Prop} {w : World} {a : Option Addr} {c : Nat} (h : a = none → c = 0) : Row sz A w (.slice a 0 c) 0 [] := ⟨by simp, a, c, rfl, by omega, h, fun j u hj => by simp at hj⟩
theorem Row.slicedN {sz : Nat} (hsz : 0 < sz) {A : Nat → Prop} {w : World} {a : Option Addr} {n c l h : Nat} {vs : List Value} (hr : Row sz A w (.slice a n c) n vs) (hl : l ≤ h) (hh : h ≤ n) :
    ∃ a' c', Go.sliced a l h c sz = .slice a' (h - l) c' ∧ Row sz A w (.slice a' (h - l) c') (h - l) ((vs.take (h * sz)).drop (l * sz)) := by
  have hvl : vs.length = n * sz := hr.1
  have hv : ∀ h' : h - l = 0, ∀ a' c', (a' = none → c' = 0) → Row sz A w (.slice a' (h - l) c') (h - l) ((vs.take (h * sz)).drop (l * sz)) := by
    intro h' a' c' hn
    have e : h = l := by omega
    subst e
    rw [h', List.drop_of_length_le (by rw [List.length_take]; omega)]
    exact Row.voidN hn
  have hc : n ≤ c := by obtain ⟨_, _, _, hv, hc, _⟩ := hr; cases hv; exact hc
  have ha : a = none → c = 0 := by obtain ⟨_, _, _, hv, _, ha, _⟩ := hr; cases hv; exact ha
  unfold Go.sliced
  by_cases h1 : c = l
  · rw [if_pos h1]
    exact ⟨a, c - l, rfl, hv (by omega) _ _ (fun _ => by omega)⟩
  · rw [if_neg h1]
    cases a with
    | none => have := ha rfl; omega
    | some p =>
      refine ⟨_, _, rfl, ?_⟩
      by_cases h2 : h - l = 0
      · exact hv h2 _ _ (fun h => by cases h)
      · have h3 := hr.cutToN hh
        have hp : ∃ b o, p = ⟨b, o, none⟩ := by
          obtain ⟨_, _, _, hv', _, _, H⟩ := hr
          cases hv'
          have hn : 0 < n := by omega
          have : 0 < vs.length := by rw [hvl]; exact Nat.mul_pos hn hsz
          obtain ⟨b, o, he, _⟩ := H 0 (vs[0]'this) (by simp)
          exact ⟨b, o, Option.some.inj he⟩
        obtain ⟨b, o, rfl⟩ := hp
        have h4 := h3.cutOffN hl
        have e : (⟨b, o, none⟩ : Addr).add (l * sz) = ⟨b, o + l * sz, none⟩ := addr_add b o _
        rw [Option.map_some, e]
        exact h4
section
variable {P : Program} {t : TypeId} {A : Nat → Prop} {w : World} {a : Option Addr} {n c sz : Nat} {vs : List Value}
theorem row_loN (ht : P.underlying t = some (.slice (P.elem t))) (hz : ∀ w, (sizeOf (P.elem t)).run P w = .ok sz w) (hsz : 0 < sz) (hr : Row sz A w (.slice a n c) n vs) (l : Nat) (hl : l ≤ n) :
    ∃ a' c', (∀ w, (Instr.slice t (.slice a n c) (some (.int .i64 (l : Int))) none none).run P w = .ok (.slice a' (n - l) c') w) ∧ Row sz A w (.slice a' (n - l) c') (n - l) (vs.drop (l * sz)) := by
  obtain ⟨a', c', h1, h2⟩ := hr.slicedN hsz (l := l) (h := n) hl (Nat.le_refl _)
  refine ⟨a', c', fun w => ?_, by rwa [List.take_of_length_le (Nat.le_of_eq hr.1)] at h2⟩
  rw [run_slice_l w t a n c ht .i64 (l : Int) (by omega) (by omega), hz]
  simp only [Result.andThen, Int.toNat_natCast, h1]
theorem row_hiN (ht : P.underlying t = some (.slice (P.elem t))) (hz : ∀ w, (sizeOf (P.elem t)).run P w = .ok sz w) (hsz : 0 < sz) (hr : Row sz A w (.slice a n c) n vs) (h : Nat) (hh : h ≤ n) :
    ∃ a' c', (∀ w, (Instr.slice t (.slice a n c) none (some (.int .i64 (h : Int))) none).run P w = .ok (.slice a' h c') w) ∧ Row sz A w (.slice a' h c') h (vs.take (h * sz)) := by
  obtain ⟨a', c', h1, h2⟩ := hr.slicedN hsz (l := 0) (h := h) (Nat.zero_le _) hh
  have hc : n ≤ c := by obtain ⟨_, _, _, hv, hc, _⟩ := hr; cases hv; exact hc
  refine ⟨a', c', fun w => ?_, by simpa using h2⟩
  rw [run_slice_h w t a n c ht .i64 (h : Int) (by omega) (by omega), hz]
  simp only [Result.andThen, Int.toNat_natCast, h1, Nat.sub_zero]
end
/-- an own row, read: its block is the call's own -/
theorem Row.of_ownB {B size n : Nat} {e : TypeId} {w : World} {v : Value} {vs : List Value} (h : w.ownsRow B e size v n vs) : Row size (fun k => B ≤ k) w v n vs := by
  obtain ⟨hl, h | ⟨g, cap, cur, hv, hb, hg, hn, hm, hs, ht⟩⟩ := h
  · obtain ⟨rfl, rfl⟩ := h
    have : vs = [] := List.eq_nil_of_length_eq_zero (by simpa using hl)
    subst this
    exact ⟨hl, none, 0, rfl, Nat.le_refl _, fun _ => rfl, fun j u hj => by simp at hj⟩
  · refine ⟨hl, _, _, hv, hn, by simp, fun j u hj => ⟨g, 0, rfl, hb, ?_⟩⟩
    rw [← ht, List.getElem?_take] at hj
    split at hj
    · simp only [World.cell?, hg, Nat.zero_add]; simpa using hj
    · cases hj
theorem own_sliceN {B n sz : Nat} {e : TypeId} {w : World} {v : Value} {xs : List Value} (h : w.ownsRow B e sz v n xs) : ∃ a c, v = .slice a n c := by
  rcases h.2 with ⟨rfl, rfl⟩ | ⟨g, cap, cur, rfl, _⟩
  · exact ⟨_, _, rfl⟩
  · exact ⟨_, _, rfl⟩
theorem own_grown_ne {B B' n m sz : Nat} {e e' : TypeId} {w w' : World} {v u : Value} {xs ys : List Value} (h : w.ownsRow B e sz v n xs) {sz' : Nat} (h' : w.ownsRow B' e' sz' u m ys) (hg : w.grownBy w' u.ownBlock) (hne : e ≠ e') : w'.ownsRow B e sz v n xs :=
  own_wb h (Wb.of_grown hg) fun k hk e1 => by
    obtain ⟨_, _, _, h1⟩ := own_typed h k e1.symm
    obtain ⟨_, _, _, h2⟩ := own_typed h' k hk.symm
    rw [h1] at h2
    simp only [Option.some.injEq, Obj.cells.injEq] at h2
    exact hne h2.2.1
theorem drew_blx (w : World) (B : Nat) : Below B w w.drew := ⟨rfl, rfl, rfl, Nat.le_refl _, fun _ _ => rfl⟩
theorem mx_storex {P : Program} {ops : Array Oper} {C : World → Prop} {Q : Act → World → Prop} {o : Oper} {rest : List Oper} {a : Act} {w w' : World} (hp : plainB o = false) (hw : Region.wanted o (yielded ops a.tmps) = true) (h : (execOp a.eval o).run P w = .ok .skip w') (hC : C w')
    (hn : wpMix P ops C Q rest (a.put o.dst undef) w') : wpMix P ops C Q (o :: rest) a w := by
  show pmix P ops C o a w _
  unfold pmix
  rw [if_pos hw, if_neg (by rw [hp]; decide), h]
  exact ⟨hC, hn⟩
theorem cl2_get {w : World} {b : Nat} {x0 x1 : Value} {e : TypeId} (h : w.heap[b]? = some (.cells #[x0, x1] e (0, 0))) : (w.cell? ⟨b, 0, none⟩ = some x0 ∧ w.cell? ⟨b, 1, none⟩ = some x1) ∧ ∀ i, w.frozen? ⟨b, i, none⟩ = false :=
  ⟨⟨by simp only [World.cell?, h]; rfl, by simp only [World.cell?, h]; rfl⟩, fun i => by simp only [World.frozen?, h]; simp⟩
theorem cl2_set {w : World} {b o : Nat} {x0 x1 u : Value} {e : TypeId} (h : w.heap[b]? = some (.cells #[x0, x1] e (0, 0))) : (w.setCell ⟨b, o, none⟩ u).heap[b]? = some (.cells (#[x0, x1].setIfInBounds o u) e (0, 0)) := by
  rw [heap_setCell_same w b o _ e u h]
theorem Row.toLtN {sz : Nat} {n : Nat} {A : Nat → Prop} {w : World} {v : Value} {vs : List Value} (h : Row sz A w v n vs) : Row sz (Lt w.heap.size) w v n vs := by
  obtain ⟨hl, a, c, rfl, hc, ha, H⟩ := h
  refine ⟨hl, a, c, rfl, hc, ha, fun j u hj => ?_⟩
  obtain ⟨b, o, h1, h2, h3⟩ := H j u hj
  exact ⟨b, o, h1, World.block_lt_of_cell? w ⟨b, o + j, none⟩ h3, h3⟩
/-- walks in any order whose deeds keep a relation T0 -/
structure Wy (T0 : World → World → Prop) (V : World) where
  nx : World
  ok : T0 V nx
def GY (T0 : World → World → Prop) := {V : Lw // ∀ v w w', V.led v w → T0 w w' → V.led v w'}
def yul (T0 : World → World → Prop) : List (Nat × GY T0) → Nat → Option Lw
  | [], _ => none
  | (k, V) :: l, s => if s = k then some V.1 else yul T0 l s
theorem yul_up (T0 : World → World → Prop) : ∀ (l : List (Nat × GY T0)) {s : Nat} {V : Lw}, yul T0 l s = some V → ∀ v w w', V.led v w → T0 w w' → V.led v w'
  | [], s, V, h => by cases h
  | (k, U) :: l, s, V, h => by
    unfold yul at h
    split at h
    · cases h; exact U.2
    · exact yul_up T0 l h
theorem yul_ck {T0 : World → World → Prop} (ht : ∀ a b c, T0 a b → T0 b c → T0 a c) {V : World} (l : List (Nat × GY T0)) : Ck T0 (fun w' => ∃ p : Wy T0 V, w' = p.nx) (yul T0 l) :=
  ⟨fun h k => ht _ _ _ h k, fun ⟨p, hp⟩ h => ⟨⟨_, ht _ _ _ p.ok (by subst hp; exact h)⟩, rfl⟩, fun {s V v w w'} h1 h2 h3 => yul_up T0 l h1 v w w' h2 h3⟩
def GY.is (T0 : World → World → Prop) (v : Value) : GY T0 := ⟨⟨(· = v), fun _ _ => True⟩, fun _ _ _ _ _ => trivial⟩
theorem Row.butNe {sz n b : Nat} {w w' : World} {v : Value} {vs : List Value} (h : Row sz (fun k => k ≠ b) w v n vs) (hk : CellsBut b w w') : Row sz (fun k => k ≠ b) w' v n vs := by
  obtain ⟨hl, a, c, rfl, hc, ha, H⟩ := h
  refine ⟨hl, a, c, rfl, hc, ha, fun j x hj => ?_⟩
  obtain ⟨b', o, ha, hB, hx⟩ := H j x hj
  refine ⟨b', o, ha, hB, ?_⟩
  simp only [World.cell?] at hx ⊢
  cases hh : w.heap[b']? with
  | none => rw [hh] at hx; cases hx
  | some ob =>
    rw [hh] at hx
    cases ob with
    | cells c e' fr' => rw [hk b' c e' fr' hB hh]; exact hx
    | _ => cases hx
theorem own_pre {e : TypeId} {B : Nat} {w : World} {g n m cap : Nat} {l : List UInt8} (h : Ob e B w (.slice (some ⟨g, 0, none⟩) n cap) l) (hm : m ≤ n) : Ob e B w (.slice (some ⟨g, 0, none⟩) m cap) (l.take m) := by
  have hn := h.len.1
  obtain ⟨h0, h | ⟨g', cap', cur, hv, hb, hg, h1, h2, h3, h4⟩⟩ := h
  · cases h.1
  · cases hv
    have hl : (l.take m).length = m := by rw [List.length_take]; omega
    refine ⟨by rw [bv_length, Nat.mul_one], .inr ⟨g, cap, cur, by rw [hl], hb, hg, by omega, h2, h3, ?_⟩⟩
    rw [Nat.mul_one] at h4 ⊢
    rw [hl]
    have : bv (l.take m) = (bv l).take m := by simp [bv, List.map_take]
    rw [this, ← h4, List.take_take]
    congr 1; omega
end Go.Proofs.YtbmhkdcmepfmbaaGreat
set_option linter.unusedVariables false
namespace Go.Proofs.YtbmhkdcmepfmbaaGreat
open Go.RowKit
section
variable {P : Program} {ops : Array Oper} {md : Region.Mode} {C : World → Prop}
/-- j waits for i, also through others -/
def mustB (md : Region.Mode) (ops : Array Oper) : Nat → Nat → Nat → Bool
  | 0, j, i => Region.waitsFor md ops j i
  | f + 1, j, i => Region.waitsFor md ops j i || (List.range j).any fun k => decide (i < k) && Region.waitsFor md ops j k && mustB md ops f k i
def moxB (md : Region.Mode) (ops : Array Oper) (n : Nat) : Bool :=
  Region.noSelect ops && (List.range ops.size).all fun j => match ops[j]? with
    | some oj => oj.after.all (fun e => !Region.binds md e || decide (e.on < j)) && (List.range j).all fun i => decide (n ≤ j) ||
        (match ops[i]? with | some oi => oi.apart ops oj && (plainB oi || plainB oj) | none => true) || mustB md ops 4 j i
    | none => true
structure MoxOk (md : Region.Mode) (ops : Array Oper) (n : Nat) : Prop where
  sel : Region.noSelect ops = true
  lt : ∀ j oj, ops[j]? = some oj → ∀ e ∈ oj.after, Region.binds md e = true → e.on < j
  ap : ∀ j oj, j < n → ops[j]? = some oj → ∀ i oi, i < j → ops[i]? = some oi → mustB md ops 4 j i = true ∨ (oi.apart ops oj = true ∧ (plainB oi = true ∨ plainB oj = true))
theorem moxB_ok {n : Nat} (h : moxB md ops n = true) : MoxOk md ops n := by
  unfold moxB at h
  rw [Bool.and_eq_true] at h
  obtain ⟨h1, h2⟩ := h
  rw [List.all_eq_true] at h2
  refine ⟨h1, fun j oj hj e he hb => ?_, fun j oj hjn hj i oi hi hoi => ?_⟩
  · have h3 := h2 j (List.mem_range.2 (Array.getElem?_eq_some_iff.1 hj).1)
    simp only [hj, Bool.and_eq_true] at h3
    have h4 := Array.all_eq_true'.1 h3.1 e he
    simpa [hb] using h4
  · have h3 := h2 j (List.mem_range.2 (Array.getElem?_eq_some_iff.1 hj).1)
    simp only [hj, Bool.and_eq_true] at h3
    have h4 := List.all_eq_true.1 h3.2 i (List.mem_range.2 hi)
    simp only [hoi, Bool.or_eq_true, Bool.and_eq_true, decide_eq_true_eq] at h4
    rcases h4 with (h4 | h4) | h4
    · omega
    · exact .inr h4
    · exact .inl h4
theorem must_done {n : Nat} {listed : Array Bool} (inv : HeadInv md ops n listed) : ∀ (f j i : Nat), mustB md ops f j i = true → ∀ oj, ops[j]? = some oj → (∀ e ∈ oj.after, Region.binds md e = true → listed.getD e.on false = true) → listed.getD i false = true := by
  intro f
  have h0 : ∀ j i, Region.waitsFor md ops j i = true → ∀ oj, ops[j]? = some oj → (∀ e ∈ oj.after, Region.binds md e = true → listed.getD e.on false = true) → listed.getD i false = true := by
    intro j i h oj hj hall
    obtain ⟨o', ho', e, he, hb, hon⟩ := Region.waitsFor_spec h
    have : o' = oj := Option.some.inj (ho'.symm.trans hj)
    subst this
    rw [← hon]
    exact hall e he hb
  induction f with
  | zero => exact h0
  | succ f ih =>
    intro j i h oj hj hall
    unfold mustB at h
    rw [Bool.or_eq_true] at h
    rcases h with h | h
    · exact h0 j i h oj hj hall
    · obtain ⟨k, hk, h2⟩ := List.any_eq_true.1 h
      simp only [Bool.and_eq_true, decide_eq_true_eq] at h2
      obtain ⟨⟨h3, h4⟩, h5⟩ := h2
      have hk2 := h0 j k h4 oj hj hall
      cases hok : ops[k]? with
      | none =>
        have h6 : ¬ k < ops.size := by intro h; rw [Array.getElem?_eq_getElem h] at hok; cases hok
        have h7 : listed.getD k false = false := by
          have : ¬ k < listed.size := by rw [inv.size]; exact h6
          simp [this]
        rw [h7] at hk2; cases hk2
      | some ok => exact ih k i h5 ok hok fun e he hb => inv.closed k ok hok hk2 e he hb
theorem any_mox {n g : Nat} {Q : Act → World → Prop} {Q' : Exit → Act → World → Prop} (hok : MoxOk md ops n) (hns : n ≤ ops.size)
    (htail : ∀ listed i, HeadInv md ops n listed → i < n → listed.getD i true = false → ∀ t, n ≤ t → t ∉ Region.ready md ops listed)
    (hQ : ∀ listed a w, HeadInv md ops n listed → (∀ i, i < n → listed.getD i true = true) → C w → Q a w → wpAny P md ops Q' g listed a w) :
    ∀ (f : Nat) (listed : Array Bool) (I : List Nat) (a : Act) (w : World), I.length = f → Left md ops n listed I → HeadInv md ops n listed → C w →
      wpMix P ops C Q (I.filterMap (ops[·]?)) a w → wpAny P md ops Q' (f + g) listed a w
  | 0, listed, I, a, w, hl, hL, inv, hC, h => by
    obtain rfl := List.length_eq_zero_iff.1 hl
    rw [Nat.zero_add]
    refine hQ listed a w inv (fun i hi => ?_) hC h
    cases hc : listed.getD i true with
    | true => rfl
    | false => exact absurd ((hL.mem i).2 ⟨hi, hc⟩) (by simp)
  | f + 1, listed, I, a, w, hl, hL, inv, hC, h => by
    rw [show f + 1 + g = (f + g) + 1 by omega]
    obtain ⟨i0, I0, rfl⟩ : ∃ i0 I0, I = i0 :: I0 := by cases I with | nil => simp at hl | cons i I => exact ⟨i, I, rfl⟩
    have hi0 := (hL.mem i0).1 (List.mem_cons_self ..)
    refine ⟨fun h0 => ?_, fun j hj => ?_⟩
    · have h0' : i0 < ops.size := by omega
      have : i0 ∈ Region.ready md ops listed := by
        refine mem_ready.2 ⟨hi0.2, ops[i0], Array.getElem?_eq_getElem h0', fun e he hb => ?_⟩
        have hlt := hok.lt i0 _ (Array.getElem?_eq_getElem h0') e he hb
        cases hc : listed.getD e.on false with
        | true => rfl
        | false =>
          have h1 := (hL.mem e.on).2 ⟨by omega, getD_in (by rw [inv.size]; omega) hc⟩
          rcases List.mem_cons.1 h1 with h2 | h2
          · omega
          · have := (List.pairwise_cons.1 hL.inc).1 _ h2
            omega
      rw [h0] at this
      cases this
    · have hjn : j < n := by
        rcases Nat.lt_or_ge j n with h | h
        · exact h
        · exact absurd hj (htail listed i0 inv hi0.1 hi0.2 j h)
      obtain ⟨hjun, oj, hoj, hall⟩ := mem_ready.1 hj
      have hjI := (hL.mem j).2 ⟨hjn, hjun⟩
      obtain ⟨I1, I2, hI⟩ := List.append_of_mem hjI
      rw [hI] at h hL hl
      have hpw := List.pairwise_append.1 hL.inc
      have hpw2 := List.pairwise_cons.1 hpw.2.1
      rw [List.filterMap_append, List.filterMap_cons, hoj] at h
      have hp := mpull (Region.noSelect_spec hok.sel) hoj I1 (I2.filterMap (ops[·]?)) a w hC (fun i hi oi hoi => by
        have hlt : i < j := hpw.2.2 i hi j (List.mem_cons_self ..)
        have hun : listed.getD i false = false := getD_both ((hL.mem i).1 (List.mem_append_left _ hi)).2
        rcases hok.ap j oj hjn hoj i oi hlt hoi with h5 | h5
        · have h1 := must_done inv _ j i h5 oj hoj hall
          rw [hun] at h1
          cases h1
        · exact h5) h
      rw [← List.filterMap_append] at hp
      refine wpOp_of_pmix hoj hC hp fun a' w' hC' h' => any_mox hok hns htail hQ f _ (I1 ++ I2) a' w' (by simp at hl ⊢; omega) ⟨fun i => ?_, ?_⟩ (inv.set hj hjn) hC' h'
      · by_cases hij : j = i
        · subst hij
          have h1 : j ∉ I1 ++ I2 := by
            intro hm
            rcases List.mem_append.1 hm with hm | hm
            · have := hpw.2.2 j hm j (List.mem_cons_self ..); omega
            · have := hpw2.1 j hm; omega
          have h2 : (listed.setIfInBounds j true).getD j true = true := by
            have : j < listed.size := by rw [inv.size]; omega
            simp [this]
          simp [h1, h2]
        · have h2 := hL.mem i
          rw [getD_set_ne true hij, ← h2]
          simp [Ne.symm hij]
      · refine List.pairwise_append.2 ⟨hpw.1, hpw2.2, fun x hx y hy => hpw.2.2 x hx y (List.mem_cons_of_mem _ hy)⟩
def xregB (md : Region.Mode) (ops : Array Oper) (n : Nat) : Bool :=
  moxB md ops n && decide (n ≤ ops.size) && (decide (n = ops.size) || (Region.sinkB md ops n && Region.chainB md ops n)) && Region.seqB md ops (ops.size - n) n ((Array.range ops.size).map fun i => decide (i < n))
/-- **one walk serves every order** -/
theorem wp_region_mox {id : Nat} {Q : Exit → Act → World → Prop} {a : Act} {w : World} {l : List Oper} (n : Nat) (C : World → Prop) (hm : P.follows .mixedOrders = true) (hB : xregB .any l.toArray n = true) (hC : C w.drew)
    (h : wpMix P l.toArray C (fun a' w' => wpList P l.toArray Q (l.drop n) a' w') (l.take n) a w.drew) : (Code.region id l.toArray true).wp P Q a w := by
  simp only [xregB, Bool.and_eq_true, Bool.or_eq_true, decide_eq_true_eq] at hB
  obtain ⟨⟨⟨hf, hns⟩, ht⟩, hseq⟩ := hB
  have hok := moxB_ok hf
  have inv0 : HeadInv .any l.toArray n (Array.replicate l.toArray.size false) :=
    ⟨by simp, fun j oj _ hl => (by rw [getD_replicate_false] at hl; cases hl), fun t _ ht => getD_in (by simpa using ht) (getD_replicate_false _ _)⟩
  refine wp_region_any hm ?_
  have hL0 : Left .any l.toArray n (Array.replicate l.toArray.size false) (List.range n) := ⟨fun i => by
    rw [List.mem_range]
    refine ⟨fun hi => ⟨hi, getD_in (by simp at hns ⊢; omega) (getD_replicate_false _ _)⟩, fun h => h.1⟩, List.pairwise_lt_range⟩
  have hfm : (List.range n).filterMap (l.toArray[·]?) = l.take n := by
    have hns' : n ≤ l.length := by simpa using hns
    clear h ht hseq hok inv0 hL0 hf hns
    induction n with
    | zero => rfl
    | succ n ih =>
      rw [List.range_succ, List.filterMap_append, ih (by omega), List.take_succ_eq_append_getElem (by omega)]
      simp [show n < l.length by omega]
  have := any_mox (P := P) (C := C) (Q := fun a' w' => wpList P l.toArray Q (l.drop n) a' w') (Q' := Q) (g := l.toArray.size - n) hok hns (fun listed i inv hi hun t ht' => by
      rcases ht with h0 | ⟨h1, h2⟩
      · intro hr
        obtain ⟨_, o, ho, _⟩ := mem_ready.1 hr
        have := (Array.getElem?_eq_some_iff.1 ho).1
        omega
      · rcases Nat.lt_or_ge n l.toArray.size with h3 | h3
        · exact tail_waits h1 h2 h3 inv _ i rfl hi hun t ht'
        · intro hr
          obtain ⟨_, o, ho, _⟩ := mem_ready.1 hr
          have := (Array.getElem?_eq_some_iff.1 ho).1
          omega)
    (fun listed a' w' inv hall hC' hq => by
      have he : listed = (Array.range l.toArray.size).map fun i => decide (i < n) := by
        apply Array.ext
        · rw [inv.size]; simp
        · intro i h1 h2
          have h3 : i < l.toArray.size := by rw [← inv.size]; exact h1
          have h4 : ((Array.range l.toArray.size).map fun i => decide (i < n))[i] = decide (i < n) := by simp
          rw [h4]
          rcases Nat.lt_or_ge i n with h5 | h5
          · have := hall i h5
            simp [h1] at this
            simp [this, h5]
          · have := inv.tail i h5 h3
            simp [h1] at this
            simp [this, Nat.not_lt.2 h5]
      have hdl : (l.drop n).length = l.toArray.size - n := by simp
      rw [← he] at hseq
      have := wpAny_of_seq (P := P) (md := .any) (ops := l.toArray) (Q' := Q) (l.drop n) n listed a' w' (fun j => by simp [List.getElem?_drop]) (by rw [hdl]; exact hseq) hq
      rwa [hdl] at this)
    n (Array.replicate l.toArray.size false) (List.range n) a w.drew (by simp) hL0 inv0 hC (by rw [hfm]; exact h)
  rw [show n + (l.toArray.size - n) = l.toArray.size by omega] at this
  exact this
end
end Go.Proofs.YtbmhkdcmepfmbaaGreat
