/- Rows of pages, the reference's pool as a value. The reference's pool: find, Get. -/
import Derived.Test.YtbmhkdcmepfmbaaGreatB12
set_option linter.unusedVariables false
set_option linter.unusedSimpArgs false
namespace Go.Proofs.YtbmhkdcmepfmbaaGreat
open Go.RowKit
theorem bs_nil {A : Nat → Prop} {w : World} : Bs A w (.slice none 0 0) [] := ⟨⟨rfl, none, 0, rfl, Nat.le_refl _, fun _ => rfl, fun j u hj => by simp [bv] at hj⟩, by simp⟩
abbrev Th := Int × By
abbrev Tq := Th × Value
def tc (q : Tq) : List Value := [.int .i64 q.1.1, q.2]
def tcs (L : List Tq) : List Value := (L.map tc).flatten
theorem tcs_two (L : List Tq) : ∀ c ∈ L.map tc, c.length = 2 := by
  intro c hc; obtain ⟨q, _, rfl⟩ := List.mem_map.1 hc; rfl
theorem tcs_len (L : List Tq) : (tcs L).length = L.length * 2 := by
  unfold tcs; rw [flatten_len _ (tcs_two L), List.length_map]
theorem tcs_app (L M : List Tq) : tcs (L ++ M) = tcs L ++ tcs M := by simp [tcs]
theorem tcs_get (L : List Tq) (i : Nat) (h : i < L.length) : (tcs L)[i * 2]? = some (.int .i64 L[i].1.1) ∧ (tcs L)[i * 2 + 1]? = some L[i].2 := by
  unfold tcs
  rw [flatten_get (by decide) _ (tcs_two L), flatten_get (by decide) _ (tcs_two L)]
  rw [show i * 2 / 2 = i by omega, show (i * 2 + 1) / 2 = i by omega, show i * 2 % 2 = 0 by omega, show (i * 2 + 1) % 2 = 1 by omega]
  simp [h, tc]
theorem tcs_take (L : List Tq) (n : Nat) : (tcs L).take (n * 2) = tcs (L.take n) := by
  induction L generalizing n with
  | nil => simp [tcs]
  | cons q L ih =>
    cases n with
    | zero => simp [tcs]
    | succ n =>
      have : tcs (q :: L) = tc q ++ tcs L := by simp [tcs]
      rw [this, List.take_succ_cons, show tcs (q :: L.take n) = tc q ++ tcs (L.take n) by simp [tcs], ← ih n]
      rw [show (n + 1) * 2 = n * 2 + 1 + 1 by omega]
      simp [tc]
theorem tcs_drop (L : List Tq) (n : Nat) : (tcs L).drop (n * 2) = tcs (L.drop n) := by
  induction L generalizing n with
  | nil => simp [tcs]
  | cons q L ih =>
    cases n with
    | zero => simp [tcs]
    | succ n =>
      have : tcs (q :: L) = tc q ++ tcs L := by simp [tcs]
      rw [this, List.drop_succ_cons, ← ih n]
      rw [show (n + 1) * 2 = n * 2 + 1 + 1 by omega]
      simp [tc]
/-- v reads as the things l -/
def Ts (A : Nat → Prop) (w : World) (v : Value) (l : List Th) : Prop := ∃ L : List Tq, L.map (·.1) = l ∧ Row 2 A w v L.length (tcs L) ∧ (∀ q ∈ L, Bs A w q.2 q.1.2) ∧ L.length ≤ 1000000
theorem Ts.up {A : Nat → Prop} {w w' : World} {v : Value} {l : List Th} (h : Ts A w v l) (hb : Below w.heap.size w w') : Ts A w' v l := by
  obtain ⟨L, h1, h2, h3, h4⟩ := h
  exact ⟨L, h1, h2.up hb, fun q hq => (h3 q hq).up hb, h4⟩
theorem Ts.keepS {A : Nat → Prop} {w w' : World} {v : Value} {l : List Th} (h : Ts A w v l) (hb : Same A w w') : Ts A w' v l := by
  obtain ⟨L, h1, h2, h3, h4⟩ := h
  exact ⟨L, h1, h2.keepS hb, fun q hq => (h3 q hq).keepS hb, h4⟩
theorem Ts.monoS {A A' : Nat → Prop} {w : World} {v : Value} {l : List Th} (h : Ts A w v l) (hA : ∀ b, A b → A' b) : Ts A' w v l := by
  obtain ⟨L, h1, h2, h3, h4⟩ := h
  exact ⟨L, h1, h2.monoS hA, fun q hq => (h3 q hq).monoS hA, h4⟩
theorem Ts.at {A : Nat → Prop} {w : World} {v : Value} {l : List Th} (h : Ts A w v l) : ∃ (a : Option Addr) (c : Nat), v = .slice a l.length c ∧ l.length ≤ c ∧ (a = none → c = 0) ∧ l.length ≤ 1000000 ∧
    ∀ j (hj : j < l.length), ∃ b o u, a = some ⟨b, o, none⟩ ∧ A b ∧ w.cell? ⟨b, o + j * 2, none⟩ = some (.int .i64 l[j].1) ∧ w.cell? ⟨b, o + j * 2 + 1, none⟩ = some u ∧ Bs A w u l[j].2 := by
  obtain ⟨L, rfl, ⟨hl, a, c, hv, hc, ha, H⟩, h3, h4⟩ := h
  refine ⟨a, c, by rw [hv, List.length_map], by rw [List.length_map]; exact hc, ha, by rw [List.length_map]; exact h4, fun j hj => ?_⟩
  have hj' : j < L.length := by simpa using hj
  obtain ⟨g1, g2⟩ := tcs_get L j hj'
  obtain ⟨b, o, e1, e2, e3⟩ := H _ _ g1
  obtain ⟨b', o', e1', e2', e3'⟩ := H _ _ g2
  rw [e1] at e1'
  simp only [Option.some.injEq, Addr.mk.injEq, and_true] at e1'
  obtain ⟨rfl, rfl⟩ := e1'
  refine ⟨b, o, L[j].2, e1, e2, by rw [e3]; simp, e3', ?_⟩
  have := h3 L[j] (List.getElem_mem hj')
  simpa using this

theorem tcs_one {A : Nat → Prop} {w : World} {L : List Tq} (h : ∀ q ∈ L, Bs A w q.2 q.1.2) : ∀ u ∈ tcs L, u.oneCell' = true := by
  intro u hu
  unfold tcs at hu
  obtain ⟨c, hc, hu⟩ := List.mem_flatten.1 hu
  obtain ⟨q, hq, rfl⟩ := List.mem_map.1 hc
  simp only [tc, List.mem_cons, List.not_mem_nil, or_false] at hu
  rcases hu with rfl | rfl
  · rfl
  · obtain ⟨a, c, e, _⟩ := (h q hq).at
    rw [e]; rfl
theorem Tryz.info105 : (Tryz.prog.info? 105).map (fun i => (i.zero, i.size, i.bytes)) = some (some (.agg #[.int .i64 0, .slice none 0 0]), 2, 32) := by kernel_rfl
theorem Tryz.size48 (w : World) : (sizeOf (Tryz.prog.elem 48)).run Tryz.prog w = .ok 2 w := by kernel_rfl
set_option maxRecDepth 100000 in
/-- append of things -/
theorem app48 {w : World} {ops : Array Oper} {rest : List Oper} {o : Oper} {a : Act} {Q : Exit → Act → World → Prop} (hgd : o.guard = none) (s x : Operand)
    (ho : o.op = .call { callee := .builtin .append, args := #[s, x], argTypes := #[48, 48] }) {B : Nat} {v : Value} {L : List Tq} (hs : a.eval s = v) (hown : w.ownsRow B 105 2 v L.length (tcs L))
    {A : Nat → Prop} {u : Value} {M : List Tq} (hx : a.eval x = u) (hsrc : Row 2 A w u M.length (tcs M)) (hM : ∀ q ∈ M, ∃ A w, Bs A w q.2 q.1.2) (hlen : L.length + M.length ≤ 3000000) (hB : B ≤ w.heap.size)
    (h : ∀ v' w', w'.ownsRow B 105 2 v' (L ++ M).length (tcs (L ++ M)) → w.grownBy w' v.ownBlock → (v'.ownBlock = v.ownBlock ∨ v'.ownBlock = some w.heap.size) → wpList Tryz.prog ops Q rest (a.put o.dst v') w') :
    wpList Tryz.prog ops Q (o :: rest) a w := by
  have h1 : ∀ u ∈ tcs M, u.oneCell' = true := by
    intro u hu
    unfold tcs at hu
    obtain ⟨c, hc, hu⟩ := List.mem_flatten.1 hu
    obtain ⟨q, hq, rfl⟩ := List.mem_map.1 hc
    simp only [tc, List.mem_cons, List.not_mem_nil, or_false] at hu
    rcases hu with rfl | rfl
    · rfl
    · obtain ⟨_, _, hb⟩ := hM q hq
      obtain ⟨a, c, e, _⟩ := hb.at
      rw [e]; rfl
  refine wpl_app hgd s x 48 ho Tryz.underlying48 Tryz.info105 rfl (by decide) hs hown hx hsrc h1 (by unfold maxLen; omega) (by omega) hB fun v' w' h1 h2 h3 h4 => h v' w' ?_ h2 h4
  rw [List.length_append, tcs_app]
  exact h1
/-- a row of things of the call's own, as it is read -/
theorem ts_own {A : Nat → Prop} {B : Nat} {w : World} {v : Value} {L : List Tq} (h : w.ownsRow B 105 2 v L.length (tcs L)) (hL : ∀ q ∈ L, Bs (fun k => A k ∨ B ≤ k) w q.2 q.1.2) (hn : L.length ≤ 1000000) : Ts (fun k => A k ∨ B ≤ k) w v (L.map (·.1)) :=
  ⟨L, rfl, (Row.of_ownB h).monoS fun _ hk => .inr hk, hL, hn⟩
theorem one_row2 {w : World} (q : Tq) : Row 2 (Lt (w.heap.size + 1)) (w.alloc (.cells #[.int .i64 q.1.1, q.2] 105)) (.slice (some ⟨w.heap.size, 0, none⟩) 1 1) 1 (tcs [q]) := by
  refine ⟨rfl, _, _, rfl, Nat.le_refl _, by simp, fun j u hj => ⟨_, _, rfl, Nat.lt_succ_self _, ?_⟩⟩
  have hb : (w.alloc (.cells #[.int .i64 q.1.1, q.2] 105)).heap[w.heap.size]? = some (.cells #[.int .i64 q.1.1, q.2] 105) := heap_alloc_new w _
  match j, hj with
  | 0, hj => simp [tcs, tc] at hj; subst hj; simp only [World.cell?, hb]; rfl
  | 1, hj => simp [tcs, tc] at hj; subst hj; simp only [World.cell?, hb]; rfl
  | j + 2, hj => simp [tcs, tc] at hj
theorem own_empty2 {B : Nat} {w : World} {e : TypeId} (hB : B ≤ w.heap.size) : (w.alloc (.cells #[] e)).ownsRow B e 2 (.slice (some ⟨w.heap.size, 0, none⟩) 0 0) ([] : List Tq).length (tcs []) :=
  ⟨rfl, .inr ⟨w.heap.size, 0, #[], rfl, hB, heap_alloc_new w _, Nat.le_refl _, by decide, rfl, rfl⟩⟩

theorem Ts.nil {A : Nat → Prop} {w : World} : Ts A w (.slice none 0 0) [] := ⟨[], rfl, ⟨rfl, none, 0, rfl, Nat.le_refl _, fun _ => rfl, fun j u hj => by simp [tcs] at hj⟩, by simp, by simp⟩
/-- the reference's pool as a value: pages and note -/
def Rp (A : Nat → Prop) (w : World) (v : Value) (R : Al By) (nt : By) : Prop := ∃ vs vn, v = .agg #[vs, vn] ∧ Ts A w vs R ∧ Bs A w vn nt
theorem Rp.up {A : Nat → Prop} {w w' : World} {v : Value} {R : Al By} {nt : By} (h : Rp A w v R nt) (hb : Below w.heap.size w w') : Rp A w' v R nt := by
  obtain ⟨vs, vn, e, h1, h2⟩ := h
  exact ⟨vs, vn, e, h1.up hb, h2.up hb⟩
theorem Ts.wb {A X : Nat → Prop} {w w' : World} {v : Value} {l : List Th} (h : Ts A w v l) (hb : Wb X w w') (hX : ∀ k, X k → ¬ A k) : Ts A w' v l := by
  obtain ⟨L, h1, h2, h3, h4⟩ := h
  exact ⟨L, h1, h2.wb hb hX, fun q hq => (h3 q hq).wb hb hX, h4⟩
theorem Rp.wb {A X : Nat → Prop} {w w' : World} {v : Value} {R : Al By} {nt : By} (h : Rp A w v R nt) (hb : Wb X w w') (hX : ∀ k, X k → ¬ A k) : Rp A w' v R nt := by
  obtain ⟨vs, vn, e, h1, h2⟩ := h
  exact ⟨vs, vn, e, h1.wb hb hX, h2.wb hb hX⟩
theorem Rp.monoS {A A' : Nat → Prop} {w : World} {v : Value} {R : Al By} {nt : By} (h : Rp A w v R nt) (hA : ∀ b, A b → A' b) : Rp A' w v R nt := by
  obtain ⟨vs, vn, e, h1, h2⟩ := h
  exact ⟨vs, vn, e, h1.monoS hA, h2.monoS hA⟩
end Go.Proofs.YtbmhkdcmepfmbaaGreat
set_option linter.unusedVariables false
set_option linter.unusedSimpArgs false
namespace Go.Proofs.YtbmhkdcmepfmbaaGreat
open Go.RowKit
attribute [local go_sem ↓] Go.wp_at_zero Go.wp_at_succ
def Fnd (R : Al By) (id x : Int) : Prop := (x = -1 ∧ ∀ j (h : j < R.length), R[j].1 ≠ id) ∨ ∃ k : Nat, x = k ∧ ∃ h : k < R.length, R[k].1 = id
set_option maxRecDepth 100000 in
set_option maxHeartbeats 1000000 in
/-- groyneref07.find -/
theorem find_any {A : Nat → Prop} {w : World} {vs vn : Value} {R : Al By} (id : Int) (h : Ts A w vs R) : Calls Tryz.prog 77 #[.agg #[vs, vn], .int .i64 id] w fun e w' => (∃ x, e = .returned (.int .i64 x) ∧ Fnd R id x) ∧ Below w.heap.size w w' := by
  obtain ⟨a, c, rfl, hc, _, hm, H⟩ := h.at
  have hm' : (R.length : Int) ≤ 1000000 := by omega
  obtain ⟨W, hW⟩ : ∃ W, W = w.alloc (.cells #[.slice a R.length c, vn] 50) := ⟨_, rfl⟩
  have hb : Below w.heap.size w W := by rw [hW]; exact up_alloc _ _
  have hbx : W.heap[w.heap.size]? = some (.cells #[.slice a R.length c, vn] 50 (0, 0)) := by rw [hW]; exact heap_alloc_new _ _
  have c0 : W.cell? ⟨w.heap.size, 0, none⟩ = some (.slice a R.length c) := by simp only [World.cell?, hbx]; rfl
  obtain ⟨_, _, _, hc2, _, _, H2⟩ := (h.up hb).at
  have HW := Hid.mk' hW
  have HB := Hid.mk' hb
  have H := Hid.mk' (h.up hb).at
  clear h H2 hW hb hbx hc2
  go_enter Tryz.func77, Tryz.ntmps77
  go_wp2_with fail
  rw [← HW.out]
  go_loop [5] (fun i => ∃ k : Nat, k ≤ R.length ∧ i = .int .i64 k ∧ Hid (∀ j (h : j < R.length), j < k → R[j].1 ≠ id)) (fun i => R.length - (intOf i).toNat)
  case atStart => exact ⟨0, by omega, rfl, fun j _ h => by omega⟩
  case round =>
    obtain ⟨k, hk, rfl, HT⟩ := hrel
    by_cases hlt : k < R.length
    · have hlt' : (k : Int) < (R.length : Int) := by omega
      obtain ⟨a', c', e1, _, _, _, H2⟩ := H.out
      cases e1
      obtain ⟨b, o, u, rfl, _, h1, h2, h3⟩ := H2 k hlt
      clear H2 h2 h3
      by_cases hd : R[k].1 = id
      · have HV : Hid (Fnd R id k) := .inr ⟨k, rfl, hlt, hd⟩
        rw [hd] at h1
        clear hd
        go_wp2_with fail
        go_ret
        exact ⟨⟨_, rfl, HV.out⟩, HB.out⟩
      · have hd2 : decide (R[k].1 = id) = false := by simpa using hd
        have HV : Hid (∀ j (h : j < R.length), j < k + 1 → R[j].1 ≠ id) := fun j h h2 => by
          by_cases e : j = k
          · subst e; exact hd
          · exact HT.out j h (by omega)
        go_wp2_with fail
        go_round
        case rel => exact ⟨k + 1, by omega, by go_num, HV⟩
        case measure => simp [intOf]; omega
    · obtain rfl : k = R.length := by omega
      go_wp2_with fail
      go_ret
      exact ⟨⟨_, rfl, .inl ⟨rfl, fun j h => HT.out j h h⟩⟩, HB.out⟩
theorem fnd_none {R : Al By} (hR : ASrt R) {id x : Int} (h : Fnd R id x) : (x < 0 ↔ aget R id = none) ∧ (x < 0 → x = -1) := by
  rcases h with ⟨rfl, h⟩ | ⟨k, rfl, hk, he⟩
  · refine ⟨⟨fun _ => ?_, fun _ => by decide⟩, fun _ => rfl⟩
    cases hg : aget R id with
    | none => rfl
    | some l =>
      obtain ⟨j, hj, e⟩ := List.getElem_of_mem (aget_mem hg)
      exact absurd (by rw [e]) (h j hj)
  · have : aget R id = some R[k].2 := aget_of_mem hR (by rw [← he]; exact List.getElem_mem hk)
    rw [this]
    exact ⟨⟨fun h => by omega, fun h => by cases h⟩, fun h => by omega⟩
theorem fnd_some {R : Al By} {id x : Int} (h : Fnd R id x) (hx : ¬ x < 0) : ∃ k : Nat, x = k ∧ ∃ h : k < R.length, R[k].1 = id := by
  rcases h with ⟨rfl, h⟩ | h
  · exact absurd (by decide) hx
  · exact h
/-- is there such a page? -/
def gE (R : Al By) (id : Int) : Int := if (aget R id).isSome then 0 else 1
theorem gE_none {R : Al By} {id : Int} (h : aget R id = none) : gE R id = 1 := by unfold gE; rw [h]; rfl
theorem gE_some {R : Al By} {id : Int} {l : By} (h : aget R id = some l) : gE R id = 0 := by unfold gE; rw [h]; rfl
set_option maxRecDepth 100000 in
set_option maxHeartbeats 1000000 in
/-- groyneref07.Get -/
theorem rget_any {A : Nat → Prop} {w : World} {vs vn : Value} {R : Al By} (hR : ASrt R) (id : Int) (h : Ts A w vs R) : Calls Tryz.prog 50 #[.agg #[vs, vn], .int .i64 id] w fun e w' => (∃ v, e = .returned (.tuple #[v, .int .i64 (gE R id)]) ∧ Bs A w' v ((aget R id).getD [])) ∧ Below w.heap.size w w' := by
  obtain ⟨a, c, rfl, hc, _, hm, _⟩ := h.at
  obtain ⟨W, hW⟩ : ∃ W, W = w.alloc (.cells #[.slice a R.length c, vn] 50) := ⟨_, rfl⟩
  have hb : Below w.heap.size w W := by rw [hW]; exact up_alloc _ _
  have hbx : W.heap[w.heap.size]? = some (.cells #[.slice a R.length c, vn] 50 (0, 0)) := by rw [hW]; exact heap_alloc_new _ _
  have c0 : W.cell? ⟨w.heap.size, 0, none⟩ = some (.slice a R.length c) := by simp only [World.cell?, hbx]; rfl
  have c1 : W.cell? ⟨w.heap.size, 1, none⟩ = some vn := by simp only [World.cell?, hbx]; rfl
  have HW := Hid.mk' hW
  have HB := Hid.mk' hb
  have HFI := Hid.mk' (find_any (vn := vn) id (h.up hb))
  have HTS := Hid.mk' (h.up hb)
  have HC := Hid.mk' c0
  have HLT : Hid (w.heap.size < W.heap.size) := by rw [hW]; show _ < _; simp
  have HRR := Hid.mk' hR
  clear h hW hb hR c0 c1 hm hc
  go_enter Tryz.func50, Tryz.ntmps50
  go_wp2_with fail
  rw [← HW.out]
  refine HFI.out.mono ?_
  rintro e w1 ⟨⟨x, rfl, hf⟩, hb1⟩
  have HF := Hid.mk' hf
  have HB1 := Hid.mk' hb1
  have c0 : w1.cell? ⟨w.heap.size, 0, none⟩ = some (.slice a R.length c) := by rw [hb1.cell HLT.out]; exact HC.out
  have HN := Hid.mk' (fnd_none HRR.out hf)
  clear hb1 hf
  by_cases hx : x < 0
  · have HX := Hid.mk' hx
    go_wp2_with fail
    have hn := HN.out.1.1 HX.out
    go_ret2
    refine ⟨⟨_, by rw [gE_none hn]; rfl, by rw [hn]; exact bs_nil⟩, HB.out.trans (HB1.out.mono HB.out.size)⟩
    -- ⟨⟨_, rfl, bs_nil⟩, HB.out.trans (HB1.out.mono HB.out.size)⟩
  · obtain ⟨k, rfl, hk, he⟩ := fnd_some HF.out hx
    have hg : aget R id = some R[k].2 := aget_of_mem HRR.out (by rw [← he]; exact List.getElem_mem hk)
    have HG := Hid.mk' hg
    have hk' : (k : Int) < (R.length : Int) := by omega
    obtain ⟨_, _, e1, _, _, _, H2⟩ := (HTS.out.up HB1.out).at
    cases e1
    obtain ⟨b, o, u, rfl, _, h1, h2, h3⟩ := H2 k hk
    obtain ⟨ua, uc, rfl, _⟩ := h3.at
    have H3 := Hid.mk' h3
    clear H2 h1 h3 hg he
    generalize R[k].2 = dt at *
    go_wp2_with fail
    go_ret2
    refine ⟨⟨_, by rw [gE_some HG.out]; rfl, by rw [HG.out]; exact H3.out⟩, HB.out.trans (HB1.out.mono HB.out.size)⟩
    -- ⟨⟨_, rfl, H3.out⟩, HB.out.trans (HB1.out.mono HB.out.size)⟩
end Go.Proofs.YtbmhkdcmepfmbaaGreat
