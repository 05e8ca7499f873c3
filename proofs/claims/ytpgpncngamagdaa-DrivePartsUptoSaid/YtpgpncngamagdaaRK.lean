/- Rows of files, rows of the reference's operations, its drive as a value. -/
import Derived.Test.YtpgpncngamagdaaDV
set_option linter.unusedVariables false
set_option linter.unusedSimpArgs false
namespace Go.Proofs.Ytpgpncngamagdaa
open Go.RowKit
theorem bs_nil {A : Nat → Prop} {w : World} : Bs A w (.slice none 0 0) [] := ⟨⟨rfl, none, 0, rfl, Nat.le_refl _, fun _ => rfl, fun j u hj => by simp [bv] at hj⟩, by simp⟩
abbrev Th := By × By
abbrev Tq := Th × Value
def tc (q : Tq) : List Value := [.string ⟨q.1.1.toArray⟩, q.2]
def tcs (L : List Tq) : List Value := (L.map tc).flatten
theorem tcs_two (L : List Tq) : ∀ c ∈ L.map tc, c.length = 2 := by
  intro c hc; obtain ⟨q, _, rfl⟩ := List.mem_map.1 hc; rfl
theorem tcs_len (L : List Tq) : (tcs L).length = L.length * 2 := by
  unfold tcs; rw [flatten_len _ (tcs_two L), List.length_map]
theorem tcs_app (L M : List Tq) : tcs (L ++ M) = tcs L ++ tcs M := by simp [tcs]
theorem tcs_get (L : List Tq) (i : Nat) (h : i < L.length) : (tcs L)[i * 2]? = some (.string ⟨L[i].1.1.toArray⟩) ∧ (tcs L)[i * 2 + 1]? = some L[i].2 := by
  unfold tcs
  rw [flatten_get (by decide) _ (tcs_two L), flatten_get (by decide) _ (tcs_two L)]
  rw [show i * 2 / 2 = i by omega, show (i * 2 + 1) / 2 = i by omega, show i * 2 % 2 = 0 by omega, show (i * 2 + 1) % 2 = 1 by omega]
  simp [h, tc]
theorem tcs_take (L : List Tq) (n : Nat) : (tcs L).take (n * 2) = tcs (L.take n) := by
  induction L generalizing n with
  | nil => simp [tcs]
  | cons q L ih =>
    cases n with
    | zero => simp [tcs]
    | succ n =>
      have : tcs (q :: L) = tc q ++ tcs L := by simp [tcs]
      rw [this, List.take_succ_cons, show tcs (q :: L.take n) = tc q ++ tcs (L.take n) by simp [tcs], ← ih n]
      rw [show (n + 1) * 2 = n * 2 + 1 + 1 by omega]
      simp [tc]
theorem tcs_drop (L : List Tq) (n : Nat) : (tcs L).drop (n * 2) = tcs (L.drop n) := by
  induction L generalizing n with
  | nil => simp [tcs]
  | cons q L ih =>
    cases n with
    | zero => simp [tcs]
    | succ n =>
      have : tcs (q :: L) = tc q ++ tcs L := by simp [tcs]
      rw [this, List.drop_succ_cons, ← ih n]
      rw [show (n + 1) * 2 = n * 2 + 1 + 1 by omega]
      simp [tc]
/-- v reads as the things l -/
def Ts (A : Nat → Prop) (w : World) (v : Value) (l : List Th) : Prop := ∃ L : List Tq, L.map (·.1) = l ∧ Row 2 A w v L.length (tcs L) ∧ (∀ q ∈ L, Bs A w q.2 q.1.2) ∧ L.length ≤ 1000000
theorem Ts.up {A : Nat → Prop} {w w' : World} {v : Value} {l : List Th} (h : Ts A w v l) (hb : Below w.heap.size w w') : Ts A w' v l := by
  obtain ⟨L, h1, h2, h3, h4⟩ := h
  exact ⟨L, h1, h2.up hb, fun q hq => (h3 q hq).up hb, h4⟩
theorem Ts.keepS {A : Nat → Prop} {w w' : World} {v : Value} {l : List Th} (h : Ts A w v l) (hb : Same A w w') : Ts A w' v l := by
  obtain ⟨L, h1, h2, h3, h4⟩ := h
  exact ⟨L, h1, h2.keepS hb, fun q hq => (h3 q hq).keepS hb, h4⟩
theorem Ts.monoS {A A' : Nat → Prop} {w : World} {v : Value} {l : List Th} (h : Ts A w v l) (hA : ∀ b, A b → A' b) : Ts A' w v l := by
  obtain ⟨L, h1, h2, h3, h4⟩ := h
  exact ⟨L, h1, h2.monoS hA, fun q hq => (h3 q hq).monoS hA, h4⟩
theorem Ts.at {A : Nat → Prop} {w : World} {v : Value} {l : List Th} (h : Ts A w v l) : ∃ (a : Option Addr) (c : Nat), v = .slice a l.length c ∧ l.length ≤ c ∧ (a = none → c = 0) ∧ l.length ≤ 1000000 ∧
    ∀ j (hj : j < l.length), ∃ b o u, a = some ⟨b, o, none⟩ ∧ A b ∧ w.cell? ⟨b, o + j * 2, none⟩ = some (.string ⟨l[j].1.toArray⟩) ∧ w.cell? ⟨b, o + j * 2 + 1, none⟩ = some u ∧ Bs A w u l[j].2 := by
  obtain ⟨L, rfl, ⟨hl, a, c, hv, hc, ha, H⟩, h3, h4⟩ := h
  refine ⟨a, c, by rw [hv, List.length_map], by rw [List.length_map]; exact hc, ha, by rw [List.length_map]; exact h4, fun j hj => ?_⟩
  have hj' : j < L.length := by simpa using hj
  obtain ⟨g1, g2⟩ := tcs_get L j hj'
  obtain ⟨b, o, e1, e2, e3⟩ := H _ _ g1
  obtain ⟨b', o', e1', e2', e3'⟩ := H _ _ g2
  rw [e1] at e1'
  simp only [Option.some.injEq, Addr.mk.injEq, and_true] at e1'
  obtain ⟨rfl, rfl⟩ := e1'
  refine ⟨b, o, L[j].2, e1, e2, by rw [e3]; simp, e3', ?_⟩
  have := h3 L[j] (List.getElem_mem hj')
  simpa using this

theorem tcs_one {A : Nat → Prop} {w : World} {L : List Tq} (h : ∀ q ∈ L, Bs A w q.2 q.1.2) : ∀ u ∈ tcs L, u.oneCell' = true := by
  intro u hu
  unfold tcs at hu
  obtain ⟨c, hc, hu⟩ := List.mem_flatten.1 hu
  obtain ⟨q, hq, rfl⟩ := List.mem_map.1 hc
  simp only [tc, List.mem_cons, List.not_mem_nil, or_false] at hu
  rcases hu with rfl | rfl
  · rfl
  · obtain ⟨a, c, e, _⟩ := (h q hq).at
    rw [e]; rfl
theorem Try.info114 : (Try.prog.info? 114).map (fun i => (i.zero, i.size, i.bytes)) = some (some (.agg #[.string ⟨#[]⟩, .slice none 0 0]), 2, 40) := by kernel_rfl
theorem Try.size48 (w : World) : (sizeOf (Try.prog.elem 48)).run Try.prog w = .ok 2 w := by kernel_rfl
set_option maxRecDepth 100000 in
/-- append of things -/
theorem app48 {w : World} {ops : Array Oper} {rest : List Oper} {o : Oper} {a : Act} {Q : Exit → Act → World → Prop} (hgd : o.guard = none) (s x : Operand)
    (ho : o.op = .call { callee := .builtin .append, args := #[s, x], argTypes := #[48, 48] }) {B : Nat} {v : Value} {L : List Tq} (hs : a.eval s = v) (hown : w.ownsRow B 114 2 v L.length (tcs L))
    {A : Nat → Prop} {u : Value} {M : List Tq} (hx : a.eval x = u) (hsrc : Row 2 A w u M.length (tcs M)) (hM : ∀ q ∈ M, ∃ A w, Bs A w q.2 q.1.2) (hlen : L.length + M.length ≤ 3000000) (hB : B ≤ w.heap.size)
    (h : ∀ v' w', w'.ownsRow B 114 2 v' (L ++ M).length (tcs (L ++ M)) → w.grownBy w' v.ownBlock → wpList Try.prog ops Q rest (a.put o.dst v') w') :
    wpList Try.prog ops Q (o :: rest) a w := by
  have h1 : ∀ u ∈ tcs M, u.oneCell' = true := by
    intro u hu
    unfold tcs at hu
    obtain ⟨c, hc, hu⟩ := List.mem_flatten.1 hu
    obtain ⟨q, hq, rfl⟩ := List.mem_map.1 hc
    simp only [tc, List.mem_cons, List.not_mem_nil, or_false] at hu
    rcases hu with rfl | rfl
    · rfl
    · obtain ⟨_, _, hb⟩ := hM q hq
      obtain ⟨a, c, e, _⟩ := hb.at
      rw [e]; rfl
  refine wpl_app hgd s x 48 ho Try.underlying48 Try.info114 rfl (by decide) hs hown hx hsrc h1 (by unfold maxLen; omega) (by omega) hB fun v' w' h1 h2 h3 h4 => h v' w' ?_ h2
  rw [List.length_append, tcs_app]
  exact h1
/-- a row of things of the call's own, as it is read -/
theorem ts_own {A : Nat → Prop} {B : Nat} {w : World} {v : Value} {L : List Tq} (h : w.ownsRow B 114 2 v L.length (tcs L)) (hL : ∀ q ∈ L, Bs (fun k => A k ∨ B ≤ k) w q.2 q.1.2) (hn : L.length ≤ 1000000) : Ts (fun k => A k ∨ B ≤ k) w v (L.map (·.1)) :=
  ⟨L, rfl, (Row.of_ownB h).monoS fun _ hk => .inr hk, hL, hn⟩
theorem one_row2 {w : World} (q : Tq) : Row 2 (Lt (w.heap.size + 1)) (w.alloc (.cells #[.string ⟨q.1.1.toArray⟩, q.2] 114)) (.slice (some ⟨w.heap.size, 0, none⟩) 1 1) 1 (tcs [q]) := by
  refine ⟨rfl, _, _, rfl, Nat.le_refl _, by simp, fun j u hj => ⟨_, _, rfl, Nat.lt_succ_self _, ?_⟩⟩
  have hb : (w.alloc (.cells #[.string ⟨q.1.1.toArray⟩, q.2] 114)).heap[w.heap.size]? = some (.cells #[.string ⟨q.1.1.toArray⟩, q.2] 114) := heap_alloc_new w _
  match j, hj with
  | 0, hj => simp [tcs, tc] at hj; subst hj; simp only [World.cell?, hb]; rfl
  | 1, hj => simp [tcs, tc] at hj; subst hj; simp only [World.cell?, hb]; rfl
  | j + 2, hj => simp [tcs, tc] at hj
theorem own_empty2 {B : Nat} {w : World} {e : TypeId} (hB : B ≤ w.heap.size) : (w.alloc (.cells #[] e)).ownsRow B e 2 (.slice (some ⟨w.heap.size, 0, none⟩) 0 0) ([] : List Tq).length (tcs []) :=
  ⟨rfl, .inr ⟨w.heap.size, 0, #[], rfl, hB, heap_alloc_new w _, Nat.le_refl _, by decide, rfl, rfl⟩⟩

theorem Ts.nil {A : Nat → Prop} {w : World} : Ts A w (.slice none 0 0) [] := ⟨[], rfl, ⟨rfl, none, 0, rfl, Nat.le_refl _, fun _ => rfl, fun j u hj => by simp [tcs] at hj⟩, by simp, by simp⟩
/-- an operation's cells -/
def oc (x : Dd) (u : Value) : List Value :=
  match x with
  | .write n i _ => [.int .i64 1, .string ⟨n.toArray⟩, .string ⟨#[]⟩, .int .i64 (i : Int), u]
  | .trim n k => [.int .i64 2, .string ⟨n.toArray⟩, .string ⟨#[]⟩, .int .i64 (k : Int), .slice none 0 0]
  | .ren a b => [.int .i64 3, .string ⟨a.toArray⟩, .string ⟨b.toArray⟩, .int .i64 0, .slice none 0 0]
  | .rem n => [.int .i64 4, .string ⟨n.toArray⟩, .string ⟨#[]⟩, .int .i64 0, .slice none 0 0]
def okd (x : Dd) : Int := match x with | .write .. => 1 | .trim .. => 2 | .ren .. => 3 | .rem .. => 4
def onm (x : Dd) : By := match x with | .write n _ _ => n | .trim n _ => n | .ren a _ => a | .rem n => n
def oto (x : Dd) : By := match x with | .ren _ b => b | _ => []
def oat (x : Dd) : Nat := match x with | .write _ i _ => i | .trim _ k => k | _ => 0
def oda (x : Dd) : By := match x with | .write _ _ l => l | _ => []
def ova (x : Dd) (u : Value) : Value := match x with | .write .. => u | _ => .slice none 0 0
theorem oc_eq (x : Dd) (u : Value) : oc x u = [.int .i64 (okd x), .string ⟨(onm x).toArray⟩, .string ⟨(oto x).toArray⟩, .int .i64 (oat x : Int), ova x u] := by cases x <;> rfl
abbrev Oq := Dd × Value
def oq (q : Oq) : List Value := oc q.1 q.2
def ocs (L : List Oq) : List Value := (L.map oq).flatten
theorem ocs_five (L : List Oq) : ∀ c ∈ L.map oq, c.length = 5 := by
  intro c hc; obtain ⟨q, _, rfl⟩ := List.mem_map.1 hc; unfold oq; rw [oc_eq]; rfl
theorem ocs_len (L : List Oq) : (ocs L).length = L.length * 5 := by
  unfold ocs; rw [flatten_len _ (ocs_five L), List.length_map]
theorem ocs_app (L M : List Oq) : ocs (L ++ M) = ocs L ++ ocs M := by simp [ocs]
theorem ocs_get (L : List Oq) (i : Nat) (h : i < L.length) (j : Nat) (hj : j < 5) : (ocs L)[i * 5 + j]? = (oc L[i].1 L[i].2)[j]? := by
  unfold ocs
  rw [flatten_get (by decide) _ (ocs_five L)]
  rw [show (i * 5 + j) / 5 = i by omega, show (i * 5 + j) % 5 = j by omega]
  simp [h, oq]
/-- v reads as the operations Q -/
def OpD (A : Nat → Prop) (w : World) (q : Oq) : Prop := Bs A w (ova q.1 q.2) (oda q.1)
def Os (A : Nat → Prop) (w : World) (v : Value) (Q : List Dd) : Prop := ∃ L : List Oq, L.map (·.1) = Q ∧ Row 5 A w v L.length (ocs L) ∧ (∀ q ∈ L, OpD A w q) ∧ L.length ≤ 1000000
theorem Os.up {A : Nat → Prop} {w w' : World} {v : Value} {l : List Dd} (h : Os A w v l) (hb : Below w.heap.size w w') : Os A w' v l := by
  obtain ⟨L, h1, h2, h3, h4⟩ := h
  exact ⟨L, h1, h2.up hb, fun q hq => Bs.up (h3 q hq) hb, h4⟩
theorem Os.keepS {A : Nat → Prop} {w w' : World} {v : Value} {l : List Dd} (h : Os A w v l) (hb : Same A w w') : Os A w' v l := by
  obtain ⟨L, h1, h2, h3, h4⟩ := h
  exact ⟨L, h1, h2.keepS hb, fun q hq => Bs.keepS (h3 q hq) hb, h4⟩
theorem Os.monoS {A A' : Nat → Prop} {w : World} {v : Value} {l : List Dd} (h : Os A w v l) (hA : ∀ b, A b → A' b) : Os A' w v l := by
  obtain ⟨L, h1, h2, h3, h4⟩ := h
  exact ⟨L, h1, h2.monoS hA, fun q hq => Bs.monoS (h3 q hq) hA, h4⟩
theorem Os.nil {A : Nat → Prop} {w : World} : Os A w (.slice none 0 0) [] := ⟨[], rfl, ⟨rfl, none, 0, rfl, Nat.le_refl _, fun _ => rfl, fun j u hj => by simp [ocs] at hj⟩, by simp, by simp⟩
theorem Os.at {A : Nat → Prop} {w : World} {v : Value} {l : List Dd} (h : Os A w v l) : ∃ (a : Option Addr) (c : Nat), v = .slice a l.length c ∧ l.length ≤ c ∧ (a = none → c = 0) ∧ l.length ≤ 1000000 ∧
    ∀ j (hj : j < l.length), ∃ b o u, a = some ⟨b, o, none⟩ ∧ A b ∧ (w.cell? ⟨b, o + j * 5, none⟩ = some (.int .i64 (okd l[j])) ∧ w.cell? ⟨b, o + j * 5 + 1, none⟩ = some (.string ⟨(onm l[j]).toArray⟩) ∧ w.cell? ⟨b, o + j * 5 + 2, none⟩ = some (.string ⟨(oto l[j]).toArray⟩) ∧ w.cell? ⟨b, o + j * 5 + 3, none⟩ = some (.int .i64 (oat l[j] : Int)) ∧ w.cell? ⟨b, o + j * 5 + 4, none⟩ = some u) ∧ Bs A w u (oda l[j]) := by
  obtain ⟨L, rfl, ⟨hl, a, c, hv, hc, ha, H⟩, h3, h4⟩ := h
  refine ⟨a, c, by rw [hv, List.length_map], by rw [List.length_map]; exact hc, ha, by rw [List.length_map]; exact h4, fun j hj => ?_⟩
  have hj' : j < L.length := by simpa using hj
  have g := ocs_get L j hj'
  have g0 := g 0 (by decide)
  have g1 := g 1 (by decide)
  have g2 := g 2 (by decide)
  have g3 := g 3 (by decide)
  have g4 := g 4 (by decide)
  rw [oc_eq] at g0 g1 g2 g3 g4
  obtain ⟨b, o, rfl, hA, e0⟩ := H _ _ g0
  obtain ⟨_, _, k, _, e1⟩ := H _ _ g1; cases k
  obtain ⟨_, _, k, _, e2⟩ := H _ _ g2; cases k
  obtain ⟨_, _, k, _, e3⟩ := H _ _ g3; cases k
  obtain ⟨_, _, k, _, e4⟩ := H _ _ g4; cases k
  have := h3 L[j] (List.getElem_mem hj')
  simp only [List.getElem_map]
  exact ⟨b, o, ova L[j].1 L[j].2, rfl, hA, ⟨e0, e1, e2, e3, e4⟩, this⟩
theorem ocs_one {A : Nat → Prop} {w : World} {L : List Oq} (h : ∀ q ∈ L, OpD A w q) : ∀ u ∈ ocs L, u.oneCell' = true := by
  intro u hu
  unfold ocs at hu
  obtain ⟨c, hc, hu⟩ := List.mem_flatten.1 hu
  obtain ⟨q, hq, rfl⟩ := List.mem_map.1 hc
  unfold oq at hu
  rw [oc_eq] at hu
  simp only [List.mem_cons, List.not_mem_nil, or_false] at hu
  rcases hu with rfl | rfl | rfl | rfl | rfl
  · rfl
  · rfl
  · rfl
  · rfl
  · obtain ⟨a, c, e, _⟩ := Bs.at (h q hq)
    rw [e]; rfl
theorem Try.info68 : (Try.prog.info? 68).map (fun i => (i.zero, i.size, i.bytes)) = some (some (.agg #[.int .i64 0, .string ⟨#[]⟩, .string ⟨#[]⟩, .int .i64 0, .slice none 0 0]), 5, 72) := by kernel_rfl
set_option maxRecDepth 100000 in
/-- append of operations -/
theorem app49 {w : World} {ops : Array Oper} {rest : List Oper} {o : Oper} {a : Act} {Q : Exit → Act → World → Prop} (hgd : o.guard = none) (s x : Operand)
    (ho : o.op = .call { callee := .builtin .append, args := #[s, x], argTypes := #[49, 49] }) {B : Nat} {v : Value} {L : List Oq} (hs : a.eval s = v) (hown : w.ownsRow B 68 5 v L.length (ocs L))
    {A A' : Nat → Prop} {w0 : World} {u : Value} {M : List Oq} (hx : a.eval x = u) (hsrc : Row 5 A w u M.length (ocs M)) (hM : ∀ q ∈ M, OpD A' w0 q) (hlen : L.length + M.length ≤ 1000000) (hB : B ≤ w.heap.size)
    (h : ∀ v' w', w'.ownsRow B 68 5 v' (L ++ M).length (ocs (L ++ M)) → w.grownBy w' v.ownBlock → wpList Try.prog ops Q rest (a.put o.dst v') w') :
    wpList Try.prog ops Q (o :: rest) a w := by
  refine wpl_app hgd s x 49 ho Try.underlying49 Try.info68 rfl (by decide) hs hown hx hsrc (ocs_one hM) (by unfold maxLen; omega) (by omega) hB fun v' w' h1 h2 h3 h4 => h v' w' ?_ h2
  rw [List.length_append, ocs_app]
  exact h1
/-- the reference's drive as a value -/
def Rf (A : Nat → Prop) (w : World) (v : Value) (r : Rd) : Prop := ∃ vs vq, v = .agg #[vs, vq, .int .i64 r.room, .int .i64 r.armed, .bool r.dead] ∧ Ts A w vs r.safe ∧ Os A w vq r.queue
theorem Rf.up {A : Nat → Prop} {w w' : World} {v : Value} {r : Rd} (h : Rf A w v r) (hb : Below w.heap.size w w') : Rf A w' v r := by
  obtain ⟨vs, vq, e, h1, h2⟩ := h
  exact ⟨vs, vq, e, h1.up hb, h2.up hb⟩
theorem Rf.keepS {A : Nat → Prop} {w w' : World} {v : Value} {r : Rd} (h : Rf A w v r) (hb : Same A w w') : Rf A w' v r := by
  obtain ⟨vs, vq, e, h1, h2⟩ := h
  exact ⟨vs, vq, e, h1.keepS hb, h2.keepS hb⟩
theorem Rf.monoS {A A' : Nat → Prop} {w : World} {v : Value} {r : Rd} (h : Rf A w v r) (hA : ∀ b, A b → A' b) : Rf A' w v r := by
  obtain ⟨vs, vq, e, h1, h2⟩ := h
  exact ⟨vs, vq, e, h1.monoS hA, h2.monoS hA⟩
end Go.Proofs.Ytpgpncngamagdaa
