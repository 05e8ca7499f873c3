/- A region that draws its order, whose operations read and whose callees may make memory: one walk. No program is named here. A region that draws its order, whose operations may make memory and yield values that are known only by a law: ONE walk, in the order of the text, serves every order. No program is named here. Steps of a walk that FR allows. No program is named here. Appends onto a row of the call's own, in a region that draws. No program is named here. A region that draws its order, whose deeds stand in one chain and whose other operations only read what no deed changes: ONE walk, in the order of the text, the deeds in the very world. No program is named here. As MX, but stores may stand in the chain: what reads memory is done ahead of each store; what is left over behind a store reads no memory. No program is named here. -/
import Derived.Test.YtbmhkdcmepfmbaaGreatB01
import Derived.Deep.QuietTactic
import Derived.BigQuiet
import Derived.StillTail
set_option linter.unusedVariables false
namespace Go.Proofs.YtbmhkdcmepfmbaaGreat
open Go.RowKit
/-- a world behind w in which all that lay in w lies as it lay -/
structure Ups (w : World) where
  nx : World
  ok : Below w.heap.size w nx
instance (w : World) : Inhabited (Ups w) := ⟨⟨w, Below.refl _ _⟩⟩
theorem wp_region_up {P : Program} {id : Nat} {Q : Exit → Act → World → Prop} {a : Act} {w : World} {l : List Oper} (hm : P.follows .mixedOrders = true) (hB : Region.lexB .any l.toArray = true)
    (h : wpQuiet P l.toArray (fun w' => ∃ p : Ups w, w' = p.nx) (fun a' => ∀ w', (∃ p : Ups w, w' = p.nx) → Q .normal a' w') l a) : (Code.region id l.toArray true).wp P Q a w :=
  wp_region_quiet (C := fun w' => ∃ p : Ups w, w' = p.nx) hm hB ⟨⟨{ w with drawn := w.drawn + 1 }, ⟨rfl, rfl, rfl, Nat.le_refl _, fun _ _ => rfl⟩⟩, rfl⟩ (by simpa using h)
theorem Ups.cell {w : World} {a : Addr} {v : Value} (h : w.cell? a = some v) (p : Ups w) : p.nx.cell? a = some v := cell_later p.ok h
theorem ups_call {P : Program} {f : FuncId} {args : Array Value} {w : World} {p : Ups w} {v : Value} (h : Calls P f args p.nx fun e w' => e = .returned v ∧ Below p.nx.heap.size p.nx w') :
    Calls P f args p.nx fun e w'' => e = .returned v ∧ ∃ q : Ups w, w'' = q.nx :=
  h.mono fun _ w' ⟨he, hb⟩ => ⟨he, ⟨w', bt p.ok hb⟩, rfl⟩
theorem ups_dn {P : Program} {f : FuncId} {args : Array Value} {w : World} {p : Ups w} {v : Value} (h : Calls P f args p.nx fun e w' => e = .returned v ∧ Dn p.nx w') :
    Calls P f args p.nx fun e w'' => e = .returned v ∧ ∃ q : Ups w, w'' = q.nx :=
  h.mono fun _ w' ⟨he, hb⟩ => ⟨he, ⟨w', p.ok.trans (hb.below _)⟩, rfl⟩
theorem ups_eq {P : Program} {f : FuncId} {args : Array Value} {w : World} {p : Ups w} {v : Value} (h : Calls P f args p.nx fun e w' => e = .returned v ∧ p.nx = w') :
    Calls P f args p.nx fun e w'' => e = .returned v ∧ ∃ q : Ups w, w'' = q.nx :=
  h.mono fun _ w' ⟨he, hb⟩ => ⟨he, p, hb.symm⟩
end Go.Proofs.YtbmhkdcmepfmbaaGreat
set_option linter.unusedVariables false
namespace Go.Proofs.YtbmhkdcmepfmbaaGreat
open Go.RowKit
/-- what is known of a value that was yielded: at once, and in each later world -/
structure Lw where
  one : Value → Prop
  led : Value → World → Prop
/-- the values yielded by operations that have a law -/
abbrev Gh := Nat → Value → Prop
def Gh.put (G : Gh) (d : Option Tmp) (v : Value) : Gh := fun s u => G s u ∨ (d = some s ∧ u = v)
section
variable {P : Program} {ops : Array Oper} {md : Region.Mode} {T : World → World → Prop} {C : World → Prop} {S : Nat → Option Lw}
def Kn (S : Nat → Option Lw) (G : Gh) (l : Nat → Prop) (w : World) : Prop := ∀ s v V, l s → G s v → S s = some V → V.led v w
def freeUpon (P : Program) (T : World → World → Prop) (V : Lw) (w : World) : Result Next → Prop
  | .ok (.value u) w' => T w w' ∧ V.one u ∧ V.led u w'
  | .ok (.enter f args) w' => w' = w ∧ Calls P f args w (fun e w'' => ∃ u, e = .returned u ∧ T w w'' ∧ V.one u ∧ V.led u w'')
  | _ => False
def detUpon (w : World) (v : Value) : Result Next → Prop
  | .ok (.value u) w' => w' = w ∧ u = v
  | .ok .skip w' => w' = w ∧ v = undef
  | _ => False
def looks (ops : Array Oper) (o : Oper) (s : Nat) : Prop := s ∈ o.looksAt ops
/-- one operation -/
def ofree (P : Program) (ops : Array Oper) (T : World → World → Prop) (C : World → Prop) (S : Nat → Option Lw) (o : Oper) (a : Act) (G : Gh) (K : Act → Gh → Prop) : Prop :=
  match o.dst.bind S with
  | some V => (∀ w, C w → Kn S G (looks ops o) w → freeUpon P T V w ((execOp a.eval o).run P w)) ∧ ∀ u, V.one u → (∃ w, C w ∧ Kn S (Gh.put G o.dst u) (fun _ => True) w) → K (a.put o.dst u) (Gh.put G o.dst u)
  | none => ∃ v, (∀ w, C w → Kn S G (looks ops o) w → detUpon w v ((execOp a.eval o).run P w)) ∧ K (a.put o.dst v) G
def pfree (P : Program) (ops : Array Oper) (T : World → World → Prop) (C : World → Prop) (S : Nat → Option Lw) (o : Oper) (a : Act) (G : Gh) (K : Act → Gh → Prop) : Prop :=
  if Region.wanted o (yielded ops a.tmps) then ofree P ops T C S o a G K else K (a.put o.dst undef) G
def wpFree (P : Program) (ops : Array Oper) (T : World → World → Prop) (C : World → Prop) (S : Nat → Option Lw) (Q : Act → Gh → Prop) : List Oper → Act → Gh → Prop
  | [], a, G => Q a G
  | o :: rest, a, G => pfree P ops T C S o a G (wpFree P ops T C S Q rest)

theorem pfree_def {o : Oper} {a : Act} {G : Gh} {K : Act → Gh → Prop} : pfree P ops T C S o a G K = if Region.wanted o (yielded ops a.tmps) then ofree P ops T C S o a G K else K (a.put o.dst undef) G := rfl
theorem gh_comm (G : Gh) {x y : Option Tmp} (v u : Value) : Gh.put (Gh.put G x v) y u = Gh.put (Gh.put G y u) x v := by
  funext s z
  simp only [Gh.put, eq_iff_iff]
  exact ⟨fun h => by rcases h with (h | h) | h <;> simp [h], fun h => by rcases h with (h | h) | h <;> simp [h]⟩
theorem kn_put {o : Oper} {G : Gh} {d : Option Tmp} {v : Value} {w : World} (h : ∀ e, d = some e → e ∉ o.looksAt ops) : Kn S (Gh.put G d v) (looks ops o) w ↔ Kn S G (looks ops o) w := by
  refine ⟨fun hk s u V hs hG hS => hk s u V hs (.inl hG) hS, fun hk s u V hs hG hS => ?_⟩
  rcases hG with hG | ⟨hd, _⟩
  · exact hk s u V hs hG hS
  · exact absurd hs (h s hd)
theorem kn_less {G : Gh} {d : Option Tmp} {v : Value} {l : Nat → Prop} {w : World} (h : Kn S (Gh.put G d v) l w) : Kn S G l w := fun s u V hs hG hS => h s u V hs (.inl hG) hS
theorem detUpon_inj {w : World} {v v' : Value} {r : Result Next} (h : detUpon w v r) (h' : detUpon w v' r) : v = v' := by
  cases r with
  | ok n w' => cases n <;> simp only [detUpon] at h h' <;> first | exact h.2.symm.trans h'.2 | exact h.2.trans h'.2.symm | exact h.elim
  | halt x w' => exact h.elim
/-- the operation may come now, whatever follows is in order -/
structure Ck (T : World → World → Prop) (C : World → Prop) (S : Nat → Option Lw) : Prop where
  tr : ∀ {a b c}, T a b → T b c → T a c
  cl : ∀ {w w'}, C w → T w w' → C w'
  up : ∀ {s V v w w'}, S s = some V → V.led v w → T w w' → V.led v w'
theorem Kn.up (hk : Ck T C S) {G : Gh} {w w' : World} {l : Nat → Prop} (h : Kn S G l w) (ht : T w w') : Kn S G l w' := fun s v V h1 h2 h3 => hk.up h3 (h s v V h1 h2 h3) ht
theorem kn_set (hk : Ck T C S) {G : Gh} {w w' : World} {d : Option Tmp} {V : Lw} {u : Value} (h : Kn S G (fun _ => True) w) (ht : T w w') (hS : d.bind S = some V) (hu : V.led u w') : Kn S (Gh.put G d u) (fun _ => True) w' := by
  intro s v V' _ hG hS'
  rcases hG with hG | ⟨rfl, rfl⟩
  · exact hk.up hS' (h s v V' trivial hG hS') ht
  · have : V' = V := Option.some.inj (hS'.symm.trans hS)
    subst this
    exact hu
theorem Kn.all {G : Gh} {w : World} (h : Kn S G (fun _ => True) w) (l : Nat → Prop) : Kn S G l w := fun s v V _ => h s v V trivial
/-- a spec'd operation has a yield -/
theorem free_some (hk : Ck T C S) {G : Gh} {w : World} {V : Lw} {d : Option Tmp} {r : Result Next} (hS : d.bind S = some V) (hC : C w) (hK : Kn S G (fun _ => True) w) (h : freeUpon P T V w r) : ∃ u w', V.one u ∧ C w' ∧ Kn S (Gh.put G d u) (fun _ => True) w' := by
  cases r with
  | ok n w' =>
    cases n <;> simp only [freeUpon] at h
    case value u => exact ⟨u, w', h.2.1, hk.cl hC h.1, kn_set hk hK h.1 hS h.2.2⟩
    case enter f args =>
      obtain ⟨rfl, hc⟩ := h
      obtain ⟨e, w'', fr, ⟨u, _, h1, h2, h3⟩, _⟩ := hc []
      exact ⟨u, w'', h2, hk.cl hC h1, kn_set hk hK h1 hS h3⟩
  | halt x w' => exact h.elim
theorem pfree_mono {o : Oper} {a : Act} {G : Gh} {K K' : Act → Gh → Prop} (hx : ∃ w, C w ∧ Kn S G (fun _ => True) w) (h : ∀ a G, (∃ w, C w ∧ Kn S G (fun _ => True) w) → K a G → K' a G) (hh : pfree P ops T C S o a G K) : pfree P ops T C S o a G K' := by
  unfold pfree at *
  split
  · rename_i hw
    rw [if_pos hw] at hh
    unfold ofree at *
    split <;> rename_i hS <;> simp only [hS] at hh
    · exact ⟨hh.1, fun u hu he => h _ _ he (hh.2 u hu he)⟩
    · obtain ⟨v, h1, h2⟩ := hh; exact ⟨v, h1, h _ _ hx h2⟩
  · rename_i hw
    rw [if_neg hw] at hh
    exact h _ _ hx hh
/-- two operations apart change places -/
theorem pfree_swap (hk : Ck T C S) {oi oj : Oper} {a : Act} {G : Gh} {K : Act → Gh → Prop} (hap : oi.apart ops oj = true) (hsi : ∀ cs b, oi.op ≠ .select cs b) (hsj : ∀ cs b, oj.op ≠ .select cs b)
    (hx : ∃ w, C w ∧ Kn S G (fun _ => True) w) (h : pfree P ops T C S oi a G fun a' G' => pfree P ops T C S oj a' G' K) : pfree P ops T C S oj a G fun a' G' => pfree P ops T C S oi a' G' K := by
  obtain ⟨h1, h2, h3⟩ := Oper.apart_spec hap
  obtain ⟨w, hC, hK⟩ := hx
  have ei : ∀ (a : Act) v, execOp (a.put oj.dst v).eval oi = execOp a.eval oi := fun a v => execOp_put oi hsi a oj.dst v h3
  have ej : ∀ (a : Act) v, execOp (a.put oi.dst v).eval oj = execOp a.eval oj := fun a v => execOp_put oj hsj a oi.dst v h1
  have wi : ∀ (a : Act) v, Region.wanted oi (yielded ops (a.put oj.dst v).tmps) = Region.wanted oi (yielded ops a.tmps) := fun a v => wanted_put oi a oj.dst v h3
  have wj : ∀ (a : Act) v, Region.wanted oj (yielded ops (a.put oi.dst v).tmps) = Region.wanted oj (yielded ops a.tmps) := fun a v => wanted_put oj a oi.dst v h1
  have ki : ∀ G v w, Kn S (Gh.put G oj.dst v) (looks ops oi) w ↔ Kn S G (looks ops oi) w := fun G v w => kn_put h3
  have kj : ∀ G v w, Kn S (Gh.put G oi.dst v) (looks ops oj) w ↔ Kn S G (looks ops oj) w := fun G v w => kn_put h1
  have pc : ∀ (a : Act) v u, (a.put oi.dst v).put oj.dst u = (a.put oj.dst u).put oi.dst v := fun a v u => Act.put_comm a v u h2
  have gc : ∀ (G : Gh) v u, Gh.put (Gh.put G oi.dst v) oj.dst u = Gh.put (Gh.put G oj.dst u) oi.dst v := fun G v u => gh_comm G v u
  have mixj : ∀ {a' : Act} {G' : Gh} {K' : Act → Gh → Prop}, pfree P ops T C S oj a' G' K' = if Region.wanted oj (yielded ops a'.tmps) then ofree P ops T C S oj a' G' K' else K' (a'.put oj.dst undef) G' := rfl
  rw [pfree_def] at h
  by_cases hwi : Region.wanted oi (yielded ops a.tmps) = true
  · rw [if_pos hwi] at h
    unfold ofree at h
    cases hSi : oi.dst.bind S with
    | some V =>
      simp only [hSi] at h
      obtain ⟨hob, hn⟩ := h
      obtain ⟨u0, w0, hu0, hC0, hK0⟩ := free_some hk hSi hC hK (hob w hC (hK.all _))
      have back : ∀ u G2, (∀ v, V.one v → (∃ w, C w ∧ Kn S (Gh.put G2 oi.dst v) (fun _ => True) w) → K ((a.put oi.dst v).put oj.dst u) (Gh.put G2 oi.dst v)) → (∀ w, Kn S G2 (looks ops oi) w ↔ Kn S G (looks ops oi) w) → pfree P ops T C S oi (a.put oj.dst u) G2 K := by
        intro u G2 hv hkn
        unfold pfree
        rw [wi, if_pos hwi]
        unfold ofree
        simp only [hSi]
        exact ⟨fun w hw hkw => by rw [ei]; exact hob w hw ((hkn w).1 hkw), fun v hv' he => by rw [← pc]; exact hv v hv' he⟩
      unfold pfree
      by_cases hwj : Region.wanted oj (yielded ops a.tmps) = true
      · rw [if_pos hwj]
        unfold ofree
        cases hSj : oj.dst.bind S with
        | some V' =>
          simp only []
          have hj : ∀ v, V.one v → (∃ w, C w ∧ Kn S (Gh.put G oi.dst v) (fun _ => True) w) → (∀ w, C w → Kn S G (looks ops oj) w → freeUpon P T V' w ((execOp a.eval oj).run P w)) ∧
              ∀ u, V'.one u → (∃ w, C w ∧ Kn S (Gh.put (Gh.put G oi.dst v) oj.dst u) (fun _ => True) w) → K ((a.put oi.dst v).put oj.dst u) (Gh.put (Gh.put G oi.dst v) oj.dst u) := by
            intro v hv he
            have := hn v hv he
            rw [mixj, wj, if_pos hwj] at this
            unfold ofree at this
            simp only [hSj] at this
            exact ⟨fun w hw hkw => by have := this.1 w hw ((kj _ _ _).2 hkw); rwa [ej] at this, this.2⟩
          refine ⟨(hj u0 hu0 ⟨w0, hC0, hK0⟩).1, fun u hu hex => back u _ (fun v hv he => ?_) (fun w => ki _ _ _)⟩
          rw [← gc] at he ⊢
          exact (hj v hv (let ⟨w, a, b⟩ := he; ⟨w, a, kn_less b⟩)).2 u hu he
        | none =>
          simp only []
          have hj : ∀ v, V.one v → (∃ w, C w ∧ Kn S (Gh.put G oi.dst v) (fun _ => True) w) → ∃ u, (∀ w, C w → Kn S G (looks ops oj) w → detUpon w u ((execOp a.eval oj).run P w)) ∧ K ((a.put oi.dst v).put oj.dst u) (Gh.put G oi.dst v) := by
            intro v hv he
            have := hn v hv he
            rw [mixj, wj, if_pos hwj] at this
            unfold ofree at this
            simp only [hSj] at this
            obtain ⟨u, k1, k2⟩ := this
            exact ⟨u, fun w hw hkw => by have := k1 w hw ((kj _ _ _).2 hkw); rwa [ej] at this, k2⟩
          obtain ⟨u, k1, k2⟩ := hj u0 hu0 ⟨w0, hC0, hK0⟩
          refine ⟨u, k1, back u _ (fun v hv he => ?_) (fun w => Iff.rfl)⟩
          obtain ⟨u', k3, k4⟩ := hj v hv he
          have : u = u' := detUpon_inj (k1 w hC (hK.all _)) (k3 w hC (hK.all _))
          rw [this]; exact k4
      · rw [if_neg hwj]
        refine back _ _ (fun v hv he => ?_) (fun w => Iff.rfl)
        have := hn v hv he
        rwa [mixj, wj, if_neg hwj] at this
    | none =>
      simp only [hSi] at h
      obtain ⟨v, hob, hn⟩ := h
      have back : ∀ u G2, K ((a.put oi.dst v).put oj.dst u) G2 → (∀ w, Kn S G2 (looks ops oi) w ↔ Kn S G (looks ops oi) w) → pfree P ops T C S oi (a.put oj.dst u) G2 K := by
        intro u G2 hv hkn
        unfold pfree
        rw [wi, if_pos hwi]
        unfold ofree
        simp only [hSi]
        exact ⟨v, fun w hw hkw => by rw [ei]; exact hob w hw ((hkn w).1 hkw), by rw [← pc]; exact hv⟩
      rw [mixj, wj] at hn
      unfold pfree
      by_cases hwj : Region.wanted oj (yielded ops a.tmps) = true
      · rw [if_pos hwj] at hn ⊢
        unfold ofree at hn ⊢
        cases hSj : oj.dst.bind S with
        | some V' =>
          simp only [hSj, ej] at hn ⊢
          exact ⟨hn.1, fun u hu he => back u _ (hn.2 u hu he) (fun w => ki _ _ _)⟩
        | none =>
          simp only [hSj, ej] at hn ⊢
          obtain ⟨u, k1, k2⟩ := hn
          exact ⟨u, k1, back u _ k2 (fun w => Iff.rfl)⟩
      · rw [if_neg hwj] at hn ⊢
        exact back _ _ hn (fun w => Iff.rfl)
  · rw [if_neg hwi] at h
    have back : ∀ u G2, K ((a.put oi.dst undef).put oj.dst u) G2 → pfree P ops T C S oi (a.put oj.dst u) G2 K := by
      intro u G2 hv
      unfold pfree
      rw [wi, if_neg hwi, ← pc]
      exact hv
    rw [mixj, wj] at h
    unfold pfree
    by_cases hwj : Region.wanted oj (yielded ops a.tmps) = true
    · rw [if_pos hwj] at h ⊢
      unfold ofree at h ⊢
      cases hSj : oj.dst.bind S with
      | some V' =>
        simp only [hSj, ej] at h ⊢
        exact ⟨h.1, fun u hu he => back u _ (h.2 u hu he)⟩
      | none =>
        simp only [hSj, ej] at h ⊢
        obtain ⟨u, k1, k2⟩ := h
        exact ⟨u, k1, back u _ k2⟩
    · rw [if_neg hwj] at h ⊢
      exact back _ _ h
theorem pull (hk : Ck T C S) (hsel : ∀ (j : Nat) (o : Oper) cs b, ops[j]? = some o → o.op ≠ .select cs b) {Q : Act → Gh → Prop} {j : Nat} {oj : Oper} (hj : ops[j]? = some oj) :
    ∀ (I : List Nat) (L : List Oper) (a : Act) (G : Gh), (∃ w, C w ∧ Kn S G (fun _ => True) w) → (∀ i ∈ I, ∀ oi, ops[i]? = some oi → oi.apart ops oj = true) →
      wpFree P ops T C S Q (I.filterMap (ops[·]?) ++ oj :: L) a G → pfree P ops T C S oj a G (wpFree P ops T C S Q (I.filterMap (ops[·]?) ++ L))
  | [], L, a, G, hx, hap, h => h
  | i :: I, L, a, G, hx, hap, h => by
    cases hi : ops[i]? with
    | none =>
      rw [List.filterMap_cons, hi] at h ⊢
      exact pull hk hsel hj I L a G hx (fun i hi => hap i (List.mem_cons_of_mem _ hi)) h
    | some oi =>
      rw [List.filterMap_cons, hi] at h ⊢
      simp only [List.cons_append, wpFree] at h ⊢
      refine pfree_swap hk (hap i (List.mem_cons_self ..) oi hi) (fun cs b => hsel i oi cs b hi) (fun cs b => hsel j oj cs b hj) hx ?_
      exact pfree_mono hx (fun a' G' hx' h' => pull hk hsel hj I L a' G' hx' (fun i hi => hap i (List.mem_cons_of_mem _ hi)) h') h
/-- the Bool over a region: each operation waits for earlier ones alone, is apart from the earlier ones that it does not wait for; the tail waits for all -/
def freeB (md : Region.Mode) (ops : Array Oper) (n : Nat) : Bool :=
  Region.noSelect ops && (List.range ops.size).all fun j => match ops[j]? with
    | some oj => oj.after.all (fun e => !Region.binds md e || decide (e.on < j)) && (List.range j).all fun i => decide (n ≤ j) || (oj.after.any fun e => Region.binds md e && e.on == i) || (match ops[i]? with | some oi => oi.apart ops oj | none => true)
    | none => true
structure FreeOk (md : Region.Mode) (ops : Array Oper) (n : Nat) : Prop where
  sel : Region.noSelect ops = true
  lt : ∀ j oj, ops[j]? = some oj → ∀ e ∈ oj.after, Region.binds md e = true → e.on < j
  ap : ∀ j oj, j < n → ops[j]? = some oj → ∀ i oi, i < j → ops[i]? = some oi → (∀ e ∈ oj.after, Region.binds md e = true → e.on ≠ i) → oi.apart ops oj = true
theorem freeB_ok {n : Nat} (h : freeB md ops n = true) : FreeOk md ops n := by
  unfold freeB at h
  rw [Bool.and_eq_true] at h
  obtain ⟨h1, h2⟩ := h
  rw [List.all_eq_true] at h2
  refine ⟨h1, fun j oj hj e he hb => ?_, fun j oj hjn hj i oi hi hoi hno => ?_⟩
  · have h3 := h2 j (List.mem_range.2 (Array.getElem?_eq_some_iff.1 hj).1)
    simp only [hj, Bool.and_eq_true] at h3
    have h4 := Array.all_eq_true'.1 h3.1 e he
    simpa [hb] using h4
  · have h3 := h2 j (List.mem_range.2 (Array.getElem?_eq_some_iff.1 hj).1)
    simp only [hj, Bool.and_eq_true] at h3
    have h4 := List.all_eq_true.1 h3.2 i (List.mem_range.2 hi)
    simp only [hoi, Bool.or_eq_true, decide_eq_true_eq] at h4
    rcases h4 with (h4 | h4) | h4
    · omega
    · obtain ⟨e, he, h5⟩ := Array.any_eq_true'.1 h4
      simp only [Bool.and_eq_true, beq_iff_eq] at h5
      exact absurd h5.2 (hno e he h5.1)
    · exact h4
/-- what lies in a region's head and has not come up yet -/
structure Left (md : Region.Mode) (ops : Array Oper) (n : Nat) (listed : Array Bool) (I : List Nat) : Prop where
  mem : ∀ i, i ∈ I ↔ i < n ∧ listed.getD i true = false
  inc : I.Pairwise (· < ·)
theorem wpOp_of_pfree (hk : Ck T C S) {j : Nat} {o : Oper} {a : Act} {G : Gh} {w : World} {K : Act → Gh → Prop} {K' : Act → World → Prop} {Q' : Exit → Act → World → Prop} (hj : ops[j]? = some o) (hC : C w) (hK : Kn S G (fun _ => True) w)
    (h : pfree P ops T C S o a G K) (hn : ∀ a' G' w', C w' → Kn S G' (fun _ => True) w' → K a' G' → K' a' w') : wpOp P ops Q' j K' a w := by
  unfold wpOp
  simp only [hj]
  unfold pfree at h
  by_cases hw : Region.wanted o (yielded ops a.tmps) = true
  · rw [if_pos hw] at h ⊢
    refine .inl ?_
    unfold ofree at h
    unfold Oper.wp
    cases hS : o.dst.bind S with
    | some V =>
      simp only [hS] at h
      obtain ⟨h1, h2⟩ := h
      have h3 := h1 w hC (hK.all _)
      generalize (execOp a.eval o).run P w = r at *
      cases r with
      | ok nx w' =>
        cases nx <;> simp only [freeUpon] at h3 <;> simp only [Oper.upon]
        case value u =>
          have hK' := kn_set hk hK h3.1 hS h3.2.2
          have hC' := hk.cl hC h3.1
          exact hn _ _ _ hC' hK' (h2 u h3.2.1 ⟨w', hC', hK'⟩)
        case enter f args =>
          obtain ⟨rfl, hc⟩ := h3
          refine hc.mono fun e w'' he => ?_
          obtain ⟨u, rfl, k1, k2, k3⟩ := he
          have hK' := kn_set hk hK k1 hS k3
          have hC' := hk.cl hC k1
          exact hn _ _ _ hC' hK' (h2 u k2 ⟨w'', hC', hK'⟩)
      | halt x w' => exact h3.elim
    | none =>
      simp only [hS] at h
      obtain ⟨v, h1, h2⟩ := h
      have h3 := h1 w hC (hK.all _)
      generalize (execOp a.eval o).run P w = r at *
      cases r with
      | ok nx w' =>
        cases nx <;> simp only [detUpon] at h3 <;> simp only [Oper.upon]
        case value u => obtain ⟨rfl, rfl⟩ := h3; exact hn _ _ _ hC hK h2
        case skip => obtain ⟨rfl, rfl⟩ := h3; exact hn _ _ _ hC hK h2
      | halt x w' => exact h3.elim
  · rw [if_neg hw] at h ⊢
    exact hn _ _ _ hC hK h
theorem any_free {n g : Nat} {Q : Act → Gh → Prop} {Q' : Exit → Act → World → Prop} (hk : Ck T C S) (hok : FreeOk md ops n) (hns : n ≤ ops.size)
    (htail : ∀ listed i, HeadInv md ops n listed → i < n → listed.getD i true = false → ∀ t, n ≤ t → t ∉ Region.ready md ops listed)
    (hQ : ∀ listed a G w, HeadInv md ops n listed → (∀ i, i < n → listed.getD i true = true) → C w → Kn S G (fun _ => True) w → Q a G → wpAny P md ops Q' g listed a w) :
    ∀ (f : Nat) (listed : Array Bool) (I : List Nat) (a : Act) (G : Gh) (w : World), I.length = f → Left md ops n listed I → HeadInv md ops n listed → C w → Kn S G (fun _ => True) w →
      wpFree P ops T C S Q (I.filterMap (ops[·]?)) a G → wpAny P md ops Q' (f + g) listed a w
  | 0, listed, I, a, G, w, hl, hL, inv, hC, hK, h => by
    obtain rfl := List.length_eq_zero_iff.1 hl
    rw [Nat.zero_add]
    refine hQ listed a G w inv (fun i hi => ?_) hC hK h
    cases hc : listed.getD i true with
    | true => rfl
    | false => exact absurd ((hL.mem i).2 ⟨hi, hc⟩) (by simp)
  | f + 1, listed, I, a, G, w, hl, hL, inv, hC, hK, h => by
    rw [show f + 1 + g = (f + g) + 1 by omega]
    obtain ⟨i0, I0, rfl⟩ : ∃ i0 I0, I = i0 :: I0 := by cases I with | nil => simp at hl | cons i I => exact ⟨i, I, rfl⟩
    have hi0 := (hL.mem i0).1 (List.mem_cons_self ..)
    refine ⟨fun h0 => ?_, fun j hj => ?_⟩
    · have h0' : i0 < ops.size := by omega
      have : i0 ∈ Region.ready md ops listed := by
        refine mem_ready.2 ⟨hi0.2, ops[i0], Array.getElem?_eq_getElem h0', fun e he hb => ?_⟩
        have hlt := hok.lt i0 _ (Array.getElem?_eq_getElem h0') e he hb
        cases hc : listed.getD e.on false with
        | true => rfl
        | false =>
          have h1 := (hL.mem e.on).2 ⟨by omega, getD_in (by rw [inv.size]; omega) hc⟩
          rcases List.mem_cons.1 h1 with h2 | h2
          · omega
          · have := (List.pairwise_cons.1 hL.inc).1 _ h2
            omega
      rw [h0] at this
      cases this
    · have hjn : j < n := by
        rcases Nat.lt_or_ge j n with h | h
        · exact h
        · exact absurd hj (htail listed i0 inv hi0.1 hi0.2 j h)
      obtain ⟨hjun, oj, hoj, hall⟩ := mem_ready.1 hj
      have hjI := (hL.mem j).2 ⟨hjn, hjun⟩
      obtain ⟨I1, I2, hI⟩ := List.append_of_mem hjI
      rw [hI] at h hL hl
      have hpw := List.pairwise_append.1 hL.inc
      have hpw2 := List.pairwise_cons.1 hpw.2.1
      rw [List.filterMap_append, List.filterMap_cons, hoj] at h
      have hp := pull hk (Region.noSelect_spec hok.sel) hoj I1 (I2.filterMap (ops[·]?)) a G ⟨w, hC, hK⟩ (fun i hi oi hoi => by
        have hlt : i < j := hpw.2.2 i hi j (List.mem_cons_self ..)
        refine hok.ap j oj hjn hoj i oi hlt hoi fun e he hb heq => ?_
        have h1 := hall e he hb
        rw [heq, getD_both ((hL.mem i).1 (List.mem_append_left _ hi)).2] at h1
        cases h1) h
      rw [← List.filterMap_append] at hp
      refine wpOp_of_pfree hk hoj hC hK hp fun a' G' w' hC' hK' h' => any_free hk hok hns htail hQ f _ (I1 ++ I2) a' G' w' (by simp at hl ⊢; omega) ⟨fun i => ?_, ?_⟩ (inv.set hj hjn) hC' hK' h'
      · by_cases hij : j = i
        · subst hij
          have h1 : j ∉ I1 ++ I2 := by
            intro hm
            rcases List.mem_append.1 hm with hm | hm
            · have := hpw.2.2 j hm j (List.mem_cons_self ..); omega
            · have := hpw2.1 j hm; omega
          have h2 : (listed.setIfInBounds j true).getD j true = true := by
            have : j < listed.size := by rw [inv.size]; omega
            simp [this]
          simp [h1, h2]
        · have h2 := hL.mem i
          rw [getD_set_ne true hij, ← h2]
          simp [Ne.symm hij]
      · refine List.pairwise_append.2 ⟨hpw.1, hpw2.2, fun x hx y hy => hpw.2.2 x hx y (List.mem_cons_of_mem _ hy)⟩
/-- the Bool over a region whose first n operations are walked free -/
def regB (md : Region.Mode) (ops : Array Oper) (n : Nat) : Bool :=
  freeB md ops n && decide (n ≤ ops.size) && (decide (n = ops.size) || (Region.sinkB md ops n && Region.chainB md ops n)) && Region.seqB md ops (ops.size - n) n ((Array.range ops.size).map fun i => decide (i < n))
/-- **one walk serves every order** -/
theorem wp_region_free {id : Nat} {Q : Exit → Act → World → Prop} {a : Act} {w : World} {l : List Oper} (n : Nat) (T : World → World → Prop) (C : World → Prop) (S : Nat → Option Lw) (hm : P.follows .mixedOrders = true) (hB : regB .any l.toArray n = true) (hk : Ck T C S) (hC : C w.drew)
    (h : wpFree P l.toArray T C S (fun a' G' => ∀ w', C w' → Kn S G' (fun _ => True) w' → wpList P l.toArray Q (l.drop n) a' w') (l.take n) a (fun _ _ => False)) : (Code.region id l.toArray true).wp P Q a w := by
  simp only [regB, Bool.and_eq_true, Bool.or_eq_true, decide_eq_true_eq] at hB
  obtain ⟨⟨⟨hf, hns⟩, ht⟩, hseq⟩ := hB
  have hok := freeB_ok hf
  have inv0 : HeadInv .any l.toArray n (Array.replicate l.toArray.size false) :=
    ⟨by simp, fun j oj _ hl => (by rw [getD_replicate_false] at hl; cases hl), fun t _ ht => getD_in (by simpa using ht) (getD_replicate_false _ _)⟩
  refine wp_region_any hm ?_
  have hL0 : Left .any l.toArray n (Array.replicate l.toArray.size false) (List.range n) := ⟨fun i => by
    rw [List.mem_range]
    refine ⟨fun hi => ⟨hi, getD_in (by simp at hns ⊢; omega) (getD_replicate_false _ _)⟩, fun h => h.1⟩, List.pairwise_lt_range⟩
  have hfm : (List.range n).filterMap (l.toArray[·]?) = l.take n := by
    have hns' : n ≤ l.length := by simpa using hns
    clear h ht hseq hok inv0 hL0 hf hns
    induction n with
    | zero => rfl
    | succ n ih =>
      rw [List.range_succ, List.filterMap_append, ih (by omega), List.take_succ_eq_append_getElem (by omega)]
      simp [show n < l.length by omega]
  have := any_free (P := P) (Q := fun a' G' => ∀ w', C w' → Kn S G' (fun _ => True) w' → wpList P l.toArray Q (l.drop n) a' w') (Q' := Q) (g := l.toArray.size - n) hk hok hns (fun listed i inv hi hun t ht' => by
      rcases ht with h0 | ⟨h1, h2⟩
      · intro hr
        obtain ⟨_, o, ho, _⟩ := mem_ready.1 hr
        have := (Array.getElem?_eq_some_iff.1 ho).1
        omega
      · rcases Nat.lt_or_ge n l.toArray.size with h3 | h3
        · exact tail_waits h1 h2 h3 inv _ i rfl hi hun t ht'
        · intro hr
          obtain ⟨_, o, ho, _⟩ := mem_ready.1 hr
          have := (Array.getElem?_eq_some_iff.1 ho).1
          omega)
    (fun listed a' G' w' inv hall hC' hK' hq => by
      have he : listed = (Array.range l.toArray.size).map fun i => decide (i < n) := by
        apply Array.ext
        · rw [inv.size]; simp
        · intro i h1 h2
          have h3 : i < l.toArray.size := by rw [← inv.size]; exact h1
          have h4 : ((Array.range l.toArray.size).map fun i => decide (i < n))[i] = decide (i < n) := by simp
          rw [h4]
          rcases Nat.lt_or_ge i n with h5 | h5
          · have := hall i h5
            simp [h1] at this
            simp [this, h5]
          · have := inv.tail i h5 h3
            simp [h1] at this
            simp [this, Nat.not_lt.2 h5]
      have hdl : (l.drop n).length = l.toArray.size - n := by simp
      rw [← he] at hseq
      have := wpAny_of_seq (P := P) (md := .any) (ops := l.toArray) (Q' := Q) (l.drop n) n listed a' w' (fun j => by simp [List.getElem?_drop]) (by rw [hdl]; exact hseq) (hq w' hC' hK')
      rwa [hdl] at this)
    n (Array.replicate l.toArray.size false) (List.range n) a (fun _ _ => False) w.drew (by simp) hL0 inv0 hC (fun s v V _ h => h.elim) (by rw [hfm]; exact h)
  rw [show n + (l.toArray.size - n) = l.toArray.size by omega] at this
  exact this
end
end Go.Proofs.YtbmhkdcmepfmbaaGreat
set_option linter.unusedVariables false
set_option linter.unusedSimpArgs false
namespace Go.Proofs.YtbmhkdcmepfmbaaGreat
open Go.RowKit
section
variable {P : Program} {ops : Array Oper} {T : World → World → Prop} {C : World → Prop} {S : Nat → Option Lw} {Q : Act → Gh → Prop} {o : Oper} {rest : List Oper} {a : Act} {G : Gh}
/-- an operation that calls nothing -/
def plainB (o : Oper) : Bool := match o.op with
  | .move _ | .assign _ | .nilCheck _ | .pick .. | .load .. | .binOp .. | .unOp .. | .convert .. | .slice .. | .fieldAddr .. | .field .. | .indexAddr .. | .index .. | .extract .. | .build .. | .makeFunc .. | .lookup .. => true
  | .call c => match c.callee with | .builtin .len => true | _ => false
  | _ => false
theorem ne_g {α : Type} {s : Sem α} {g : α → Value} {w w' : World} {f : FuncId} {args : Array Value} : ((do let x ← s; pure (Next.value (g x))) : Sem Next).run P w ≠ .ok (.enter f args) w' := by
  simp only [Sem.run_bind, Sem.run_pure]
  cases s.run P w <;> simp [Result.andThen]
theorem ne_v {s : Sem Value} {w w' : World} {f : FuncId} {args : Array Value} : ((do let x ← s; pure (Next.value x)) : Sem Next).run P w ≠ .ok (.enter f args) w' := ne_g (g := id)
theorem plain_ne (hp : plainB o = true) {ρ : Operand → Value} {w w' : World} {f : FuncId} {args : Array Value} : (execOp ρ o).run P w ≠ .ok (.enter f args) w' := by
  unfold plainB at hp
  unfold execOp
  cases ho : o.op <;> rw [ho] at hp <;> simp only [ho] at hp ⊢ <;> try contradiction
  case pick c x y => exact ne_g (g := fun b => if b = true then ρ x else ρ y)
  case nilCheck x =>
    generalize ρ x = v
    intro h
    cases v with
    | pointer a => cases a <;> simp [go_sem, runtimePanic] at h
    | func fn fi ca =>
      cases fn with
      | method nm =>
        simp only at h
        split at h
        · simp [go_sem, runtimePanic] at h
        · rename_i t w0 _
          simp only [Sem.run_bind] at h
          rw [show Sem.run P program w = .ok P w from rfl] at h
          simp only [Result.andThen_ok] at h
          cases hn : Sem.run P (nilAhead (P.types.size + Made.depth) t w0 nm) w with
          | ok b w1 =>
            rw [hn] at h
            simp only [Result.andThen_ok] at h
            split at h <;> simp [go_sem, unsupported] at h
          | halt e w1 => rw [hn] at h; simp [Result.andThen] at h
        · simp [go_sem] at h
      | _ => simp [go_sem] at h
    | _ => simp [go_sem, runtimePanic] at h
  case call c =>
    cases hc : c.callee with
    | builtin b =>
      cases b <;> simp only [hc] at hp <;> try contradiction
      simp only [resolve, hc, Sem.run_bind, Sem.run_pure, Result.andThen_ok, invoke, builtin]
      cases Sem.run P (Builtin.len_ c.argTypes o.type (Array.map ρ c.args)) w <;> simp [Result.andThen]
    | _ => simp [hc] at hp
  all_goals first
    | exact ne_v
    | simp [Sem.run_pure]
theorem wf_skip (hw : Region.wanted o (yielded ops a.tmps) = false) (h : wpFree P ops T C S Q rest (a.put o.dst undef) G) : wpFree P ops T C S Q (o :: rest) a G := by
  show pfree P ops T C S o a G _
  unfold pfree
  rw [hw]
  exact h
/-- an operation that reads -/
theorem wf_read (hp : plainB o = true) (hS : o.dst.bind S = none) (h : wpQuiet P ops C (fun a' => wpFree P ops T C S Q rest a' G) [o] a) : wpFree P ops T C S Q (o :: rest) a G := by
  show pfree P ops T C S o a G _
  unfold pfree
  have h : if Region.wanted o (yielded ops a.tmps) then o.quiet P a C (fun a' => wpFree P ops T C S Q rest a' G) else wpFree P ops T C S Q rest (a.put o.dst undef) G := h
  by_cases hw : Region.wanted o (yielded ops a.tmps) = true
  · rw [if_pos hw] at h ⊢
    unfold ofree
    simp only [hS]
    obtain ⟨v, h1, h2⟩ := h
    refine ⟨v, fun w hC _ => ?_, h2⟩
    have h3 := h1 w hC
    unfold Oper.quietAt at h3
    generalize hr : (execOp a.eval o).run P w = r at *
    cases r with
    | ok nx w' =>
      cases nx <;> simp only [Oper.quietUpon] at h3 <;> simp only [detUpon]
      case value u => exact h3
      case skip => exact h3
      case enter f args => exact absurd hr (plain_ne hp)
    | halt x w' => exact h3
  · rw [if_neg hw] at h ⊢
    exact h
/-- a row of reads -/
def readsB (S : Nat → Option Lw) : List Oper → Bool
  | [] => true
  | o :: l => plainB o && (o.dst.bind S).isNone && readsB S l
theorem wf_reads : ∀ (l : List Oper) {a : Act}, readsB S l = true → wpQuiet P ops C (fun a' => wpFree P ops T C S Q rest a' G) l a → wpFree P ops T C S Q (l ++ rest) a G
  | [], a, _, h => h
  | o :: l, a, hb, h => by
    simp only [readsB, Bool.and_eq_true, Option.isNone_iff_eq_none] at hb
    refine wf_read (rest := l ++ rest) hb.1.1 hb.1.2 ?_
    have h : if Region.wanted o (yielded ops a.tmps) then o.quiet P a C (wpQuiet P ops C (fun a' => wpFree P ops T C S Q rest a' G) l) else wpQuiet P ops C (fun a' => wpFree P ops T C S Q rest a' G) l (a.put o.dst undef) := h
    show if Region.wanted o (yielded ops a.tmps) then o.quiet P a C (fun a' => wpFree P ops T C S Q (l ++ rest) a' G) else wpFree P ops T C S Q (l ++ rest) (a.put o.dst undef) G
    split
    · rename_i hw
      rw [if_pos hw] at h
      exact Oper.quiet_mono (fun a' h' => wf_reads l hb.2 h') h
    · rename_i hw
      rw [if_neg hw] at h
      exact wf_reads l hb.2 h
/-- an operation that has a law -/
theorem wf_law {V : Lw} (hw : Region.wanted o (yielded ops a.tmps) = true) (hS : o.dst.bind S = some V) (h : ∀ w, C w → Kn S G (looks ops o) w → freeUpon P T V w ((execOp a.eval o).run P w))
    (hn : ∀ u, V.one u → wpFree P ops T C S Q rest (a.put o.dst u) (Gh.put G o.dst u)) : wpFree P ops T C S Q (o :: rest) a G := by
  show pfree P ops T C S o a G _
  unfold pfree
  rw [if_pos hw]
  unfold ofree
  simp only [hS]
  exact ⟨h, fun u hu _ => hn u hu⟩
end
/-- laws that hold for good -/
def Lup (V : Lw) : Prop := ∀ v w w', V.led v w → Below w.heap.size w w' → V.led v w'
abbrev UL := {V : Lw // Lup V}
def ul : List (Nat × UL) → Nat → Option Lw
  | [], _ => none
  | (k, V) :: l, s => if s = k then some V.1 else ul l s
theorem ul_up : ∀ (l : List (Nat × UL)) {s : Nat} {V : Lw}, ul l s = some V → Lup V
  | [], s, V, h => by cases h
  | (k, U) :: l, s, V, h => by
    unfold ul at h
    split at h
    · cases h; exact U.2
    · exact ul_up l h
/-- the usual class -/
def Up (w w' : World) : Prop := Below w.heap.size w w'
theorem ul_ck {W : World} (l : List (Nat × UL)) : Ck Up (fun w' => ∃ p : Ups W, w' = p.nx) (ul l) :=
  ⟨fun h k => bt h k, fun ⟨p, hp⟩ h => ⟨⟨_, bt p.ok (by subst hp; exact h)⟩, rfl⟩, fun {s V v w w'} h1 h2 h3 => ul_up l h1 v w w' h2 h3⟩
theorem up_first (W : World) : ∃ p : Ups W, W.drew = p.nx := ⟨⟨W.drew, ⟨rfl, rfl, rfl, Nat.le_refl _, fun _ _ => rfl⟩⟩, rfl⟩
/-- a value that is known at once -/
def UL.is (v : Value) : UL := ⟨⟨(· = v), fun _ _ => True⟩, fun _ _ _ _ _ => trivial⟩
/-- an empty row, just laid -/
def UL.void (e : TypeId) : UL := ⟨⟨fun v => ∃ g : Nat, v = .slice (some ⟨g, 0, none⟩) 0 0, fun v w => ∃ g : Nat, v = .slice (some ⟨g, 0, none⟩) 0 0 ∧ w.heap[g]? = some (.cells #[] e (0, 0))⟩,
  fun _ w w' ⟨g, h1, h2⟩ hb => ⟨g, h1, by rw [hb.block g (Array.getElem?_eq_some_iff.1 h2).1]; exact h2⟩⟩
section
variable {P : Program} {ops : Array Oper} {T : World → World → Prop} {C : World → Prop} {S : Nat → Option Lw} {Q : Act → Gh → Prop} {o : Oper} {rest : List Oper} {a : Act} {G : Gh}
theorem wf_take (n : Nat) {l : List Oper} (hb : readsB S (l.take n) = true) (h : wpQuiet P ops C (fun a' => wpFree P ops T C S Q (l.drop n) a' G) (l.take n) a) : wpFree P ops T C S Q l a G := by
  have := wf_reads (rest := l.drop n) _ hb h
  rwa [List.take_append_drop] at this
/-- a call -/
theorem wf_call {V : Lw} {f : FuncId} {fn : Func} {x : Operand} {args : List Operand} {ty : Array TypeId} {cap vals : List Value} (hf : P.funcs[f]? = some fn) (hname : (fn.name == "runtime.NumGoroutine" || fn.body.isNone) = false)
    (ho : o.op = .call { callee := .value x, args := args.toArray, argTypes := ty }) (hx : a.eval x = .func (.func f) #[] cap.toArray) (hv : args.map a.eval ++ cap = vals) (hw : Region.wanted o (yielded ops a.tmps) = true) (hS : o.dst.bind S = some V)
    (h : ∀ w, C w → Kn S G (looks ops o) w → Calls P f vals.toArray w fun e w'' => ∃ u, e = .returned u ∧ T w w'' ∧ V.one u ∧ V.led u w'')
    (hn : ∀ u, V.one u → wpFree P ops T C S Q rest (a.put o.dst u) (Gh.put G o.dst u)) : wpFree P ops T C S Q (o :: rest) a G := by
  refine wf_law hw hS (fun w hC hK => ?_) hn
  have hr : (execOp a.eval o).run P w = .ok (.enter f vals.toArray) w := by
    rw [Bool.or_eq_false_iff] at hname
    have h1 : fn.name ≠ "runtime.NumGoroutine" := by simpa using hname.1
    have h2 : fn.body ≠ none := by intro e; have := hname.2; rw [e] at this; cases this
    subst hv
    simp [execOp, ho, resolve, hx, Deferred.ofValue, invoke, callFunc, hf, h1, h2]
  rw [hr]
  exact ⟨rfl, h w hC hK⟩
/-- an operation that makes memory -/
theorem wf_make {V : Lw} (hw : Region.wanted o (yielded ops a.tmps) = true) (hS : o.dst.bind S = some V)
    (h : ∀ w, C w → Kn S G (looks ops o) w → ∃ u w', (execOp a.eval o).run P w = .ok (.value u) w' ∧ T w w' ∧ V.one u ∧ V.led u w')
    (hn : ∀ u, V.one u → wpFree P ops T C S Q rest (a.put o.dst u) (Gh.put G o.dst u)) : wpFree P ops T C S Q (o :: rest) a G := by
  refine wf_law hw hS (fun w hC hK => ?_) hn
  obtain ⟨u, w', h1, h2⟩ := h w hC hK
  rw [h1]
  exact h2
end
theorem looks_of {ops : Array Oper} {o : Oper} {s : Nat} (h : (o.looksAt ops).contains s = true) : looks ops o s := by simpa [looks] using h
theorem run_v {P : Program} {s : Sem Value} {w w' : World} {u : Value} (h : s.run P w = .ok u w') : ((do let x ← s; pure (Next.value x)) : Sem Next).run P w = .ok (.value u) w' := by
  simp only [Sem.run_bind, Sem.run_pure, h, Result.andThen]
section
variable {P : Program} {ops : Array Oper} {T : World → World → Prop} {C : World → Prop} {S : Nat → Option Lw} {Q : Act → Gh → Prop} {o : Oper} {rest : List Oper} {a : Act} {G : Gh}
/-- an append -/
theorem wf_app {V : Lw} {s x : Operand} {t : TypeId} {v u : Value} (ho : o.op = .call { callee := .builtin .append, args := #[s, x], argTypes := #[t, t] }) (hs : a.eval s = v) (hx : a.eval x = u)
    (hw : Region.wanted o (yielded ops a.tmps) = true) (hS : o.dst.bind S = some V)
    (h : ∀ w, C w → Kn S G (looks ops o) w → ∃ v' w', (Builtin.append_ #[t, t] o.type #[v, u]).run P w = .ok v' w' ∧ T w w' ∧ V.one v' ∧ V.led v' w')
    (hn : ∀ u, V.one u → wpFree P ops T C S Q rest (a.put o.dst u) (Gh.put G o.dst u)) : wpFree P ops T C S Q (o :: rest) a G := by
  refine wf_make hw hS (fun w hC hK => ?_) hn
  obtain ⟨v', w', h1, h2⟩ := h w hC hK
  refine ⟨v', w', ?_, h2⟩
  unfold execOp
  simp only [ho, resolve, invoke, builtin, Sem.run_bind, Sem.run_pure, Result.andThen_ok, List.map_toArray, List.map_cons, List.map_nil, hs, hx, h1]
end
/-- append onto an empty row that was just laid -/
theorem run_app0 {P : Program} {w : World} (t ty : TypeId) {e size bytes : Nat} {z : Value} (ht : P.underlying t = some (.slice e)) (hinfo : (P.info? e).map (fun i => (i.zero, i.size, i.bytes)) = some (some z, size, bytes)) (hzs : z.cells.size = size) (hsz : 0 < size)
    {g : Nat} (hg : w.heap[g]? = some (.cells #[] e (0, 0))) {A : Nat → Prop} {m : Nat} {u : Value} {news : List Value} (hsrc : Row size A w u m news) (h1 : ∀ u ∈ news, u.oneCell' = true) (hlen : m ≤ maxLen) (hbytes : m * bytes ≤ 140737488355328) :
    ∃ v' w', (Builtin.append_ #[t, t] ty #[.slice (some ⟨g, 0, none⟩) 0 0, u]).run P w = .ok v' w' ∧ (∃ a c, v' = .slice a m c) ∧ w'.ownsRow 0 e size v' m news ∧ Below w.heap.size w w' := by
  have hgs := (Array.getElem?_eq_some_iff.1 hg).1
  have hown : w.ownsRow 0 e size (.slice (some ⟨g, 0, none⟩) 0 0) 0 [] := ⟨by simp, .inr ⟨g, 0, #[], rfl, Nat.zero_le _, hg, Nat.le_refl _, Nat.zero_le _, by simp, by simp⟩⟩
  by_cases hm : m = 0
  · subst hm
    have hnews : news = [] := List.eq_nil_of_length_eq_zero (by have := hsrc.1; simpa using this)
    subst hnews
    obtain ⟨i0, hi, hz0, hz1, hz2⟩ := info_parts hinfo
    obtain ⟨_, ad, c, rfl, hc, ha, H⟩ := hsrc
    cases ad with
    | none =>
      obtain rfl := ha rfl
      have hr := run_append_owned_none (P := P) (w := w) 0 t ty e i0 size ht hi _ 0 [] hown
      exact ⟨_, w, hr, ⟨_, _, rfl⟩, hown, Below.refl _ _⟩
    | some p =>
      have hr := run_append_room (P := P) w t ty e i0 ht hi g 0 0 #[] hg p 0 c [] (by simp) (fun j u hj => by simp at hj) (by simp) (Nat.le_refl _) (by simp)
      refine ⟨_, _, hr, ⟨_, _, rfl⟩, ⟨by simp, .inr ⟨g, 0, _, rfl, Nat.zero_le _, setRow_heap w g #[] _ e _ hg, Nat.le_refl _, Nat.zero_le _, by simp, by simp⟩⟩, ?_⟩
      refine ⟨rfl, rfl, rfl, by simp, fun k hk => ?_⟩
      by_cases hkg : k = g
      · subst hkg
        rw [setRow_heap w k #[] _ e _ hg, hg]
        simp
      · exact setRow_other w g k _ (fun e => hkg e)
  · obtain ⟨i0, hi, hz0, hz1, hz2⟩ := info_parts hinfo
    subst hz1
    obtain ⟨hl, ad, c, rfl, hc, ha, H⟩ := hsrc
    obtain ⟨p, rfl⟩ : ∃ p, ad = some p := by
      cases ad with
      | none => have := ha rfl; omega
      | some p => exact ⟨p, rfl⟩
    have hn : ∀ j u, news[j]? = some u → w.cell? (p.add j) = some u := by
      intro j u hj
      obtain ⟨b, o, hp, _, hu⟩ := H j u hj
      simp only [Option.some.injEq] at hp
      subst hp
      have : (⟨b, o, none⟩ : Addr).add j = ⟨b, o + j, none⟩ := by unfold Addr.add; split <;> simp_all
      rw [this, hu]
    have hmx : maxLen ≤ 9223372036854775807 := by decide
    subst hz2
    have hr := run_append_grow (P := P) w t ty e i0 z ht hi hz0 ⟨g, 0, none⟩ 0 0 [] (by simp) (fun j u hj => by simp at hj) p m c news hl hn (by omega) (by omega) (growslice_fits (by omega) (by simpa using hbytes))
    rw [Nat.zero_add] at hr
    have hge := grownCap_ge w m 0 e
    have hcm := grownCap_le_maxLen w m 0 e hlen
    have hown' : (w.drew.alloc (.cells (([] : List Value).toArray ++ news.toArray ++ Builtin.zeroCells z.cells (grownCap w m 0 e - m)) e)).ownsRow 0 e i0.size (.slice (some ⟨w.heap.size, 0, none⟩) m (grownCap w m 0 e)) m news := by
      refine ⟨hl, .inr ⟨w.heap.size, _, _, rfl, Nat.zero_le _, heap_alloc_new w.drew _, hge, hcm, ?_, ?_⟩⟩
      · simp only [Array.size_append, List.size_toArray, size_zeroCells, hzs, hl, List.length_nil, Nat.zero_add, ← Nat.add_mul]
        congr 1
        omega
      · simp only [Array.toList_append, List.nil_append]
        rw [← hl]
        exact List.take_left
    exact ⟨_, _, hr, ⟨_, _, rfl⟩, hown', ⟨rfl, rfl, rfl, by simp, fun k hk => Below.heap_alloc w.drew _ k hk⟩⟩
end Go.Proofs.YtbmhkdcmepfmbaaGreat
set_option linter.unusedVariables false
set_option linter.unusedSimpArgs false
namespace Go.Proofs.YtbmhkdcmepfmbaaGreat
open Go.RowKit
/-- all blocks but g stay, and whoever owns a beginning of F owns it still -/
def Tg (g : Option Nat) (B : Nat) (e : TypeId) (F : List Value) (w w' : World) : Prop := w.grownBy w' g ∧ ∀ u k, w.ownsRow B e 1 u k (F.take k) → w'.ownsRow B e 1 u k (F.take k)
theorem grown_trans {a b c : World} {g : Option Nat} (h : a.grownBy b g) (k : b.grownBy c g) : a.grownBy c g :=
  ⟨k.os.trans h.os, k.tape.trans h.tape, k.output.trans h.output, Nat.le_trans h.size k.size, fun i hi hg => (k.block i (Nat.lt_of_lt_of_le hi h.size) hg).trans (h.block i hi hg)⟩
theorem grown_of {w w' : World} (g : Option Nat) (h : Below w.heap.size w w') : w.grownBy w' g := ⟨h.os, h.tape, h.output, h.size, fun i hi _ => h.block i hi⟩
theorem Tg.trans {g : Option Nat} {B : Nat} {e : TypeId} {F : List Value} {a b c : World} (h : Tg g B e F a b) (k : Tg g B e F b c) : Tg g B e F a c :=
  ⟨grown_trans h.1 k.1, fun u i hu => k.2 u i (h.2 u i hu)⟩
theorem Tg.of {g : Option Nat} {B : Nat} {e : TypeId} {F : List Value} {w w' : World} (h : Below w.heap.size w w') : Tg g B e F w w' :=
  ⟨grown_of g h, fun u i hu => own_keep hu h (Nat.le_refl _)⟩
theorem Tg.below {g : Option Nat} {B D : Nat} {e : TypeId} {F : List Value} {w w' : World} (h : Tg g B e F w w') (hD : D ≤ w.heap.size) (hg : ∀ k, g = some k → D ≤ k) : Below D w w' :=
  ⟨h.1.os, h.1.tape, h.1.output, h.1.size, fun i hi => h.1.block i (by omega) (fun e => by have := hg i e.symm; omega)⟩
theorem take_idem {α : Type} (F : List α) (k : Nat) : F.take k = F.take (min k F.length) := by
  by_cases h : k ≤ F.length
  · rw [Nat.min_eq_left h]
  · rw [Nat.min_eq_right (by omega), List.take_of_length_le (by omega), List.take_length]
/-- the append -/
theorem tg_app {P : Program} {w : World} (t ty : TypeId) {e bytes : Nat} {z : Value} (ht : P.underlying t = some (.slice e)) (hinfo : (P.info? e).map (fun i => (i.zero, i.size, i.bytes)) = some (some z, 1, bytes)) (hzs : z.cells.size = 1)
    {B n : Nat} {v : Value} {F : List Value} (hown : w.ownsRow B e 1 v n (F.take n)) {A : Nat → Prop} {m : Nat} {u : Value} (hsrc : Row 1 A w u m ((F.take (n + m)).drop n)) (h1 : ∀ u ∈ F, u.oneCell' = true)
    (hlen : n + m ≤ maxLen) (hbytes : (n + m) * bytes ≤ 140737488355328) (hB : B ≤ w.heap.size) :
    ∃ v' w', (Builtin.append_ #[t, t] ty #[v, u]).run P w = .ok v' w' ∧ w'.ownsRow B e 1 v' (n + m) (F.take (n + m)) ∧ Tg v.ownBlock B e F w w' ∧ (v'.ownBlock = v.ownBlock ∨ v'.ownBlock = some w.heap.size) := by
  have hn1 : (F.take n).length = n := by have := hown.1; simpa using this
  have hnF : n ≤ F.length := by have := hn1; simp only [List.length_take] at this; omega
  have hm1 : ((F.take (n + m)).drop n).length = m := by have := hsrc.1; simpa using this
  have hFl : n + m ≤ F.length ∨ m = 0 := by
    simp only [List.length_drop, List.length_take] at hm1 hn1; omega
  have happ : F.take n ++ (F.take (n + m)).drop n = F.take (n + m) := by
    conv => rhs; rw [← List.take_append_drop n (F.take (n + m))]
    rw [List.take_take, Nat.min_eq_left (by omega)]
  have h1' : ∀ x ∈ (F.take (n + m)).drop n, x.oneCell' = true := fun x hx => h1 x (List.mem_of_mem_take (List.mem_of_mem_drop hx))
  obtain ⟨i0, hi, hz0, hz1, hz2⟩ := info_parts hinfo
  obtain ⟨hl, ad, c, rfl, hc, ha, H⟩ := hsrc
  cases ad with
  | none =>
    have hc0 := ha rfl
    have hm : m = 0 := by omega
    subst hc0; subst hm
    exact ⟨v, w, run_append_owned_none (P := P) (w := w) B t ty e i0 1 ht hi v n _ hown, by simpa using hown, Tg.of (Below.refl _ _), .inl rfl⟩
  | some p =>
    have hnw : ∀ j u, ((F.take (n + m)).drop n)[j]? = some u → w.cell? (p.add j) = some u := by
      intro j u hj
      obtain ⟨b, o, hp, _, hu⟩ := H j u hj
      simp only [Option.some.injEq] at hp
      subst hp
      have : (⟨b, o, none⟩ : Addr).add j = ⟨b, o + j, none⟩ := by unfold Addr.add; split <;> simp_all
      rw [this, hu]
    by_cases hroom : ∃ g cap cur, v = .slice (some ⟨g, 0, none⟩) n cap ∧ B ≤ g ∧ w.heap[g]? = some (.cells cur e (0, 0)) ∧ n + m ≤ cap ∧ cap ≤ maxLen ∧ cur.size = cap * 1 ∧ cur.toList.take (n * 1) = F.take n
    · obtain ⟨g, cap, cur, rfl, hbg, hg, hnc, hcm, hcs, htake⟩ := hroom
      have hfit : n * i0.size + ((F.take (n + m)).drop n).length ≤ cur.size := by rw [hm1, hz1]; omega
      have hr := run_append_room (P := P) w t ty e i0 ht hi g n cap cur hg p m c _ (by rw [hm1, hz1]; omega) hnw h1' hnc hfit
      rw [hz1, Nat.mul_one] at hr
      have htake' : cur.toList.take n = F.take n := by simpa using htake
      refine ⟨_, _, hr, ⟨by simp only [List.length_take]; omega, .inr ⟨g, cap, _, rfl, hbg, setRow_heap w g cur _ e _ hg, hnc, hcm, ?_, ?_⟩⟩, ⟨⟨rfl, rfl, rfl, by simp, fun k _ hk => setRow_other w g k _ (fun e => hk (by simp [Value.ownBlock, e]))⟩, fun x k hx => ?_⟩, .inl rfl⟩
      · simp only [List.size_toArray, List.length_append, List.length_take, List.length_drop, Array.length_toList] at hm1 ⊢
        omega
      · have h3 : n + ((F.take (n + m)).drop n).length = n + m := by rw [hm1]
        simp only [Nat.mul_one]
        rw [htake', happ]
        rw [List.take_append_of_le_length (by simp only [List.length_take]; omega)]
        rw [List.take_take, Nat.min_self]
      · obtain ⟨hx0, hx | ⟨g', cap', cur', hv', hb', hg', hk', hcm', hs', ht'⟩⟩ := hx
        · exact ⟨hx0, .inl hx⟩
        · by_cases hgg : g' = g
          · subst hgg
            rw [hg] at hg'
            obtain ⟨rfl⟩ : cur = cur' := by injection hg' with h; injection h
            refine ⟨hx0, .inr ⟨g', cap', _, hv', hb', setRow_heap w g' cur _ e _ hg, hk', hcm', ?_, ?_⟩⟩
            · simp only [List.size_toArray, List.length_append, List.length_take, List.length_drop, Array.length_toList] at hm1 ⊢
              omega
            · simp only [Nat.mul_one] at ht' ⊢
              rw [htake', happ, hm1]
              have hkl : k ≤ F.length := by simp only [List.length_take] at hx0; omega
              by_cases hkn : k ≤ n + m
              · rw [List.take_append_of_le_length (by simp only [List.length_take]; omega), List.take_take, Nat.min_eq_left hkn]
              · rw [List.take_append, List.take_take, Nat.min_eq_right (by omega)]
                have e1 : (F.take (n + m)).length = n + m := by simp only [List.length_take]; omega
                rw [e1, List.take_drop, show n + m + (k - (n + m)) = k by omega, ht']
                conv => rhs; rw [← List.take_append_drop (n + m) (F.take k)]
                rw [List.take_take, Nat.min_eq_left (by omega)]
          · exact ⟨hx0, .inr ⟨g', cap', cur', hv', hb', by rw [setRow_other w g g' _ hgg]; exact hg', hk', hcm', hs', ht'⟩⟩
    · by_cases hm : m = 0
      · subst hm
        have hnil : (F.take (n + 0)).drop n = [] := List.eq_nil_of_length_eq_zero hm1
        rw [hnil] at hnw h1' hl
        rcases hown.2 with ⟨rfl, rfl⟩ | ⟨g, cap, cur, rfl, hbg, hg, hnc, hcm, hcs, htake⟩
        · have hr := run_append_own_at (P := P) w B t ty e i0 z 1 bytes ht hi hz0 hz1 hz2 hzs (by decide) _ 0 _ hown p 0 c [] hl hnw h1' hlen hbytes hB
          obtain ⟨v', w', k1, k2, k3, k4, k5⟩ := hr
          have hv' := k4.2 ⟨rfl, rfl⟩
          subst hv'
          refine ⟨_, _, k1, by simpa using k2, ⟨k3, fun x k hx => own_keep hx ⟨k3.os, k3.tape, k3.output, k3.size, fun i hi => k3.block i hi (by simp [Value.ownBlock])⟩ (Nat.le_refl _)⟩, .inl rfl⟩
        · exact absurd ⟨g, cap, cur, rfl, hbg, hg, by omega, hcm, hcs, htake⟩ hroom
      · rcases hown.2 with ⟨rfl, rfl⟩ | ⟨g, cap, cur, rfl, hbg, hg, hnc, hcm, hcs, htake⟩
        · have hr := run_append_own_at (P := P) w B t ty e i0 z 1 bytes ht hi hz0 hz1 hz2 hzs (by decide) _ 0 _ hown p m c _ hl hnw h1' hlen hbytes hB
          obtain ⟨v', w', k1, k2, k3, k4, k5⟩ := hr
          rw [happ] at k2
          exact ⟨_, _, k1, k2, ⟨k3, fun x k hx => own_keep hx ⟨k3.os, k3.tape, k3.output, k3.size, fun i hi => k3.block i hi (by simp [Value.ownBlock])⟩ (Nat.le_refl _)⟩, k5⟩
        · have hnroom : cap < n + m := by
            rcases Nat.lt_or_ge cap (n + m) with h | h
            · exact h
            · exact absurd ⟨g, cap, cur, rfl, hbg, hg, h, hcm, hcs, htake⟩ hroom
          have holds : ∀ j u, (F.take n)[j]? = some u → w.cell? ((⟨g, 0, none⟩ : Addr).add j) = some u := hown.cells (g := g) rfl
          have hmx : maxLen ≤ 9223372036854775807 := by decide
          have hr := run_append_grow (P := P) w t ty e i0 z ht hi hz0 ⟨g, 0, none⟩ n cap (F.take n) (by rw [hz1]; exact hown.1) holds p m c _ (by rw [hm1, hz1]; omega) hnw hnroom (by omega) (by rw [hz2]; exact growslice_fits (by omega) hbytes)
          have hge := grownCap_ge w (n + m) cap e
          have hcm2 : grownCap w (n + m) cap e ≤ maxLen := grownCap_le_maxLen w (n + m) cap e hlen
          refine ⟨_, _, hr, ⟨by simp only [List.length_take]; omega, .inr ⟨w.heap.size, _, _, rfl, hB, heap_alloc_new w.drew _, hge, hcm2, ?_, ?_⟩⟩, Tg.of ⟨rfl, rfl, rfl, by simp, fun k hk => Below.heap_alloc w.drew _ k hk⟩, .inr rfl⟩
          · simp only [Array.size_append, List.size_toArray, size_zeroCells, hzs, hn1, hm1]
            omega
          · simp only [Array.toList_append, Nat.mul_one]
            rw [happ]
            have e1 : (F.take (n + m)).length = n + m := by simp only [List.length_take]; omega
            rw [List.take_append_of_le_length (by omega), List.take_take, Nat.min_self]

/-- a world behind V on that road -/
structure TgS (g : Option Nat) (B : Nat) (e : TypeId) (F : List Value) (V : World) where
  nx : World
  ok : Tg g B e F V nx
section
variable {g : Option Nat} {B : Nat} {e : TypeId} {F : List Value}
instance (V : World) : Inhabited (TgS g B e F V) := ⟨⟨V, Tg.of (Below.refl _ _)⟩⟩
theorem TgS.size {V : World} (p : TgS g B e F V) : V.heap.size ≤ p.nx.heap.size := p.ok.1.size
theorem TgS.cell {V : World} (p : TgS g B e F V) {b o : Nat} {v : Value} (h : V.cell? ⟨b, o, none⟩ = some v) (hb : some b ≠ g) : p.nx.cell? ⟨b, o, none⟩ = some v := by
  rw [World.cell?_of_block (w := V) (a := ⟨b, o, none⟩) (p.ok.1.block b (World.block_lt_of_cell? V ⟨b, o, none⟩ h) hb)]; exact h
theorem tg_first (V : World) : ∃ p : TgS g B e F V, V.drew = p.nx := ⟨⟨V.drew, Tg.of ⟨rfl, rfl, rfl, Nat.le_refl _, fun _ _ => rfl⟩⟩, rfl⟩
theorem Bs.apart {A : Nat → Prop} {V w' : World} {v : Value} {l : List UInt8} (h : Bs A V v l) (hA : ∀ b, A b → b < V.heap.size ∧ some b ≠ g) (ht : Tg g B e F V w') : Bs A w' v l :=
  h.keepS fun b hb => ht.1.block b (hA b hb).1 (hA b hb).2
end
def Off (g : Option Nat) (w : World) (b : Nat) : Prop := b < w.heap.size ∧ some b ≠ g
def GL (g : Option Nat) (B : Nat) (e : TypeId) (F : List Value) := {V : Lw // ∀ v w w', V.led v w → Tg g B e F w w' → V.led v w'}
section
variable (g : Option Nat) (B : Nat) (e : TypeId) (F : List Value)
def GL.bytes (l : List UInt8) : GL g B e F := ⟨⟨fun v => ∃ a c, v = .slice a l.length c, fun v w => Bs (Off g w) w v l⟩, fun _ w w' h ht =>
  (h.apart (fun _ hb => hb) ht).monoS fun b hb => ⟨Nat.lt_of_lt_of_le hb.1 ht.1.size, hb.2⟩⟩
def GL.row (k : Nat) : GL g B e F := ⟨⟨fun v => ∃ a c, v = .slice a k c, fun v w => w.ownsRow B e 1 v k (F.take k)⟩, fun v _ _ h ht => ht.2 v k h⟩
def gul : List (Nat × GL g B e F) → Nat → Option Lw
  | [], _ => none
  | (k, V) :: l, s => if s = k then some V.1 else gul l s
theorem gul_up : ∀ (l : List (Nat × GL g B e F)) {s : Nat} {V : Lw}, gul g B e F l s = some V → ∀ v w w', V.led v w → Tg g B e F w w' → V.led v w'
  | [], s, V, h => by cases h
  | (k, U) :: l, s, V, h => by
    unfold gul at h
    split at h
    · cases h; exact U.2
    · exact gul_up l h
theorem gul_ck {V : World} (l : List (Nat × GL g B e F)) : Ck (Tg g B e F) (fun w' => ∃ p : TgS g B e F V, w' = p.nx) (gul g B e F l) :=
  ⟨fun h k => h.trans k, fun ⟨p, hp⟩ h => ⟨⟨_, p.ok.trans (by subst hp; exact h)⟩, rfl⟩, fun {s V v w w'} h1 h2 h3 => gul_up g B e F l h1 v w w' h2 h3⟩
end
theorem own_slice {B n : Nat} {e : TypeId} {w : World} {v : Value} {xs : List Value} (h : w.ownsRow B e 1 v n xs) : ∃ a c, v = .slice a n c := by
  rcases h.2 with ⟨rfl, rfl⟩ | ⟨g, cap, cur, rfl, _⟩
  · exact ⟨_, _, rfl⟩
  · exact ⟨_, _, rfl⟩
theorem Ob.off {e : TypeId} {w w' : World} {v : Value} {l : List UInt8} {g : Option Nat} (h : Ob e w.heap.size w' v l) (hl : l.length ≤ lim) (hg : ∀ k, g = some k → k < w.heap.size) : Bs (Off g w') w' v l := by
  have h0 := h
  obtain ⟨a, c, rfl, hc, ha, H⟩ := (h.bs hl).at
  refine ⟨⟨by simp, a, c, rfl, hc, ha, fun j u hj => ?_⟩, hl⟩
  have hj' : j < l.length := by have := (List.getElem?_eq_some_iff.1 hj).1; simpa using this
  obtain ⟨b, o, he, hb, hu⟩ := H j hj'
  refine ⟨b, o, he, ⟨hb, ?_⟩, by rw [hu, ← hj, bv_get l j hj']⟩
  rintro rfl
  have h1 := hg b rfl
  have h2 := (h0.lt b (by rw [he]; rfl)).1
  omega
end Go.Proofs.YtbmhkdcmepfmbaaGreat
set_option linter.unusedVariables false
namespace Go.Proofs.YtbmhkdcmepfmbaaGreat
open Go.RowKit
section
variable {P : Program} {ops : Array Oper} {md : Region.Mode} {C : World → Prop}
def chUpon (P : Program) (K : Value → World → Prop) : Result Next → Prop
  | .ok (.value u) w' => K u w'
  | .ok .skip w' => K undef w'
  | .ok (.enter f args) w' => Calls P f args w' (fun e w'' => ∃ u, e = .returned u ∧ K u w'')
  | _ => False
theorem chUpon_mono {K K' : Value → World → Prop} {r : Result Next} (h : ∀ u w, K u w → K' u w) (hr : chUpon P K r) : chUpon P K' r := by
  cases r with
  | ok n w' =>
    cases n <;> simp only [chUpon] at hr ⊢
    case value u => exact h _ _ hr
    case skip => exact h _ _ hr
    case enter f args => exact hr.mono fun e w'' ⟨u, h1, h2⟩ => ⟨u, h1, h _ _ h2⟩
  | halt x w' => exact hr.elim
theorem chUpon_some {K : Value → World → Prop} {r : Result Next} (hr : chUpon P K r) : ∃ u w', K u w' := by
  cases r with
  | ok n w' =>
    cases n <;> simp only [chUpon] at hr
    case value u => exact ⟨_, _, hr⟩
    case skip => exact ⟨_, _, hr⟩
    case enter f args =>
      obtain ⟨e, w'', fr, ⟨u, _, h1⟩, _⟩ := hr []
      exact ⟨_, _, h1⟩
  | halt x w' => exact hr.elim
/-- one operation: a read yields the same in each world of C; a deed is done in the very world -/
def pmix (P : Program) (ops : Array Oper) (C : World → Prop) (o : Oper) (a : Act) (w : World) (K : Act → World → Prop) : Prop :=
  if Region.wanted o (yielded ops a.tmps) then
    if plainB o then ∃ v, (∀ w', C w' → detUpon w' v ((execOp a.eval o).run P w')) ∧ K (a.put o.dst v) w
    else chUpon P (fun u w' => C w' ∧ K (a.put o.dst u) w') ((execOp a.eval o).run P w)
  else K (a.put o.dst undef) w
def wpMix (P : Program) (ops : Array Oper) (C : World → Prop) (Q : Act → World → Prop) : List Oper → Act → World → Prop
  | [], a, w => Q a w
  | o :: rest, a, w => pmix P ops C o a w (wpMix P ops C Q rest)
theorem pmix_mono {o : Oper} {a : Act} {w : World} {K K' : Act → World → Prop} (hC : C w) (h : ∀ a w, C w → K a w → K' a w) (hh : pmix P ops C o a w K) : pmix P ops C o a w K' := by
  unfold pmix at *
  split at hh
  · rename_i hw
    rw [if_pos hw]
    split at hh
    · rename_i hp
      rw [if_pos hp]
      obtain ⟨v, h1, h2⟩ := hh
      exact ⟨v, h1, h _ _ hC h2⟩
    · rename_i hp
      rw [if_neg hp]
      exact chUpon_mono (fun u w' ⟨h1, h2⟩ => ⟨h1, h _ _ h1 h2⟩) hh
  · rename_i hw
    rw [if_neg hw]
    exact h _ _ hC hh
theorem pmix_swap {oi oj : Oper} {a : Act} {w : World} {K : Act → World → Prop} (hC : C w) (hap : oi.apart ops oj = true) (hpl : plainB oi = true ∨ plainB oj = true) (hsi : ∀ cs b, oi.op ≠ .select cs b) (hsj : ∀ cs b, oj.op ≠ .select cs b)
    (h : pmix P ops C oi a w fun a' w' => pmix P ops C oj a' w' K) : pmix P ops C oj a w fun a' w' => pmix P ops C oi a' w' K := by
  obtain ⟨h1, h2, h3⟩ := Oper.apart_spec hap
  have ei : ∀ (a : Act) v, execOp (a.put oj.dst v).eval oi = execOp a.eval oi := fun a v => execOp_put oi hsi a oj.dst v h3
  have ej : ∀ (a : Act) v, execOp (a.put oi.dst v).eval oj = execOp a.eval oj := fun a v => execOp_put oj hsj a oi.dst v h1
  have wi : ∀ (a : Act) v, Region.wanted oi (yielded ops (a.put oj.dst v).tmps) = Region.wanted oi (yielded ops a.tmps) := fun a v => wanted_put oi a oj.dst v h3
  have wj : ∀ (a : Act) v, Region.wanted oj (yielded ops (a.put oi.dst v).tmps) = Region.wanted oj (yielded ops a.tmps) := fun a v => wanted_put oj a oi.dst v h1
  have pc : ∀ (a : Act) v u, (a.put oi.dst v).put oj.dst u = (a.put oj.dst u).put oi.dst v := fun a v u => Act.put_comm a v u h2
  -- the second one, seen ahead of the first
  have fw : ∀ (w' : World) (v : Value) (K2 : Act → World → Prop), C w' → (∀ u w2, K ((a.put oj.dst u).put oi.dst v) w2 → C w2 → K2 (a.put oj.dst u) w2) → pmix P ops C oj (a.put oi.dst v) w' K → pmix P ops C oj a w' K2 := by
    intro w' v K2 hC' hk hj
    unfold pmix at hj ⊢
    rw [wj, ej] at hj
    split at hj
    · rename_i hw
      rw [if_pos hw]
      split at hj
      · rename_i hp
        rw [if_pos hp]
        obtain ⟨u, k1, k2⟩ := hj
        exact ⟨u, k1, hk _ _ (by rw [← pc]; exact k2) hC'⟩
      · rename_i hp
        rw [if_neg hp]
        exact chUpon_mono (fun u w2 ⟨k1, k2⟩ => ⟨k1, hk _ _ (by rw [← pc]; exact k2) k1⟩) hj
    · rename_i hw
      rw [if_neg hw]
      exact hk _ _ (by rw [← pc]; exact hj) hC'
  unfold pmix at h
  by_cases hw : Region.wanted oi (yielded ops a.tmps) = true
  · rw [if_pos hw] at h
    by_cases hp : plainB oi = true
    · rw [if_pos hp] at h
      obtain ⟨v, k1, k2⟩ := h
      refine fw w v _ hC (fun u w2 k3 _ => ?_) k2
      unfold pmix
      rw [wi, if_pos hw, if_pos hp, ei]
      exact ⟨v, k1, k3⟩
    · rw [if_neg hp] at h
      have hpj : plainB oj = true := hpl.resolve_left hp
      unfold pmix
      by_cases hwj : Region.wanted oj (yielded ops a.tmps) = true
      · rw [if_pos hwj, if_pos hpj]
        have hj : ∀ u w', C w' ∧ (if Region.wanted oj (yielded ops (a.put oi.dst u).tmps) then if plainB oj then ∃ v, (∀ w', C w' → detUpon w' v ((execOp (a.put oi.dst u).eval oj).run P w')) ∧ K ((a.put oi.dst u).put oj.dst v) w' else chUpon P (fun v w' => C w' ∧ K ((a.put oi.dst u).put oj.dst v) w') ((execOp (a.put oi.dst u).eval oj).run P w') else K ((a.put oi.dst u).put oj.dst undef) w') →
            ∃ v, (∀ w', C w' → detUpon w' v ((execOp a.eval oj).run P w')) ∧ C w' ∧ K ((a.put oj.dst v).put oi.dst u) w' := by
          intro u w' ⟨k1, k2⟩
          rw [wj, if_pos hwj, if_pos hpj, ej] at k2
          obtain ⟨v, k3, k4⟩ := k2
          exact ⟨v, k3, k1, by rw [← pc]; exact k4⟩
        obtain ⟨u0, w0, k0⟩ := chUpon_some h
        obtain ⟨v, k1, _, _⟩ := hj u0 w0 k0
        refine ⟨v, k1, ?_⟩
        show (if Region.wanted oi (yielded ops (a.put oj.dst v).tmps) then _ else _)
        rw [wi, if_pos hw, if_neg hp, ei]
        refine chUpon_mono (fun u w' k => ?_) h
        obtain ⟨v', k3, k4, k5⟩ := hj u w' k
        have : v = v' := detUpon_inj (k1 w hC) (k3 w hC)
        rw [this]; exact ⟨k4, k5⟩
      · rw [if_neg hwj]
        show (if Region.wanted oi (yielded ops (a.put oj.dst undef).tmps) then _ else _)
        rw [wi, if_pos hw, if_neg hp, ei]
        refine chUpon_mono (fun u w' ⟨k1, k2⟩ => ⟨k1, ?_⟩) h
        have k2 : (if Region.wanted oj (yielded ops (a.put oi.dst u).tmps) then _ else _) := k2
        rw [wj, if_neg hwj] at k2
        rw [← pc]; exact k2
  · rw [if_neg hw] at h
    refine fw w undef _ hC (fun u w2 k3 _ => ?_) h
    unfold pmix
    rw [wi, if_neg hw]
    exact k3
theorem mpull (hsel : ∀ (j : Nat) (o : Oper) cs b, ops[j]? = some o → o.op ≠ .select cs b) {Q : Act → World → Prop} {j : Nat} {oj : Oper} (hj : ops[j]? = some oj) :
    ∀ (I : List Nat) (L : List Oper) (a : Act) (w : World), C w → (∀ i ∈ I, ∀ oi, ops[i]? = some oi → oi.apart ops oj = true ∧ (plainB oi = true ∨ plainB oj = true)) →
      wpMix P ops C Q (I.filterMap (ops[·]?) ++ oj :: L) a w → pmix P ops C oj a w (wpMix P ops C Q (I.filterMap (ops[·]?) ++ L))
  | [], L, a, w, hC, hap, h => h
  | i :: I, L, a, w, hC, hap, h => by
    cases hi : ops[i]? with
    | none =>
      rw [List.filterMap_cons, hi] at h ⊢
      exact mpull hsel hj I L a w hC (fun i hi => hap i (List.mem_cons_of_mem _ hi)) h
    | some oi =>
      rw [List.filterMap_cons, hi] at h ⊢
      simp only [List.cons_append, wpMix] at h ⊢
      have hh := hap i (List.mem_cons_self ..) oi hi
      refine pmix_swap hC hh.1 hh.2 (fun cs b => hsel i oi cs b hi) (fun cs b => hsel j oj cs b hj) ?_
      exact pmix_mono hC (fun a' w' hC' h' => mpull hsel hj I L a' w' hC' (fun i hi => hap i (List.mem_cons_of_mem _ hi)) h') h
def deedB (ops : Array Oper) (i : Nat) : Bool := match ops[i]? with | some o => !plainB o | none => false
/-- the Bool over a region's head: each operation waits for earlier ones alone; of two either the later waits, or they are apart and one of them reads, or both are deeds and a deed between them is waited for -/
def mixB (md : Region.Mode) (ops : Array Oper) (n : Nat) : Bool :=
  Region.noSelect ops && (List.range ops.size).all fun j => match ops[j]? with
    | some oj => oj.after.all (fun e => !Region.binds md e || decide (e.on < j)) && (List.range j).all fun i => decide (n ≤ j) || Region.waitsFor md ops j i ||
        (match ops[i]? with | some oi => oi.apart ops oj && (plainB oi || plainB oj) | none => true) ||
        (deedB ops i && (List.range j).any fun k => decide (i < k) && deedB ops k && Region.waitsFor md ops j k)
    | none => true
structure MixOk (md : Region.Mode) (ops : Array Oper) (n : Nat) : Prop where
  sel : Region.noSelect ops = true
  lt : ∀ j oj, ops[j]? = some oj → ∀ e ∈ oj.after, Region.binds md e = true → e.on < j
  ap : ∀ j oj, j < n → ops[j]? = some oj → ∀ i oi, i < j → ops[i]? = some oi → (∃ e ∈ oj.after, Region.binds md e = true ∧ e.on = i) ∨ (oi.apart ops oj = true ∧ (plainB oi = true ∨ plainB oj = true)) ∨
    (plainB oi = false ∧ ∃ k ok, i < k ∧ k < j ∧ ops[k]? = some ok ∧ plainB ok = false ∧ ∃ e ∈ oj.after, Region.binds md e = true ∧ e.on = k)
theorem mixB_ok {n : Nat} (h : mixB md ops n = true) : MixOk md ops n := by
  unfold mixB at h
  rw [Bool.and_eq_true] at h
  obtain ⟨h1, h2⟩ := h
  rw [List.all_eq_true] at h2
  refine ⟨h1, fun j oj hj e he hb => ?_, fun j oj hjn hj i oi hi hoi => ?_⟩
  · have h3 := h2 j (List.mem_range.2 (Array.getElem?_eq_some_iff.1 hj).1)
    simp only [hj, Bool.and_eq_true] at h3
    have h4 := Array.all_eq_true'.1 h3.1 e he
    simpa [hb] using h4
  · have h3 := h2 j (List.mem_range.2 (Array.getElem?_eq_some_iff.1 hj).1)
    simp only [hj, Bool.and_eq_true] at h3
    have h4 := List.all_eq_true.1 h3.2 i (List.mem_range.2 hi)
    simp only [hoi, Bool.or_eq_true, Bool.and_eq_true, decide_eq_true_eq] at h4
    rcases h4 with ((h4 | h4) | h4) | h4
    · omega
    · obtain ⟨o', ho', e, he, hb, hon⟩ := Region.waitsFor_spec h4
      have : o' = oj := Option.some.inj (ho'.symm.trans hj)
      subst this
      exact .inl ⟨e, he, hb, hon⟩
    · exact .inr (.inl h4)
    · obtain ⟨h5, h6⟩ := h4
      obtain ⟨k, hk, h7⟩ := List.any_eq_true.1 h6
      simp only [Bool.and_eq_true, decide_eq_true_eq] at h7
      obtain ⟨⟨h8, h9⟩, h10⟩ := h7
      obtain ⟨o', ho', e, he, hb, hon⟩ := Region.waitsFor_spec h10
      have : o' = oj := Option.some.inj (ho'.symm.trans hj)
      subst this
      unfold deedB at h5 h9
      rw [hoi] at h5
      cases hok : ops[k]? with
      | none => rw [hok] at h9; cases h9
      | some ok => rw [hok] at h9; exact .inr (.inr ⟨by simpa using h5, k, ok, h8, List.mem_range.1 hk, hok, by simpa using h9, e, he, hb, hon⟩)
/-- ahead of a deed that is ready or done, all deeds are done -/
theorem deeds_done {n : Nat} {listed : Array Bool} (hok : MixOk md ops n) (inv : HeadInv md ops n listed) : ∀ (d j : Nat) (oj : Oper), j = d → j < n → ops[j]? = some oj → (∀ e ∈ oj.after, Region.binds md e = true → listed.getD e.on false = true) →
    ∀ i oi, i < j → ops[i]? = some oi → plainB oi = false → plainB oj = false → listed.getD i false = true := by
  intro d
  induction d using Nat.strongRecOn with
  | _ d ih =>
    intro j oj hd hjn hoj hall i oi hi hoi hpi hpj
    rcases hok.ap j oj hjn hoj i oi hi hoi with ⟨e, he, hb, hon⟩ | ⟨_, h | h⟩ | ⟨_, k, ok, h1, h2, h3, h4, e, he, hb, hon⟩
    · rw [← hon]; exact hall e he hb
    · rw [hpi] at h; cases h
    · rw [hpj] at h; cases h
    · have hk := hall e he hb
      rw [hon] at hk
      exact ih k (by omega) k ok rfl (by omega) h3 (fun e' he' hb' => inv.closed k ok h3 hk e' he' hb') i oi h1 hoi hpi h4
theorem wpOp_of_pmix {j : Nat} {o : Oper} {a : Act} {w : World} {K : Act → World → Prop} {K' : Act → World → Prop} {Q' : Exit → Act → World → Prop} (hj : ops[j]? = some o) (hC : C w)
    (h : pmix P ops C o a w K) (hn : ∀ a' w', C w' → K a' w' → K' a' w') : wpOp P ops Q' j K' a w := by
  unfold wpOp
  simp only [hj]
  unfold pmix at h
  by_cases hw : Region.wanted o (yielded ops a.tmps) = true
  · rw [if_pos hw] at h ⊢
    refine .inl ?_
    unfold Oper.wp
    by_cases hp : plainB o = true
    · rw [if_pos hp] at h
      obtain ⟨v, h1, h2⟩ := h
      have h3 := h1 w hC
      generalize (execOp a.eval o).run P w = r at *
      cases r with
      | ok nx w' =>
        cases nx <;> simp only [detUpon] at h3 <;> simp only [Oper.upon]
        case value u => obtain ⟨rfl, rfl⟩ := h3; exact hn _ _ hC h2
        case skip => obtain ⟨rfl, rfl⟩ := h3; exact hn _ _ hC h2
      | halt x w' => exact h3.elim
    · rw [if_neg hp] at h
      generalize (execOp a.eval o).run P w = r at *
      cases r with
      | ok nx w' =>
        cases nx <;> simp only [chUpon] at h <;> simp only [Oper.upon]
        case value u => exact hn _ _ h.1 h.2
        case skip => exact hn _ _ h.1 h.2
        case enter f args =>
          refine h.mono fun e w'' he => ?_
          obtain ⟨u, rfl, k1, k2⟩ := he
          exact hn _ _ k1 k2
      | halt x w' => exact h.elim
  · rw [if_neg hw] at h ⊢
    exact hn _ _ hC h
theorem any_mix {n g : Nat} {Q : Act → World → Prop} {Q' : Exit → Act → World → Prop} (hok : MixOk md ops n) (hns : n ≤ ops.size)
    (htail : ∀ listed i, HeadInv md ops n listed → i < n → listed.getD i true = false → ∀ t, n ≤ t → t ∉ Region.ready md ops listed)
    (hQ : ∀ listed a w, HeadInv md ops n listed → (∀ i, i < n → listed.getD i true = true) → C w → Q a w → wpAny P md ops Q' g listed a w) :
    ∀ (f : Nat) (listed : Array Bool) (I : List Nat) (a : Act) (w : World), I.length = f → Left md ops n listed I → HeadInv md ops n listed → C w →
      wpMix P ops C Q (I.filterMap (ops[·]?)) a w → wpAny P md ops Q' (f + g) listed a w
  | 0, listed, I, a, w, hl, hL, inv, hC, h => by
    obtain rfl := List.length_eq_zero_iff.1 hl
    rw [Nat.zero_add]
    refine hQ listed a w inv (fun i hi => ?_) hC h
    cases hc : listed.getD i true with
    | true => rfl
    | false => exact absurd ((hL.mem i).2 ⟨hi, hc⟩) (by simp)
  | f + 1, listed, I, a, w, hl, hL, inv, hC, h => by
    rw [show f + 1 + g = (f + g) + 1 by omega]
    obtain ⟨i0, I0, rfl⟩ : ∃ i0 I0, I = i0 :: I0 := by cases I with | nil => simp at hl | cons i I => exact ⟨i, I, rfl⟩
    have hi0 := (hL.mem i0).1 (List.mem_cons_self ..)
    refine ⟨fun h0 => ?_, fun j hj => ?_⟩
    · have h0' : i0 < ops.size := by omega
      have : i0 ∈ Region.ready md ops listed := by
        refine mem_ready.2 ⟨hi0.2, ops[i0], Array.getElem?_eq_getElem h0', fun e he hb => ?_⟩
        have hlt := hok.lt i0 _ (Array.getElem?_eq_getElem h0') e he hb
        cases hc : listed.getD e.on false with
        | true => rfl
        | false =>
          have h1 := (hL.mem e.on).2 ⟨by omega, getD_in (by rw [inv.size]; omega) hc⟩
          rcases List.mem_cons.1 h1 with h2 | h2
          · omega
          · have := (List.pairwise_cons.1 hL.inc).1 _ h2
            omega
      rw [h0] at this
      cases this
    · have hjn : j < n := by
        rcases Nat.lt_or_ge j n with h | h
        · exact h
        · exact absurd hj (htail listed i0 inv hi0.1 hi0.2 j h)
      obtain ⟨hjun, oj, hoj, hall⟩ := mem_ready.1 hj
      have hjI := (hL.mem j).2 ⟨hjn, hjun⟩
      obtain ⟨I1, I2, hI⟩ := List.append_of_mem hjI
      rw [hI] at h hL hl
      have hpw := List.pairwise_append.1 hL.inc
      have hpw2 := List.pairwise_cons.1 hpw.2.1
      rw [List.filterMap_append, List.filterMap_cons, hoj] at h
      have hp := mpull (Region.noSelect_spec hok.sel) hoj I1 (I2.filterMap (ops[·]?)) a w hC (fun i hi oi hoi => by
        have hlt : i < j := hpw.2.2 i hi j (List.mem_cons_self ..)
        have hun : listed.getD i false = false := getD_both ((hL.mem i).1 (List.mem_append_left _ hi)).2
        rcases hok.ap j oj hjn hoj i oi hlt hoi with ⟨e, he, hb, hon⟩ | h5 | ⟨h5, k, ok, h6, h7, h8, h9, e, he, hb, hon⟩
        · have h1 := hall e he hb
          rw [hon, hun] at h1
          cases h1
        · exact h5
        · have hk := hall e he hb
          rw [hon] at hk
          have := deeds_done hok inv k k ok rfl (by omega) h8 (fun e' he' hb' => inv.closed k ok h8 hk e' he' hb') i oi h6 hoi h5 h9
          rw [hun] at this
          cases this) h
      rw [← List.filterMap_append] at hp
      refine wpOp_of_pmix hoj hC hp fun a' w' hC' h' => any_mix hok hns htail hQ f _ (I1 ++ I2) a' w' (by simp at hl ⊢; omega) ⟨fun i => ?_, ?_⟩ (inv.set hj hjn) hC' h'
      · by_cases hij : j = i
        · subst hij
          have h1 : j ∉ I1 ++ I2 := by
            intro hm
            rcases List.mem_append.1 hm with hm | hm
            · have := hpw.2.2 j hm j (List.mem_cons_self ..); omega
            · have := hpw2.1 j hm; omega
          have h2 : (listed.setIfInBounds j true).getD j true = true := by
            have : j < listed.size := by rw [inv.size]; omega
            simp [this]
          simp [h1, h2]
        · have h2 := hL.mem i
          rw [getD_set_ne true hij, ← h2]
          simp [Ne.symm hij]
      · refine List.pairwise_append.2 ⟨hpw.1, hpw2.2, fun x hx y hy => hpw.2.2 x hx y (List.mem_cons_of_mem _ hy)⟩
def mregB (md : Region.Mode) (ops : Array Oper) (n : Nat) : Bool :=
  mixB md ops n && decide (n ≤ ops.size) && (decide (n = ops.size) || (Region.sinkB md ops n && Region.chainB md ops n)) && Region.seqB md ops (ops.size - n) n ((Array.range ops.size).map fun i => decide (i < n))
/-- **one walk serves every order** -/
theorem wp_region_mix {id : Nat} {Q : Exit → Act → World → Prop} {a : Act} {w : World} {l : List Oper} (n : Nat) (C : World → Prop) (hm : P.follows .mixedOrders = true) (hB : mregB .any l.toArray n = true) (hC : C w.drew)
    (h : wpMix P l.toArray C (fun a' w' => wpList P l.toArray Q (l.drop n) a' w') (l.take n) a w.drew) : (Code.region id l.toArray true).wp P Q a w := by
  simp only [mregB, Bool.and_eq_true, Bool.or_eq_true, decide_eq_true_eq] at hB
  obtain ⟨⟨⟨hf, hns⟩, ht⟩, hseq⟩ := hB
  have hok := mixB_ok hf
  have inv0 : HeadInv .any l.toArray n (Array.replicate l.toArray.size false) :=
    ⟨by simp, fun j oj _ hl => (by rw [getD_replicate_false] at hl; cases hl), fun t _ ht => getD_in (by simpa using ht) (getD_replicate_false _ _)⟩
  refine wp_region_any hm ?_
  have hL0 : Left .any l.toArray n (Array.replicate l.toArray.size false) (List.range n) := ⟨fun i => by
    rw [List.mem_range]
    refine ⟨fun hi => ⟨hi, getD_in (by simp at hns ⊢; omega) (getD_replicate_false _ _)⟩, fun h => h.1⟩, List.pairwise_lt_range⟩
  have hfm : (List.range n).filterMap (l.toArray[·]?) = l.take n := by
    have hns' : n ≤ l.length := by simpa using hns
    clear h ht hseq hok inv0 hL0 hf hns
    induction n with
    | zero => rfl
    | succ n ih =>
      rw [List.range_succ, List.filterMap_append, ih (by omega), List.take_succ_eq_append_getElem (by omega)]
      simp [show n < l.length by omega]
  have := any_mix (P := P) (C := C) (Q := fun a' w' => wpList P l.toArray Q (l.drop n) a' w') (Q' := Q) (g := l.toArray.size - n) hok hns (fun listed i inv hi hun t ht' => by
      rcases ht with h0 | ⟨h1, h2⟩
      · intro hr
        obtain ⟨_, o, ho, _⟩ := mem_ready.1 hr
        have := (Array.getElem?_eq_some_iff.1 ho).1
        omega
      · rcases Nat.lt_or_ge n l.toArray.size with h3 | h3
        · exact tail_waits h1 h2 h3 inv _ i rfl hi hun t ht'
        · intro hr
          obtain ⟨_, o, ho, _⟩ := mem_ready.1 hr
          have := (Array.getElem?_eq_some_iff.1 ho).1
          omega)
    (fun listed a' w' inv hall hC' hq => by
      have he : listed = (Array.range l.toArray.size).map fun i => decide (i < n) := by
        apply Array.ext
        · rw [inv.size]; simp
        · intro i h1 h2
          have h3 : i < l.toArray.size := by rw [← inv.size]; exact h1
          have h4 : ((Array.range l.toArray.size).map fun i => decide (i < n))[i] = decide (i < n) := by simp
          rw [h4]
          rcases Nat.lt_or_ge i n with h5 | h5
          · have := hall i h5
            simp [h1] at this
            simp [this, h5]
          · have := inv.tail i h5 h3
            simp [h1] at this
            simp [this, Nat.not_lt.2 h5]
      have hdl : (l.drop n).length = l.toArray.size - n := by simp
      rw [← he] at hseq
      have := wpAny_of_seq (P := P) (md := .any) (ops := l.toArray) (Q' := Q) (l.drop n) n listed a' w' (fun j => by simp [List.getElem?_drop]) (by rw [hdl]; exact hseq) hq
      rwa [hdl] at this)
    n (Array.replicate l.toArray.size false) (List.range n) a w.drew (by simp) hL0 inv0 hC (by rw [hfm]; exact h)
  rw [show n + (l.toArray.size - n) = l.toArray.size by omega] at this
  exact this
end
section
variable {P : Program} {ops : Array Oper} {C : World → Prop} {Q : Act → World → Prop} {o : Oper} {rest : List Oper} {a : Act} {w : World}
/-- an operation that reads -/
theorem mx_read (hp : plainB o = true) (h : wpQuiet P ops C (fun a' => wpMix P ops C Q rest a' w) [o] a) : wpMix P ops C Q (o :: rest) a w := by
  show pmix P ops C o a w _
  unfold pmix
  have h : if Region.wanted o (yielded ops a.tmps) then o.quiet P a C (fun a' => wpMix P ops C Q rest a' w) else wpMix P ops C Q rest (a.put o.dst undef) w := h
  by_cases hw : Region.wanted o (yielded ops a.tmps) = true
  · rw [if_pos hw] at h ⊢
    rw [if_pos hp]
    obtain ⟨v, h1, h2⟩ := h
    refine ⟨v, fun w hC => ?_, h2⟩
    have h3 := h1 w hC
    unfold Oper.quietAt at h3
    generalize hr : (execOp a.eval o).run P w = r at *
    cases r with
    | ok nx w' =>
      cases nx <;> simp only [Oper.quietUpon] at h3 <;> simp only [detUpon]
      case value u => exact h3
      case skip => exact h3
      case enter f args => exact absurd hr (plain_ne hp)
    | halt x w' => exact h3
  · rw [if_neg hw] at h ⊢
    exact h
def plainsB : List Oper → Bool
  | [] => true
  | o :: l => plainB o && plainsB l
theorem mx_reads : ∀ (l : List Oper) {a : Act}, plainsB l = true → wpQuiet P ops C (fun a' => wpMix P ops C Q rest a' w) l a → wpMix P ops C Q (l ++ rest) a w
  | [], a, _, h => h
  | o :: l, a, hb, h => by
    simp only [plainsB, Bool.and_eq_true] at hb
    refine mx_read (rest := l ++ rest) hb.1 ?_
    have h : if Region.wanted o (yielded ops a.tmps) then o.quiet P a C (wpQuiet P ops C (fun a' => wpMix P ops C Q rest a' w) l) else wpQuiet P ops C (fun a' => wpMix P ops C Q rest a' w) l (a.put o.dst undef) := h
    show if Region.wanted o (yielded ops a.tmps) then o.quiet P a C (fun a' => wpMix P ops C Q (l ++ rest) a' w) else wpMix P ops C Q (l ++ rest) (a.put o.dst undef) w
    split
    · rename_i hw
      rw [if_pos hw] at h
      exact Oper.quiet_mono (fun a' h' => mx_reads l hb.2 h') h
    · rename_i hw
      rw [if_neg hw] at h
      exact mx_reads l hb.2 h
theorem mx_take (n : Nat) {l : List Oper} (hb : plainsB (l.take n) = true) (h : wpQuiet P ops C (fun a' => wpMix P ops C Q (l.drop n) a' w) (l.take n) a) : wpMix P ops C Q l a w := by
  have := mx_reads (rest := l.drop n) _ hb h
  rwa [List.take_append_drop] at this
theorem mx_skip (hw : Region.wanted o (yielded ops a.tmps) = false) (h : wpMix P ops C Q rest (a.put o.dst undef) w) : wpMix P ops C Q (o :: rest) a w := by
  show pmix P ops C o a w _
  unfold pmix
  rw [hw]
  exact h
/-- a call -/
theorem mx_call {f : FuncId} {fn : Func} {x : Operand} {args : List Operand} {ty : Array TypeId} {cap vals : List Value} {post : Ending → World → Prop} (hf : P.funcs[f]? = some fn) (hname : (fn.name == "runtime.NumGoroutine" || fn.body.isNone) = false)
    (ho : o.op = .call { callee := .value x, args := args.toArray, argTypes := ty }) (hx : a.eval x = .func (.func f) #[] cap.toArray) (hv : args.map a.eval ++ cap = vals) (hw : Region.wanted o (yielded ops a.tmps) = true)
    (h : Calls P f vals.toArray w post) (hn : ∀ e w', post e w' → ∃ u, e = .returned u ∧ C w' ∧ wpMix P ops C Q rest (a.put o.dst u) w') : wpMix P ops C Q (o :: rest) a w := by
  show pmix P ops C o a w _
  unfold pmix
  have hp : plainB o = false := by unfold plainB; rw [ho]
  rw [if_pos hw, if_neg (by rw [hp]; decide)]
  have hr : (execOp a.eval o).run P w = .ok (.enter f vals.toArray) w := by
    rw [Bool.or_eq_false_iff] at hname
    have h1 : fn.name ≠ "runtime.NumGoroutine" := by simpa using hname.1
    have h2 : fn.body ≠ none := by intro e; have := hname.2; rw [e] at this; cases this
    subst hv
    simp [execOp, ho, resolve, hx, Deferred.ofValue, invoke, callFunc, hf, h1, h2]
  rw [hr]
  exact h.mono fun e w' he => hn e w' he
/-- a deed whose run is known -/
theorem mx_make {u : Value} {w' : World} (hp : plainB o = false) (hw : Region.wanted o (yielded ops a.tmps) = true) (h : (execOp a.eval o).run P w = .ok (.value u) w') (hC : C w')
    (hn : wpMix P ops C Q rest (a.put o.dst u) w') : wpMix P ops C Q (o :: rest) a w := by
  show pmix P ops C o a w _
  unfold pmix
  rw [if_pos hw, if_neg (by rw [hp]; decide), h]
  exact ⟨hC, hn⟩
/-- an append -/
theorem mx_app {s x : Operand} {t : TypeId} {v u v' : Value} {w' : World} (ho : o.op = .call { callee := .builtin .append, args := #[s, x], argTypes := #[t, t] }) (hs : a.eval s = v) (hx : a.eval x = u)
    (hw : Region.wanted o (yielded ops a.tmps) = true) (h : (Builtin.append_ #[t, t] o.type #[v, u]).run P w = .ok v' w') (hC : C w')
    (hn : wpMix P ops C Q rest (a.put o.dst v') w') : wpMix P ops C Q (o :: rest) a w := by
  refine mx_make (by unfold plainB; rw [ho]) hw ?_ hC hn
  unfold execOp
  simp only [ho, resolve, invoke, builtin, Sem.run_bind, Sem.run_pure, Result.andThen_ok, List.map_toArray, List.map_cons, List.map_nil, hs, hx, h]
end
/-- a world behind V in which all but the blocks of g lie as they lay -/
structure Kp (g : Nat → Prop) (V : World) where
  nx : World
  sz : V.heap.size ≤ nx.heap.size
  ok : ∀ b, b < V.heap.size → ¬ g b → nx.heap[b]? = V.heap[b]?
instance (g : Nat → Prop) (V : World) : Inhabited (Kp g V) := ⟨⟨V, Nat.le_refl _, fun _ _ _ => rfl⟩⟩
theorem Kp.cell {g : Nat → Prop} {V : World} (p : Kp g V) {b o : Nat} {v : Value} (h : V.cell? ⟨b, o, none⟩ = some v) (hb : ¬ g b) : p.nx.cell? ⟨b, o, none⟩ = some v := by
  rw [World.cell?_of_block (w := V) (a := ⟨b, o, none⟩) (p.ok b (World.block_lt_of_cell? V ⟨b, o, none⟩ h) hb)]; exact h
theorem kp_first (g : Nat → Prop) (V : World) : ∃ p : Kp g V, V.drew = p.nx := ⟨⟨V.drew, Nat.le_refl _, fun _ _ _ => rfl⟩, rfl⟩
theorem kp_mk {g : Nat → Prop} {V w' : World} (hs : V.heap.size ≤ w'.heap.size) (h : ∀ b, b < V.heap.size → ¬ g b → w'.heap[b]? = V.heap[b]?) : ∃ p : Kp g V, w' = p.nx := ⟨⟨w', hs, h⟩, rfl⟩
end Go.Proofs.YtbmhkdcmepfmbaaGreat
set_option linter.unusedVariables false
namespace Go.Proofs.YtbmhkdcmepfmbaaGreat
open Go.RowKit
/-- reads no memory -/
def pureB (o : Oper) : Bool := match o.op with
  | .move _ | .assign _ | .nilCheck _ | .fieldAddr .. | .binOp .. => true
  | _ => false
def loadB (o : Oper) : Bool := plainB o && !pureB o
def clB (o : Oper) : Bool := match o.op with
  | .store .. => true
  | _ => false
section
variable {P : Program} {ops : Array Oper} {md : Region.Mode} {C C2 : World → Prop}
def Cq (C C2 : World → Prop) (o : Oper) (w : World) : Prop := if pureB o then C2 w else C w
def Dq (C C2 : World → Prop) (o : Oper) (w : World) : Prop := if clB o then C2 w else C w
def nmix (P : Program) (ops : Array Oper) (C C2 : World → Prop) (o : Oper) (a : Act) (w : World) (K : Act → World → Prop) : Prop :=
  if Region.wanted o (yielded ops a.tmps) then
    if plainB o then ∃ v, (∀ w', Cq C C2 o w' → detUpon w' v ((execOp a.eval o).run P w')) ∧ K (a.put o.dst v) w
    else chUpon P (fun u w' => Dq C C2 o w' ∧ K (a.put o.dst u) w') ((execOp a.eval o).run P w)
  else K (a.put o.dst undef) w
def wpNix (P : Program) (ops : Array Oper) (C C2 : World → Prop) (Q : Act → World → Prop) : List Oper → Act → World → Prop
  | [], a, w => Q a w
  | o :: rest, a, w => nmix P ops C C2 o a w (wpNix P ops C C2 Q rest)
/-- where one is behind an operation -/
def Step (C C2 : World → Prop) (o : Oper) (w w' : World) : Prop := w' = w ∨ (plainB o = false ∧ Dq C C2 o w')
theorem nmix_mono {o : Oper} {a : Act} {w : World} {K K' : Act → World → Prop} (h : ∀ a w', Step C C2 o w w' → K a w' → K' a w') (hh : nmix P ops C C2 o a w K) : nmix P ops C C2 o a w K' := by
  unfold nmix at *
  split at hh
  · rename_i hw
    rw [if_pos hw]
    split at hh
    · rename_i hp
      rw [if_pos hp]
      obtain ⟨v, h1, h2⟩ := hh
      exact ⟨v, h1, h _ _ (.inl rfl) h2⟩
    · rename_i hp
      rw [if_neg hp]
      exact chUpon_mono (fun u w' ⟨h1, h2⟩ => ⟨h1, h _ _ (.inr ⟨by simpa using hp, h1⟩) h2⟩) hh
  · rename_i hw
    rw [if_neg hw]
    exact h _ _ (.inl rfl) hh
theorem nmix_swap {oi oj : Oper} {a : Act} {w : World} {K : Act → World → Prop} (hq : plainB oj = true → Cq C C2 oj w) (hap : oi.apart ops oj = true) (hpl : plainB oi = true ∨ plainB oj = true) (hsi : ∀ cs b, oi.op ≠ .select cs b) (hsj : ∀ cs b, oj.op ≠ .select cs b)
    (h : nmix P ops C C2 oi a w fun a' w' => nmix P ops C C2 oj a' w' K) : nmix P ops C C2 oj a w fun a' w' => nmix P ops C C2 oi a' w' K := by
  obtain ⟨h1, h2, h3⟩ := Oper.apart_spec hap
  have ei : ∀ (a : Act) v, execOp (a.put oj.dst v).eval oi = execOp a.eval oi := fun a v => execOp_put oi hsi a oj.dst v h3
  have ej : ∀ (a : Act) v, execOp (a.put oi.dst v).eval oj = execOp a.eval oj := fun a v => execOp_put oj hsj a oi.dst v h1
  have wi : ∀ (a : Act) v, Region.wanted oi (yielded ops (a.put oj.dst v).tmps) = Region.wanted oi (yielded ops a.tmps) := fun a v => wanted_put oi a oj.dst v h3
  have wj : ∀ (a : Act) v, Region.wanted oj (yielded ops (a.put oi.dst v).tmps) = Region.wanted oj (yielded ops a.tmps) := fun a v => wanted_put oj a oi.dst v h1
  have pc : ∀ (a : Act) v u, (a.put oi.dst v).put oj.dst u = (a.put oj.dst u).put oi.dst v := fun a v u => Act.put_comm a v u h2
  have fw : ∀ (w' : World) (v : Value) (K2 : Act → World → Prop), (∀ u w2, K ((a.put oj.dst u).put oi.dst v) w2 → K2 (a.put oj.dst u) w2) → nmix P ops C C2 oj (a.put oi.dst v) w' K → nmix P ops C C2 oj a w' K2 := by
    intro w' v K2 hk hj
    unfold nmix at hj ⊢
    rw [wj, ej] at hj
    split at hj
    · rename_i hw
      rw [if_pos hw]
      split at hj
      · rename_i hp
        rw [if_pos hp]
        obtain ⟨u, k1, k2⟩ := hj
        exact ⟨u, k1, hk _ _ (by rw [← pc]; exact k2)⟩
      · rename_i hp
        rw [if_neg hp]
        exact chUpon_mono (fun u w2 ⟨k1, k2⟩ => ⟨k1, hk _ _ (by rw [← pc]; exact k2)⟩) hj
    · rename_i hw
      rw [if_neg hw]
      exact hk _ _ (by rw [← pc]; exact hj)
  unfold nmix at h
  by_cases hw : Region.wanted oi (yielded ops a.tmps) = true
  · rw [if_pos hw] at h
    by_cases hp : plainB oi = true
    · rw [if_pos hp] at h
      obtain ⟨v, k1, k2⟩ := h
      refine fw w v _ (fun u w2 k3 => ?_) k2
      unfold nmix
      rw [wi, if_pos hw, if_pos hp, ei]
      exact ⟨v, k1, k3⟩
    · rw [if_neg hp] at h
      have hpj : plainB oj = true := hpl.resolve_left hp
      unfold nmix
      by_cases hwj : Region.wanted oj (yielded ops a.tmps) = true
      · rw [if_pos hwj, if_pos hpj]
        have hj : ∀ u w', Dq C C2 oi w' ∧ (if Region.wanted oj (yielded ops (a.put oi.dst u).tmps) then if plainB oj then ∃ v, (∀ w', Cq C C2 oj w' → detUpon w' v ((execOp (a.put oi.dst u).eval oj).run P w')) ∧ K ((a.put oi.dst u).put oj.dst v) w' else chUpon P (fun v w' => Dq C C2 oj w' ∧ K ((a.put oi.dst u).put oj.dst v) w') ((execOp (a.put oi.dst u).eval oj).run P w') else K ((a.put oi.dst u).put oj.dst undef) w') →
            ∃ v, (∀ w', Cq C C2 oj w' → detUpon w' v ((execOp a.eval oj).run P w')) ∧ Dq C C2 oi w' ∧ K ((a.put oj.dst v).put oi.dst u) w' := by
          intro u w' ⟨k1, k2⟩
          rw [wj, if_pos hwj, if_pos hpj, ej] at k2
          obtain ⟨v, k3, k4⟩ := k2
          exact ⟨v, k3, k1, by rw [← pc]; exact k4⟩
        obtain ⟨u0, w0, k0⟩ := chUpon_some h
        obtain ⟨v, k1, _, _⟩ := hj u0 w0 k0
        refine ⟨v, k1, ?_⟩
        show (if Region.wanted oi (yielded ops (a.put oj.dst v).tmps) then _ else _)
        rw [wi, if_pos hw, if_neg hp, ei]
        refine chUpon_mono (fun u w' k => ?_) h
        obtain ⟨v', k3, k4, k5⟩ := hj u w' k
        have : v = v' := detUpon_inj (k1 w (hq hpj)) (k3 w (hq hpj))
        rw [this]; exact ⟨k4, k5⟩
      · rw [if_neg hwj]
        show (if Region.wanted oi (yielded ops (a.put oj.dst undef).tmps) then _ else _)
        rw [wi, if_pos hw, if_neg hp, ei]
        refine chUpon_mono (fun u w' ⟨k1, k2⟩ => ⟨k1, ?_⟩) h
        have k2 : (if Region.wanted oj (yielded ops (a.put oi.dst u).tmps) then _ else _) := k2
        rw [wj, if_neg hwj] at k2
        rw [← pc]; exact k2
  · rw [if_neg hw] at h
    refine fw w undef _ (fun u w2 k3 => ?_) h
    unfold nmix
    rw [wi, if_neg hw]
    exact k3
/-- the earlier one may be passed over -/
def pairB (oi oj : Oper) : Bool := (plainB oi || plainB oj) && !(clB oi && loadB oj)
theorem npull (hCC : ∀ w, C w → C2 w) (hsel : ∀ (j : Nat) (o : Oper) cs b, ops[j]? = some o → o.op ≠ .select cs b) {Q : Act → World → Prop} {j : Nat} {oj : Oper} (hj : ops[j]? = some oj) :
    ∀ (I : List Nat) (L : List Oper) (a : Act) (w : World), (plainB oj = true → Cq C C2 oj w) → (∀ i ∈ I, ∀ oi, ops[i]? = some oi → oi.apart ops oj = true ∧ pairB oi oj = true) →
      wpNix P ops C C2 Q (I.filterMap (ops[·]?) ++ oj :: L) a w → nmix P ops C C2 oj a w (wpNix P ops C C2 Q (I.filterMap (ops[·]?) ++ L))
  | [], L, a, w, hC, hap, h => h
  | i :: I, L, a, w, hC, hap, h => by
    cases hi : ops[i]? with
    | none =>
      rw [List.filterMap_cons, hi] at h ⊢
      exact npull hCC hsel hj I L a w hC (fun i hi => hap i (List.mem_cons_of_mem _ hi)) h
    | some oi =>
      rw [List.filterMap_cons, hi] at h ⊢
      simp only [List.cons_append, wpNix] at h ⊢
      have hh := hap i (List.mem_cons_self ..) oi hi
      have hpb := hh.2
      simp only [pairB, Bool.and_eq_true, Bool.or_eq_true, Bool.not_eq_true', Bool.and_eq_false_iff] at hpb
      refine nmix_swap hC hh.1 hpb.1 (fun cs b => hsel i oi cs b hi) (fun cs b => hsel j oj cs b hj) ?_
      refine nmix_mono (fun a' w' hs h' => npull hCC hsel hj I L a' w' (fun hp => ?_) (fun i hi => hap i (List.mem_cons_of_mem _ hi)) h') h
      rcases hs with rfl | ⟨_, hd⟩
      · exact hC hp
      · unfold Dq at hd
        unfold Cq
        by_cases hpu : pureB oj = true
        · rw [if_pos hpu]
          split at hd
          · exact hd
          · exact hCC _ hd
        · rw [if_neg hpu]
          split at hd
          · rename_i hcl
            rcases hpb.2 with h1 | h1
            · rw [hcl] at h1; cases h1
            · unfold loadB at h1; rw [hp] at h1; simp at h1; exact absurd h1 hpu
          · exact hd
/-- the Bool over a region's head -/
def nixB (md : Region.Mode) (ops : Array Oper) (n : Nat) : Bool :=
  Region.noSelect ops && (List.range ops.size).all fun j => match ops[j]? with
    | some oj => oj.after.all (fun e => !Region.binds md e || decide (e.on < j)) && ((List.range j).all fun i => decide (n ≤ j) || Region.waitsFor md ops j i ||
        (match ops[i]? with | some oi => oi.apart ops oj && pairB oi oj | none => true) ||
        (deedB ops i && (List.range j).any fun k => decide (i < k) && deedB ops k && Region.waitsFor md ops j k)) &&
        (decide (n ≤ j) || !clB oj || (List.range n).all fun i => (match ops[i]? with | some oi => !loadB oi | none => true) || Region.waitsFor md ops j i)
    | none => true
structure NixOk (md : Region.Mode) (ops : Array Oper) (n : Nat) : Prop where
  sel : Region.noSelect ops = true
  lt : ∀ j oj, ops[j]? = some oj → ∀ e ∈ oj.after, Region.binds md e = true → e.on < j
  ap : ∀ j oj, j < n → ops[j]? = some oj → ∀ i oi, i < j → ops[i]? = some oi → (∃ e ∈ oj.after, Region.binds md e = true ∧ e.on = i) ∨ (oi.apart ops oj = true ∧ pairB oi oj = true) ∨
    (plainB oi = false ∧ ∃ k ok, i < k ∧ k < j ∧ ops[k]? = some ok ∧ plainB ok = false ∧ ∃ e ∈ oj.after, Region.binds md e = true ∧ e.on = k)
  cl : ∀ j oj, j < n → ops[j]? = some oj → clB oj = true → ∀ i oi, i < n → ops[i]? = some oi → loadB oi = true → ∃ e ∈ oj.after, Region.binds md e = true ∧ e.on = i
theorem nixB_ok {n : Nat} (h : nixB md ops n = true) : NixOk md ops n := by
  unfold nixB at h
  rw [Bool.and_eq_true] at h
  obtain ⟨h1, h2⟩ := h
  rw [List.all_eq_true] at h2
  refine ⟨h1, fun j oj hj e he hb => ?_, fun j oj hjn hj i oi hi hoi => ?_, fun j oj hjn hj hcl i oi hi hoi hld => ?_⟩
  · have h3 := h2 j (List.mem_range.2 (Array.getElem?_eq_some_iff.1 hj).1)
    simp only [hj, Bool.and_eq_true] at h3
    have h4 := Array.all_eq_true'.1 h3.1.1 e he
    simpa [hb] using h4
  · have h3 := h2 j (List.mem_range.2 (Array.getElem?_eq_some_iff.1 hj).1)
    simp only [hj, Bool.and_eq_true] at h3
    have h4 := List.all_eq_true.1 h3.1.2 i (List.mem_range.2 hi)
    simp only [hoi, Bool.or_eq_true, Bool.and_eq_true, decide_eq_true_eq] at h4
    rcases h4 with ((h4 | h4) | h4) | h4
    · omega
    · obtain ⟨o', ho', e, he, hb, hon⟩ := Region.waitsFor_spec h4
      have : o' = oj := Option.some.inj (ho'.symm.trans hj)
      subst this
      exact .inl ⟨e, he, hb, hon⟩
    · exact .inr (.inl h4)
    · obtain ⟨h5, h6⟩ := h4
      obtain ⟨k, hk, h7⟩ := List.any_eq_true.1 h6
      simp only [Bool.and_eq_true, decide_eq_true_eq] at h7
      obtain ⟨⟨h8, h9⟩, h10⟩ := h7
      obtain ⟨o', ho', e, he, hb, hon⟩ := Region.waitsFor_spec h10
      have : o' = oj := Option.some.inj (ho'.symm.trans hj)
      subst this
      unfold deedB at h5 h9
      rw [hoi] at h5
      cases hok : ops[k]? with
      | none => rw [hok] at h9; cases h9
      | some ok => rw [hok] at h9; exact .inr (.inr ⟨by simpa using h5, k, ok, h8, List.mem_range.1 hk, hok, by simpa using h9, e, he, hb, hon⟩)
  · have h3 := h2 j (List.mem_range.2 (Array.getElem?_eq_some_iff.1 hj).1)
    simp only [hj, Bool.and_eq_true, Bool.or_eq_true, decide_eq_true_eq, Bool.not_eq_true'] at h3
    rcases h3.2 with (h4 | h4) | h4
    · omega
    · rw [hcl] at h4; cases h4
    · have h5 := List.all_eq_true.1 h4 i (List.mem_range.2 hi)
      simp only [hoi, Bool.or_eq_true, Bool.not_eq_true'] at h5
      rcases h5 with h5 | h5
      · rw [hld] at h5; cases h5
      · obtain ⟨o', ho', e, he, hb, hon⟩ := Region.waitsFor_spec h5
        have : o' = oj := Option.some.inj (ho'.symm.trans hj)
        subst this
        exact ⟨e, he, hb, hon⟩
theorem ndeeds_done {n : Nat} {listed : Array Bool} (hok : NixOk md ops n) (inv : HeadInv md ops n listed) : ∀ (d j : Nat) (oj : Oper), j = d → j < n → ops[j]? = some oj → (∀ e ∈ oj.after, Region.binds md e = true → listed.getD e.on false = true) →
    ∀ i oi, i < j → ops[i]? = some oi → plainB oi = false → plainB oj = false → listed.getD i false = true := by
  intro d
  induction d using Nat.strongRecOn with
  | _ d ih =>
    intro j oj hd hjn hoj hall i oi hi hoi hpi hpj
    rcases hok.ap j oj hjn hoj i oi hi hoi with ⟨e, he, hb, hon⟩ | ⟨_, h⟩ | ⟨_, k, ok, h1, h2, h3, h4, e, he, hb, hon⟩
    · rw [← hon]; exact hall e he hb
    · unfold pairB at h; rw [hpi, hpj] at h; cases h
    · have hk := hall e he hb
      rw [hon] at hk
      exact ih k (by omega) k ok rfl (by omega) h3 (fun e' he' hb' => inv.closed k ok h3 hk e' he' hb') i oi h1 hoi hpi h4
theorem wpOp_of_nmix {j : Nat} {o : Oper} {a : Act} {w : World} {K : Act → World → Prop} {K' : Act → World → Prop} {Q' : Exit → Act → World → Prop} (hj : ops[j]? = some o) (hC : plainB o = true → Cq C C2 o w)
    (h : nmix P ops C C2 o a w K) (hn : ∀ a' w', Step C C2 o w w' → K a' w' → K' a' w') : wpOp P ops Q' j K' a w := by
  unfold wpOp
  simp only [hj]
  unfold nmix at h
  by_cases hw : Region.wanted o (yielded ops a.tmps) = true
  · rw [if_pos hw] at h ⊢
    refine .inl ?_
    unfold Oper.wp
    by_cases hp : plainB o = true
    · rw [if_pos hp] at h
      obtain ⟨v, h1, h2⟩ := h
      have h3 := h1 w (hC hp)
      generalize (execOp a.eval o).run P w = r at *
      cases r with
      | ok nx w' =>
        cases nx <;> simp only [detUpon] at h3 <;> simp only [Oper.upon]
        case value u => obtain ⟨rfl, rfl⟩ := h3; exact hn _ _ (.inl rfl) h2
        case skip => obtain ⟨rfl, rfl⟩ := h3; exact hn _ _ (.inl rfl) h2
      | halt x w' => exact h3.elim
    · rw [if_neg hp] at h
      have hp : plainB o = false := by simpa using hp
      generalize (execOp a.eval o).run P w = r at *
      cases r with
      | ok nx w' =>
        cases nx <;> simp only [chUpon] at h <;> simp only [Oper.upon]
        case value u => exact hn _ _ (.inr ⟨hp, h.1⟩) h.2
        case skip => exact hn _ _ (.inr ⟨hp, h.1⟩) h.2
        case enter f args =>
          refine h.mono fun e w'' he => ?_
          obtain ⟨u, rfl, k1, k2⟩ := he
          exact hn _ _ (.inr ⟨hp, k1⟩) k2
      | halt x w' => exact h.elim
  · rw [if_neg hw] at h ⊢
    exact hn _ _ (.inl rfl) h
theorem any_nix {n g : Nat} {Q : Act → World → Prop} {Q' : Exit → Act → World → Prop} (hCC : ∀ w, C w → C2 w) (hok : NixOk md ops n) (hns : n ≤ ops.size)
    (htail : ∀ listed i, HeadInv md ops n listed → i < n → listed.getD i true = false → ∀ t, n ≤ t → t ∉ Region.ready md ops listed)
    (hQ : ∀ listed a w, HeadInv md ops n listed → (∀ i, i < n → listed.getD i true = true) → Q a w → wpAny P md ops Q' g listed a w) :
    ∀ (f : Nat) (listed : Array Bool) (I : List Nat) (a : Act) (w : World), I.length = f → Left md ops n listed I → HeadInv md ops n listed → C2 w → ((∃ i oi, i < n ∧ listed.getD i true = false ∧ ops[i]? = some oi ∧ loadB oi = true) → C w) →
      wpNix P ops C C2 Q (I.filterMap (ops[·]?)) a w → wpAny P md ops Q' (f + g) listed a w
  | 0, listed, I, a, w, hl, hL, inv, hC2, hC, h => by
    obtain rfl := List.length_eq_zero_iff.1 hl
    rw [Nat.zero_add]
    refine hQ listed a w inv (fun i hi => ?_) h
    cases hc : listed.getD i true with
    | true => rfl
    | false => exact absurd ((hL.mem i).2 ⟨hi, hc⟩) (by simp)
  | f + 1, listed, I, a, w, hl, hL, inv, hC2, hC, h => by
    rw [show f + 1 + g = (f + g) + 1 by omega]
    obtain ⟨i0, I0, rfl⟩ : ∃ i0 I0, I = i0 :: I0 := by cases I with | nil => simp at hl | cons i I => exact ⟨i, I, rfl⟩
    have hi0 := (hL.mem i0).1 (List.mem_cons_self ..)
    refine ⟨fun h0 => ?_, fun j hj => ?_⟩
    · have h0' : i0 < ops.size := by omega
      have : i0 ∈ Region.ready md ops listed := by
        refine mem_ready.2 ⟨hi0.2, ops[i0], Array.getElem?_eq_getElem h0', fun e he hb => ?_⟩
        have hlt := hok.lt i0 _ (Array.getElem?_eq_getElem h0') e he hb
        cases hc : listed.getD e.on false with
        | true => rfl
        | false =>
          have h1 := (hL.mem e.on).2 ⟨by omega, getD_in (by rw [inv.size]; omega) hc⟩
          rcases List.mem_cons.1 h1 with h2 | h2
          · omega
          · have := (List.pairwise_cons.1 hL.inc).1 _ h2
            omega
      rw [h0] at this
      cases this
    · have hjn : j < n := by
        rcases Nat.lt_or_ge j n with h | h
        · exact h
        · exact absurd hj (htail listed i0 inv hi0.1 hi0.2 j h)
      obtain ⟨hjun, oj, hoj, hall⟩ := mem_ready.1 hj
      have hjI := (hL.mem j).2 ⟨hjn, hjun⟩
      obtain ⟨I1, I2, hI⟩ := List.append_of_mem hjI
      rw [hI] at h hL hl
      have hpw := List.pairwise_append.1 hL.inc
      have hpw2 := List.pairwise_cons.1 hpw.2.1
      rw [List.filterMap_append, List.filterMap_cons, hoj] at h
      have hqj : plainB oj = true → Cq C C2 oj w := fun hp => by
        unfold Cq
        by_cases hpu : pureB oj = true
        · rw [if_pos hpu]; exact hC2
        · rw [if_neg hpu]; exact hC ⟨j, oj, hjn, hjun, hoj, by unfold loadB; simp [hp, hpu]⟩
      have hp := npull hCC (Region.noSelect_spec hok.sel) hoj I1 (I2.filterMap (ops[·]?)) a w hqj (fun i hi oi hoi => by
        have hlt : i < j := hpw.2.2 i hi j (List.mem_cons_self ..)
        have hun : listed.getD i false = false := getD_both ((hL.mem i).1 (List.mem_append_left _ hi)).2
        rcases hok.ap j oj hjn hoj i oi hlt hoi with ⟨e, he, hb, hon⟩ | h5 | ⟨h5, k, ok, h6, h7, h8, h9, e, he, hb, hon⟩
        · have h1 := hall e he hb
          rw [hon, hun] at h1
          cases h1
        · exact h5
        · have hk := hall e he hb
          rw [hon] at hk
          have := ndeeds_done hok inv k k ok rfl (by omega) h8 (fun e' he' hb' => inv.closed k ok h8 hk e' he' hb') i oi h6 hoi h5 h9
          rw [hun] at this
          cases this) h
      rw [← List.filterMap_append] at hp
      refine wpOp_of_nmix hoj hqj hp fun a' w' hs h' => any_nix hCC hok hns htail hQ f _ (I1 ++ I2) a' w' (by simp at hl ⊢; omega) ⟨fun i => ?_, ?_⟩ (inv.set hj hjn) ?_ ?_ h'
      · by_cases hij : j = i
        · subst hij
          have h1 : j ∉ I1 ++ I2 := by
            intro hm
            rcases List.mem_append.1 hm with hm | hm
            · have := hpw.2.2 j hm j (List.mem_cons_self ..); omega
            · have := hpw2.1 j hm; omega
          have h2 : (listed.setIfInBounds j true).getD j true = true := by
            have : j < listed.size := by rw [inv.size]; omega
            simp [this]
          simp [h1, h2]
        · have h2 := hL.mem i
          rw [getD_set_ne true hij, ← h2]
          simp [Ne.symm hij]
      · refine List.pairwise_append.2 ⟨hpw.1, hpw2.2, fun x hx y hy => hpw.2.2 x hx y (List.mem_cons_of_mem _ hy)⟩
      · rcases hs with rfl | ⟨_, hd⟩
        · exact hC2
        · unfold Dq at hd
          split at hd
          · exact hd
          · exact hCC _ hd
      · rintro ⟨i, oi, hi, hli, hoi, hld⟩
        have hij : j ≠ i := by
          rintro rfl
          have : j < listed.size := by rw [inv.size]; omega
          simp [this] at hli
        rw [getD_set_ne true hij] at hli
        rcases hs with rfl | ⟨_, hd⟩
        · exact hC ⟨i, oi, hi, hli, hoi, hld⟩
        · unfold Dq at hd
          split at hd
          · rename_i hcl
            obtain ⟨e, he, hb, hon⟩ := hok.cl j oj hjn hoj hcl i oi hi hoi hld
            have := hall e he hb
            rw [hon, getD_both hli] at this
            cases this
          · exact hd
def nregB (md : Region.Mode) (ops : Array Oper) (n : Nat) : Bool :=
  nixB md ops n && decide (n ≤ ops.size) && (decide (n = ops.size) || (Region.sinkB md ops n && Region.chainB md ops n)) && Region.seqB md ops (ops.size - n) n ((Array.range ops.size).map fun i => decide (i < n))
/-- **one walk serves every order** -/
theorem wp_region_nix {id : Nat} {Q : Exit → Act → World → Prop} {a : Act} {w : World} {l : List Oper} (n : Nat) (C C2 : World → Prop) (hm : P.follows .mixedOrders = true) (hB : nregB .any l.toArray n = true) (hCC : ∀ w, C w → C2 w) (hC : C w.drew)
    (h : wpNix P l.toArray C C2 (fun a' w' => wpList P l.toArray Q (l.drop n) a' w') (l.take n) a w.drew) : (Code.region id l.toArray true).wp P Q a w := by
  simp only [nregB, Bool.and_eq_true, Bool.or_eq_true, decide_eq_true_eq] at hB
  obtain ⟨⟨⟨hf, hns⟩, ht⟩, hseq⟩ := hB
  have hok := nixB_ok hf
  have inv0 : HeadInv .any l.toArray n (Array.replicate l.toArray.size false) :=
    ⟨by simp, fun j oj _ hl => (by rw [getD_replicate_false] at hl; cases hl), fun t _ ht => getD_in (by simpa using ht) (getD_replicate_false _ _)⟩
  refine wp_region_any hm ?_
  have hL0 : Left .any l.toArray n (Array.replicate l.toArray.size false) (List.range n) := ⟨fun i => by
    rw [List.mem_range]
    refine ⟨fun hi => ⟨hi, getD_in (by simp at hns ⊢; omega) (getD_replicate_false _ _)⟩, fun h => h.1⟩, List.pairwise_lt_range⟩
  have hfm : (List.range n).filterMap (l.toArray[·]?) = l.take n := by
    have hns' : n ≤ l.length := by simpa using hns
    clear h ht hseq hok inv0 hL0 hf hns
    induction n with
    | zero => rfl
    | succ n ih =>
      rw [List.range_succ, List.filterMap_append, ih (by omega), List.take_succ_eq_append_getElem (by omega)]
      simp [show n < l.length by omega]
  have := any_nix (P := P) (C := C) (C2 := C2) (Q := fun a' w' => wpList P l.toArray Q (l.drop n) a' w') (Q' := Q) (g := l.toArray.size - n) hCC hok hns (fun listed i inv hi hun t ht' => by
      rcases ht with h0 | ⟨h1, h2⟩
      · intro hr
        obtain ⟨_, o, ho, _⟩ := mem_ready.1 hr
        have := (Array.getElem?_eq_some_iff.1 ho).1
        omega
      · rcases Nat.lt_or_ge n l.toArray.size with h3 | h3
        · exact tail_waits h1 h2 h3 inv _ i rfl hi hun t ht'
        · intro hr
          obtain ⟨_, o, ho, _⟩ := mem_ready.1 hr
          have := (Array.getElem?_eq_some_iff.1 ho).1
          omega)
    (fun listed a' w' inv hall hq => by
      have he : listed = (Array.range l.toArray.size).map fun i => decide (i < n) := by
        apply Array.ext
        · rw [inv.size]; simp
        · intro i h1 h2
          have h3 : i < l.toArray.size := by rw [← inv.size]; exact h1
          have h4 : ((Array.range l.toArray.size).map fun i => decide (i < n))[i] = decide (i < n) := by simp
          rw [h4]
          rcases Nat.lt_or_ge i n with h5 | h5
          · have := hall i h5
            simp [h1] at this
            simp [this, h5]
          · have := inv.tail i h5 h3
            simp [h1] at this
            simp [this, Nat.not_lt.2 h5]
      have hdl : (l.drop n).length = l.toArray.size - n := by simp
      rw [← he] at hseq
      have := wpAny_of_seq (P := P) (md := .any) (ops := l.toArray) (Q' := Q) (l.drop n) n listed a' w' (fun j => by simp [List.getElem?_drop]) (by rw [hdl]; exact hseq) hq
      rwa [hdl] at this)
    n (Array.replicate l.toArray.size false) (List.range n) a w.drew (by simp) hL0 inv0 (hCC _ hC) (fun _ => hC) (by rw [hfm]; exact h)
  rw [show n + (l.toArray.size - n) = l.toArray.size by omega] at this
  exact this
end
section
variable {P : Program} {ops : Array Oper} {C C2 : World → Prop} {Q : Act → World → Prop} {o : Oper} {rest : List Oper} {a : Act} {w : World}
theorem nx_read (D : World → Prop) (hD : ∀ w, Cq C C2 o w → D w) (hp : plainB o = true) (h : wpQuiet P ops D (fun a' => wpNix P ops C C2 Q rest a' w) [o] a) : wpNix P ops C C2 Q (o :: rest) a w := by
  show nmix P ops C C2 o a w _
  unfold nmix
  have h : if Region.wanted o (yielded ops a.tmps) then o.quiet P a D (fun a' => wpNix P ops C C2 Q rest a' w) else wpNix P ops C C2 Q rest (a.put o.dst undef) w := h
  by_cases hw : Region.wanted o (yielded ops a.tmps) = true
  · rw [if_pos hw] at h ⊢
    rw [if_pos hp]
    obtain ⟨v, h1, h2⟩ := h
    refine ⟨v, fun w hC => ?_, h2⟩
    have h3 := h1 w (hD w hC)
    unfold Oper.quietAt at h3
    generalize hr : (execOp a.eval o).run P w = r at *
    cases r with
    | ok nx w' =>
      cases nx <;> simp only [Oper.quietUpon] at h3 <;> simp only [detUpon]
      case value u => exact h3
      case skip => exact h3
      case enter f args => exact absurd hr (plain_ne hp)
    | halt x w' => exact h3
  · rw [if_neg hw] at h ⊢
    exact h
/-- an operation that reads memory -/
theorem nx_load (hp : plainB o = true) (hu : pureB o = false) (h : wpQuiet P ops C (fun a' => wpNix P ops C C2 Q rest a' w) [o] a) : wpNix P ops C C2 Q (o :: rest) a w :=
  nx_read C (fun w hc => by unfold Cq at hc; rw [hu] at hc; exact hc) hp h
/-- an operation that reads none -/
theorem nx_pure (hp : plainB o = true) (hu : pureB o = true) (h : wpQuiet P ops C2 (fun a' => wpNix P ops C C2 Q rest a' w) [o] a) : wpNix P ops C C2 Q (o :: rest) a w :=
  nx_read C2 (fun w hc => by unfold Cq at hc; rw [hu] at hc; exact hc) hp h
theorem nx_skip (hw : Region.wanted o (yielded ops a.tmps) = false) (h : wpNix P ops C C2 Q rest (a.put o.dst undef) w) : wpNix P ops C C2 Q (o :: rest) a w := by
  show nmix P ops C C2 o a w _
  unfold nmix
  rw [hw]
  exact h
/-- a call -/
theorem nx_call {f : FuncId} {fn : Func} {x : Operand} {args : List Operand} {ty : Array TypeId} {cap vals : List Value} {post : Ending → World → Prop} (hf : P.funcs[f]? = some fn) (hname : (fn.name == "runtime.NumGoroutine" || fn.body.isNone) = false)
    (ho : o.op = .call { callee := .value x, args := args.toArray, argTypes := ty }) (hx : a.eval x = .func (.func f) #[] cap.toArray) (hv : args.map a.eval ++ cap = vals) (hw : Region.wanted o (yielded ops a.tmps) = true)
    (h : Calls P f vals.toArray w post) (hn : ∀ e w', post e w' → ∃ u, e = .returned u ∧ C w' ∧ wpNix P ops C C2 Q rest (a.put o.dst u) w') : wpNix P ops C C2 Q (o :: rest) a w := by
  show nmix P ops C C2 o a w _
  unfold nmix
  have hp : plainB o = false := by unfold plainB; rw [ho]
  have hc : clB o = false := by unfold clB; rw [ho]
  rw [if_pos hw, if_neg (by rw [hp]; decide)]
  have hr : (execOp a.eval o).run P w = .ok (.enter f vals.toArray) w := by
    rw [Bool.or_eq_false_iff] at hname
    have h1 : fn.name ≠ "runtime.NumGoroutine" := by simpa using hname.1
    have h2 : fn.body ≠ none := by intro e; have := hname.2; rw [e] at this; cases this
    subst hv
    simp [execOp, ho, resolve, hx, Deferred.ofValue, invoke, callFunc, hf, h1, h2]
  rw [hr]
  refine h.mono fun e w' he => ?_
  obtain ⟨u, h1, h2, h3⟩ := hn e w' he
  exact ⟨u, h1, by unfold Dq; rw [hc]; exact h2, h3⟩
/-- a deed whose run is known -/
theorem nx_make {u : Value} {w' : World} (hp : plainB o = false) (hc : clB o = false) (hw : Region.wanted o (yielded ops a.tmps) = true) (h : (execOp a.eval o).run P w = .ok (.value u) w') (hC : C w')
    (hn : wpNix P ops C C2 Q rest (a.put o.dst u) w') : wpNix P ops C C2 Q (o :: rest) a w := by
  show nmix P ops C C2 o a w _
  unfold nmix
  rw [if_pos hw, if_neg (by rw [hp]; decide), h]
  exact ⟨by unfold Dq; rw [hc]; exact hC, hn⟩
/-- a store -/
theorem nx_store {w' : World} (hp : plainB o = false) (hc : clB o = true) (hw : Region.wanted o (yielded ops a.tmps) = true) (h : (execOp a.eval o).run P w = .ok .skip w') (hC : C2 w')
    (hn : wpNix P ops C C2 Q rest (a.put o.dst undef) w') : wpNix P ops C C2 Q (o :: rest) a w := by
  show nmix P ops C C2 o a w _
  unfold nmix
  rw [if_pos hw, if_neg (by rw [hp]; decide), h]
  exact ⟨by unfold Dq; rw [hc]; exact hC, hn⟩
end
theorem kp_any {V w' : World} (hs : V.heap.size ≤ w'.heap.size) : ∃ q : Kp (fun _ => True) V, w' = q.nx := ⟨⟨w', hs, fun _ _ h => absurd trivial h⟩, rfl⟩
theorem kp_all {g : Nat → Prop} {V w' : World} (h : ∃ q : Kp g V, w' = q.nx) : ∃ q : Kp (fun _ => True) V, w' = q.nx := by
  obtain ⟨q, rfl⟩ := h; exact kp_any q.sz
end Go.Proofs.YtbmhkdcmepfmbaaGreat
