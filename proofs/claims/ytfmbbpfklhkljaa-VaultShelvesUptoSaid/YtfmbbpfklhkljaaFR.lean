/- A region that draws its order, whose operations may make memory and yield values that are known only by a law: ONE walk, in the order of the text, serves every order. No program is named here. -/
import Derived.Test.YtfmbbpfklhkljaaUP
import Derived.StillTail
set_option linter.unusedVariables false
namespace Go.Proofs.Ytfmbbpfklhkljaa
open Go.RowKit
/-- what is known of a value that was yielded: at once, and in each later world -/
structure Lw where
  one : Value → Prop
  led : Value → World → Prop
/-- the values yielded by operations that have a law -/
abbrev Gh := Nat → Value → Prop
def Gh.put (G : Gh) (d : Option Tmp) (v : Value) : Gh := fun s u => G s u ∨ (d = some s ∧ u = v)
section
variable {P : Program} {ops : Array Oper} {md : Region.Mode} {T : World → World → Prop} {C : World → Prop} {S : Nat → Option Lw}
def Kn (S : Nat → Option Lw) (G : Gh) (l : Nat → Prop) (w : World) : Prop := ∀ s v V, l s → G s v → S s = some V → V.led v w
def freeUpon (P : Program) (T : World → World → Prop) (V : Lw) (w : World) : Result Next → Prop
  | .ok (.value u) w' => T w w' ∧ V.one u ∧ V.led u w'
  | .ok (.enter f args) w' => w' = w ∧ Calls P f args w (fun e w'' => ∃ u, e = .returned u ∧ T w w'' ∧ V.one u ∧ V.led u w'')
  | _ => False
def detUpon (w : World) (v : Value) : Result Next → Prop
  | .ok (.value u) w' => w' = w ∧ u = v
  | .ok .skip w' => w' = w ∧ v = undef
  | _ => False
def looks (ops : Array Oper) (o : Oper) (s : Nat) : Prop := s ∈ o.looksAt ops
/-- one operation -/
def ofree (P : Program) (ops : Array Oper) (T : World → World → Prop) (C : World → Prop) (S : Nat → Option Lw) (o : Oper) (a : Act) (G : Gh) (K : Act → Gh → Prop) : Prop :=
  match o.dst.bind S with
  | some V => (∀ w, C w → Kn S G (looks ops o) w → freeUpon P T V w ((execOp a.eval o).run P w)) ∧ ∀ u, V.one u → (∃ w, C w ∧ Kn S (Gh.put G o.dst u) (fun _ => True) w) → K (a.put o.dst u) (Gh.put G o.dst u)
  | none => ∃ v, (∀ w, C w → Kn S G (looks ops o) w → detUpon w v ((execOp a.eval o).run P w)) ∧ K (a.put o.dst v) G
def pfree (P : Program) (ops : Array Oper) (T : World → World → Prop) (C : World → Prop) (S : Nat → Option Lw) (o : Oper) (a : Act) (G : Gh) (K : Act → Gh → Prop) : Prop :=
  if Region.wanted o (yielded ops a.tmps) then ofree P ops T C S o a G K else K (a.put o.dst undef) G
def wpFree (P : Program) (ops : Array Oper) (T : World → World → Prop) (C : World → Prop) (S : Nat → Option Lw) (Q : Act → Gh → Prop) : List Oper → Act → Gh → Prop
  | [], a, G => Q a G
  | o :: rest, a, G => pfree P ops T C S o a G (wpFree P ops T C S Q rest)

theorem pfree_def {o : Oper} {a : Act} {G : Gh} {K : Act → Gh → Prop} : pfree P ops T C S o a G K = if Region.wanted o (yielded ops a.tmps) then ofree P ops T C S o a G K else K (a.put o.dst undef) G := rfl
theorem gh_comm (G : Gh) {x y : Option Tmp} (v u : Value) : Gh.put (Gh.put G x v) y u = Gh.put (Gh.put G y u) x v := by
  funext s z
  simp only [Gh.put, eq_iff_iff]
  exact ⟨fun h => by rcases h with (h | h) | h <;> simp [h], fun h => by rcases h with (h | h) | h <;> simp [h]⟩
theorem kn_put {o : Oper} {G : Gh} {d : Option Tmp} {v : Value} {w : World} (h : ∀ e, d = some e → e ∉ o.looksAt ops) : Kn S (Gh.put G d v) (looks ops o) w ↔ Kn S G (looks ops o) w := by
  refine ⟨fun hk s u V hs hG hS => hk s u V hs (.inl hG) hS, fun hk s u V hs hG hS => ?_⟩
  rcases hG with hG | ⟨hd, _⟩
  · exact hk s u V hs hG hS
  · exact absurd hs (h s hd)
theorem kn_less {G : Gh} {d : Option Tmp} {v : Value} {l : Nat → Prop} {w : World} (h : Kn S (Gh.put G d v) l w) : Kn S G l w := fun s u V hs hG hS => h s u V hs (.inl hG) hS
theorem detUpon_inj {w : World} {v v' : Value} {r : Result Next} (h : detUpon w v r) (h' : detUpon w v' r) : v = v' := by
  cases r with
  | ok n w' => cases n <;> simp only [detUpon] at h h' <;> first | exact h.2.symm.trans h'.2 | exact h.2.trans h'.2.symm | exact h.elim
  | halt x w' => exact h.elim
/-- the operation may come now, whatever follows is in order -/
structure Ck (T : World → World → Prop) (C : World → Prop) (S : Nat → Option Lw) : Prop where
  tr : ∀ {a b c}, T a b → T b c → T a c
  cl : ∀ {w w'}, C w → T w w' → C w'
  up : ∀ {s V v w w'}, S s = some V → V.led v w → T w w' → V.led v w'
theorem Kn.up (hk : Ck T C S) {G : Gh} {w w' : World} {l : Nat → Prop} (h : Kn S G l w) (ht : T w w') : Kn S G l w' := fun s v V h1 h2 h3 => hk.up h3 (h s v V h1 h2 h3) ht
theorem kn_set (hk : Ck T C S) {G : Gh} {w w' : World} {d : Option Tmp} {V : Lw} {u : Value} (h : Kn S G (fun _ => True) w) (ht : T w w') (hS : d.bind S = some V) (hu : V.led u w') : Kn S (Gh.put G d u) (fun _ => True) w' := by
  intro s v V' _ hG hS'
  rcases hG with hG | ⟨rfl, rfl⟩
  · exact hk.up hS' (h s v V' trivial hG hS') ht
  · have : V' = V := Option.some.inj (hS'.symm.trans hS)
    subst this
    exact hu
theorem Kn.all {G : Gh} {w : World} (h : Kn S G (fun _ => True) w) (l : Nat → Prop) : Kn S G l w := fun s v V _ => h s v V trivial
/-- a spec'd operation has a yield -/
theorem free_some (hk : Ck T C S) {G : Gh} {w : World} {V : Lw} {d : Option Tmp} {r : Result Next} (hS : d.bind S = some V) (hC : C w) (hK : Kn S G (fun _ => True) w) (h : freeUpon P T V w r) : ∃ u w', V.one u ∧ C w' ∧ Kn S (Gh.put G d u) (fun _ => True) w' := by
  cases r with
  | ok n w' =>
    cases n <;> simp only [freeUpon] at h
    case value u => exact ⟨u, w', h.2.1, hk.cl hC h.1, kn_set hk hK h.1 hS h.2.2⟩
    case enter f args =>
      obtain ⟨rfl, hc⟩ := h
      obtain ⟨e, w'', fr, ⟨u, _, h1, h2, h3⟩, _⟩ := hc []
      exact ⟨u, w'', h2, hk.cl hC h1, kn_set hk hK h1 hS h3⟩
  | halt x w' => exact h.elim
theorem pfree_mono {o : Oper} {a : Act} {G : Gh} {K K' : Act → Gh → Prop} (hx : ∃ w, C w ∧ Kn S G (fun _ => True) w) (h : ∀ a G, (∃ w, C w ∧ Kn S G (fun _ => True) w) → K a G → K' a G) (hh : pfree P ops T C S o a G K) : pfree P ops T C S o a G K' := by
  unfold pfree at *
  split
  · rename_i hw
    rw [if_pos hw] at hh
    unfold ofree at *
    split <;> rename_i hS <;> simp only [hS] at hh
    · exact ⟨hh.1, fun u hu he => h _ _ he (hh.2 u hu he)⟩
    · obtain ⟨v, h1, h2⟩ := hh; exact ⟨v, h1, h _ _ hx h2⟩
  · rename_i hw
    rw [if_neg hw] at hh
    exact h _ _ hx hh
/-- two operations apart change places -/
theorem pfree_swap (hk : Ck T C S) {oi oj : Oper} {a : Act} {G : Gh} {K : Act → Gh → Prop} (hap : oi.apart ops oj = true) (hsi : ∀ cs b, oi.op ≠ .select cs b) (hsj : ∀ cs b, oj.op ≠ .select cs b)
    (hx : ∃ w, C w ∧ Kn S G (fun _ => True) w) (h : pfree P ops T C S oi a G fun a' G' => pfree P ops T C S oj a' G' K) : pfree P ops T C S oj a G fun a' G' => pfree P ops T C S oi a' G' K := by
  obtain ⟨h1, h2, h3⟩ := Oper.apart_spec hap
  obtain ⟨w, hC, hK⟩ := hx
  have ei : ∀ (a : Act) v, execOp (a.put oj.dst v).eval oi = execOp a.eval oi := fun a v => execOp_put oi hsi a oj.dst v h3
  have ej : ∀ (a : Act) v, execOp (a.put oi.dst v).eval oj = execOp a.eval oj := fun a v => execOp_put oj hsj a oi.dst v h1
  have wi : ∀ (a : Act) v, Region.wanted oi (yielded ops (a.put oj.dst v).tmps) = Region.wanted oi (yielded ops a.tmps) := fun a v => wanted_put oi a oj.dst v h3
  have wj : ∀ (a : Act) v, Region.wanted oj (yielded ops (a.put oi.dst v).tmps) = Region.wanted oj (yielded ops a.tmps) := fun a v => wanted_put oj a oi.dst v h1
  have ki : ∀ G v w, Kn S (Gh.put G oj.dst v) (looks ops oi) w ↔ Kn S G (looks ops oi) w := fun G v w => kn_put h3
  have kj : ∀ G v w, Kn S (Gh.put G oi.dst v) (looks ops oj) w ↔ Kn S G (looks ops oj) w := fun G v w => kn_put h1
  have pc : ∀ (a : Act) v u, (a.put oi.dst v).put oj.dst u = (a.put oj.dst u).put oi.dst v := fun a v u => Act.put_comm a v u h2
  have gc : ∀ (G : Gh) v u, Gh.put (Gh.put G oi.dst v) oj.dst u = Gh.put (Gh.put G oj.dst u) oi.dst v := fun G v u => gh_comm G v u
  have mixj : ∀ {a' : Act} {G' : Gh} {K' : Act → Gh → Prop}, pfree P ops T C S oj a' G' K' = if Region.wanted oj (yielded ops a'.tmps) then ofree P ops T C S oj a' G' K' else K' (a'.put oj.dst undef) G' := rfl
  rw [pfree_def] at h
  by_cases hwi : Region.wanted oi (yielded ops a.tmps) = true
  · rw [if_pos hwi] at h
    unfold ofree at h
    cases hSi : oi.dst.bind S with
    | some V =>
      simp only [hSi] at h
      obtain ⟨hob, hn⟩ := h
      obtain ⟨u0, w0, hu0, hC0, hK0⟩ := free_some hk hSi hC hK (hob w hC (hK.all _))
      have back : ∀ u G2, (∀ v, V.one v → (∃ w, C w ∧ Kn S (Gh.put G2 oi.dst v) (fun _ => True) w) → K ((a.put oi.dst v).put oj.dst u) (Gh.put G2 oi.dst v)) → (∀ w, Kn S G2 (looks ops oi) w ↔ Kn S G (looks ops oi) w) → pfree P ops T C S oi (a.put oj.dst u) G2 K := by
        intro u G2 hv hkn
        unfold pfree
        rw [wi, if_pos hwi]
        unfold ofree
        simp only [hSi]
        exact ⟨fun w hw hkw => by rw [ei]; exact hob w hw ((hkn w).1 hkw), fun v hv' he => by rw [← pc]; exact hv v hv' he⟩
      unfold pfree
      by_cases hwj : Region.wanted oj (yielded ops a.tmps) = true
      · rw [if_pos hwj]
        unfold ofree
        cases hSj : oj.dst.bind S with
        | some V' =>
          simp only []
          have hj : ∀ v, V.one v → (∃ w, C w ∧ Kn S (Gh.put G oi.dst v) (fun _ => True) w) → (∀ w, C w → Kn S G (looks ops oj) w → freeUpon P T V' w ((execOp a.eval oj).run P w)) ∧
              ∀ u, V'.one u → (∃ w, C w ∧ Kn S (Gh.put (Gh.put G oi.dst v) oj.dst u) (fun _ => True) w) → K ((a.put oi.dst v).put oj.dst u) (Gh.put (Gh.put G oi.dst v) oj.dst u) := by
            intro v hv he
            have := hn v hv he
            rw [mixj, wj, if_pos hwj] at this
            unfold ofree at this
            simp only [hSj] at this
            exact ⟨fun w hw hkw => by have := this.1 w hw ((kj _ _ _).2 hkw); rwa [ej] at this, this.2⟩
          refine ⟨(hj u0 hu0 ⟨w0, hC0, hK0⟩).1, fun u hu hex => back u _ (fun v hv he => ?_) (fun w => ki _ _ _)⟩
          rw [← gc] at he ⊢
          exact (hj v hv (let ⟨w, a, b⟩ := he; ⟨w, a, kn_less b⟩)).2 u hu he
        | none =>
          simp only []
          have hj : ∀ v, V.one v → (∃ w, C w ∧ Kn S (Gh.put G oi.dst v) (fun _ => True) w) → ∃ u, (∀ w, C w → Kn S G (looks ops oj) w → detUpon w u ((execOp a.eval oj).run P w)) ∧ K ((a.put oi.dst v).put oj.dst u) (Gh.put G oi.dst v) := by
            intro v hv he
            have := hn v hv he
            rw [mixj, wj, if_pos hwj] at this
            unfold ofree at this
            simp only [hSj] at this
            obtain ⟨u, k1, k2⟩ := this
            exact ⟨u, fun w hw hkw => by have := k1 w hw ((kj _ _ _).2 hkw); rwa [ej] at this, k2⟩
          obtain ⟨u, k1, k2⟩ := hj u0 hu0 ⟨w0, hC0, hK0⟩
          refine ⟨u, k1, back u _ (fun v hv he => ?_) (fun w => Iff.rfl)⟩
          obtain ⟨u', k3, k4⟩ := hj v hv he
          have : u = u' := detUpon_inj (k1 w hC (hK.all _)) (k3 w hC (hK.all _))
          rw [this]; exact k4
      · rw [if_neg hwj]
        refine back _ _ (fun v hv he => ?_) (fun w => Iff.rfl)
        have := hn v hv he
        rwa [mixj, wj, if_neg hwj] at this
    | none =>
      simp only [hSi] at h
      obtain ⟨v, hob, hn⟩ := h
      have back : ∀ u G2, K ((a.put oi.dst v).put oj.dst u) G2 → (∀ w, Kn S G2 (looks ops oi) w ↔ Kn S G (looks ops oi) w) → pfree P ops T C S oi (a.put oj.dst u) G2 K := by
        intro u G2 hv hkn
        unfold pfree
        rw [wi, if_pos hwi]
        unfold ofree
        simp only [hSi]
        exact ⟨v, fun w hw hkw => by rw [ei]; exact hob w hw ((hkn w).1 hkw), by rw [← pc]; exact hv⟩
      rw [mixj, wj] at hn
      unfold pfree
      by_cases hwj : Region.wanted oj (yielded ops a.tmps) = true
      · rw [if_pos hwj] at hn ⊢
        unfold ofree at hn ⊢
        cases hSj : oj.dst.bind S with
        | some V' =>
          simp only [hSj, ej] at hn ⊢
          exact ⟨hn.1, fun u hu he => back u _ (hn.2 u hu he) (fun w => ki _ _ _)⟩
        | none =>
          simp only [hSj, ej] at hn ⊢
          obtain ⟨u, k1, k2⟩ := hn
          exact ⟨u, k1, back u _ k2 (fun w => Iff.rfl)⟩
      · rw [if_neg hwj] at hn ⊢
        exact back _ _ hn (fun w => Iff.rfl)
  · rw [if_neg hwi] at h
    have back : ∀ u G2, K ((a.put oi.dst undef).put oj.dst u) G2 → pfree P ops T C S oi (a.put oj.dst u) G2 K := by
      intro u G2 hv
      unfold pfree
      rw [wi, if_neg hwi, ← pc]
      exact hv
    rw [mixj, wj] at h
    unfold pfree
    by_cases hwj : Region.wanted oj (yielded ops a.tmps) = true
    · rw [if_pos hwj] at h ⊢
      unfold ofree at h ⊢
      cases hSj : oj.dst.bind S with
      | some V' =>
        simp only [hSj, ej] at h ⊢
        exact ⟨h.1, fun u hu he => back u _ (h.2 u hu he)⟩
      | none =>
        simp only [hSj, ej] at h ⊢
        obtain ⟨u, k1, k2⟩ := h
        exact ⟨u, k1, back u _ k2⟩
    · rw [if_neg hwj] at h ⊢
      exact back _ _ h
theorem pull (hk : Ck T C S) (hsel : ∀ (j : Nat) (o : Oper) cs b, ops[j]? = some o → o.op ≠ .select cs b) {Q : Act → Gh → Prop} {j : Nat} {oj : Oper} (hj : ops[j]? = some oj) :
    ∀ (I : List Nat) (L : List Oper) (a : Act) (G : Gh), (∃ w, C w ∧ Kn S G (fun _ => True) w) → (∀ i ∈ I, ∀ oi, ops[i]? = some oi → oi.apart ops oj = true) →
      wpFree P ops T C S Q (I.filterMap (ops[·]?) ++ oj :: L) a G → pfree P ops T C S oj a G (wpFree P ops T C S Q (I.filterMap (ops[·]?) ++ L))
  | [], L, a, G, hx, hap, h => h
  | i :: I, L, a, G, hx, hap, h => by
    cases hi : ops[i]? with
    | none =>
      rw [List.filterMap_cons, hi] at h ⊢
      exact pull hk hsel hj I L a G hx (fun i hi => hap i (List.mem_cons_of_mem _ hi)) h
    | some oi =>
      rw [List.filterMap_cons, hi] at h ⊢
      simp only [List.cons_append, wpFree] at h ⊢
      refine pfree_swap hk (hap i (List.mem_cons_self ..) oi hi) (fun cs b => hsel i oi cs b hi) (fun cs b => hsel j oj cs b hj) hx ?_
      exact pfree_mono hx (fun a' G' hx' h' => pull hk hsel hj I L a' G' hx' (fun i hi => hap i (List.mem_cons_of_mem _ hi)) h') h
/-- the Bool over a region: each operation waits for earlier ones alone, is apart from the earlier ones that it does not wait for; the tail waits for all -/
def freeB (md : Region.Mode) (ops : Array Oper) (n : Nat) : Bool :=
  Region.noSelect ops && (List.range ops.size).all fun j => match ops[j]? with
    | some oj => oj.after.all (fun e => !Region.binds md e || decide (e.on < j)) && (List.range j).all fun i => decide (n ≤ j) || (oj.after.any fun e => Region.binds md e && e.on == i) || (match ops[i]? with | some oi => oi.apart ops oj | none => true)
    | none => true
structure FreeOk (md : Region.Mode) (ops : Array Oper) (n : Nat) : Prop where
  sel : Region.noSelect ops = true
  lt : ∀ j oj, ops[j]? = some oj → ∀ e ∈ oj.after, Region.binds md e = true → e.on < j
  ap : ∀ j oj, j < n → ops[j]? = some oj → ∀ i oi, i < j → ops[i]? = some oi → (∀ e ∈ oj.after, Region.binds md e = true → e.on ≠ i) → oi.apart ops oj = true
theorem freeB_ok {n : Nat} (h : freeB md ops n = true) : FreeOk md ops n := by
  unfold freeB at h
  rw [Bool.and_eq_true] at h
  obtain ⟨h1, h2⟩ := h
  rw [List.all_eq_true] at h2
  refine ⟨h1, fun j oj hj e he hb => ?_, fun j oj hjn hj i oi hi hoi hno => ?_⟩
  · have h3 := h2 j (List.mem_range.2 (Array.getElem?_eq_some_iff.1 hj).1)
    simp only [hj, Bool.and_eq_true] at h3
    have h4 := Array.all_eq_true'.1 h3.1 e he
    simpa [hb] using h4
  · have h3 := h2 j (List.mem_range.2 (Array.getElem?_eq_some_iff.1 hj).1)
    simp only [hj, Bool.and_eq_true] at h3
    have h4 := List.all_eq_true.1 h3.2 i (List.mem_range.2 hi)
    simp only [hoi, Bool.or_eq_true, decide_eq_true_eq] at h4
    rcases h4 with (h4 | h4) | h4
    · omega
    · obtain ⟨e, he, h5⟩ := Array.any_eq_true'.1 h4
      simp only [Bool.and_eq_true, beq_iff_eq] at h5
      exact absurd h5.2 (hno e he h5.1)
    · exact h4
/-- what lies in a region's head and has not come up yet -/
structure Left (md : Region.Mode) (ops : Array Oper) (n : Nat) (listed : Array Bool) (I : List Nat) : Prop where
  mem : ∀ i, i ∈ I ↔ i < n ∧ listed.getD i true = false
  inc : I.Pairwise (· < ·)
theorem wpOp_of_pfree (hk : Ck T C S) {j : Nat} {o : Oper} {a : Act} {G : Gh} {w : World} {K : Act → Gh → Prop} {K' : Act → World → Prop} {Q' : Exit → Act → World → Prop} (hj : ops[j]? = some o) (hC : C w) (hK : Kn S G (fun _ => True) w)
    (h : pfree P ops T C S o a G K) (hn : ∀ a' G' w', C w' → Kn S G' (fun _ => True) w' → K a' G' → K' a' w') : wpOp P ops Q' j K' a w := by
  unfold wpOp
  simp only [hj]
  unfold pfree at h
  by_cases hw : Region.wanted o (yielded ops a.tmps) = true
  · rw [if_pos hw] at h ⊢
    refine .inl ?_
    unfold ofree at h
    unfold Oper.wp
    cases hS : o.dst.bind S with
    | some V =>
      simp only [hS] at h
      obtain ⟨h1, h2⟩ := h
      have h3 := h1 w hC (hK.all _)
      generalize (execOp a.eval o).run P w = r at *
      cases r with
      | ok nx w' =>
        cases nx <;> simp only [freeUpon] at h3 <;> simp only [Oper.upon]
        case value u =>
          have hK' := kn_set hk hK h3.1 hS h3.2.2
          have hC' := hk.cl hC h3.1
          exact hn _ _ _ hC' hK' (h2 u h3.2.1 ⟨w', hC', hK'⟩)
        case enter f args =>
          obtain ⟨rfl, hc⟩ := h3
          refine hc.mono fun e w'' he => ?_
          obtain ⟨u, rfl, k1, k2, k3⟩ := he
          have hK' := kn_set hk hK k1 hS k3
          have hC' := hk.cl hC k1
          exact hn _ _ _ hC' hK' (h2 u k2 ⟨w'', hC', hK'⟩)
      | halt x w' => exact h3.elim
    | none =>
      simp only [hS] at h
      obtain ⟨v, h1, h2⟩ := h
      have h3 := h1 w hC (hK.all _)
      generalize (execOp a.eval o).run P w = r at *
      cases r with
      | ok nx w' =>
        cases nx <;> simp only [detUpon] at h3 <;> simp only [Oper.upon]
        case value u => obtain ⟨rfl, rfl⟩ := h3; exact hn _ _ _ hC hK h2
        case skip => obtain ⟨rfl, rfl⟩ := h3; exact hn _ _ _ hC hK h2
      | halt x w' => exact h3.elim
  · rw [if_neg hw] at h ⊢
    exact hn _ _ _ hC hK h
theorem any_free {n g : Nat} {Q : Act → Gh → Prop} {Q' : Exit → Act → World → Prop} (hk : Ck T C S) (hok : FreeOk md ops n) (hns : n ≤ ops.size)
    (htail : ∀ listed i, HeadInv md ops n listed → i < n → listed.getD i true = false → ∀ t, n ≤ t → t ∉ Region.ready md ops listed)
    (hQ : ∀ listed a G w, HeadInv md ops n listed → (∀ i, i < n → listed.getD i true = true) → C w → Kn S G (fun _ => True) w → Q a G → wpAny P md ops Q' g listed a w) :
    ∀ (f : Nat) (listed : Array Bool) (I : List Nat) (a : Act) (G : Gh) (w : World), I.length = f → Left md ops n listed I → HeadInv md ops n listed → C w → Kn S G (fun _ => True) w →
      wpFree P ops T C S Q (I.filterMap (ops[·]?)) a G → wpAny P md ops Q' (f + g) listed a w
  | 0, listed, I, a, G, w, hl, hL, inv, hC, hK, h => by
    obtain rfl := List.length_eq_zero_iff.1 hl
    rw [Nat.zero_add]
    refine hQ listed a G w inv (fun i hi => ?_) hC hK h
    cases hc : listed.getD i true with
    | true => rfl
    | false => exact absurd ((hL.mem i).2 ⟨hi, hc⟩) (by simp)
  | f + 1, listed, I, a, G, w, hl, hL, inv, hC, hK, h => by
    rw [show f + 1 + g = (f + g) + 1 by omega]
    obtain ⟨i0, I0, rfl⟩ : ∃ i0 I0, I = i0 :: I0 := by cases I with | nil => simp at hl | cons i I => exact ⟨i, I, rfl⟩
    have hi0 := (hL.mem i0).1 (List.mem_cons_self ..)
    refine ⟨fun h0 => ?_, fun j hj => ?_⟩
    · have h0' : i0 < ops.size := by omega
      have : i0 ∈ Region.ready md ops listed := by
        refine mem_ready.2 ⟨hi0.2, ops[i0], Array.getElem?_eq_getElem h0', fun e he hb => ?_⟩
        have hlt := hok.lt i0 _ (Array.getElem?_eq_getElem h0') e he hb
        cases hc : listed.getD e.on false with
        | true => rfl
        | false =>
          have h1 := (hL.mem e.on).2 ⟨by omega, getD_in (by rw [inv.size]; omega) hc⟩
          rcases List.mem_cons.1 h1 with h2 | h2
          · omega
          · have := (List.pairwise_cons.1 hL.inc).1 _ h2
            omega
      rw [h0] at this
      cases this
    · have hjn : j < n := by
        rcases Nat.lt_or_ge j n with h | h
        · exact h
        · exact absurd hj (htail listed i0 inv hi0.1 hi0.2 j h)
      obtain ⟨hjun, oj, hoj, hall⟩ := mem_ready.1 hj
      have hjI := (hL.mem j).2 ⟨hjn, hjun⟩
      obtain ⟨I1, I2, hI⟩ := List.append_of_mem hjI
      rw [hI] at h hL hl
      have hpw := List.pairwise_append.1 hL.inc
      have hpw2 := List.pairwise_cons.1 hpw.2.1
      rw [List.filterMap_append, List.filterMap_cons, hoj] at h
      have hp := pull hk (Region.noSelect_spec hok.sel) hoj I1 (I2.filterMap (ops[·]?)) a G ⟨w, hC, hK⟩ (fun i hi oi hoi => by
        have hlt : i < j := hpw.2.2 i hi j (List.mem_cons_self ..)
        refine hok.ap j oj hjn hoj i oi hlt hoi fun e he hb heq => ?_
        have h1 := hall e he hb
        rw [heq, getD_both ((hL.mem i).1 (List.mem_append_left _ hi)).2] at h1
        cases h1) h
      rw [← List.filterMap_append] at hp
      refine wpOp_of_pfree hk hoj hC hK hp fun a' G' w' hC' hK' h' => any_free hk hok hns htail hQ f _ (I1 ++ I2) a' G' w' (by simp at hl ⊢; omega) ⟨fun i => ?_, ?_⟩ (inv.set hj hjn) hC' hK' h'
      · by_cases hij : j = i
        · subst hij
          have h1 : j ∉ I1 ++ I2 := by
            intro hm
            rcases List.mem_append.1 hm with hm | hm
            · have := hpw.2.2 j hm j (List.mem_cons_self ..); omega
            · have := hpw2.1 j hm; omega
          have h2 : (listed.setIfInBounds j true).getD j true = true := by
            have : j < listed.size := by rw [inv.size]; omega
            simp [this]
          simp [h1, h2]
        · have h2 := hL.mem i
          rw [getD_set_ne true hij, ← h2]
          simp [Ne.symm hij]
      · refine List.pairwise_append.2 ⟨hpw.1, hpw2.2, fun x hx y hy => hpw.2.2 x hx y (List.mem_cons_of_mem _ hy)⟩
/-- the Bool over a region whose first n operations are walked free -/
def regB (md : Region.Mode) (ops : Array Oper) (n : Nat) : Bool :=
  freeB md ops n && decide (n ≤ ops.size) && (decide (n = ops.size) || (Region.sinkB md ops n && Region.chainB md ops n)) && Region.seqB md ops (ops.size - n) n ((Array.range ops.size).map fun i => decide (i < n))
/-- **one walk serves every order** -/
theorem wp_region_free {id : Nat} {Q : Exit → Act → World → Prop} {a : Act} {w : World} {l : List Oper} (n : Nat) (T : World → World → Prop) (C : World → Prop) (S : Nat → Option Lw) (hm : P.follows .mixedOrders = true) (hB : regB .any l.toArray n = true) (hk : Ck T C S) (hC : C w.drew)
    (h : wpFree P l.toArray T C S (fun a' G' => ∀ w', C w' → Kn S G' (fun _ => True) w' → wpList P l.toArray Q (l.drop n) a' w') (l.take n) a (fun _ _ => False)) : (Code.region id l.toArray true).wp P Q a w := by
  simp only [regB, Bool.and_eq_true, Bool.or_eq_true, decide_eq_true_eq] at hB
  obtain ⟨⟨⟨hf, hns⟩, ht⟩, hseq⟩ := hB
  have hok := freeB_ok hf
  have inv0 : HeadInv .any l.toArray n (Array.replicate l.toArray.size false) :=
    ⟨by simp, fun j oj _ hl => (by rw [getD_replicate_false] at hl; cases hl), fun t _ ht => getD_in (by simpa using ht) (getD_replicate_false _ _)⟩
  refine wp_region_any hm ?_
  have hL0 : Left .any l.toArray n (Array.replicate l.toArray.size false) (List.range n) := ⟨fun i => by
    rw [List.mem_range]
    refine ⟨fun hi => ⟨hi, getD_in (by simp at hns ⊢; omega) (getD_replicate_false _ _)⟩, fun h => h.1⟩, List.pairwise_lt_range⟩
  have hfm : (List.range n).filterMap (l.toArray[·]?) = l.take n := by
    have hns' : n ≤ l.length := by simpa using hns
    clear h ht hseq hok inv0 hL0 hf hns
    induction n with
    | zero => rfl
    | succ n ih =>
      rw [List.range_succ, List.filterMap_append, ih (by omega), List.take_succ_eq_append_getElem (by omega)]
      simp [show n < l.length by omega]
  have := any_free (P := P) (Q := fun a' G' => ∀ w', C w' → Kn S G' (fun _ => True) w' → wpList P l.toArray Q (l.drop n) a' w') (Q' := Q) (g := l.toArray.size - n) hk hok hns (fun listed i inv hi hun t ht' => by
      rcases ht with h0 | ⟨h1, h2⟩
      · intro hr
        obtain ⟨_, o, ho, _⟩ := mem_ready.1 hr
        have := (Array.getElem?_eq_some_iff.1 ho).1
        omega
      · rcases Nat.lt_or_ge n l.toArray.size with h3 | h3
        · exact tail_waits h1 h2 h3 inv _ i rfl hi hun t ht'
        · intro hr
          obtain ⟨_, o, ho, _⟩ := mem_ready.1 hr
          have := (Array.getElem?_eq_some_iff.1 ho).1
          omega)
    (fun listed a' G' w' inv hall hC' hK' hq => by
      have he : listed = (Array.range l.toArray.size).map fun i => decide (i < n) := by
        apply Array.ext
        · rw [inv.size]; simp
        · intro i h1 h2
          have h3 : i < l.toArray.size := by rw [← inv.size]; exact h1
          have h4 : ((Array.range l.toArray.size).map fun i => decide (i < n))[i] = decide (i < n) := by simp
          rw [h4]
          rcases Nat.lt_or_ge i n with h5 | h5
          · have := hall i h5
            simp [h1] at this
            simp [this, h5]
          · have := inv.tail i h5 h3
            simp [h1] at this
            simp [this, Nat.not_lt.2 h5]
      have hdl : (l.drop n).length = l.toArray.size - n := by simp
      rw [← he] at hseq
      have := wpAny_of_seq (P := P) (md := .any) (ops := l.toArray) (Q' := Q) (l.drop n) n listed a' w' (fun j => by simp [List.getElem?_drop]) (by rw [hdl]; exact hseq) (hq w' hC' hK')
      rwa [hdl] at this)
    n (Array.replicate l.toArray.size false) (List.range n) a (fun _ _ => False) w.drew (by simp) hL0 inv0 hC (fun s v V _ h => h.elim) (by rw [hfm]; exact h)
  rw [show n + (l.toArray.size - n) = l.toArray.size by omega] at this
  exact this
end
end Go.Proofs.Ytfmbbpfklhkljaa
