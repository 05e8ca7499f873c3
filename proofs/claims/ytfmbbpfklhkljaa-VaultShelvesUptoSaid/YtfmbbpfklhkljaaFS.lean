/- Steps of a walk that FR allows. No program is named here. -/
import Derived.Test.YtfmbbpfklhkljaaFR
import Derived.BigQuiet
set_option linter.unusedVariables false
set_option linter.unusedSimpArgs false
namespace Go.Proofs.Ytfmbbpfklhkljaa
open Go.RowKit
section
variable {P : Program} {ops : Array Oper} {T : World → World → Prop} {C : World → Prop} {S : Nat → Option Lw} {Q : Act → Gh → Prop} {o : Oper} {rest : List Oper} {a : Act} {G : Gh}
/-- an operation that calls nothing -/
def plainB (o : Oper) : Bool := match o.op with
  | .move _ | .assign _ | .pick .. | .load .. | .binOp .. | .unOp .. | .convert .. | .slice .. | .fieldAddr .. | .field .. | .indexAddr .. | .index .. | .extract .. | .build .. | .makeFunc .. | .lookup .. => true
  | .call c => match c.callee with | .builtin .len => true | _ => false
  | _ => false
theorem ne_g {α : Type} {s : Sem α} {g : α → Value} {w w' : World} {f : FuncId} {args : Array Value} : ((do let x ← s; pure (Next.value (g x))) : Sem Next).run P w ≠ .ok (.enter f args) w' := by
  simp only [Sem.run_bind, Sem.run_pure]
  cases s.run P w <;> simp [Result.andThen]
theorem ne_v {s : Sem Value} {w w' : World} {f : FuncId} {args : Array Value} : ((do let x ← s; pure (Next.value x)) : Sem Next).run P w ≠ .ok (.enter f args) w' := ne_g (g := id)
theorem plain_ne (hp : plainB o = true) {ρ : Operand → Value} {w w' : World} {f : FuncId} {args : Array Value} : (execOp ρ o).run P w ≠ .ok (.enter f args) w' := by
  unfold plainB at hp
  unfold execOp
  cases ho : o.op <;> rw [ho] at hp <;> simp only [ho] at hp ⊢ <;> try contradiction
  case pick c x y => exact ne_g (g := fun b => if b = true then ρ x else ρ y)
  case call c =>
    cases hc : c.callee with
    | builtin b =>
      cases b <;> simp only [hc] at hp <;> try contradiction
      simp only [resolve, hc, Sem.run_bind, Sem.run_pure, Result.andThen_ok, invoke, builtin]
      cases Sem.run P (Builtin.len_ c.argTypes o.type (Array.map ρ c.args)) w <;> simp [Result.andThen]
    | _ => simp [hc] at hp
  all_goals first
    | exact ne_v
    | simp [Sem.run_pure]
theorem wf_skip (hw : Region.wanted o (yielded ops a.tmps) = false) (h : wpFree P ops T C S Q rest (a.put o.dst undef) G) : wpFree P ops T C S Q (o :: rest) a G := by
  show pfree P ops T C S o a G _
  unfold pfree
  rw [hw]
  exact h
/-- an operation that reads -/
theorem wf_read (hp : plainB o = true) (hS : o.dst.bind S = none) (h : wpQuiet P ops C (fun a' => wpFree P ops T C S Q rest a' G) [o] a) : wpFree P ops T C S Q (o :: rest) a G := by
  show pfree P ops T C S o a G _
  unfold pfree
  have h : if Region.wanted o (yielded ops a.tmps) then o.quiet P a C (fun a' => wpFree P ops T C S Q rest a' G) else wpFree P ops T C S Q rest (a.put o.dst undef) G := h
  by_cases hw : Region.wanted o (yielded ops a.tmps) = true
  · rw [if_pos hw] at h ⊢
    unfold ofree
    simp only [hS]
    obtain ⟨v, h1, h2⟩ := h
    refine ⟨v, fun w hC _ => ?_, h2⟩
    have h3 := h1 w hC
    unfold Oper.quietAt at h3
    generalize hr : (execOp a.eval o).run P w = r at *
    cases r with
    | ok nx w' =>
      cases nx <;> simp only [Oper.quietUpon] at h3 <;> simp only [detUpon]
      case value u => exact h3
      case skip => exact h3
      case enter f args => exact absurd hr (plain_ne hp)
    | halt x w' => exact h3
  · rw [if_neg hw] at h ⊢
    exact h
/-- a row of reads -/
def readsB (S : Nat → Option Lw) : List Oper → Bool
  | [] => true
  | o :: l => plainB o && (o.dst.bind S).isNone && readsB S l
theorem wf_reads : ∀ (l : List Oper) {a : Act}, readsB S l = true → wpQuiet P ops C (fun a' => wpFree P ops T C S Q rest a' G) l a → wpFree P ops T C S Q (l ++ rest) a G
  | [], a, _, h => h
  | o :: l, a, hb, h => by
    simp only [readsB, Bool.and_eq_true, Option.isNone_iff_eq_none] at hb
    refine wf_read (rest := l ++ rest) hb.1.1 hb.1.2 ?_
    have h : if Region.wanted o (yielded ops a.tmps) then o.quiet P a C (wpQuiet P ops C (fun a' => wpFree P ops T C S Q rest a' G) l) else wpQuiet P ops C (fun a' => wpFree P ops T C S Q rest a' G) l (a.put o.dst undef) := h
    show if Region.wanted o (yielded ops a.tmps) then o.quiet P a C (fun a' => wpFree P ops T C S Q (l ++ rest) a' G) else wpFree P ops T C S Q (l ++ rest) (a.put o.dst undef) G
    split
    · rename_i hw
      rw [if_pos hw] at h
      exact Oper.quiet_mono (fun a' h' => wf_reads l hb.2 h') h
    · rename_i hw
      rw [if_neg hw] at h
      exact wf_reads l hb.2 h
/-- an operation that has a law -/
theorem wf_law {V : Lw} (hw : Region.wanted o (yielded ops a.tmps) = true) (hS : o.dst.bind S = some V) (h : ∀ w, C w → Kn S G (looks ops o) w → freeUpon P T V w ((execOp a.eval o).run P w))
    (hn : ∀ u, V.one u → wpFree P ops T C S Q rest (a.put o.dst u) (Gh.put G o.dst u)) : wpFree P ops T C S Q (o :: rest) a G := by
  show pfree P ops T C S o a G _
  unfold pfree
  rw [if_pos hw]
  unfold ofree
  simp only [hS]
  exact ⟨h, fun u hu _ => hn u hu⟩
end
/-- laws that hold for good -/
def Lup (V : Lw) : Prop := ∀ v w w', V.led v w → Below w.heap.size w w' → V.led v w'
abbrev UL := {V : Lw // Lup V}
def ul : List (Nat × UL) → Nat → Option Lw
  | [], _ => none
  | (k, V) :: l, s => if s = k then some V.1 else ul l s
theorem ul_up : ∀ (l : List (Nat × UL)) {s : Nat} {V : Lw}, ul l s = some V → Lup V
  | [], s, V, h => by cases h
  | (k, U) :: l, s, V, h => by
    unfold ul at h
    split at h
    · cases h; exact U.2
    · exact ul_up l h
/-- the usual class -/
def Up (w w' : World) : Prop := Below w.heap.size w w'
theorem ul_ck {W : World} (l : List (Nat × UL)) : Ck Up (fun w' => ∃ p : Ups W, w' = p.nx) (ul l) :=
  ⟨fun h k => bt h k, fun ⟨p, hp⟩ h => ⟨⟨_, bt p.ok (by subst hp; exact h)⟩, rfl⟩, fun {s V v w w'} h1 h2 h3 => ul_up l h1 v w w' h2 h3⟩
theorem up_first (W : World) : ∃ p : Ups W, W.drew = p.nx := ⟨⟨W.drew, ⟨rfl, rfl, rfl, Nat.le_refl _, fun _ _ => rfl⟩⟩, rfl⟩
/-- a value that is known at once -/
def UL.is (v : Value) : UL := ⟨⟨(· = v), fun _ _ => True⟩, fun _ _ _ _ _ => trivial⟩
/-- an empty row, just laid -/
def UL.void (e : TypeId) : UL := ⟨⟨fun v => ∃ g : Nat, v = .slice (some ⟨g, 0, none⟩) 0 0, fun v w => ∃ g : Nat, v = .slice (some ⟨g, 0, none⟩) 0 0 ∧ w.heap[g]? = some (.cells #[] e (0, 0))⟩,
  fun _ w w' ⟨g, h1, h2⟩ hb => ⟨g, h1, by rw [hb.block g (Array.getElem?_eq_some_iff.1 h2).1]; exact h2⟩⟩
section
variable {P : Program} {ops : Array Oper} {T : World → World → Prop} {C : World → Prop} {S : Nat → Option Lw} {Q : Act → Gh → Prop} {o : Oper} {rest : List Oper} {a : Act} {G : Gh}
theorem wf_take (n : Nat) {l : List Oper} (hb : readsB S (l.take n) = true) (h : wpQuiet P ops C (fun a' => wpFree P ops T C S Q (l.drop n) a' G) (l.take n) a) : wpFree P ops T C S Q l a G := by
  have := wf_reads (rest := l.drop n) _ hb h
  rwa [List.take_append_drop] at this
/-- a call -/
theorem wf_call {V : Lw} {f : FuncId} {fn : Func} {x : Operand} {args : List Operand} {ty : Array TypeId} {cap vals : List Value} (hf : P.funcs[f]? = some fn) (hname : (fn.name == "runtime.NumGoroutine" || fn.body.isNone) = false)
    (ho : o.op = .call { callee := .value x, args := args.toArray, argTypes := ty }) (hx : a.eval x = .func (.func f) #[] cap.toArray) (hv : args.map a.eval ++ cap = vals) (hw : Region.wanted o (yielded ops a.tmps) = true) (hS : o.dst.bind S = some V)
    (h : ∀ w, C w → Kn S G (looks ops o) w → Calls P f vals.toArray w fun e w'' => ∃ u, e = .returned u ∧ T w w'' ∧ V.one u ∧ V.led u w'')
    (hn : ∀ u, V.one u → wpFree P ops T C S Q rest (a.put o.dst u) (Gh.put G o.dst u)) : wpFree P ops T C S Q (o :: rest) a G := by
  refine wf_law hw hS (fun w hC hK => ?_) hn
  have hr : (execOp a.eval o).run P w = .ok (.enter f vals.toArray) w := by
    rw [Bool.or_eq_false_iff] at hname
    have h1 : fn.name ≠ "runtime.NumGoroutine" := by simpa using hname.1
    have h2 : fn.body ≠ none := by intro e; have := hname.2; rw [e] at this; cases this
    subst hv
    simp [execOp, ho, resolve, hx, Deferred.ofValue, invoke, callFunc, hf, h1, h2]
  rw [hr]
  exact ⟨rfl, h w hC hK⟩
/-- an operation that makes memory -/
theorem wf_make {V : Lw} (hw : Region.wanted o (yielded ops a.tmps) = true) (hS : o.dst.bind S = some V)
    (h : ∀ w, C w → Kn S G (looks ops o) w → ∃ u w', (execOp a.eval o).run P w = .ok (.value u) w' ∧ T w w' ∧ V.one u ∧ V.led u w')
    (hn : ∀ u, V.one u → wpFree P ops T C S Q rest (a.put o.dst u) (Gh.put G o.dst u)) : wpFree P ops T C S Q (o :: rest) a G := by
  refine wf_law hw hS (fun w hC hK => ?_) hn
  obtain ⟨u, w', h1, h2⟩ := h w hC hK
  rw [h1]
  exact h2
end
theorem looks_of {ops : Array Oper} {o : Oper} {s : Nat} (h : (o.looksAt ops).contains s = true) : looks ops o s := by simpa [looks] using h
theorem run_v {P : Program} {s : Sem Value} {w w' : World} {u : Value} (h : s.run P w = .ok u w') : ((do let x ← s; pure (Next.value x)) : Sem Next).run P w = .ok (.value u) w' := by
  simp only [Sem.run_bind, Sem.run_pure, h, Result.andThen]
section
variable {P : Program} {ops : Array Oper} {T : World → World → Prop} {C : World → Prop} {S : Nat → Option Lw} {Q : Act → Gh → Prop} {o : Oper} {rest : List Oper} {a : Act} {G : Gh}
/-- an append -/
theorem wf_app {V : Lw} {s x : Operand} {t : TypeId} {v u : Value} (ho : o.op = .call { callee := .builtin .append, args := #[s, x], argTypes := #[t, t] }) (hs : a.eval s = v) (hx : a.eval x = u)
    (hw : Region.wanted o (yielded ops a.tmps) = true) (hS : o.dst.bind S = some V)
    (h : ∀ w, C w → Kn S G (looks ops o) w → ∃ v' w', (Builtin.append_ #[t, t] o.type #[v, u]).run P w = .ok v' w' ∧ T w w' ∧ V.one v' ∧ V.led v' w')
    (hn : ∀ u, V.one u → wpFree P ops T C S Q rest (a.put o.dst u) (Gh.put G o.dst u)) : wpFree P ops T C S Q (o :: rest) a G := by
  refine wf_make hw hS (fun w hC hK => ?_) hn
  obtain ⟨v', w', h1, h2⟩ := h w hC hK
  refine ⟨v', w', ?_, h2⟩
  unfold execOp
  simp only [ho, resolve, invoke, builtin, Sem.run_bind, Sem.run_pure, Result.andThen_ok, List.map_toArray, List.map_cons, List.map_nil, hs, hx, h1]
end
/-- append onto an empty row that was just laid -/
theorem run_app0 {P : Program} {w : World} (t ty : TypeId) {e size bytes : Nat} {z : Value} (ht : P.underlying t = some (.slice e)) (hinfo : (P.info? e).map (fun i => (i.zero, i.size, i.bytes)) = some (some z, size, bytes)) (hzs : z.cells.size = size) (hsz : 0 < size)
    {g : Nat} (hg : w.heap[g]? = some (.cells #[] e (0, 0))) {A : Nat → Prop} {m : Nat} {u : Value} {news : List Value} (hsrc : Row size A w u m news) (h1 : ∀ u ∈ news, u.oneCell' = true) (hlen : m ≤ maxLen) (hbytes : m * bytes ≤ 140737488355328) :
    ∃ v' w', (Builtin.append_ #[t, t] ty #[.slice (some ⟨g, 0, none⟩) 0 0, u]).run P w = .ok v' w' ∧ (∃ a c, v' = .slice a m c) ∧ w'.ownsRow 0 e size v' m news ∧ Below w.heap.size w w' := by
  have hgs := (Array.getElem?_eq_some_iff.1 hg).1
  have hown : w.ownsRow 0 e size (.slice (some ⟨g, 0, none⟩) 0 0) 0 [] := ⟨by simp, .inr ⟨g, 0, #[], rfl, Nat.zero_le _, hg, Nat.le_refl _, Nat.zero_le _, by simp, by simp⟩⟩
  by_cases hm : m = 0
  · subst hm
    have hnews : news = [] := List.eq_nil_of_length_eq_zero (by have := hsrc.1; simpa using this)
    subst hnews
    obtain ⟨i0, hi, hz0, hz1, hz2⟩ := info_parts hinfo
    obtain ⟨_, ad, c, rfl, hc, ha, H⟩ := hsrc
    cases ad with
    | none =>
      obtain rfl := ha rfl
      have hr := run_append_owned_none (P := P) (w := w) 0 t ty e i0 size ht hi _ 0 [] hown
      exact ⟨_, w, hr, ⟨_, _, rfl⟩, hown, Below.refl _ _⟩
    | some p =>
      have hr := run_append_room (P := P) w t ty e i0 ht hi g 0 0 #[] hg p 0 c [] (by simp) (fun j u hj => by simp at hj) (by simp) (Nat.le_refl _) (by simp)
      refine ⟨_, _, hr, ⟨_, _, rfl⟩, ⟨by simp, .inr ⟨g, 0, _, rfl, Nat.zero_le _, setRow_heap w g #[] _ e _ hg, Nat.le_refl _, Nat.zero_le _, by simp, by simp⟩⟩, ?_⟩
      refine ⟨rfl, rfl, rfl, by simp, fun k hk => ?_⟩
      by_cases hkg : k = g
      · subst hkg
        rw [setRow_heap w k #[] _ e _ hg, hg]
        simp
      · exact setRow_other w g k _ (fun e => hkg e)
  · obtain ⟨i0, hi, hz0, hz1, hz2⟩ := info_parts hinfo
    subst hz1
    obtain ⟨hl, ad, c, rfl, hc, ha, H⟩ := hsrc
    obtain ⟨p, rfl⟩ : ∃ p, ad = some p := by
      cases ad with
      | none => have := ha rfl; omega
      | some p => exact ⟨p, rfl⟩
    have hn : ∀ j u, news[j]? = some u → w.cell? (p.add j) = some u := by
      intro j u hj
      obtain ⟨b, o, hp, _, hu⟩ := H j u hj
      simp only [Option.some.injEq] at hp
      subst hp
      have : (⟨b, o, none⟩ : Addr).add j = ⟨b, o + j, none⟩ := by unfold Addr.add; split <;> simp_all
      rw [this, hu]
    have hmx : maxLen ≤ 9223372036854775807 := by decide
    subst hz2
    have hr := run_append_grow (P := P) w t ty e i0 z ht hi hz0 ⟨g, 0, none⟩ 0 0 [] (by simp) (fun j u hj => by simp at hj) p m c news hl hn (by omega) (by omega) (growslice_fits (by omega) (by simpa using hbytes))
    rw [Nat.zero_add] at hr
    have hge := grownCap_ge w m 0 e
    have hcm := grownCap_le_maxLen w m 0 e hlen
    have hown' : (w.drew.alloc (.cells (([] : List Value).toArray ++ news.toArray ++ Builtin.zeroCells z.cells (grownCap w m 0 e - m)) e)).ownsRow 0 e i0.size (.slice (some ⟨w.heap.size, 0, none⟩) m (grownCap w m 0 e)) m news := by
      refine ⟨hl, .inr ⟨w.heap.size, _, _, rfl, Nat.zero_le _, heap_alloc_new w.drew _, hge, hcm, ?_, ?_⟩⟩
      · simp only [Array.size_append, List.size_toArray, size_zeroCells, hzs, hl, List.length_nil, Nat.zero_add, ← Nat.add_mul]
        congr 1
        omega
      · simp only [Array.toList_append, List.nil_append]
        rw [← hl]
        exact List.take_left
    exact ⟨_, _, hr, ⟨_, _, rfl⟩, hown', ⟨rfl, rfl, rfl, by simp, fun k hk => Below.heap_alloc w.drew _ k hk⟩⟩
end Go.Proofs.Ytfmbbpfklhkljaa
