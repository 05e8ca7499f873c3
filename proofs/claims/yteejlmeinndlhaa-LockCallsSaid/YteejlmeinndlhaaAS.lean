/- Ask. -/
import Derived.Test.YteejlmeinndlhaaWT
set_option linter.unusedVariables false
set_option linter.unusedSimpArgs false
namespace Go.Proofs.Yteejlmeinndlhaa
open Go.RowKit Go.Maps
attribute [local go_sem ↓] Go.wp_at_zero Go.wp_at_succ
def growR : List Rg → List Rg → List Rg
  | o, [] => o
  | o, r :: t => growR (if o.any (fun h => cvB h r) then o else o ++ [r]) t
theorem growR_cons (o : List Rg) (r : Rg) (t : List Rg) : growR o (r :: t) = growR (if o.any (fun h => cvB h r) then o else o ++ [r]) t := rfl
def askT (T : Tb) (x : Tx) (l : List Rg) : Int × Tb := if worstB l ≠ 0 then (worstB l, T) else if 0 < (rivT T x l).length then (11, T) else (0, tput T x (growR (tgz T x) l))
def AskPost (M D : Nat → Prop) (w : World) (b : Nat) (r : Int × Tb) (e : Ending) (w' : World) : Prop := e = .returned (.int .i64 r.1) ∧ Wb (fun k => k = b ∨ M k) w w' ∧ ∃ M' D' : Nat → Prop, (∀ k, M' k → M k ∨ w.heap.size ≤ k) ∧ (∀ k, D' k → D k ∨ w.heap.size ≤ k) ∧ TbIs M' D' w' b r.2
theorem AskPost.same {M D : Nat → Prop} {w w' : World} {b : Nat} {T : Tb} {z : Int} (h : TbIs M D w b T) (hb : Below w.heap.size w w') : AskPost M D w b (z, T) (.returned (.int .i64 z)) w' :=
  ⟨rfl, Wb.of_below _ hb, M, D, fun _ h => .inl h, fun _ h => .inl h, h.below hb⟩
theorem row_one3 {w : World} {x y z : Value} {e : TypeId} : Row 3 (Lt (w.heap.size + 1)) (w.alloc (.cells #[x, y, z] e)) (.slice (some ⟨w.heap.size, 0, none⟩) 1 1) 1 [x, y, z] := by
  refine ⟨rfl, _, _, rfl, Nat.le_refl _, by simp, fun j u hj => ⟨_, _, rfl, Nat.lt_succ_self _, ?_⟩⟩
  match j, hj with
  | 0, hj => simp at hj; subst hj; simp
  | 1, hj => simp at hj; subst hj; simp
  | 2, hj => simp at hj; subst hj; simp
theorem Og.snoc {B : Nat} {D : Nat → Prop} {w' : World} {v' : Value} {L : List Rq} {r : Rg} {f t : Value} (hr : w'.ownsRow B 24 3 v' (L.length + 1) (rcs L ++ [f, t, .bool r.xc])) (hL : ∀ q ∈ L, Rqi D w' q) (hf : Bs D w' f r.lo) (ht : Bs D w' t r.hi) (hn : (L.length + 1) * 56 ≤ lim) :
    Og B D w' v' (L.map (·.1) ++ [r]) := by
  refine ⟨L ++ [(r, f, t)], by simp, ?_, fun q hq => ?_, by simpa using hn⟩
  · rw [rcs_app, List.length_append, List.length_singleton]; exact hr
  · rw [List.mem_append, List.mem_singleton] at hq
    rcases hq with hq | rfl
    · exact hL q hq
    · exact ⟨hf, ht⟩
theorem Wb.trans2 {X Y : Nat → Prop} {a b c : World} (h : Wb X a b) (k : Wb Y b c) (hY : ∀ i, i < a.heap.size → Y i → X i) : Wb X a c := ⟨k.os.trans h.os, k.tape.trans h.tape, k.output.trans h.output, Nat.le_trans h.size k.size, fun i hi hx => (k.block i (Nat.lt_of_lt_of_le hi h.size) fun hy => hx (hY i hi hy)).trans (h.block i hi hx)⟩
theorem eqm35 (w : World) (r : Option Nat) : (binOp .eql 35 (.map r) (.map none)).run Try.prog w = .ok (.bool r.isNone) w := run_eql_map_nil w 35 30 40 r Try.underlying35
theorem put_some {M D D2 : Nat → Prop} {wL w3 : World} {b k : Nat} {T : Tb} {x : Tx} {o : List Rg} (h : TbIs M D wL b T) (hD2 : ∀ i, D i → D2 i) (hD2' : ∀ i, D2 i → i < wL.heap.size ∧ ¬ M i ∧ i ≠ b)
    (hb : wL.heap[b]? = some (.cells #[.map (some k)] 37 (0, 0))) (hk : M k) (ht : TI D2 w3 k (tput T x o)) (hg : wL.grownBy w3 (some k)) : TbIs M D2 w3 b (tput T x o) := by
  have hkb := (h.hM k hk).2
  have hsz := hg.size
  refine ⟨⟨some k, (hg.block b (Array.getElem?_eq_some_iff.1 hb).1 (by simp; omega)).trans hb, .inr ⟨k, rfl, hk, ht⟩⟩, fun i hi => ⟨by have := (hD2' i hi).1; omega, (hD2' i hi).2⟩, fun i hi => ⟨by have := (h.hM i hi).1; omega, (h.hM i hi).2⟩⟩
def Oh (S0 : Nat) (D : Nat → Prop) (w : World) (v : Value) (o : List Rg) : Prop := Og S0 (fun k => (D k ∨ S0 ≤ k ∧ k < w.heap.size) ∧ some k ≠ v.ownBlock) w v o
theorem Oh.up {S0 : Nat} {D : Nat → Prop} {w w' : World} {v : Value} {o : List Rg} (h : Oh S0 D w v o) (hb : Below w.heap.size w w') : Oh S0 D w' v o :=
  (Og.up h hb).mono (Nat.le_refl _) fun k hk => ⟨hk.1.imp id fun h => ⟨h.1, by have := hb.size; omega⟩, hk.2⟩
theorem Oh.rgs {S0 : Nat} {D : Nat → Prop} {w : World} {v : Value} {o : List Rg} (h : Oh S0 D w v o) : Rgs (fun k => D k ∨ S0 ≤ k ∧ k < w.heap.size) w v o :=
  (Og.rgs h).monoS fun k hk => by
    rcases hk with hk | hk
    · exact hk.1
    · exact .inr hk
theorem Oh.of {S0 : Nat} {D : Nat → Prop} {w : World} {v : Value} {o : List Rg} (h : Og S0 D w v o) (hD : ∀ k, D k → k < S0) : Oh S0 D w v o := by
  have h2 : ∀ k, v.ownBlock = some k → S0 ≤ k := by
    obtain ⟨L, _, ho, _⟩ := h
    exact fun k hk => (World.ownsRow.lt ho k hk).1
  exact h.mono (Nat.le_refl _) fun k hk => ⟨.inl hk, fun e => by have := h2 k e.symm; have := hD k hk; omega⟩
theorem Oh.app {S0 c : Nat} {D : Nat → Prop} {w w1 : World} {v v' : Value} {o : List Rg} {r : Rg} {f t : Value} {L : List Rq} (hL1 : L.map (·.1) = o)
    (hin : ∀ q ∈ L, Rqi (fun k => (D k ∨ S0 ≤ k ∧ k < w.heap.size) ∧ some k ≠ v.ownBlock) w q) (hD : ∀ k, D k → k < S0) (hS : S0 ≤ w.heap.size) (hf : Bs (fun k => c ≤ k ∧ k < w.heap.size) w f r.lo) (ht : Bs (fun k => c ≤ k ∧ k < w.heap.size) w t r.hi)
    (hc : ∀ k, v.ownBlock = some k → k < c) (hc0 : S0 ≤ c) (ho : w1.ownsRow S0 24 3 v' (L.length + 1) (rcs L ++ [f, t, .bool r.xc])) (hg : w.grownBy w1 v.ownBlock) (hb : v'.ownBlock = v.ownBlock ∨ v'.ownBlock = some w.heap.size) (hn : (L.length + 1) * 56 ≤ lim) : Oh S0 D w1 v' (o ++ [r]) := by
  subst hL1
  have hwb := Wb.of_grown hg
  have hsz := hg.size
  have hne : ∀ k, k < w.heap.size → some k ≠ v.ownBlock → some k ≠ v'.ownBlock := fun k h1 h2 e => by
    rcases hb with hb | hb
    · exact h2 (e.trans hb)
    · rw [hb] at e; cases e; omega
  have h1 : ∀ k, ((D k ∨ S0 ≤ k ∧ k < w.heap.size) ∧ some k ≠ v.ownBlock) → ((D k ∨ S0 ≤ k ∧ k < w1.heap.size) ∧ some k ≠ v'.ownBlock) := fun k hk => ⟨hk.1.imp id fun h => ⟨h.1, by omega⟩, hne k (by rcases hk.1 with h | h; have := hD k h; omega; exact h.2) hk.2⟩
  have h2 : ∀ k, (c ≤ k ∧ k < w.heap.size) → ((D k ∨ S0 ≤ k ∧ k < w1.heap.size) ∧ some k ≠ v'.ownBlock) := fun k hk => ⟨.inr ⟨by omega, by omega⟩, hne k hk.2 fun e => by have := hc k e.symm; omega⟩
  have h3 : ∀ k, some k = v.ownBlock → ¬ (c ≤ k ∧ k < w.heap.size) := fun k e hk => by have := hc k e.symm; omega
  exact Og.snoc ho (fun q hq => ⟨((hin q hq).1.wb hwb fun k hk h => h.2 hk).monoS h1, ((hin q hq).2.wb hwb fun k hk h => h.2 hk).monoS h1⟩) ((hf.wb hwb h3).monoS h2) ((ht.wb hwb h3).monoS h2) hn
theorem put_none {M D D2 : Nat → Prop} {wL W6 w3 : World} {b : Nat} {T T' : Tb} (h : TbIs M D wL b T) (hD2' : ∀ i, D2 i → i < wL.heap.size ∧ ¬ M i ∧ i ≠ b)
    (hs6 : W6.heap.size = wL.heap.size + 1) (hb : W6.heap[b]? = some (.cells #[.map (some wL.heap.size)] 37 (0, 0))) (ht : TI D2 w3 wL.heap.size T') (hg : W6.drew.grownBy w3 (some wL.heap.size)) : TbIs (fun k => M k ∨ k = wL.heap.size) D2 w3 b T' := by
  have hbl := h.lt
  have hsz := hg.size
  have e : W6.drew.heap.size = wL.heap.size + 1 := by
    exact hs6
  refine ⟨⟨some wL.heap.size, (hg.block b (by omega) (by simp; omega)).trans hb, .inr ⟨_, rfl, .inr rfl, ht⟩⟩, fun i hi => ⟨by have := (hD2' i hi).1; omega, fun hM => ?_, (hD2' i hi).2.2⟩, fun i hi => ?_⟩
  · rcases hM with hM | rfl
    · exact (hD2' i hi).2.1 hM
    · have := (hD2' _ hi).1; omega
  · rcases hi with hi | rfl
    · exact ⟨by have := (h.hM i hi).1; omega, (h.hM i hi).2⟩
    · exact ⟨by omega, by omega⟩
set_option maxRecDepth 100000 in
set_option maxHeartbeats 4000000 in
/-- Ask -/
theorem ask_any {M D A : Nat → Prop} {w : World} {b : Nat} {T : Tb} {x : Tx} {v : Value} {l : List Rg} (h : TbIs M D w b T) (hv : Rgs A w v l) (hn : T.length < 1000000) (hm : (tgz T x).length ≤ 1000000) :
    Calls Try.prog 21 #[.pointer (some ⟨b, 0, none⟩), tv x, v] w (AskPost M D w b (askT T x l)) := by
  obtain ⟨W, hW⟩ : ∃ W, W = w.alloc (.cells #[.int .u64 (x.1.toNat : Int), .int .u64 (x.2.1.toNat : Int), .int .u64 (x.2.2.toNat : Int)] 30) := ⟨_, rfl⟩
  have hb : Below w.heap.size w W := by rw [hW]; exact up_alloc _ _
  have hbx : ∀ wz, Below W.heap.size W wz → wz.cell? ⟨w.heap.size, 0, none⟩ = some (.int .u64 (x.1.toNat : Int)) ∧ wz.cell? ⟨w.heap.size, 1, none⟩ = some (.int .u64 (x.2.1.toNat : Int)) ∧ wz.cell? ⟨w.heap.size, 2, none⟩ = some (.int .u64 (x.2.2.toNat : Int)) := fun wz hz => by
    rw [hW] at hz
    exact box3 ((hz.block _ (by simp)).trans (heap_alloc_new w _))
  have HX := Hid.mk' hbx
  have HB := Hid.mk' hb
  have HH := Hid.mk' h
  have HV := Hid.mk' hv
  have HWO : Hid (∀ wz, Below w.heap.size w wz → Calls Try.prog 45 #[v] wz fun e w' => e = .returned (.int .i64 (worstB l)) ∧ Below wz.heap.size wz w') := fun wz hz => worst_any (hv.up hz)
  have HRV : Hid (∀ wz, Below w.heap.size w wz → Calls Try.prog 18 #[.pointer (some ⟨b, 0, none⟩), .agg #[.int .u64 (x.1.toNat : Int), .int .u64 (x.2.1.toNat : Int), .int .u64 (x.2.2.toNat : Int)], v] wz fun e w' => ∃ v', e = .returned v' ∧ Ot wz.heap.size w' v' (rivT T x l) ∧ Below wz.heap.size wz w') := fun wz hz => rivals_any (h.below hz) (hv.up hz) (by omega)
  have HLK : Hid (∀ wz, Below w.heap.size w wz → ∃ m, wz.heap[b]? = some (.cells #[.map m] 37 (0, 0)) ∧ ((m = none ∧ T = []) ∨ ∃ k, m = some k ∧ M k ∧ TI D wz k T) ∧ ∃ u, (∀ w' : World, (∀ i, i < wz.heap.size → w'.heap[i]? = wz.heap[i]?) → (Instr.lookup 35 (.map m) (.agg #[.int .u64 (x.1.toNat : Int), .int .u64 (x.2.1.toNat : Int), .int .u64 (x.2.2.toNat : Int)]) false).run Try.prog w' = .ok u w') ∧ Rgs D wz u (tgz T x)) := fun wz hz => by
    obtain ⟨m, h1, h2⟩ := (h.below hz).ex
    obtain ⟨u, h3, h4⟩ := mi_look h2 x
    exact ⟨m, h1, h2, u, h3, h4⟩
  have HPUT : Hid (∀ wz (k : Nat) (D2 : Nat → Prop) (T : Tb), TI D2 wz k T → T.length < 1000000 → ¬ D2 k → ∀ (o : List Rg) (u : Value), Rgs D2 wz u o → ∃ w', (Instr.mapUpdate 35 (.map (some k)) (.agg #[.int .u64 (x.1.toNat : Int), .int .u64 (x.2.1.toNat : Int), .int .u64 (x.2.2.toNat : Int)]) u).run Try.prog wz = .ok () w' ∧ TI D2 w' k (tput T x o) ∧ wz.grownBy w' (some k)) := fun wz k D2 T h hn hk o u hu => h.put x hu hk hn
  have HR : Hid (askT T x l = if worstB l ≠ 0 then (worstB l, T) else if 0 < (rivT T x l).length then (11, T) else (0, tput T x (growR (tgz T x) l))) := rfl
  have hl64 : worstB l = 0 → l.length ≤ 64 := fun e => by unfold worstB at e; split at e <;> omega
  have HL64 := Hid.mk' hl64
  have HN := Hid.mk' hn
  have HM := Hid.mk' hm
  obtain ⟨va, vc, rfl, _, _, _, hat⟩ := hv.at
  have HAT := Hid.mk' hat
  clear h hv hb hat hn hm hl64 hbx
  generalize askT T x l = R at *
  generalize worstB l = wo at *
  generalize hrv : rivT T x l = rv at *
  clear hrv
  show Calls Try.prog 21 #[.pointer (some ⟨b, 0, none⟩), .agg #[.int .u64 (x.1.toNat : Int), .int .u64 (x.2.1.toNat : Int), .int .u64 (x.2.2.toNat : Int)], .slice va l.length vc] w _
  generalize (x.1.toNat : Int) = n1 at *
  generalize (x.2.1.toNat : Int) = n2 at *
  generalize (x.2.2.toNat : Int) = n3 at *
  go_enter Try.func21, Try.ntmps21
  go_wp2_with fail
  rw [← hW]
  clear hW
  refine (HWO.out W HB.out).mono ?_
  rintro e w1 ⟨rfl, hb1⟩
  have HB1 := Hid.mk' (bt HB.out hb1)
  have HL1 := Hid.mk' hb1
  clear hb1
  by_cases h0 : wo = 0
  case neg =>
    have h0' : (wo == 0) = false := by simpa using h0
    have h0'' : (wo != 0) = true := by simpa using h0
    have HR2 : Hid (R = (wo, T)) := by show _ = _; rw [HR.out, if_pos h0]
    clear HR h0
    go_wp2_with fail
    go_ret
    rw [HR2.out]
    exact AskPost.same HH.out HB1.out
  have h0' : (wo == 0) = true := by simpa using h0
  have h0'' : (wo != 0) = false := by simpa using h0
  have HR1 : Hid (R = if 0 < rv.length then (11, T) else (0, tput T x (growR (tgz T x) l))) := by show _ = _; rw [HR.out, if_neg (by simpa using h0)]
  have hl64 := HL64.out h0
  clear HR h0 HL64
  obtain ⟨x0, x1, x2⟩ := HX.out w1 HL1.out
  go_wp2_with fail
  refine (HRV.out w1 HB1.out).mono ?_
  rintro e w2 ⟨u, rfl, ho, hb2⟩
  have HB2 := Hid.mk' (bt HB1.out hb2)
  have HL2 := Hid.mk' (bt HL1.out hb2)
  obtain ⟨ua, uc, rfl⟩ := own_sliceN ho
  clear ho hb2 HRV x0 x1 x2
  by_cases hr0 : 0 < rv.length
  · have hr0' : (0 : Int) < (rv.length : Int) := by omega
    have HR2 : Hid (R = (11, T)) := by show _ = _; rw [HR1.out, if_pos hr0]
    clear HR1
    go_wp2_with fail
    go_ret
    rw [HR2.out]
    exact AskPost.same HH.out HB2.out
  have hr0' : ¬ (0 : Int) < (rv.length : Int) := by omega
  have HR2 : Hid (R = (0, tput T x (growR (tgz T x) l))) := by show _ = _; rw [HR1.out, if_neg hr0]
  clear HR1
  go_upto_region 6 with fail
  obtain ⟨m, hbh, hmi, uu, hlk, hu⟩ := HLK.out w2 HB2.out
  obtain ⟨c0, _⟩ := cell_of_box_a hbh
  obtain ⟨y0, y1, y2⟩ := HX.out w2 HL2.out
  have r0 : ∀ q : Kp (fun _ => False) w2, q.nx.cell? ⟨b, 0, none⟩ = some _ := fun q => q.cell c0 id
  have rx0 : ∀ q : Kp (fun _ => False) w2, q.nx.cell? ⟨w.heap.size, 0, none⟩ = some _ := fun q => q.cell y0 id
  have rx1 : ∀ q : Kp (fun _ => False) w2, q.nx.cell? ⟨w.heap.size, 1, none⟩ = some _ := fun q => q.cell y1 id
  have rx2 : ∀ q : Kp (fun _ => False) w2, q.nx.cell? ⟨w.heap.size, 2, none⟩ = some _ := fun q => q.cell y2 id
  have rl : ∀ q : Kp (fun _ => False) w2, (Instr.lookup 35 (.map m) (.agg #[.int .u64 n1, .int .u64 n2, .int .u64 n3]) false).run Try.prog q.nx = .ok _ q.nx := fun q => hlk _ fun b hb => q.ok b hb id
  have HC := Hid.mk' (clone46 (hu.up (drew_blx w2 _)))
  obtain ⟨ka, kc, rfl⟩ := hu.sl
  clear hbh hmi hlk hu c0 y0 y1 y2
  refine wp_region_mix 8 (fun w' => ∃ q : Kp (fun _ => False) w2, w' = q.nx) (by kernel_rfl) (by kernel_rfl) (kp_first _ w2) ?_
  simp only [List.take_succ_cons, List.take_zero, List.drop_succ_cons, List.drop_zero]
  refine mx_take 6 rfl ?_
  simp only [List.take_succ_cons, List.take_zero, List.drop_succ_cons, List.drop_zero]
  repeat (go_big_quiet_step (fail))
  refine wpQuiet_nil ?_
  refine mx_call (vals := [.slice ka (tgz T x).length kc]) Try.func46 (by kernel_rfl) rfl rfl (by kernel_rfl) (by kernel_rfl) HC.out (fun E wa ha => ?_)
  obtain ⟨u3, rfl, ho3, hb3⟩ := ha
  have hWa : Below w2.heap.size w2 wa := (drew_blx w2 _).trans hb3
  obtain ⟨a3, k3, rfl⟩ := ho3.sl
  refine ⟨_, rfl, kp_mk hWa.size fun b hb hx => hWa.block b hb, ?_⟩
  simp only [Act.put, List.setIfInBounds_toArray, List.set_cons_succ, List.set_cons_zero]
  refine mx_take 1 rfl ?_
  simp only [List.take_succ_cons, List.take_zero, List.drop_succ_cons, List.drop_zero]
  repeat (go_big_quiet_step (fail))
  refine wpQuiet_nil ?_
  simp only [wpMix]
  have HO3 : Hid (Oh w2.heap.size D wa (.slice a3 (tgz T x).length k3) (tgz T x)) := Oh.of ho3 fun k hk => Nat.lt_of_lt_of_le (HH.out.hD k hk).1 HB2.out.size
  have HB3 := Hid.mk' (bt HB2.out hWa)
  have HL3 := Hid.mk' (bt HL2.out hWa)
  have HS3 : Hid (w2.heap.size ≤ wa.heap.size) := hWa.size
  clear r0 rx0 rx1 rx2 rl HC ho3 hb3 hWa
  have hl' : (l.length : Int) ≤ 64 := by omega
  have HTM : Hid (growR (tgz T x) l = growR (tgz T x) (l.drop 0)) := rfl
  have HLM : Hid ((tgz T x).length ≤ 1000000 + 0) := HM.out
  generalize growR (tgz T x) l = G at *
  generalize tgz T x = o0 at *
  go_wp2_with fail
  go_loopw [8, 31] (fun x i wr => ∃ (k : Nat) (o : List Rg) (oa : Option Addr) (oc : Nat), k ≤ l.length ∧ i = .int .i64 k ∧ x = .slice oa o.length oc ∧ Hid (Oh w2.heap.size D wr (.slice oa o.length oc) o) ∧ Hid (G = growR o (l.drop k)) ∧ Hid (o.length ≤ 1000000 + k) ∧ Hid (Below w.heap.size w wr) ∧ Hid (Below W.heap.size W wr) ∧ Hid (w2.heap.size ≤ wr.heap.size)) (fun _ i _ => l.length - (intOf i).toNat)
  case atStart => exact ⟨0, o0, _, _, by omega, rfl, rfl, HO3, HTM, HLM, HB3, HL3, HS3⟩
  case round =>
    clear HO3 HTM HLM HB3 HL3 HS3
    obtain ⟨k, o, oa, oc, hk, rfl, rfl, HO, HT, HLN, HB3, HL3, HS3⟩ := hrel
    by_cases hlt : k < l.length
    · have hlt' : (k : Int) < (l.length : Int) := by omega
      obtain ⟨bb, of, fa, fc, ta, tc, rfl, _, ⟨c0, c1, c2⟩, h3, h4⟩ := HAT.out k hlt
      have c0 := cell_up c0 HB3.out
      have c1 := cell_up c1 HB3.out
      have c2 := cell_up c2 HB3.out
      obtain ⟨W3, hW3, hbW3, hcW3⟩ := one_box wr (.slice fa l[k].lo.length fc) (.slice ta l[k].hi.length tc) (.bool l[k].xc) 24
      have hbox : BoxR A W3 wr.heap.size l[k] := by rw [hW3]; exact boxr_new (h3.up HB3.out) (h4.up HB3.out)
      have HHAS : Hid (Calls Try.prog 47 #[.slice oa o.length oc, .func (.func 48) #[] #[.pointer (some ⟨wr.heap.size, 0, none⟩)]] W3 fun e w' => e = .returned (.bool (o.any fun h => cvB h l[k])) ∧ Below W3.heap.size W3 w') := has_48 (HO.out.up hbW3).rgs (p := fun h => cvB h l[k]) fun wz hz uu r hr => c48 (hbox.up hz) hr
      have HTW : Hid (∀ wz, Below W3.heap.size W3 wz → Calls Try.prog 49 #[.agg #[.slice fa l[k].lo.length fc, .slice ta l[k].hi.length tc, .bool l[k].xc]] wz fun e w' => ∃ v', e = .returned v' ∧ RgIs (fun k => wz.heap.size ≤ k ∧ k < w'.heap.size) w' v' l[k] ∧ Below wz.heap.size wz w') := fun wz hz => twin_any ⟨_, _, rfl, ((h3.up HB3.out).up hbW3).up hz, ((h4.up HB3.out).up hbW3).up hz⟩
      have HGC : Hid (G = growR (if o.any (fun h => cvB h l[k]) then o else o ++ [l[k]]) (l.drop (k + 1))) := by show _ = _; rw [HT.out, List.drop_eq_getElem_cons hlt, growR_cons]
      have HBW3 := Hid.mk' hbW3
      have HCW3 := Hid.mk' hcW3
      clear h3 h4 hbox hbW3 hcW3 HT
      generalize (o.any fun h => cvB h l[k]) = d at *
      generalize l[k] = r at *
      generalize hlo : r.lo.length = n at *
      generalize hhi : r.hi.length = mm at *
      generalize hxc : r.xc = xc at *
      have HLO := Hid.mk' hlo
      have HHI := Hid.mk' hhi
      have HXC := Hid.mk' hxc
      clear hlo hhi hxc
      go_wp2_with fail
      rw [← hW3]
      clear hW3
      refine HHAS.out.mono ?_
      rintro e w4 ⟨rfl, hb4⟩
      have HB4 := Hid.mk' (bt HBW3.out hb4)
      obtain ⟨b0, b1, b2⟩ := HCW3.out w4 hb4
      have HTW4 := Hid.mk' (HTW.out w4 hb4)
      clear hb4 HHAS HTW c0 c1 c2
      cases d with
      | true =>
        have HT2 : Hid (G = growR o (l.drop (k + 1))) := HGC.out
        have HO4 := Hid.mk' (HO.out.up HB4.out)
        clear b0 b1 b2 HTW4 HGC
        go_wp2_with fail
        go_roundw
        case rel => exact ⟨k + 1, o, oa, oc, by omega, by go_num, rfl, HO4, HT2, (by have := HLN.out; show _ ≤ _; omega), bt HB3.out HB4.out, bt HL3.out HB4.out, Nat.le_trans HS3.out HB4.out.size⟩
        case measure => simp [intOf]; omega
      | false =>
        have HT2 : Hid (G = growR (o ++ [r]) (l.drop (k + 1))) := HGC.out
        clear HGC
        go_wp2_with fail
        refine HTW4.out.mono ?_
        rintro e w5 ⟨v5, rfl, hr5, hb5⟩
        obtain ⟨f1, k1, f2, k2, rfl, hf1, hf2⟩ := hr5.form
        obtain ⟨L, hL1, hL2, hL3, hL4⟩ := HO.out
        have hLn : L.length = o.length := by rw [← hL1, List.length_map]
        have HF1 := Hid.mk' hf1
        have HF2 := Hid.mk' hf2
        have HL1' := Hid.mk' hL1
        have HLN' := Hid.mk' hLn
        have HOW := Hid.mk' (own_keep (own_keep hL2 (bt HB4.out hb5) (Nat.le_refl _)) (up_alloc w5 (.cells #[.slice f1 r.lo.length k1, .slice f2 r.hi.length k2, .bool r.xc] 24)) (Nat.le_refl _))
        have HB5 := Hid.mk' (bt HB4.out hb5)
        have HIN : Hid (∀ q ∈ L, Rqi (fun k => (D k ∨ w2.heap.size ≤ k ∧ k < wr.heap.size) ∧ some k ≠ (Value.slice oa o.length oc).ownBlock) wr q) := hL3
        have HOL : Hid (∀ k, (Value.slice oa o.length oc).ownBlock = some k → k < wr.heap.size) := fun k hk => (World.ownsRow.lt hL2 k hk).2
        have H45 : Hid (w4.heap.size ≤ w5.heap.size) := hb5.size
        have H24 : Hid (wr.heap.size ≤ w4.heap.size) := HB4.out.size
        clear hr5 hb5 hf1 hf2 hL1 hL2 hL3 hL4 hLn b0 b1 b2 HTW4 HB4
        go_wp2_with (at_builtin; go_must (refine wpl_app rfl (.tmp 39) (.tmp 42) 40 rfl Try.underlying40 Try.info24 rfl (by decide) rfl HOW.out rfl row_one3 (by intro u hu; simp only [List.mem_cons, List.not_mem_nil, or_false] at hu; rcases hu with rfl | rfl | rfl <;> rfl) (by have := HLN'.out; have := HLN.out; unfold maxLen; omega) (by have := HLN'.out; have := HLN.out; omega) (by have := HS3.out; have := H24.out; have := H45.out; simp; omega) ?_); intro v6 w6 ho hg hn hbb)
        have hup := up_alloc w5 (.cells #[.slice f1 r.lo.length k1, .slice f2 r.hi.length k2, .bool r.xc] 24)
        have hbW6 : Below wr.heap.size wr (w5.alloc (.cells #[.slice f1 r.lo.length k1, .slice f2 r.hi.length k2, .bool r.xc] 24)) := bt HB5.out hup
        have hsz5 : (w5.alloc (.cells #[.slice f1 r.lo.length k1, .slice f2 r.hi.length k2, .bool r.xc] 24)).heap.size = w5.heap.size + 1 := by simp
        have e0 := HS3.out
        have e1 := H24.out
        have e2 := H45.out
        have e3 := HB2.out.size
        have e4 := HL2.out.size
        have HO6 : Hid (Oh w2.heap.size D w6 v6 (o ++ [r])) := Oh.app (c := w4.heap.size) HL1'.out (fun q hq => ⟨((HIN.out q hq).1.up hbW6).monoS fun k hk => ⟨hk.1.imp id fun h => ⟨h.1, by omega⟩, hk.2⟩, ((HIN.out q hq).2.up hbW6).monoS fun k hk => ⟨hk.1.imp id fun h => ⟨h.1, by omega⟩, hk.2⟩⟩) (fun k hk => Nat.lt_of_lt_of_le (HH.out.hD k hk).1 e3) (by omega) ((HF1.out.up hup).monoS fun k hk => ⟨hk.1, by omega⟩) ((HF2.out.up hup).monoS fun k hk => ⟨hk.1, by omega⟩) (fun k hk => by have := HOL.out k hk; omega) (by omega) ho hg hbb (by have := HLN'.out; have := HLN.out; unfold lim; omega)
        have hb6 : Below w.heap.size w w6 := below_app (HB3.out.trans (hbW6.mono HB3.out.size)) HOW.out hg e3 (by omega)
        have hl6 : Below W.heap.size W w6 := below_app (HL3.out.trans (hbW6.mono HL3.out.size)) HOW.out hg e4 (by omega)
        have HB6 := Hid.mk' hb6
        have HL6 := Hid.mk' hl6
        have HS6 : Hid (w2.heap.size ≤ w6.heap.size) := by have := hg.size; show _ ≤ _; omega
        obtain ⟨a6, c6, e6⟩ := own_sliceN ho
        have E6 : Hid (v6 = .slice a6 (o ++ [r]).length c6) := by show _ = _; rw [e6, List.length_append, ← HLN'.out]; rfl
        have HLN6 : Hid ((o ++ [r]).length ≤ 1000000 + (k + 1)) := by show _ ≤ _; have := HLN.out; rw [List.length_append, List.length_singleton]; omega
        clear ho hg hn hbb hup hbW6 hsz5 e0 e1 e2 e3 e4 e6 hb6 hl6
        rw [E6.out] at HO6
        go_wp2_with fail
        go_roundw
        case rel => exact ⟨k + 1, o ++ [r], a6, c6, by omega, by go_num, E6.out, HO6, HT2, HLN6, HB6, HL6, HS6⟩
        case measure => simp [intOf]; omega
    · obtain rfl : k = l.length := by omega
      have HG : Hid (G = o) := by show _ = _; rw [HT.out, List.drop_length]; rfl
      obtain ⟨m2, hbh, hmi, _⟩ := HLK.out wr HB3.out
      obtain ⟨c0, f0⟩ := cell_of_box_a hbh
      obtain ⟨D2, hD2⟩ : ∃ D2 : Nat → Prop, D2 = fun i => (D i ∨ w2.heap.size ≤ i ∧ i < wr.heap.size) := ⟨_, rfl⟩
      have e3 := HB2.out.size
      have e4 := HS3.out
      have hD2a : ∀ i, D i → D2 i := fun i hi => by rw [hD2]; exact .inl hi
      have hD2b : ∀ i, D2 i → i < wr.heap.size ∧ ¬ M i ∧ i ≠ b := fun i hi => by
        rw [hD2] at hi
        have hbl := HH.out.lt
        rcases hi with hi | hi
        · have := HH.out.hD i hi; exact ⟨by omega, this.2⟩
        · exact ⟨by omega, fun hM => by have := HH.out.hM i hM; omega, by omega⟩
      have hD2c : ∀ i, D2 i → D i ∨ w.heap.size ≤ i := fun i hi => by
        rw [hD2] at hi
        exact hi.imp id fun h => by omega
      have hru : Rgs D2 wr (.slice oa o.length oc) o := by rw [hD2]; exact HO.out.rgs
      have HTB := Hid.mk' (HH.out.below HB3.out)
      have HD2a := Hid.mk' hD2a
      have HD2b := Hid.mk' hD2b
      have HD2c := Hid.mk' hD2c
      clear hD2 e3 hD2a hD2c
      obtain ⟨y0, y1, y2⟩ := HX.out wr HL3.out
      rcases hmi with ⟨rfl, rfl⟩ | ⟨k', rfl, hk', ht⟩
      · obtain ⟨W6, hW6⟩ : ∃ W6, W6 = (wr.setCell ⟨b, 0, none⟩ (.map (some wr.heap.size))).alloc (.map #[] 0) := ⟨_, rfl⟩
        have hbl := HTB.out.lt
        have hwb6 : Wb (fun k => k = b) wr W6 := by rw [hW6]; exact (Wb.set (X := fun k => k = b) wr b 0 _ rfl).trans (Wb.of_below _ (up_alloc _ _))
        have hs6 : W6.heap.size = wr.heap.size + 1 := by rw [hW6, World.size_alloc, size_setCell]
        have hb6 : W6.heap[b]? = some (.cells #[.map (some wr.heap.size)] 37 (0, 0)) := by
          rw [hW6]; exact ((up_alloc _ _).block b (by rw [size_setCell]; exact hbl)).trans (box_set hbh _)
        have hmm : MapF Try.prog 30 W6 wr.heap.size (fun _ => none) 0 := by
          rw [hW6]
          have := MapF.made Try.prog 30 (wr.setCell ⟨b, 0, none⟩ (.map (some wr.heap.size)))
          rw [size_setCell] at this
          exact this
        have ht6 : TI D2 W6.drew wr.heap.size [] := ⟨Tsrt.nil, _, hmm, fun s => .inl ⟨rfl, rfl⟩⟩
        obtain ⟨w3, hst, hti, hg3⟩ := HPUT.out W6.drew wr.heap.size D2 [] ht6 (by decide) (fun hi => by have := hD2b _ hi; omega) o (.slice oa o.length oc) ((hru.wb hwb6 fun k hk hd => by subst hk; exact (hD2b _ hd).2.2 rfl).up (drew_blx W6 _))
        have HQ : Hid (AskPost M D w b R (.returned (.int .i64 0)) w3) := by
          show AskPost _ _ _ _ _ _ _
          rw [HR2.out, HG.out]
          refine ⟨rfl, ?_, fun k => M k ∨ k = wr.heap.size, D2, fun k hk => hk.imp id fun h => by have := HB3.out.size; omega, HD2c.out, put_none (T := []) HTB.out hD2b hs6 hb6 hti hg3⟩
          have hA : Below w.heap.size w wr := HB3.out
          have hB : Wb (fun k => k = b) w W6 := (Wb.of_below _ hA).trans hwb6
          exact (hB.mono fun k hk => .inl hk).trans2 ((Wb.of_below (fun k => k = wr.heap.size) (drew_blx W6 _)).trans2 (Y := fun k => some k = some wr.heap.size) (Wb.of_grown hg3) fun i _ h => by cases h; rfl) fun i hi h => by have := HB3.out.size; omega
        have hx6 : ∀ j v, wr.cell? ⟨w.heap.size, j, none⟩ = some v → W6.cell? ⟨w.heap.size, j, none⟩ = some v := fun j v hv => (World.cell?_of_block (w := wr) (a := ⟨w.heap.size, j, none⟩) (hwb6.block _ (World.block_lt_of_cell? wr ⟨w.heap.size, j, none⟩ hv) (Nat.ne_of_gt HH.out.lt))).trans hv
        have y0 := hx6 _ _ y0
        have y1 := hx6 _ _ y1
        have y2 := hx6 _ _ y2
        have z0 := (cell_of_box_a hb6).1
        have r0 : ∀ q : Kp (fun _ => False) W6, q.nx.cell? ⟨b, 0, none⟩ = some (.map (some wr.heap.size)) := fun q => q.cell z0 id
        have rx0 : ∀ q : Kp (fun _ => False) W6, q.nx.cell? ⟨w.heap.size, 0, none⟩ = some (.int .u64 n1) := fun q => q.cell y0 id
        have rx1 : ∀ q : Kp (fun _ => False) W6, q.nx.cell? ⟨w.heap.size, 1, none⟩ = some (.int .u64 n2) := fun q => q.cell y1 id
        have rx2 : ∀ q : Kp (fun _ => False) W6, q.nx.cell? ⟨w.heap.size, 2, none⟩ = some (.int .u64 n3) := fun q => q.cell y2 id
        have c5 : (wr.alloc (.map #[] 0)).cell? ⟨b, 0, none⟩ = some (.map none) := cell_up c0 (up_alloc wr _)
        have f5 : (wr.alloc (.map #[] 0)).frozen? ⟨b, 0, none⟩ = false := by rw [(up_alloc wr (.map #[] 0)).frozen (p := ⟨b, 0, none⟩) hbl]; exact f0
        clear hwb6 hs6 hb6 hmm ht6 hti hg3 hx6 y0 y1 y2 z0 hru hbh hD2b e4
        have heq := eqm35
        have hmm := @run_makeMap Try.prog
        go_upto_region 15 with fail
        clear heq hmm
        rw [← hW6]
        clear hW6
        refine wp_region_mix 6 (fun w' => ∃ q : Kp (fun _ => False) W6, w' = q.nx) (by kernel_rfl) (by kernel_rfl) (kp_first _ W6) ?_
        simp only [List.take_succ_cons, List.take_zero, List.drop_succ_cons, List.drop_zero]
        refine mx_take 6 rfl ?_
        simp only [List.take_succ_cons, List.take_zero, List.drop_succ_cons, List.drop_zero]
        repeat (go_big_quiet_step (fail))
        refine wpQuiet_nil ?_
        simp only [wpMix]
        clear r0 rx0 rx1 rx2
        go_wp2_with fail
        go_ret
        exact HQ.out
      · obtain ⟨w3, hst, hti, hg3⟩ := HPUT.out wr.drew k' D2 T ((ht.mono HD2a.out).wb (Wb.of_below (fun _ => False) (drew_blx wr _)) (fun _ h => h.elim) id) HN.out (fun hi => (hD2b _ hi).2.1 hk') o (.slice oa o.length oc) (hru.up (drew_blx wr _))
        have HQ : Hid (AskPost M D w b R (.returned (.int .i64 0)) w3) := by
          show AskPost _ _ _ _ _ _ _
          rw [HR2.out, HG.out]
          have hA : Below w.heap.size w wr := HB3.out
          have hg4 : wr.grownBy w3 (some k') := ⟨hg3.os, hg3.tape, hg3.output, hg3.size, fun i hi hx => hg3.block i hi hx⟩
          refine ⟨rfl, ?_, M, D2, fun k hk => .inl hk, HD2c.out, put_some HTB.out HD2a.out hD2b hbh hk' hti hg4⟩
          exact (Wb.of_below (fun k => k = b ∨ M k) hA).trans2 (Wb.of_grown hg4) fun i _ h => by cases h; exact .inr hk'
        have z0 := c0
        have r0 : ∀ q : Kp (fun _ => False) wr, q.nx.cell? ⟨b, 0, none⟩ = some (.map (some k')) := fun q => q.cell z0 id
        have rx0 : ∀ q : Kp (fun _ => False) wr, q.nx.cell? ⟨w.heap.size, 0, none⟩ = some (.int .u64 n1) := fun q => q.cell y0 id
        have rx1 : ∀ q : Kp (fun _ => False) wr, q.nx.cell? ⟨w.heap.size, 1, none⟩ = some (.int .u64 n2) := fun q => q.cell y1 id
        have rx2 : ∀ q : Kp (fun _ => False) wr, q.nx.cell? ⟨w.heap.size, 2, none⟩ = some (.int .u64 n3) := fun q => q.cell y2 id
        clear hti hg3 y0 y1 y2 z0 hru hbh hD2b e4 ht hk'
        have heq := eqm35
        go_upto_region 15 with fail
        clear heq
        refine wp_region_mix 6 (fun w' => ∃ q : Kp (fun _ => False) wr, w' = q.nx) (by kernel_rfl) (by kernel_rfl) (kp_first _ wr) ?_
        simp only [List.take_succ_cons, List.take_zero, List.drop_succ_cons, List.drop_zero]
        refine mx_take 6 rfl ?_
        simp only [List.take_succ_cons, List.take_zero, List.drop_succ_cons, List.drop_zero]
        repeat (go_big_quiet_step (fail))
        refine wpQuiet_nil ?_
        simp only [wpMix]
        clear r0 rx0 rx1 rx2
        go_wp2_with fail
        go_ret
        exact HQ.out
end Go.Proofs.Yteejlmeinndlhaa
