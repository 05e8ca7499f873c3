/- Rows of barriers; cut.Barriers. -/
import Derived.Test.YtojgkjpmphfakaaGreatDoorCB
set_option linter.unusedVariables false
set_option linter.unusedSimpArgs false
namespace Go.Proofs.YtojgkjpmphfakaaGreatDoor
open Go.RowKit
attribute [local go_sem ↓] Go.wp_at_zero Go.wp_at_succ
/-- the cells of barriers -/
def bcs (ps : List (Br × Value)) : List Value := ps.flatMap fun p => [.int .u64 (p.1.1 : Int), .string ⟨p.1.2.1.toArray⟩, p.2]
theorem bcs_len (ps : List (Br × Value)) : (bcs ps).length = ps.length * 3 := by
  induction ps with
  | nil => rfl
  | cons p ps ih => unfold bcs at *; rw [List.flatMap_cons, List.length_append, ih, List.length_cons]; simp; omega
theorem bcs_snoc (ps : List (Br × Value)) (p : Br × Value) : bcs (ps ++ [p]) = bcs ps ++ [.int .u64 (p.1.1 : Int), .string ⟨p.1.2.1.toArray⟩, p.2] := by
  unfold bcs; rw [List.flatMap_append]; simp
theorem bcs_get (ps : List (Br × Value)) (k : Nat) (h : k < ps.length) : (bcs ps)[k * 3]? = some (.int .u64 (ps[k].1.1 : Int)) ∧ (bcs ps)[k * 3 + 1]? = some (.string ⟨ps[k].1.2.1.toArray⟩) ∧ (bcs ps)[k * 3 + 2]? = some ps[k].2 := by
  have e : bcs ps = bcs (ps.take k) ++ ([.int .u64 (ps[k].1.1 : Int), .string ⟨ps[k].1.2.1.toArray⟩, ps[k].2] ++ bcs (ps.drop (k + 1))) := by
    have e0 : ps.take k ++ ps[k] :: ps.drop (k + 1) = ps := by rw [← List.drop_eq_getElem_cons h, List.take_append_drop]
    have e1 := congrArg bcs e0
    have a1 : ∀ x y, bcs (x ++ y) = bcs x ++ bcs y := fun x y => by unfold bcs; rw [List.flatMap_append]
    rw [a1] at e1
    rw [← e1]; rfl
  have hl : (bcs (ps.take k)).length = k * 3 := by rw [bcs_len, List.length_take]; congr 1; omega
  refine ⟨?_, ?_, ?_⟩
  all_goals
    rw [e, List.getElem?_append_right (by omega), hl]
    simp [Nat.add_sub_cancel_left]
/-- v reads as the barriers L -/
def BrR (A : Nat → Prop) (w : World) (v : Value) (L : List Br) : Prop := ∃ ps : List (Br × Value), ps.map (·.1) = L ∧ Row 3 A w v L.length (bcs ps) ∧ ∀ p ∈ ps, Us A w p.2 p.1.2.2
theorem BrR.up {A : Nat → Prop} {w w' : World} {v : Value} {L : List Br} (h : BrR A w v L) (hb : Below w.heap.size w w') : BrR A w' v L := let ⟨ps, a, b, c⟩ := h; ⟨ps, a, b.up hb, fun p hp => (c p hp).up hb⟩
theorem BrR.at {A : Nat → Prop} {w : World} {v : Value} {L : List Br} (h : BrR A w v L) : ∃ (a : Option Addr) (c : Nat), v = .slice a L.length c ∧ L.length ≤ c ∧ ∀ k (hk : k < L.length), ∃ b o u, a = some ⟨b, o, none⟩ ∧ A b ∧
    (w.cell? ⟨b, o + k * 3, none⟩ = some (.int .u64 (L[k].1 : Int)) ∧ w.cell? ⟨b, o + k * 3 + 1, none⟩ = some (.string ⟨L[k].2.1.toArray⟩) ∧ w.cell? ⟨b, o + k * 3 + 2, none⟩ = some u) ∧ Us A w u L[k].2.2 := by
  obtain ⟨ps, rfl, ⟨hl, a, c, hv, hc, ha, H⟩, hp⟩ := h
  refine ⟨a, c, hv, hc, fun k hk => ?_⟩
  have hk' : k < ps.length := by simpa using hk
  obtain ⟨g0, g1, g2⟩ := bcs_get ps k hk'
  obtain ⟨b, o, e0, hA, c0⟩ := H _ _ g0
  obtain ⟨_, _, e1, _, c1⟩ := H _ _ g1
  obtain ⟨_, _, e2, _, c2⟩ := H _ _ g2
  rw [e0] at e1 e2
  cases e1
  cases e2
  refine ⟨b, o, ps[k].2, e0, hA, ⟨?_, ?_, by rw [Nat.add_assoc]; exact c2⟩, ?_⟩
  · rw [c0]; simp
  · rw [Nat.add_assoc, c1]; simp
  · have := hp _ (List.getElem_mem hk')
    simpa using this
/-- the same, in memory of the call's own -/
def BrO (B : Nat) (w : World) (v : Value) (L : List Br) : Prop := ∃ ps : List (Br × Value), ps.map (·.1) = L ∧ w.ownsRow B 38 3 v L.length (bcs ps) ∧ ∀ p ∈ ps, Un B w p.2 p.1.2.2
theorem BrO.nil {B : Nat} {w : World} : BrO B w (.slice none 0 0) [] := ⟨[], rfl, World.ownsRow_nil _ _ _ _, fun p hp => by cases hp⟩
theorem BrO.up {B : Nat} {w w' : World} {v : Value} {L : List Br} (h : BrO B w v L) (hb : Below w.heap.size w w') : BrO B w' v L := let ⟨ps, a, b, c⟩ := h; ⟨ps, a, own_keep b hb (Nat.le_refl _), fun p hp => (c p hp).up hb⟩
theorem BrO.mono {B B' : Nat} {w : World} {v : Value} {L : List Br} (h : BrO B w v L) (hB : B' ≤ B) : BrO B' w v L := let ⟨ps, a, b, c⟩ := h; ⟨ps, a, own_mono b hB, fun p hp => (c p hp).mono hB⟩
theorem BrO.rd {B : Nat} {w : World} {v : Value} {L : List Br} (h : BrO B w v L) (hL : ∀ x ∈ L, (∀ n ∈ x.2.2, n < 18446744073709551616) ∧ x.2.2.length * 8 ≤ lim) : BrR (fun k => B ≤ k) w v L := by
  obtain ⟨ps, a, b, c⟩ := h
  exact ⟨ps, a, Row.of_ownB b, fun p hp => by
    have := hL p.1 (by rw [← a]; exact List.mem_map_of_mem hp)
    exact (c p hp).usB this.1 this.2⟩
theorem Tryz.info38 : (Tryz.prog.info? 38).map (fun i => (i.zero, i.size, i.bytes)) = some (some (.agg #[.int .u64 0, .string ⟨#[]⟩, .slice none 0 0]), 3, 48) := by kernel_rfl
theorem BrO.app {B : Nat} {w w' : World} {v v' u : Value} {L : List Br} {x : Br} {ps : List (Br × Value)} (he : ps.map (·.1) = L) (ho : w.ownsRow B 38 3 v L.length (bcs ps)) (hc : ∀ p ∈ ps, Un B w p.2 p.1.2.2) (hu : Un B w u x.2.2) (hg : w.grownBy w' v.ownBlock)
    (h' : w'.ownsRow B 38 3 v' (L.length + 1) (bcs ps ++ [.int .u64 (x.1 : Int), .string ⟨x.2.1.toArray⟩, u])) : BrO B w' v' (L ++ [x]) := by
  refine ⟨ps ++ [(x, u)], by simp [he], ?_, fun p hp => ?_⟩
  · rw [bcs_snoc, List.length_append]; exact h'
  · rcases List.mem_append.1 hp with hp | hp
    · exact own_grown_ne (hc p hp) ho hg (by decide)
    · simp only [List.mem_singleton] at hp
      subst hp
      exact own_grown_ne hu ho hg (by decide)
/-- what lies of barriers behind a prefix -/
structure Cat (l : List Th) (q : List UInt8) (es : List Br) : Prop where
  all : allN l q = es.map (·.1)
  get : ∀ x ∈ es, tget l (q ++ hex x.1) = some (enc x.2.2 x.2.1)
  num : ∀ x ∈ es, x.1 < 18446744073709551616
  nam : ∀ x ∈ es, x.2.1.length ≤ 1000
  ats : ∀ x ∈ es, x.2.2.length ≤ 1000 ∧ ∀ n ∈ x.2.2, n < 18446744073709551616
  few : es.length ≤ 1000
/-- those that match -/
def some' (ps : List (List UInt8)) (es : List Br) : List Br := es.filter fun x => ps.isEmpty || anyB x.2.1 ps
theorem two_ss {w : World} (x y : List UInt8) : Ss (Lt (w.heap.size + 1)) (w.alloc (.cells #[.string ⟨x.toArray⟩, .string ⟨y.toArray⟩] 9)) (.slice (some ⟨w.heap.size, 0, none⟩) 2 2) [x, y] := ⟨row_two, by unfold lim; simp⟩
/-- what get answers of what lies there -/
theorem cget_cat {A V : Nat → Prop} {B b : Nat} {w : World} {u : Value} {l : List Th} {p q : List UInt8} {es : List Br} {x : Br} (hI : VaultIs B V w b (tget l) l.length) (hc : Cat l (p ++ q) es) (hx : x ∈ es) (hp : p.length ≤ 1000) (hq : q.length ≤ 1000) (hu : Ss A w u [q, hex x.1]) :
    Calls Tryz.prog 32 #[.agg #[.pointer (some ⟨b, 0, none⟩), .string ⟨p.toArray⟩], .int .i64 0, u] w fun e w' => ∃ v', e = .returned (.tuple #[v', .string ⟨x.2.1.toArray⟩, .bool true]) ∧ Un w.heap.size w' v' x.2.2 ∧ Below w.heap.size w w' := by
  have hh : (hex x.1).length = 16 := by simp [hex]
  have h := cget_some (ps := [q, hex x.1]) p 0 hI hu (by simp [hh]; omega) (by have := hc.get x hx; simpa [List.append_assoc] using this) (hc.ats x hx).1 (hc.ats x hx).2 (by have := hc.nam x hx; omega)
  exact h.mono fun e w' ⟨v', h1, h2, h3⟩ => ⟨v', by rw [h1, decide_eq_true (by omega)], h2, h3⟩
theorem ss_slice {w w' : World} {x y : List UInt8} {g : Nat} (h : w.heap[g]? = some (.cells #[.string ⟨x.toArray⟩, .string ⟨y.toArray⟩] 9 (0, 0))) : Ss (fun k => k = g) w (.slice (some ⟨g, 0, none⟩) 2 2) [x, y] := by
  refine ⟨⟨rfl, _, _, rfl, Nat.le_refl _, by simp, fun j u hj => ⟨g, 0, rfl, rfl, ?_⟩⟩, by unfold lim; simp⟩
  match j, hj with
  | 0, hj => simp [sv] at hj; subst hj; simp only [World.cell?, h]; rfl
  | 1, hj => simp [sv] at hj; subst hj; simp only [World.cell?, h]; rfl
theorem keep_set {w : World} {g h o o' : Nat} {u v : Value} (hne : h ≠ g) (hc : w.cell? ⟨g, o, none⟩ = some v) : (w.setCell ⟨h, o', none⟩ u).cell? ⟨g, o, none⟩ = some v := by
  rw [World.cell?_setCell_far]
  · exact hc
  · simpa using hne
theorem frozen_alloc {w : World} {g o : Nat} {v : Value} {ob : Obj} (hf : w.frozen? ⟨g, o, none⟩ = false) (hc : w.cell? ⟨g, o, none⟩ = some v) : (w.alloc ob).frozen? ⟨g, o, none⟩ = false :=
  ((up_alloc w ob).frozen (p := ⟨g, o, none⟩) (World.block_lt_of_cell? w ⟨g, o, none⟩ hc)).trans hf
theorem hg_two (w : World) (o o' : Obj) : ((w.alloc o).alloc o').heap[w.heap.size]? = some o :=
  ((up_alloc (w.alloc o) o').block w.heap.size (by simp)).trans (heap_alloc_new w o)
theorem hg_next (w : World) (o o' : Obj) : ((w.alloc o').alloc o).heap[w.heap.size + 1]? = some o := by
  have h := heap_alloc_new (w.alloc o') o
  simpa using h
theorem with_fact {p q : Prop} (h : p) (k : p → q) : q := k h
theorem later_box {W w : World} {a : Addr} {v : Value} (hb : Below W.heap.size W w) (h1 : W.cell? a = some v) (h2 : W.frozen? a = false) : w.cell? a = some v ∧ w.frozen? a = false :=
  ⟨cell_later hb h1, (hb.frozen (World.block_lt_of_cell? W a h1)).trans h2⟩
theorem row3_one {w : World} {x y z : Value} {e : TypeId} : Row 3 (fun k => k = w.heap.size) (w.alloc (.cells #[x, y, z] e)) (.slice (some ⟨w.heap.size, 0, none⟩) 1 1) 1 [x, y, z] := by
  obtain ⟨h0, h1, h2⟩ := box3 (w := w) (x := x) (y := y) (z := z) (e := e)
  refine ⟨rfl, _, _, rfl, Nat.le_refl _, by simp, fun j u hj => ⟨_, _, rfl, rfl, ?_⟩⟩
  match j, hj with
  | 0, hj => simp at hj; subst hj; exact h0
  | 1, hj => simp at hj; subst hj; exact h1
  | 2, hj => simp at hj; subst hj; exact h2
/-- behind the region: the name's box, the numbers -/
structure Fin5 (wk W : World) (g : Nat) (v : Value) (ns : List Nat) (nm : List UInt8) : Prop where
  cell : W.cell? ⟨g, 0, none⟩ = some (.string ⟨nm.toArray⟩)
  bl : Below wk.heap.size wk W
  un : Un wk.heap.size W v ns
theorem fin_set {wk w3 : World} {G S : Nat} {v u0 : Value} {ns : List Nat} {nm : List UInt8} (hB : Below wk.heap.size wk w3) (hG : wk.heap.size ≤ G) (hS : G < S) (hO : Un S w3 v ns) (hc : w3.cell? ⟨G, 0, none⟩ = some u0) : Fin5 wk (w3.setCell ⟨G, 0, none⟩ (.string ⟨nm.toArray⟩)) G v ns nm := by
  have hw := Wb.set (X := fun k => k = G) w3 G 0 (.string ⟨nm.toArray⟩) rfl
  refine ⟨?_, hB.trans (hw.below hB.size fun k hk => by subst hk; exact hG), Un.mono (show Un S _ v ns from own_wb hO hw fun k hk e => ?_) (by omega)⟩
  · exact World.cell?_setCell_same _ _ _ hc
  · subst hk
    have := (World.ownsRow.lt hO _ e.symm).1
    omega
theorem fin_alloc {wk w3 : World} {S : Nat} {v : Value} {ns : List Nat} {nm : List UInt8} (hB : Below wk.heap.size wk w3) (hS : wk.heap.size ≤ S) (hO : Un S w3 v ns) : Fin5 wk (w3.alloc (.cells #[.string ⟨nm.toArray⟩] 9)) w3.heap.size v ns nm := by
  refine ⟨?_, bt hB (up_alloc _ _), (hO.up (up_alloc _ _)).mono hS⟩
  have hb := heap_alloc_new w3 (.cells #[.string ⟨nm.toArray⟩] 9)
  simp only [World.cell?, hb]; rfl
set_option maxRecDepth 100000 in
set_option maxHeartbeats 8000000 in
/-- Barriers -/
theorem barriers_any {A V : Nat → Prop} {B b : Nat} {w : World} {l : List Th} {u : Value} {ps : List (List UInt8)} {es : List Br} (p : List UInt8) (inc : Nat) (hI : VaultIs B V w b (tget l) l.length) (hA : Asc l) (hn : l.length ≤ 100000) (hl : p.length ≤ 100) (hs : ∀ t ∈ l, t.1.length ≤ maxLen) (hi : inc < 18446744073709551616) (hc : Cat l (p ++ catp inc) es) (hp : Ss A w u ps) (hps : ∀ q ∈ ps, q.length ≤ 1000) :
    Calls Tryz.prog 13 #[.agg #[.pointer (some ⟨b, 0, none⟩), .string ⟨p.toArray⟩], .int .u64 (inc : Int), u] w fun e w' => ∃ v', e = .returned v' ∧ BrO w.heap.size w' v' (some' ps es) ∧ Below w.heap.size w w' := by
  obtain ⟨W, hW⟩ : ∃ W, W = w.alloc (.cells #[.pointer (some ⟨b, 0, none⟩), .string ⟨p.toArray⟩] 29) := ⟨_, rfl⟩
  have HB : Hid (Below w.heap.size w W) := by rw [hW]; exact up_alloc _ _
  have hcc : W.cell? ⟨w.heap.size, 0, none⟩ = some (.pointer (some ⟨b, 0, none⟩)) ∧ W.cell? ⟨w.heap.size, 1, none⟩ = some (.string ⟨p.toArray⟩) := by rw [hW]; exact two_cells
  obtain ⟨hc0, hc1⟩ := hcc
  have HI := Hid.mk' (hI.up HB.out)
  have HP := Hid.mk' (hp.up HB.out)
  have HPS := Hid.mk' hps
  have HC := Hid.mk' hc
  have HCL : Hid ((catp inc).length = 21) := by show _ = _; simp [catp, hex]
  have HPL : Hid (p.length ≤ 100) := hl
  have HCA : Hid (∀ w', Below W.heap.size W w' → Calls Tryz.prog 31 #[.agg #[.pointer (some ⟨b, 0, none⟩), .string ⟨p.toArray⟩], .string ⟨(catp inc).toArray⟩] w' fun e w'' => ∃ v', e = .returned v' ∧ Un w'.heap.size w'' v' (es.map (·.1)) ∧ Below w'.heap.size w' w'') := fun w' hb => by
    have := call_any p (catp inc) (HI.out.up hb) hA hn (by have := HCL.out; have := HPL.out; omega) hs
    rwa [HC.out.all] at this
  have HSH : Hid (∀ w', Calls Tryz.prog 28 #[.int .u64 (inc : Int)] w' fun e w'' => e = .returned (.string ⟨(catp inc).toArray⟩) ∧ Below w'.heap.size w' w'') := fun w' => shelf_any inc hi w'
  have HLE : Hid (es.length ≤ 1000) := hc.few
  obtain ⟨ua, uc, rfl, _⟩ := hp.at
  have hpsl : (ps.length : Int) ≤ 140737488351232 := by have := hp.2; unfold lim at this; omega
  generalize hq : catp inc = q at *
  have HQ := Hid.mk' hq
  clear hq hI hA hn hl hs hi hc hp hps
  go_enter Tryz.func13, Tryz.ntmps13
  go_upto_region 2 with fail
  rw [← hW]
  clear hW
  have r0 : ∀ q : Kp (fun _ => False) W, q.nx.cell? ⟨w.heap.size, 0, none⟩ = some _ := fun q => q.cell hc0 id
  have r1 : ∀ q : Kp (fun _ => False) W, q.nx.cell? ⟨w.heap.size, 1, none⟩ = some _ := fun q => q.cell hc1 id
  refine wp_region_mix 6 (fun w' => ∃ q : Kp (fun _ => False) W, w' = q.nx) (by kernel_rfl) (by kernel_rfl) (kp_first _ W) ?_
  simp only [List.take_succ_cons, List.take_zero, List.drop_succ_cons, List.drop_zero]
  refine mx_take 2 rfl ?_
  simp only [List.take_succ_cons, List.take_zero, List.drop_succ_cons, List.drop_zero]
  repeat (go_big_quiet_step (fail))
  refine wpQuiet_nil ?_
  have hd := drew_blx W W.heap.size
  refine mx_call (vals := [.int .u64 (inc : Int)]) Tryz.func28 (by kernel_rfl) rfl rfl (by kernel_rfl) (by kernel_rfl) (HSH.out _) (fun e wa ha => ?_)
  obtain ⟨rfl, hba⟩ := ha
  have HBA := Hid.mk' (hd.trans hba)
  refine ⟨_, rfl, kp_mk HBA.out.size fun k hk _ => HBA.out.block k hk, ?_⟩
  simp only [Act.put, List.setIfInBounds_toArray, List.set_cons_succ, List.set_cons_zero]
  refine mx_call (vals := [.agg #[.pointer (some ⟨b, 0, none⟩), .string ⟨p.toArray⟩], .string ⟨q.toArray⟩]) Tryz.func31 (by kernel_rfl) rfl rfl (by kernel_rfl) (by kernel_rfl) (HCA.out wa HBA.out) (fun e wb hb => ?_)
  obtain ⟨v1, rfl, hv1, hbb⟩ := hb
  have HBW := Hid.mk' (bt HBA.out hbb)
  refine ⟨_, rfl, kp_mk HBW.out.size fun k hk _ => HBW.out.block k hk, ?_⟩
  have HV1 : Hid (Us (Lt wb.heap.size) wb v1 (es.map (·.1))) := hv1.us (fun n hn => by
    obtain ⟨x, hx, rfl⟩ := List.mem_map.1 hn
    exact HC.out.num x hx) (by rw [List.length_map]; have := HLE.out; unfold lim; omega)
  obtain ⟨a1, c1, rfl⟩ := own_slice hv1
  simp only [Act.put, List.setIfInBounds_toArray, List.set_cons_succ, List.set_cons_zero]
  refine mx_take 2 rfl ?_
  simp only [List.take_succ_cons, List.take_zero, List.drop_succ_cons, List.drop_zero]
  repeat (go_big_quiet_step (fail))
  refine wpQuiet_nil ?_
  simp only [wpMix]
  have hk0 := cell_later HBW.out hc0
  have hk1 := cell_later HBW.out hc1
  have HB1 := Hid.mk' (bt HB.out HBW.out)
  have HI1 := Hid.mk' (HI.out.up HBW.out)
  have HP1 := Hid.mk' (HP.out.up HBW.out)
  have HWL : Hid (w.heap.size < wb.heap.size) := World.block_lt_of_cell? wb ⟨w.heap.size, 0, none⟩ hk0
  clear hc0 hc1 r0 r1 hd hba hv1 hbb HCA
  have HO0 : Hid (BrO wb.heap.size wb (.slice none 0 0) (some' ps (es.take 0))) := BrO.nil
  have HB0 : Hid (Below wb.heap.size wb wb) := Below.refl _ _
  have HLM : Hid ((es.map (·.1)).length = es.length) := List.length_map _
  have hel : (es.length : Int) ≤ 1000 := by have := HLE.out; omega
  rw [HLM.out]
  go_wp2_with fail
  go_loopw [7, 19] (fun y i wr => ∃ (k : Nat), k ≤ es.length ∧ i = .int .i64 k ∧ Hid (BrO wb.heap.size wr y (some' ps (es.take k))) ∧ Hid (Below wb.heap.size wb wr)) (fun _ i _ => es.length - (intOf i).toNat)
  case atStart => exact ⟨0, by omega, rfl, HO0, HB0⟩
  case round =>
    clear HO0 HB0
    obtain ⟨k, hk, rfl, HO, HBR⟩ := hrel
    rename World => wk
    by_cases hlt : k < es.length
    case neg =>
      obtain rfl : k = es.length := by omega
      rw [List.take_length] at HO
      clear hlt
      go_wp2_with fail
      go_ret
      exact ⟨_, rfl, HO.out.mono HB1.out.size, bt HB1.out HBR.out⟩
    have hlt' : (k : Int) < (es.length : Int) := by omega
    have k0 := cell_later HBR.out hk0
    have k1 := cell_later HBR.out hk1
    obtain ⟨_, _, ev, _, _, H1⟩ := HV1.out.at
    cases ev
    obtain ⟨b1, o1, rfl, _, hu1⟩ := H1 k (by rw [List.length_map]; exact hlt)
    have hu1 := cell_later HBR.out hu1
    have HX : Hid (es[k] ∈ es) := List.getElem_mem hlt
    have HTK : Hid (es.take (k + 1) = es.take k ++ [es[k]]) := List.take_succ_eq_append_getElem hlt
    rw [List.getElem_map] at hu1
    clear H1 HLM
    generalize es[k] = x at *
    have HSH1 := HSH
    have HNU : Hid (∀ w', Calls Tryz.prog 29 #[.int .u64 (x.1 : Int)] w' fun e w'' => e = .returned (.string ⟨(hex x.1).toArray⟩) ∧ Below w'.heap.size w' w'') := fun w' => number_any x.1 (HC.out.num x HX.out) w'
    have HCG : Hid (∀ w' g, Below wk.heap.size wk w' → w'.heap[g]? = some (.cells #[.string ⟨q.toArray⟩, .string ⟨(hex x.1).toArray⟩] 9 (0, 0)) → Calls Tryz.prog 32 #[.agg #[.pointer (some ⟨b, 0, none⟩), .string ⟨p.toArray⟩], .int .i64 0, .slice (some ⟨g, 0, none⟩) 2 2] w' fun e w'' => ∃ v', e = .returned (.tuple #[v', .string ⟨x.2.1.toArray⟩, .bool true]) ∧ Un w'.heap.size w'' v' x.2.2 ∧ Below w'.heap.size w' w'') := fun w' g hb hg => cget_cat ((HI1.out.up HBR.out).up hb) HC.out HX.out (by have := HPL.out; omega) (by have := HCL.out; omega) (ss_slice (w' := w') hg)
    go_upto_region 5 with fail
    clear hu1
    have hwl : w.heap.size < wk.heap.size := World.block_lt_of_cell? wk ⟨w.heap.size, 0, none⟩ k0
    go_region_held3 (fun w' => w'.cell? ⟨w.heap.size, 0, none⟩ = some (.pointer (some ⟨b, 0, none⟩)) ∧ w'.cell? ⟨w.heap.size, 1, none⟩ = some (.string ⟨p.toArray⟩)) (first | go_keep | (refine ⟨keep_set (by omega) (by assumption), keep_set (by omega) (by assumption)⟩)) (first | (go_at_call 28; refine (HSH.out _).mono ?_; rintro e w1 ⟨rfl, hb1⟩; have j1 : w1.cell? ⟨w.heap.size, 0, none⟩ = some (.pointer (some ⟨b, 0, none⟩)) := cell_later hb1 (by first | assumption | go_keep); have i1 : w1.cell? ⟨w.heap.size, 1, none⟩ = some (.string ⟨p.toArray⟩) := cell_later hb1 (by first | assumption | go_keep); (try (refine with_fact (p := w1.cell? ⟨wk.heap.size, 0, none⟩ = some (.string ⟨#[]⟩) ∧ w1.frozen? ⟨wk.heap.size, 0, none⟩ = false) ?_ (fun hx1 => ?_); (refine later_box hb1 ?_ ?_ <;> (first | assumption | go_keep | (refine frozen_alloc (v := .string ⟨#[]⟩) ?_ ?_ <;> assumption))); obtain ⟨x1, y1⟩ := hx1)); have hl1 : w.heap.size < w1.heap.size := World.block_lt_of_cell? w1 ⟨w.heap.size, 0, none⟩ j1; have hB1 : Below wk.heap.size wk w1 := bt (by first | assumption | exact drew_blx _ _ | exact bt (by assumption) (up_alloc _ _) | exact (up_alloc _ _).trans (drew_blx _ _) | exact bt (bt (by assumption) (up_alloc _ _)) (up_alloc _ _)) hb1; clear hb1) | (go_at_call 29; refine (HNU.out _).mono ?_; rintro e w2 ⟨rfl, hb2⟩; have j2 : w2.cell? ⟨w.heap.size, 0, none⟩ = some (.pointer (some ⟨b, 0, none⟩)) := cell_later hb2 (by first | assumption | go_keep); have i2 : w2.cell? ⟨w.heap.size, 1, none⟩ = some (.string ⟨p.toArray⟩) := cell_later hb2 (by first | assumption | go_keep); (try (refine with_fact (p := w2.cell? ⟨wk.heap.size, 0, none⟩ = some (.string ⟨#[]⟩) ∧ w2.frozen? ⟨wk.heap.size, 0, none⟩ = false) ?_ (fun hx2 => ?_); (refine later_box hb2 ?_ ?_ <;> (first | assumption | go_keep | (refine frozen_alloc (v := .string ⟨#[]⟩) ?_ ?_ <;> assumption))); obtain ⟨x2, y2⟩ := hx2)); (try (refine with_fact (p := w2.cell? ⟨w1.heap.size, 0, none⟩ = some (.string ⟨#[]⟩) ∧ w2.frozen? ⟨w1.heap.size, 0, none⟩ = false) ?_ (fun hx2b => ?_); (refine later_box hb2 ?_ ?_ <;> (first | assumption | go_keep | (refine frozen_alloc (v := .string ⟨#[]⟩) ?_ ?_ <;> assumption))); obtain ⟨x2b, y2b⟩ := hx2b)); have hl2 : w.heap.size < w2.heap.size := World.block_lt_of_cell? w2 ⟨w.heap.size, 0, none⟩ j2; have hB2 : Below wk.heap.size wk w2 := bt (by first | assumption | exact drew_blx _ _ | exact bt (by assumption) (up_alloc _ _) | exact (up_alloc _ _).trans (drew_blx _ _) | exact bt (bt (by assumption) (up_alloc _ _)) (up_alloc _ _)) hb2; clear hb2) | (go_at_call 32; refine (HCG.out _ _ (by first | assumption | exact drew_blx _ _ | exact bt (by assumption) (up_alloc _ _) | exact (up_alloc _ _).trans (drew_blx _ _) | exact bt (bt (by assumption) (up_alloc _ _)) (up_alloc _ _)) (by first | exact heap_alloc_new _ _ | exact hg_two _ _ _ | exact hg_next _ _ _)).mono ?_; rintro e w3 ⟨v3, rfl, ho3, hb3⟩; have j3 : w3.cell? ⟨w.heap.size, 0, none⟩ = some (.pointer (some ⟨b, 0, none⟩)) := cell_later hb3 (by first | assumption | go_keep); have i3 : w3.cell? ⟨w.heap.size, 1, none⟩ = some (.string ⟨p.toArray⟩) := cell_later hb3 (by first | assumption | go_keep); (try (refine with_fact (p := w3.cell? ⟨wk.heap.size, 0, none⟩ = some (.string ⟨#[]⟩) ∧ w3.frozen? ⟨wk.heap.size, 0, none⟩ = false) ?_ (fun hx3 => ?_); (refine later_box hb3 ?_ ?_ <;> (first | assumption | go_keep | (refine frozen_alloc (v := .string ⟨#[]⟩) ?_ ?_ <;> assumption))); obtain ⟨x3, y3⟩ := hx3)); (try (refine with_fact (p := w3.cell? ⟨w1.heap.size, 0, none⟩ = some (.string ⟨#[]⟩) ∧ w3.frozen? ⟨w1.heap.size, 0, none⟩ = false) ?_ (fun hx3b => ?_); (refine later_box hb3 ?_ ?_ <;> (first | assumption | go_keep | (refine frozen_alloc (v := .string ⟨#[]⟩) ?_ ?_ <;> assumption))); obtain ⟨x3b, y3b⟩ := hx3b)); (try (refine with_fact (p := w3.cell? ⟨w2.heap.size, 0, none⟩ = some (.string ⟨#[]⟩) ∧ w3.frozen? ⟨w2.heap.size, 0, none⟩ = false) ?_ (fun hx3c => ?_); (refine later_box hb3 ?_ ?_ <;> (first | assumption | go_keep | (refine frozen_alloc (v := .string ⟨#[]⟩) ?_ ?_ <;> assumption))); obtain ⟨x3c, y3c⟩ := hx3c)); (try (refine with_fact (p := w3.cell? ⟨w2.heap.size + 1, 0, none⟩ = some (.string ⟨#[]⟩) ∧ w3.frozen? ⟨w2.heap.size + 1, 0, none⟩ = false) ?_ (fun hx3d => ?_); (refine later_box hb3 ?_ ?_ <;> (first | assumption | go_keep | (refine frozen_alloc (v := .string ⟨#[]⟩) ?_ ?_ <;> assumption))); obtain ⟨x3d, y3d⟩ := hx3d)); have hl3 : w.heap.size < w3.heap.size := World.block_lt_of_cell? w3 ⟨w.heap.size, 0, none⟩ j3; have hB3 : Below wk.heap.size wk w3 := bt (by first | assumption | exact drew_blx _ _ | exact bt (by assumption) (up_alloc _ _) | exact (up_alloc _ _).trans (drew_blx _ _) | exact bt (bt (by assumption) (up_alloc _ _)) (up_alloc _ _)) hb3; have HO3 := Hid.mk' ho3; clear hb3 ho3))
    have HF : Hid (Fin5 wk (w3.alloc (.cells #[.string ⟨x.2.1.toArray⟩] 9)) w3.heap.size v3 x.2.2 x.2.1) := fin_alloc hB3 (by have := hB1.size; have := hB2.size; first | (simp; done) | (simp; omega)) HO3.out
    generalize w3.alloc (.cells #[.string ⟨x.2.1.toArray⟩] 9) = W5 at *
    generalize w3.heap.size = g5 at *
    rotate_left
    have HF : Hid (Fin5 wk (w3.setCell ⟨w2.heap.size + 1, 0, none⟩ (.string ⟨x.2.1.toArray⟩)) (w2.heap.size + 1) v3 x.2.2 x.2.1) := fin_set hB3 (by have := hB1.size; have := hB2.size; omega) (by have := hB1.size; have := hB2.size; first | (simp; done) | (simp; omega)) HO3.out x3d
    generalize w3.setCell ⟨w2.heap.size + 1, 0, none⟩ (.string ⟨x.2.1.toArray⟩) = W5 at *
    generalize hg5 : w2.heap.size + 1 = g5 at *
    rotate_left
    have HF : Hid (Fin5 wk (w3.setCell ⟨w2.heap.size, 0, none⟩ (.string ⟨x.2.1.toArray⟩)) (w2.heap.size) v3 x.2.2 x.2.1) := fin_set hB3 (by have := hB1.size; have := hB2.size; omega) (by have := hB1.size; have := hB2.size; first | (simp; done) | (simp; omega)) HO3.out x3c
    generalize w3.setCell ⟨w2.heap.size, 0, none⟩ (.string ⟨x.2.1.toArray⟩) = W5 at *
    generalize hg5 : w2.heap.size = g5 at *
    rotate_left
    have HF : Hid (Fin5 wk (w3.setCell ⟨w1.heap.size, 0, none⟩ (.string ⟨x.2.1.toArray⟩)) (w1.heap.size) v3 x.2.2 x.2.1) := fin_set hB3 (by have := hB1.size; have := hB2.size; omega) (by have := hB1.size; have := hB2.size; have := World.block_lt_of_cell? w2 ⟨w1.heap.size, 0, none⟩ x2b; simp at this ⊢; omega) HO3.out x3b
    generalize w3.setCell ⟨w1.heap.size, 0, none⟩ (.string ⟨x.2.1.toArray⟩) = W5 at *
    generalize hg5 : w1.heap.size = g5 at *
    rotate_left
    have HF : Hid (Fin5 wk (w3.setCell ⟨wk.heap.size, 0, none⟩ (.string ⟨x.2.1.toArray⟩)) (wk.heap.size) v3 x.2.2 x.2.1) := fin_set hB3 (by have := hB1.size; have := hB2.size; omega) (by have := hB1.size; have := hB2.size; have := World.block_lt_of_cell? w2 ⟨wk.heap.size, 0, none⟩ x2; simp at this ⊢; omega) HO3.out x3
    generalize w3.setCell ⟨wk.heap.size, 0, none⟩ (.string ⟨x.2.1.toArray⟩) = W5 at *
    generalize hg5 : wk.heap.size = g5 at *
    rotate_left
    all_goals
      have HLE5 : Hid ((some' ps (es.take k)).length ≤ 1000) := by
        show _ ≤ _
        have h1 := List.length_filter_le (fun x : Br => ps.isEmpty || anyB x.2.1 ps) (es.take k)
        have h2 : (es.take k).length ≤ es.length := List.length_take_le' _ _
        have := HLE.out
        unfold some'
        omega
      have HST : Hid (some' ps (es.take (k + 1)) = some' ps (es.take k) ++ (if ps.isEmpty || anyB x.2.1 ps then [x] else [])) := by
        show _ = _
        rw [HTK.out]
        unfold some'
        rw [List.filter_append, List.filter_cons, List.filter_nil]
      have HBW5 := Hid.mk' (HBR.out.trans (HF.out.bl.mono HBR.out.size))
      obtain ⟨a5, c5, e5⟩ := own_slice HF.out.un
      subst e5
      have c0 := HF.out.cell
      have HNB : Hid (x.2.1.length ≤ 1000) := HC.out.nam x HX.out
      have hmf : ∀ (fn : Fn) (first cap : Array Value) (w : World), (Instr.makeFunc fn first cap).run Tryz.prog w = .ok (.func fn first cap) w := fun _ _ _ _ => rfl
      clear HCG HNU HSH1
      by_cases hpz : ps.length = 0
      · have hz : ((ps.length : Int) == 0) = true := by rw [beq_iff_eq]; omega
        have HM : Hid ((ps.isEmpty || anyB x.2.1 ps) = true) := by show _ = _; rw [List.eq_nil_of_length_eq_zero hpz]; rfl
        rw [HM.out, if_pos rfl] at HST
        clear hpz
        obtain ⟨pv, hp1, hp2, hp3⟩ := HO.out
        obtain ⟨ya, yc, ey⟩ := own_sliceN hp2
        subst ey
        have HPA := Hid.mk' hp1
        have hup := up_alloc W5 (.cells #[.int .u64 (x.1 : Int), .string ⟨x.2.1.toArray⟩, .slice a5 x.2.2.length c5] 38)
        have HBA := Hid.mk' (HBW5.out.trans (hup.mono HBW5.out.size))
        have HKA := Hid.mk' (bt HF.out.bl hup)
        have HOA := Hid.mk' (own_keep hp2 HKA.out (Nat.le_refl _))
        have HUA : Hid (∀ p ∈ pv, Un wb.heap.size (W5.alloc (.cells #[.int .u64 (x.1 : Int), .string ⟨x.2.1.toArray⟩, .slice a5 x.2.2.length c5] 38)) p.2 p.1.2.2) := fun p hp => (hp3 p hp).up HKA.out
        have HVA : Hid (Un wb.heap.size (W5.alloc (.cells #[.int .u64 (x.1 : Int), .string ⟨x.2.1.toArray⟩, .slice a5 x.2.2.length c5] 38)) (.slice a5 x.2.2.length c5) x.2.2) := (HF.out.un.up hup).mono HBR.out.size
        clear hp1 hp2 hp3 hup
        go_wp2_with (at_builtin; go_must (refine wpl_app rfl (.tmp 46) (.tmp 51) 43 rfl Tryz.underlying43 Tryz.info38 rfl (by decide) rfl HOA.out rfl row3_one (by intro u hu; simp only [List.mem_cons, List.not_mem_nil, or_false] at hu; rcases hu with rfl | rfl | rfl <;> rfl) (by have := HLE5.out; unfold maxLen; omega) (by have := HLE5.out; omega) HBA.out.size ?_); intro v6 w6 ho hg hn2 hbb)
        have HB6 : Hid (Below wb.heap.size wb w6) := below_app HBA.out HOA.out hg (Nat.le_refl _) HBA.out.size
        have HO6 : Hid (BrO wb.heap.size w6 v6 (some' ps (es.take (k + 1)))) := by rw [HST.out]; exact BrO.app HPA.out HOA.out HUA.out HVA.out hg ho
        clear ho hg hn2 hbb
        go_roundw
        case rel => exact ⟨k + 1, by omega, by go_num, HO6, HB6⟩
        case measure => simp [intOf]; omega
      · have hz : ((ps.length : Int) == 0) = false := by rw [beq_eq_false_iff_ne]; omega
        have HM : Hid ((ps.isEmpty || anyB x.2.1 ps) = anyB x.2.1 ps) := by
          show _ = _
          cases ps with
          | nil => simp at hpz
          | cons a b => rfl
        rw [HM.out] at HST
        have HH := Hid.mk' (has34 (HP1.out.up HBW5.out) HPS.out HNB.out c0)
        clear hpz HM
        cases hany : anyB x.2.1 ps with
        | true =>
          rw [hany, if_pos rfl] at HST
          rw [hany] at HH
          clear hany
          go_wp2_with fail
          refine HH.out.mono ?_
          rintro e w7 ⟨rfl, hd⟩
          have HBW7 := Hid.mk' (HBW5.out.trans (hd.below wb.heap.size))
          have HF7 := Hid.mk' (HF.out.bl.trans (hd.below wk.heap.size))
          have HU7 := Hid.mk' (HF.out.un.up (hd.below W5.heap.size))
          have c0 := cell_later (hd.below W5.heap.size) c0
          clear hd HH hz
          obtain ⟨pv, hp1, hp2, hp3⟩ := HO.out
          obtain ⟨ya, yc, ey⟩ := own_sliceN hp2
          subst ey
          have HPA := Hid.mk' hp1
          have hup := up_alloc w7 (.cells #[.int .u64 (x.1 : Int), .string ⟨x.2.1.toArray⟩, .slice a5 x.2.2.length c5] 38)
          have HBA := Hid.mk' (HBW7.out.trans (hup.mono HBW7.out.size))
          have HKA := Hid.mk' (bt HF7.out hup)
          have HOA := Hid.mk' (own_keep hp2 HKA.out (Nat.le_refl _))
          have HUA : Hid (∀ p ∈ pv, Un wb.heap.size (w7.alloc (.cells #[.int .u64 (x.1 : Int), .string ⟨x.2.1.toArray⟩, .slice a5 x.2.2.length c5] 38)) p.2 p.1.2.2) := fun p hp => (hp3 p hp).up HKA.out
          have HVA : Hid (Un wb.heap.size (w7.alloc (.cells #[.int .u64 (x.1 : Int), .string ⟨x.2.1.toArray⟩, .slice a5 x.2.2.length c5] 38)) (.slice a5 x.2.2.length c5) x.2.2) := (HU7.out.up hup).mono HBR.out.size
          clear hp1 hp2 hp3 hup
          go_wp2_with (at_builtin; go_must (refine wpl_app rfl (.tmp 46) (.tmp 51) 43 rfl Tryz.underlying43 Tryz.info38 rfl (by decide) rfl HOA.out rfl row3_one (by intro u hu; simp only [List.mem_cons, List.not_mem_nil, or_false] at hu; rcases hu with rfl | rfl | rfl <;> rfl) (by have := HLE5.out; unfold maxLen; omega) (by have := HLE5.out; omega) HBA.out.size ?_); intro v6 w6 ho hg hn2 hbb)
          have HB6 : Hid (Below wb.heap.size wb w6) := below_app HBA.out HOA.out hg (Nat.le_refl _) HBA.out.size
          have HO6 : Hid (BrO wb.heap.size w6 v6 (some' ps (es.take (k + 1)))) := by rw [HST.out]; exact BrO.app HPA.out HOA.out HUA.out HVA.out hg ho
          clear ho hg hn2 hbb
          go_roundw
          case rel => exact ⟨k + 1, by omega, by go_num, HO6, HB6⟩
          case measure => simp [intOf]; omega
        | false =>
          rw [hany, if_neg (by decide), List.append_nil] at HST
          rw [hany] at HH
          clear hany
          go_wp2_with fail
          refine HH.out.mono ?_
          rintro e w7 ⟨rfl, hd⟩
          have HB7 := Hid.mk' (HBW5.out.trans (hd.below wb.heap.size))
          have HO7 : Hid (BrO wb.heap.size w7 u7 (some' ps (es.take (k + 1)))) := by rw [HST.out]; exact HO.out.up (HF.out.bl.trans (hd.below wk.heap.size))
          clear hd HH hz
          go_wp2_with fail
          go_roundw
          case rel => exact ⟨k + 1, by omega, by go_num, HO7, HB7⟩
          case measure => simp [intOf]; omega
end Go.Proofs.YtojgkjpmphfakaaGreatDoor
