/- How a pool lies in memory. The pool's small functions. Ids and Stats of a pool. A pool's table, as bytes. A slot that nobody needs. -/
import Derived.Test.YtbmhkdcmepfmbaaGreatB12
import Derived.Test.YtbmhkdcmepfmbaaGreatB13
import Derived.Test.YtbmhkdcmepfmbaaGreatB07
import Derived.Test.YtbmhkdcmepfmbaaGreatB04
import Derived.Maps.RangeWalk
import Derived.Laws.IdiomRangeMap
import Derived.LoopN
set_option linter.unusedVariables false
set_option linter.unusedSimpArgs false
namespace Go.Proofs.YtbmhkdcmepfmbaaGreat
open Go.RowKit
/-- a page at hand -/
structure Fr where
  data : By
  dirty : Bool
  used : Int
/-- a pool, in plain words -/
structure Ps where
  S : Al Int
  c : Int → Nat
  H : Al Fr
  hand : Int
  clock : Int
  hit : Int
  mis : Int
  ev : Int
def pfx_ : By := [112, 47]
def FrIs (D : Nat → Prop) (w : World) (g : Nat) (f : Fr) : Prop := ∃ v, w.heap[g]? = some (.cells #[v, .bool f.dirty, .int .i64 f.used] 94 (0, 0)) ∧ Bs D w v f.data
def sMap (S : Al Int) : Int → Option Value := fun i => (aget S i).map fun x => .int .i64 x
def hMap (H : Al Fr) (g : Int → Nat) : Int → Option Value := fun i => (aget H i).map fun _ => .pointer (some ⟨g i, 0, none⟩)
def pCells (b ms mf ma : Nat) (s : Ps) : Array Value := #[.pointer (some ⟨b, 0, none⟩), .string ⟨pfx_.toArray⟩, .int .i64 s.hand, .map (some ms), .map (some mf), .map (some ma), .int .i64 s.clock, .int .i64 s.hit, .int .i64 s.mis, .int .i64 s.ev]
/-- the pool's own blocks: T; where its pages' bytes lie: D -/
structure Pi (T D : Nat → Prop) (w : World) (p b : Nat) (s : Ps) (ms mf ma : Nat) (ff : Int → Option Value) (nf : Nat) (g : Int → Nat) : Prop where
  bx : w.heap[p]? = some (.cells (pCells b ms mf ma s) 67 (0, 0))
  sS : ASrt s.S
  sH : ASrt s.H
  mS : MapI Tryz.prog 3 w ms (sMap s.S) s.S.length
  mF : MapI Tryz.prog 3 w mf ff nf
  mH : MapI Tryz.prog 3 w ma (hMap s.H g) s.H.length
  cF : ∀ i, (ff i).getD (.int .i64 0) = .int .i64 (s.c i)
  fr : ∀ i f, aget s.H i = some f → FrIs D w (g i) f ∧ T (g i) ∧ g i ≠ p
  inj : ∀ i j, (aget s.H i).isSome → (aget s.H j).isSome → g i = g j → i = j
  tp : T p
  tS : T ms ∧ ms ≠ p
  tF : T mf ∧ mf ≠ p
  tH : T ma ∧ ma ≠ p
  ne : ms ≠ mf ∧ ms ≠ ma ∧ mf ≠ ma
  hT : ∀ k, T k → k < w.heap.size
  hD : ∀ k, D k → k < w.heap.size ∧ ¬ T k
def PoolIs (T D : Nat → Prop) (w : World) (p b : Nat) (s : Ps) : Prop := ∃ ms mf ma ff nf g, Pi T D w p b s ms mf ma ff nf g
theorem FrIs.keep {D X : Nat → Prop} {w w' : World} {g : Nat} {f : Fr} (h : FrIs D w g f) (hw : Wb X w w') (hX : ∀ k, X k → ¬ D k) (hg : ¬ X g) : FrIs D w' g f := by
  obtain ⟨v, h1, h2⟩ := h
  exact ⟨v, by rw [hw.block g (Array.getElem?_eq_some_iff.1 h1).1 hg]; exact h1, h2.wb hw hX⟩
theorem FrIs.mono {D D' : Nat → Prop} {w : World} {g : Nat} {f : Fr} (h : FrIs D w g f) (hD : ∀ k, D k → D' k) : FrIs D' w g f := by
  obtain ⟨v, h1, h2⟩ := h
  exact ⟨v, h1, h2.monoS hD⟩
theorem MapI.wb {X : Nat → Prop} {w w' : World} {m n : Nat} {f : Int → Option Value} (h : MapI Tryz.prog 3 w m f n) (hw : Wb X w w') (hm : ¬ X m) : MapI Tryz.prog 3 w' m f n := h.block (hw.block m h.lt hm)
section
variable {T D X : Nat → Prop} {w w' : World} {p b : Nat} {s : Ps} {ms mf ma : Nat} {ff : Int → Option Value} {nf : Nat} {g : Int → Nat}
theorem Pi.keep (h : Pi T D w p b s ms mf ma ff nf g) (hw : Wb X w w') (hX : ∀ k, X k → ¬ T k ∧ ¬ D k) : Pi T D w' p b s ms mf ma ff nf g where
  bx := by rw [hw.block p (h.hT _ h.tp) fun e => (hX _ e).1 h.tp]; exact h.bx
  sS := h.sS
  sH := h.sH
  mS := h.mS.wb hw fun e => (hX _ e).1 h.tS.1
  mF := h.mF.wb hw fun e => (hX _ e).1 h.tF.1
  mH := h.mH.wb hw fun e => (hX _ e).1 h.tH.1
  cF := h.cF
  fr := fun i f hf => ⟨(h.fr i f hf).1.keep hw (fun k hk => (hX k hk).2) fun e => (hX _ e).1 (h.fr i f hf).2.1, (h.fr i f hf).2⟩
  inj := h.inj
  tp := h.tp
  tS := h.tS
  tF := h.tF
  tH := h.tH
  ne := h.ne
  hT := fun k hk => Nat.lt_of_lt_of_le (h.hT k hk) hw.size
  hD := fun k hk => ⟨Nat.lt_of_lt_of_le (h.hD k hk).1 hw.size, (h.hD k hk).2⟩
theorem Pi.up (h : Pi T D w p b s ms mf ma ff nf g) (hb : Below w.heap.size w w') : Pi T D w' p b s ms mf ma ff nf g := h.keep (Wb.of_below (fun _ => False) hb) fun _ h => h.elim
theorem Pi.cells (h : Pi T D w p b s ms mf ma ff nf g) : (w.cell? ⟨p, 0, none⟩ = some (.pointer (some ⟨b, 0, none⟩)) ∧ w.cell? ⟨p, 1, none⟩ = some (.string ⟨pfx_.toArray⟩) ∧ w.cell? ⟨p, 2, none⟩ = some (.int .i64 s.hand) ∧ w.cell? ⟨p, 3, none⟩ = some (.map (some ms)) ∧ w.cell? ⟨p, 4, none⟩ = some (.map (some mf)) ∧ w.cell? ⟨p, 5, none⟩ = some (.map (some ma)) ∧ w.cell? ⟨p, 6, none⟩ = some (.int .i64 s.clock) ∧ w.cell? ⟨p, 7, none⟩ = some (.int .i64 s.hit) ∧ w.cell? ⟨p, 8, none⟩ = some (.int .i64 s.mis) ∧ w.cell? ⟨p, 9, none⟩ = some (.int .i64 s.ev)) ∧ ∀ i, w.frozen? ⟨p, i, none⟩ = false := by
  have hb := h.bx
  refine ⟨?_, fun i => by simp only [World.frozen?, hb]; simp⟩
  simp only [World.cell?, hb]
  exact ⟨rfl, rfl, rfl, rfl, rfl, rfl, rfl, rfl, rfl, rfl⟩
theorem Pi.plt (h : Pi T D w p b s ms mf ma ff nf g) : p < w.heap.size := h.hT _ h.tp
end
end Go.Proofs.YtbmhkdcmepfmbaaGreat
set_option linter.unusedVariables false
set_option linter.unusedSimpArgs false
namespace Go.Proofs.YtbmhkdcmepfmbaaGreat
open Go.RowKit
attribute [local go_sem ↓] Go.wp_at_zero Go.wp_at_succ
theorem z3 (w : World) : (zeroValue 3).run Tryz.prog w = .ok (.int .i64 0) w := by kernel_rfl
theorem z87 (w : World) : (zeroValue 87).run Tryz.prog w = .ok (.pointer none) w := by kernel_rfl
section
variable {T D X : Nat → Prop} {w w' : World} {p b : Nat} {s : Ps} {ms mf ma : Nat} {ff : Int → Option Value} {nf : Nat} {g : Int → Nat}
set_option maxRecDepth 100000 in
theorem has_any (h : Pi T D w p b s ms mf ma ff nf g) (id : Int) (hi : Wi id) : Calls Tryz.prog 32 #[.pointer (some ⟨p, 0, none⟩), .int .i64 id] w fun e w' => e = .returned (.bool (aget s.S id).isSome) ∧ w' = w := by
  obtain ⟨⟨c0, c1, c2, c3, c4, c5, c6, c7, c8, c9⟩, cf⟩ := h.cells
  have hp := h.plt
  have hlk := h.mS.look Tryz.underlying3 Tryz.underlying62 (z3 w) id hi
  have he : (sMap s.S id).isSome = (aget s.S id).isSome := by unfold sMap; rw [Option.isSome_map]
  rw [he] at hlk
  clear h c0 c1 c2 c4 c5 c6 c7 c8 c9 he
  generalize (aget s.S id).isSome = x at *
  go_enter Tryz.func32, Tryz.ntmps32
  go_wp2_with fail
  go_ret
  exact ⟨rfl, rfl⟩
set_option maxRecDepth 100000 in
theorem count_any (h : Pi T D w p b s ms mf ma ff nf g) : Calls Tryz.prog 53 #[.pointer (some ⟨p, 0, none⟩)] w fun e w' => e = .returned (.int .i64 s.S.length) ∧ w' = w := by
  obtain ⟨⟨c0, c1, c2, c3, c4, c5, c6, c7, c8, c9⟩, cf⟩ := h.cells
  have hp := h.plt
  have hlk := h.mS.len Tryz.underlying62 3
  clear h c0 c1 c2 c4 c5 c6 c7 c8 c9
  go_enter Tryz.func53, Tryz.ntmps53
  go_wp2_with fail
  go_ret
  exact ⟨rfl, rfl⟩
set_option maxRecDepth 100000 in
theorem hand_any (h : Pi T D w p b s ms mf ma ff nf g) : Calls Tryz.prog 24 #[.pointer (some ⟨p, 0, none⟩)] w fun e w' => e = .returned (.int .i64 s.H.length) ∧ w' = w := by
  obtain ⟨⟨c0, c1, c2, c3, c4, c5, c6, c7, c8, c9⟩, cf⟩ := h.cells
  have hp := h.plt
  have hlk := h.mH.len Tryz.underlying63 3
  clear h c0 c1 c2 c3 c4 c6 c7 c8 c9
  go_enter Tryz.func24, Tryz.ntmps24
  go_wp2_with fail
  go_ret
  exact ⟨rfl, rfl⟩
def nmP : By := [112, 47, 112, 97, 103, 101, 115]
def nmM : By := [112, 47, 109, 101, 116, 97]
set_option maxRecDepth 100000 in
theorem file_any {w : World} {p b : Nat} (c0 : w.cell? ⟨p, 0, none⟩ = some (.pointer (some ⟨b, 0, none⟩))) (c1 : w.cell? ⟨p, 1, none⟩ = some (.string ⟨pfx_.toArray⟩)) : Calls Tryz.prog 44 #[.pointer (some ⟨p, 0, none⟩)] w fun e w' => e = .returned (.string ⟨nmP.toArray⟩) ∧ Below w.heap.size w w' := by
  have hp : p < w.heap.size := World.block_lt_of_cell? w ⟨p, 0, none⟩ c0
  obtain ⟨W, hW⟩ : ∃ W, W = w.alloc (.cells #[.string ⟨#[112, 97, 103, 101, 115]⟩] 9) := ⟨_, rfl⟩
  have hb : Below w.heap.size w W := by rw [hW]; exact up_alloc _ _
  have hs : Ss (Lt (w.heap.size + 1)) W (.slice (some ⟨w.heap.size, 0, none⟩) 1 1) [[112, 97, 103, 101, 115]] := by rw [hW]; exact one_ss _
  have HC := Hid.mk' (path_any (b := b) pfx_ hs (by decide))
  have HB := Hid.mk' hb
  clear hs hb
  go_enter Tryz.func44, Tryz.ntmps44
  go_wp2_with fail
  rw [← hW]
  refine HC.out.mono ?_
  rintro e w2 ⟨rfl, hb2⟩
  have HB2 := Hid.mk' (bt HB.out hb2)
  clear hb2
  go_wp2_with fail
  go_ret
  exact ⟨rfl, HB2.out⟩
set_option maxRecDepth 100000 in
theorem meta_any {w : World} {p b : Nat} (c0 : w.cell? ⟨p, 0, none⟩ = some (.pointer (some ⟨b, 0, none⟩))) (c1 : w.cell? ⟨p, 1, none⟩ = some (.string ⟨pfx_.toArray⟩)) : Calls Tryz.prog 30 #[.pointer (some ⟨p, 0, none⟩)] w fun e w' => e = .returned (.string ⟨nmM.toArray⟩) ∧ Below w.heap.size w w' := by
  have hp : p < w.heap.size := World.block_lt_of_cell? w ⟨p, 0, none⟩ c0
  obtain ⟨W, hW⟩ : ∃ W, W = w.alloc (.cells #[.string ⟨#[109, 101, 116, 97]⟩] 9) := ⟨_, rfl⟩
  have hb : Below w.heap.size w W := by rw [hW]; exact up_alloc _ _
  have hs : Ss (Lt (w.heap.size + 1)) W (.slice (some ⟨w.heap.size, 0, none⟩) 1 1) [[109, 101, 116, 97]] := by rw [hW]; exact one_ss _
  have HC := Hid.mk' (path_any (b := b) pfx_ hs (by decide))
  have HB := Hid.mk' hb
  clear hs hb
  go_enter Tryz.func30, Tryz.ntmps30
  go_wp2_with fail
  rw [← hW]
  refine HC.out.mono ?_
  rintro e w2 ⟨rfl, hb2⟩
  have HB2 := Hid.mk' (bt HB.out hb2)
  clear hb2
  go_wp2_with fail
  go_ret
  exact ⟨rfl, HB2.out⟩
set_option maxRecDepth 100000 in
/-- touch -/
theorem touch_any {w : World} {p g : Nat} {k : Int} {x : Value} (c6 : w.cell? ⟨p, 6, none⟩ = some (.int .i64 k)) (cf : w.frozen? ⟨p, 6, none⟩ = false) (d2 : w.cell? ⟨g, 2, none⟩ = some x) (df : w.frozen? ⟨g, 2, none⟩ = false) (hne : g ≠ p) (h0 : 0 ≤ k) (h1 : k ≤ 1000000000) :
    Calls Tryz.prog 43 #[.pointer (some ⟨p, 0, none⟩), .pointer (some ⟨g, 0, none⟩)] w fun e w' => e = .returned (.tuple #[]) ∧ w' = (w.setCell ⟨p, 6, none⟩ (.int .i64 (k + 1))).setCell ⟨g, 2, none⟩ (.int .i64 (k + 1)) := by
  have hp : p < w.heap.size := World.block_lt_of_cell? w ⟨p, 6, none⟩ c6
  have hg : g < w.heap.size := World.block_lt_of_cell? w ⟨g, 2, none⟩ d2
  have hne' : ¬ p = g := fun e => hne e.symm
  go_enter Tryz.func43, Tryz.ntmps43
  go_wp2_with fail
  go_end0
  exact ⟨rfl, rfl⟩
theorem Pi.setS (h : Pi T D w p b s ms mf ma ff nf g) {S' : Al Int} (hw : Wb (fun k => k = ms) w w') (hm : MapI Tryz.prog 3 w' ms (sMap S') S'.length) (hS : ASrt S') : Pi T D w' p b { s with S := S' } ms mf ma ff nf g :=
  have hX : ∀ k, k = ms → ¬ D k := fun k hk hd => by subst hk; exact (h.hD _ hd).2 h.tS.1
  { bx := by rw [hw.block p (h.hT _ h.tp) fun e => h.tS.2 e.symm]; exact h.bx
    sS := hS
    sH := h.sH
    mS := hm
    mF := h.mF.wb hw fun e => h.ne.1 e.symm
    mH := h.mH.wb hw fun e => h.ne.2.1 e.symm
    cF := h.cF
    fr := fun i f hf => ⟨(h.fr i f hf).1.keep hw hX (fun e => by
      obtain ⟨v, h1, _⟩ := (h.fr i f hf).1
      obtain ⟨es, c, h2⟩ := h.mS.is
      rw [e, h2] at h1
      cases h1), (h.fr i f hf).2⟩
    inj := h.inj
    tp := h.tp
    tS := h.tS
    tF := h.tF
    tH := h.tH
    ne := h.ne
    hT := fun k hk => Nat.lt_of_lt_of_le (h.hT k hk) hw.size
    hD := fun k hk => ⟨Nat.lt_of_lt_of_le (h.hD k hk).1 hw.size, (h.hD k hk).2⟩ }
theorem Pi.setH (h : Pi T D w p b s ms mf ma ff nf g) {H' : Al Fr} (hw : Wb (fun k => k = ma) w w') (hm : MapI Tryz.prog 3 w' ma (hMap H' g) H'.length) (hH : ASrt H') (hsub : ∀ i f, aget H' i = some f → aget s.H i = some f) : Pi T D w' p b { s with H := H' } ms mf ma ff nf g :=
  have hX : ∀ k, k = ma → ¬ D k := fun k hk hd => by subst hk; exact (h.hD _ hd).2 h.tH.1
  have hso : ∀ i, (aget H' i).isSome → (aget s.H i).isSome := fun i hi => by
    obtain ⟨f, hf⟩ := Option.isSome_iff_exists.1 hi
    rw [hsub i f hf]; rfl
  { bx := by rw [hw.block p (h.hT _ h.tp) fun e => h.tH.2 e.symm]; exact h.bx
    sS := h.sS
    sH := hH
    mS := h.mS.wb hw h.ne.2.1
    mF := h.mF.wb hw h.ne.2.2
    mH := hm
    cF := h.cF
    fr := fun i f hf => ⟨(h.fr i f (hsub i f hf)).1.keep hw hX (fun e => by
      obtain ⟨v, h1, _⟩ := (h.fr i f (hsub i f hf)).1
      obtain ⟨es, c, h2⟩ := h.mH.is
      rw [e, h2] at h1
      cases h1), (h.fr i f (hsub i f hf)).2⟩
    inj := fun i j hi hj => h.inj i j (hso i hi) (hso j hj)
    tp := h.tp
    tS := h.tS
    tF := h.tF
    tH := h.tH
    ne := h.ne
    hT := fun k hk => Nat.lt_of_lt_of_le (h.hT k hk) hw.size
    hD := fun k hk => ⟨Nat.lt_of_lt_of_le (h.hD k hk).1 hw.size, (h.hD k hk).2⟩ }
theorem Wb.of_map {w w' : World} {m : Nat} (h : w.grownBy w' (some m)) : Wb (fun k => k = m) w w' := (Wb.of_grown h).mono fun k hk => by cases hk; rfl
theorem sMap_put (S : Al Int) (hS : ASrt S) (i v : Int) : (fun x => if x = i then some (.int .i64 v) else sMap S x) = sMap (aput S i v) := by
  funext x
  unfold sMap
  rw [aget_put hS]
  split <;> rfl
theorem sMap_del (S : Al Int) (hS : ASrt S) (i : Int) : (fun x => if x = i then none else sMap S x) = sMap (adel S i) := by
  funext x
  unfold sMap
  rw [aget_del hS]
  split <;> rfl
theorem hMap_del (H : Al Fr) (hS : ASrt H) (i : Int) : (fun x => if x = i then none else hMap H g x) = hMap (adel H i) g := by
  funext x
  unfold hMap
  rw [aget_del hS]
  split <;> rfl
theorem sMap_some (S : Al Int) (i : Int) : (sMap S i).isSome = (aget S i).isSome := by unfold sMap; rw [Option.isSome_map]
theorem hMap_some (H : Al Fr) (i : Int) : (hMap H g i).isSome = (aget H i).isSome := by unfold hMap; rw [Option.isSome_map]
theorem run_len {α : Type} : ∀ (n : Nat) (F : Al α), ASrt F → (∀ m : Nat, m < n → (aget F m).isSome) → n ≤ F.length
  | 0, _, _, _ => Nat.zero_le _
  | n + 1, F, hF, h => by
    have h1 := run_len n (adel F n) (hF.del _) (fun m hm => by
      rw [aget_del hF, if_neg (by omega)]
      exact h m (by omega))
    have h2 := h n (by omega)
    rw [len_adel, if_pos h2] at h1
    have : 0 < F.length := by
      cases F with
      | nil => simp [aget] at h2
      | cons a r => simp
    omega
set_option maxRecDepth 100000 in
set_option maxHeartbeats 1000000 in
/-- Alloc -/
theorem alloc_any (h : Pi T D w p b s ms mf ma ff nf g) (hl : s.S.length ≤ 60000) : Calls Tryz.prog 10 #[.pointer (some ⟨p, 0, none⟩)] w fun e w' => ∃ n : Nat, e = .returned (.tuple #[.int .i64 n, .int .i64 0]) ∧ aget s.S n = none ∧ (∀ m : Nat, m < n → (aget s.S m).isSome) ∧ n ≤ s.S.length ∧ Pi T D w' p b { s with S := aput s.S n (-1) } ms mf ma ff nf g ∧ Wb (fun k => k = ms) w w' := by
  obtain ⟨⟨c0, c1, c2, c3, c4, c5, c6, c7, c8, c9⟩, cf⟩ := h.cells
  have hp := h.plt
  have hlk := h.mS.len Tryz.underlying62 3
  have HH := Hid.mk' h
  have hli : (s.S.length : Int) ≤ 60000 := by omega
  have HHas : Hid (∀ n : Nat, n ≤ s.S.length → Calls Tryz.prog 32 #[.pointer (some ⟨p, 0, none⟩), .int .i64 n] w fun e w' => e = .returned (.bool (aget s.S n).isSome) ∧ w' = w) := fun n hn => has_any HH.out n (Wi.of (by omega) (by omega))
  have hge : ¬ (65536 : Int) ≤ (s.S.length : Int) := by omega
  clear h hl c0 c1 c2 c4 c5 c6 c7 c8 c9
  have HE0 : Hid (w = w) := rfl
  go_enter Tryz.func10, Tryz.ntmps10
  go_wp2_with fail
  go_loopw [4] (fun i wr => ∃ n : Nat, n ≤ s.S.length ∧ i = .int .i64 n ∧ Hid (∀ m : Nat, m < n → (aget s.S m).isSome) ∧ Hid (wr = w)) (fun i _ => s.S.length + 1 - (intOf i).toNat)
  case atStart => exact ⟨0, by omega, rfl, (fun m hm => by omega), Hid.mk' rfl⟩
  case round =>
    obtain ⟨n, hn, rfl, HM, HE1⟩ := hrel
    obtain rfl := HE1.out
    have hni : (n : Int) ≤ 60000 := by omega
    have hhas := HHas.out n hn
    by_cases hs : (aget s.S n).isSome
    case neg =>
      have hs' : (aget s.S n).isSome = false := by simpa using hs
      rw [hs'] at hhas
      have hst := HH.out.mS.store Tryz.underlying3 Tryz.underlying62 n (Wi.of (by omega) (by omega)) (.int .i64 (-1)) (by unfold maxLen; omega)
      obtain ⟨w9, hr9, hm9, hg9⟩ := hst
      rw [sMap_some, hs', sMap_put _ HH.out.sS] at hm9
      have HM9 : Hid (Pi T D w9 p b { s with S := aput s.S n (-1) } ms mf ma ff nf g) := HH.out.setS (Wb.of_map hg9) (by rw [len_aput _ HH.out.sS, hs']; exact hm9) (HH.out.sS.put _ _)
      have HG9 := Hid.mk' (Wb.of_map hg9)
      have HN : Hid (aget s.S n = none) := by show _ = _; simpa using hs
      clear hm9 hg9 hs
      go_wp2_with fail
      refine hhas.mono ?_
      rintro e w5 ⟨rfl, rfl⟩
      go_wp2_with fail
      go_ret2
      exact ⟨n, rfl, HN.out, HM.out, hn, HM9.out, HG9.out⟩
    rw [hs] at hhas
    have HM2 : Hid (∀ m : Nat, m < n + 1 → (aget s.S m).isSome) := fun m hm => by
      by_cases e : m = n
      · subst e; exact hs
      · exact HM.out m (by omega)
    have HN := Hid.mk' (run_len (n + 1) s.S HH.out.sS HM2.out)
    clear hs
    go_wp2_with fail
    refine hhas.mono ?_
    rintro e w5 ⟨rfl, rfl⟩
    go_wp2_with fail
    go_roundw
    case rel => exact ⟨n + 1, HN.out, by go_num, HM2, HE1⟩
    case measure => simp [intOf]; omega
set_option maxRecDepth 100000 in
set_option maxHeartbeats 1000000 in
/-- Free -/
theorem pfree_any (h : Pi T D w p b s ms mf ma ff nf g) (id : Int) (hi : Wi id) : Calls Tryz.prog 49 #[.pointer (some ⟨p, 0, none⟩), .int .i64 id] w fun e w' =>
    (aget s.S id = none → e = .returned (.int .i64 1) ∧ w' = w) ∧ ((aget s.S id).isSome → e = .returned (.int .i64 0) ∧ Pi T D w' p b { s with S := adel s.S id, H := adel s.H id } ms mf ma ff nf g ∧ Wb (fun k => k = ms ∨ k = ma) w w') := by
  obtain ⟨⟨c0, c1, c2, c3, c4, c5, c6, c7, c8, c9⟩, cf⟩ := h.cells
  have hp := h.plt
  have HH := Hid.mk' h
  have hhas := has_any h id hi
  have hps := h.tS.2
  by_cases hs : (aget s.S id).isSome
  case neg =>
    have hs' : (aget s.S id).isSome = false := by simpa using hs
    rw [hs'] at hhas ⊢
    clear h c0 c1 c2 c4 c5 c6 c7 c8 c9
    go_enter Tryz.func49, Tryz.ntmps49
    go_wp2_with fail
    refine hhas.mono ?_
    rintro e w5 ⟨rfl, rfl⟩
    go_wp2_with fail
    go_ret
    exact ⟨fun _ => ⟨rfl, rfl⟩, fun h => by cases h⟩
  rw [hs] at hhas ⊢
  obtain ⟨w8, hr8, hm8, hg8⟩ := h.mS.drop Tryz.underlying3 Tryz.underlying62 id hi 0
  rw [sMap_some, sMap_del _ h.sS, ← len_adel] at hm8
  have h8 := h.setS (Wb.of_map hg8) hm8 (h.sS.del _)
  obtain ⟨w9, hr9, hm9, hg9⟩ := h8.mH.drop Tryz.underlying3 Tryz.underlying63 id hi 0
  rw [hMap_some, hMap_del _ h.sH, ← len_adel] at hm9
  have h9 := h8.setH (Wb.of_map hg9) hm9 (h.sH.del _) fun i f hf => by
    rw [aget_del h.sH] at hf
    split at hf
    · cases hf
    · exact hf
  have HF : Hid (Pi T D w9 p b { s with S := adel s.S id, H := adel s.H id } ms mf ma ff nf g ∧ Wb (fun k => k = ms ∨ k = ma) w w9) := ⟨h9, ((Wb.of_map hg8).mono fun k hk => .inl hk).trans ((Wb.of_map hg9).mono fun k hk => .inr hk)⟩
  obtain ⟨⟨d0, d1, d2, d3, d4, d5, d6, d7, d8, d9⟩, df⟩ := h8.cells
  have hp8 := h8.plt
  have HE : Hid (¬ aget s.S id = none) := fun e => by rw [e] at hs; cases hs
  clear h h8 h9 hm8 hm9 hg8 hg9 c0 c1 c2 c4 c5 c6 c7 c8 c9 d0 d1 d2 d3 d4 d6 d7 d8 d9 hs
  go_enter Tryz.func49, Tryz.ntmps49
  go_wp2_with fail
  refine hhas.mono ?_
  rintro e w5 ⟨rfl, rfl⟩
  go_wp2_with fail
  go_ret
  exact ⟨fun h => absurd h HE.out, fun _ => ⟨rfl, HF.out⟩⟩
end
end Go.Proofs.YtbmhkdcmepfmbaaGreat
set_option linter.unusedVariables false
set_option linter.unusedSimpArgs false
namespace Go.Proofs.YtbmhkdcmepfmbaaGreat
open Go.RowKit
attribute [local go_sem ↓] Go.wp_at_zero Go.wp_at_succ
theorem Io.slice {B : Nat} {w : World} {v : Value} {l : List Int} (h : Io B w v l) : ∃ a c, v = .slice a l.length c := own_sliceN h
theorem Io.at {B : Nat} {w : World} {v : Value} {l : List Int} (h : Io B w v l) : ∃ (a : Option Addr) (c : Nat), v = .slice a l.length c ∧ l.length ≤ c ∧
    ∀ j (hj : j < l.length), ∃ b o, a = some ⟨b, o, none⟩ ∧ B ≤ b ∧ w.cell? ⟨b, o + j, none⟩ = some (.int .i64 l[j]) := by
  obtain ⟨a, c, hv, hc, ha, H⟩ := (Row.of_ownB h).at1
  exact ⟨a, c, hv, hc, fun j hj => by obtain ⟨b, o, h1, h2, h3⟩ := H j hj; exact ⟨b, o, h1, h2, by rw [h3, iv_get l j hj]⟩⟩
section
variable {T D X : Nat → Prop} {w w' : World} {p b : Nat} {s : Ps} {ms mf ma : Nat} {ff : Int → Option Value} {nf : Nat} {g : Int → Nat}
set_option maxRecDepth 100000 in
theorem ids_any (h : Pi T D w p b s ms mf ma ff nf g) (hl : s.S.length ≤ 1000000) : Calls Tryz.prog 52 #[.pointer (some ⟨p, 0, none⟩)] w fun e w' => ∃ v, e = .returned v ∧ Io w.heap.size w' v (s.S.map (·.1)) ∧ Below w.heap.size w w' := by
  obtain ⟨⟨c0, c1, c2, c3, c4, c5, c6, c7, c8, c9⟩, cf⟩ := h.cells
  have hp := h.plt
  have HK := Hid.mk' (keys_78 (some ms) w)
  have HS := Hid.mk' (sorted_78 h.mS h.sS (fun s' => sMap_some s.S s') hl)
  have HB := Hid.mk' (up_alloc w (.cells #[.map (some ms)] 62))
  clear h c0 c1 c2 c4 c5 c6 c7 c8 c9 hl
  go_enter Tryz.func52, Tryz.ntmps52
  go_wp2_with fail
  refine HK.out.mono ?_
  rintro e w1 ⟨rfl, rfl⟩
  go_wp2_with fail
  refine HS.out.mono ?_
  rintro e w2 ⟨v, rfl, hio, hb⟩
  obtain ⟨va, vc, rfl⟩ := hio.slice
  rw [List.length_map] at hio
  have HI := Hid.mk' hio
  have HB2 := Hid.mk' (bt HB.out hb)
  clear hio hb
  go_wp2_with fail
  go_ret
  have hfin : Io w.heap.size w2 (.slice va s.S.length vc) (s.S.map (·.1)) := own_mono HI.out HB.out.size
  exact ⟨_, rfl, hfin, HB2.out⟩
set_option maxRecDepth 100000 in
theorem stats_any (h : Pi T D w p b s ms mf ma ff nf g) : Calls Tryz.prog 25 #[.pointer (some ⟨p, 7, none⟩)] w fun e w' => e = .returned (.agg #[.int .i64 s.hit, .int .i64 s.mis, .int .i64 s.ev]) ∧ Below w.heap.size w w' := by
  obtain ⟨⟨c0, c1, c2, c3, c4, c5, c6, c7, c8, c9⟩, cf⟩ := h.cells
  have hp := h.plt
  have HP := Hid.mk' hp
  clear h c0 c1 c2 c3 c4 c5 c6
  go_enter Tryz.func25, Tryz.ntmps25
  go_wp2_with fail
  refine bodyPost_ret (results_cell_row rfl _ _ w.heap.size 58 _ (0, 0) _ rfl (heap_alloc_new w _) Tryz.underlying58 rfl (by kernel_rfl)) rfl ?_
  exact ⟨rfl, up_alloc _ _⟩
end
end Go.Proofs.YtbmhkdcmepfmbaaGreat
set_option linter.unusedVariables false
set_option linter.unusedSimpArgs false
namespace Go.Proofs.YtbmhkdcmepfmbaaGreat
open Go.RowKit
attribute [local go_sem ↓] Go.wp_at_zero Go.wp_at_succ
/-- an append whose place is told: in place, or elsewhere -/
theorem app_two {B : Nat} {w : World} {a : Option Addr} {n c : Nat} {q r : By} {g' c' : Nat} (ho : Ob 5 B w (.slice a n c) q) (hs : Bs (fun k => k = g') w (.slice (some ⟨g', 0, none⟩) r.length c') r) (hr : 0 < r.length) (hl : q.length + r.length ≤ 100000000) (hB : B ≤ w.heap.size) :
    ∃ v' w', (Builtin.append_ #[22, 22] 22 #[.slice a n c, .slice (some ⟨g', 0, none⟩) r.length c']).run Tryz.prog w = .ok v' w' ∧ Ob 5 B w' v' (q ++ r) ∧ Wb (fun k => some k = (Value.slice a n c).ownBlock) w w' ∧ Ob 5 B w' (.slice a n c) q ∧
      (v' = .slice a (n + r.length) c ∨ (Below w.heap.size w w' ∧ ∀ k, v'.ownBlock = some k → w.heap.size ≤ k)) := by
  obtain ⟨v', w', h1, h2, h3, h4, h5⟩ := run_app (P := Tryz.prog) 22 22 Tryz.underlying22 Tryz.info5 rfl (by decide) ho hs.1 (bv_one _) (by unfold maxLen; omega) (by omega) hB
  have h2' : Ob 5 B w' v' (q ++ r) := by unfold Ob; rw [List.length_append, bv_append]; exact h2
  refine ⟨v', w', h1, h2', Wb.of_grown h3, ?_⟩
  cases a with
  | none =>
    have hb : Below w.heap.size w w' := by
      have h6 : Wb (fun _ => False) w w' := (Wb.of_grown h3).mono fun k hk => by cases hk
      exact h6.below (Nat.le_refl _) fun k hk => hk.elim
    refine ⟨ho.keep hb (Nat.le_refl _), .inr ⟨hb, fun k hk => ?_⟩⟩
    rcases h5 with h5 | h5
    · rw [h5] at hk; cases hk
    · rw [h5] at hk; cases hk; exact Nat.le_refl _
  | some ad =>
    obtain ⟨g0, hg0⟩ : ∃ g0, ad = ⟨g0, 0, none⟩ := by
      rcases ho.2 with ⟨e, _⟩ | ⟨g0, _, _, e, _⟩
      · cases e
      · cases e; exact ⟨_, rfl⟩
    subst hg0
    have hn : n = q.length := ho.len.1
    subst hn
    have hnews : ∀ j u, (bv r)[j]? = some u → w.cell? ((⟨g', 0, none⟩ : Addr).add j) = some u := fun j u hj => by
      obtain ⟨_, a', _, e, _, _, H⟩ := hs.1
      cases e
      obtain ⟨b, o, e, _, hu⟩ := H j u hj
      cases e
      rw [addr_add]; exact hu
    obtain ⟨i0, hi, hz0, hz1, hz2⟩ := info_parts Tryz.info5
    by_cases hc : q.length + r.length ≤ c
    · obtain ⟨w2, k1, k2, k3⟩ := run_append_fits (P := Tryz.prog) w B 22 22 5 i0 1 Tryz.underlying22 hi hz1 g0 q.length c (bv q) ho ⟨g', 0, none⟩ r.length c' (bv r) (by simp) hnews (bv_one _) hc
      rw [h1] at k1
      injection k1 with e1 e2
      subst e1
      refine ⟨?_, .inl rfl⟩
      have := own_pre h2' (m := q.length) (by omega)
      rwa [List.take_left] at this
    · have hold : ∀ j v, (bv q)[j]? = some v → w.cell? ((⟨g0, 0, none⟩ : Addr).add j) = some v := fun j u hj => by
        obtain ⟨_, a', _, e, _, _, H⟩ := Row.of_own ho
        cases e
        obtain ⟨b, o, e, _, hu⟩ := H j u hj
        cases e
        rw [addr_add]; exact hu
      have hnx : Builtin.nextslicecap (q.length + r.length) c ≤ 281474976710656 := by
        have := nextslicecap_le (need := q.length + r.length) (old := c) (by omega)
        omega
      have k1 := run_append_grow (P := Tryz.prog) w 22 22 5 i0 (.int .u8 0) Tryz.underlying22 hi hz0 ⟨g0, 0, none⟩ q.length c (bv q) (by rw [hz1]; simp) hold ⟨g', 0, none⟩ r.length c' (bv r) (by rw [hz1]; simp) hnews (by omega) (by omega) (by rw [hz2]; omega)
      rw [h1] at k1
      injection k1 with e1 e2
      subst e1
      have hb : Below w.heap.size w w' := by rw [e2]; exact (drew_blx w _).alloc (Nat.le_refl _) _
      exact ⟨ho.keep hb (Nat.le_refl _), .inr ⟨hb, fun k hk => by cases hk; exact Nat.le_refl _⟩⟩
/-- what the deeds of table's region keep -/
structure Tb (B : Nat) (v : Value) (q : By) (uf : Value) (L : By) (w w' : World) : Prop where
  wb : Wb (fun k => some k = v.ownBlock) w w'
  k1 : Ob 5 B w v q → Ob 5 B w' v q
  k2 : Ob 5 B w uf L → Ob 5 B w' uf L
theorem Tb.trans {B : Nat} {v : Value} {q : By} {uf : Value} {L : By} : ∀ a b c : World, Tb B v q uf L a b → Tb B v q uf L b c → Tb B v q uf L a c := fun a b c h k => ⟨h.wb.trans k.wb, fun e => k.k1 (h.k1 e), fun e => k.k2 (h.k2 e)⟩
theorem Tb.below {B : Nat} {v : Value} {q : By} {uf : Value} {L : By} {w w' : World} (h : Below w.heap.size w w') : Tb B v q uf L w w' := ⟨Wb.of_below _ h, fun e => e.keep h (Nat.le_refl _), fun e => e.keep h (Nat.le_refl _)⟩
/-- a literal of one number -/
def Glit (B : Nat) (v : Value) (q : By) (uf : Value) (L : By) (n : Nat) : GY (Tb B v q uf L) := ⟨⟨fun u => ∃ g : Nat, u = .slice (some ⟨g, 0, none⟩) 1 1, fun u w => ∃ g : Nat, u = .slice (some ⟨g, 0, none⟩) 1 1 ∧ w.heap[g]? = some (.cells #[.int .u64 (n : Int)] 117 (0, 0)) ∧ ∀ k, v.ownBlock = some k → k ≠ g⟩,
  fun u w w' ⟨g, h1, h2, h3⟩ h => ⟨g, h1, by rw [h.wb.block g (Array.getElem?_eq_some_iff.1 h2).1 (fun e => h3 g e.symm rfl)]; exact h2, h3⟩⟩
/-- bytes just made -/
def Gob (B : Nat) (v : Value) (q : By) (uf : Value) (L : By) (c : Nat) (l : By) : GY (Tb B v q uf L) := ⟨⟨fun u => ∃ g k, u = .slice (some ⟨g, 0, none⟩) l.length k, fun u w => Ob 5 c w u l ∧ ∀ k, u.ownBlock = some k → v.ownBlock ≠ some k⟩,
  fun u w w' ⟨h1, h2⟩ h => ⟨own_wb h1 h.wb fun k hk e => h2 k e.symm hk.symm, h2⟩⟩
/-- the bytes grown -/
def Gapp (B : Nat) (v : Value) (q : By) (uf : Value) (L : By) : GY (Tb B v q uf L) := ⟨⟨fun u => ∃ a k, u = .slice a L.length k, fun u w => Ob 5 B w u L ∧ (u = uf ∨ ∀ k, u.ownBlock = some k → v.ownBlock ≠ some k)⟩,
  fun u w w' ⟨h1, h2⟩ h => by
    rcases h2 with rfl | h2
    · exact ⟨h.k2 h1, .inl rfl⟩
    · exact ⟨own_wb h1 h.wb fun k hk e => h2 k e.symm hk.symm, .inr h2⟩⟩
/-- a pool's table -/
def tabB (S : Al Int) : By := (S.map fun x => nm x.1.toNat ++ nm (x.2 + 1).toNat).flatten
def Sbd (S : Al Int) : Prop := ∀ x ∈ S, 0 ≤ x.1 ∧ x.1 < 65536 ∧ -1 ≤ x.2 ∧ x.2 ≤ 1000000
theorem tabB_take {S : Al Int} {k : Nat} (h : k < S.length) : tabB (S.take (k + 1)) = (tabB (S.take k) ++ nm S[k].1.toNat) ++ nm (S[k].2 + 1).toNat := by
  unfold tabB
  rw [List.take_succ_eq_append_getElem h, List.map_append, List.flatten_append]
  simp
theorem tabB_len : ∀ (S : Al Int), Sbd S → (tabB S).length ≤ 18 * S.length
  | [], _ => by simp [tabB]
  | x :: S, h => by
    have h1 := tabB_len S fun y hy => h y (List.mem_cons_of_mem _ hy)
    have h2 := h x (List.mem_cons_self ..)
    have h3 := nm_len (n := x.1.toNat) (by omega)
    have h4 := nm_len (n := (x.2 + 1).toNat) (by omega)
    have e : tabB (x :: S) = (nm x.1.toNat ++ nm (x.2 + 1).toNat) ++ tabB S := by simp [tabB]
    rw [e, List.length_append, List.length_append, List.length_cons]
    omega
theorem nm_pos (n : Nat) : 0 < (nm n).length := by unfold nm; split <;> simp
theorem us_lit {w : World} {g n : Nat} (h : w.heap[g]? = some (.cells #[.int .u64 (n : Int)] 117 (0, 0))) (hn : n < 18446744073709551616) : Us (fun k => k = g) w (.slice (some ⟨g, 0, none⟩) 1 1) [n] := by
  refine ⟨⟨rfl, _, _, rfl, Nat.le_refl _, by simp, fun j u hj => ⟨g, 0, rfl, rfl, ?_⟩⟩, fun m hm => by simp at hm; subst hm; exact hn, by unfold lim; simp⟩
  simp only [World.cell?, h, Nat.zero_add]
  simpa [uv] using hj
theorem exec_lit {w : World} {o : Oper} {a : Act} {x : Operand} {n : Int} (ho : o.op = .buildSlice 156 1 #[(0, x)]) (hx : a.eval x = .int .u64 n) :
    (execOp a.eval o).run Tryz.prog w = .ok (.value (.slice (some ⟨w.heap.size, 0, none⟩) 1 1)) (w.alloc (.cells #[.int .u64 n] 117)) := by
  unfold execOp
  simp only [ho, List.map_toArray, List.map_cons, List.map_nil, hx]
  simp [go_sem]
section
variable {T D X : Nat → Prop} {w w' : World} {p b : Nat} {s : Ps} {ms mf ma : Nat} {ff : Int → Option Value} {nf : Nat} {g : Int → Nat}
set_option maxRecDepth 100000 in
set_option maxHeartbeats 4000000 in
theorem table_any (h : Pi T D w p b s ms mf ma ff nf g) (hS : Sbd s.S) (hl : s.S.length ≤ 100000) : Calls Tryz.prog 41 #[.pointer (some ⟨p, 0, none⟩)] w fun e w' => ∃ v, e = .returned v ∧ Ob 5 w.heap.size w' v (tabB s.S) ∧ Below w.heap.size w w' := by
  have HI := Hid.mk' (ids_any h (by omega))
  have HH := Hid.mk' h
  have HS := Hid.mk' hS
  have HL := Hid.mk' (tabB_len s.S hS)
  have hli : (s.S.length : Int) ≤ 100000 := by omega
  have HLL := Hid.mk' hl
  clear h hS hl
  go_enter Tryz.func41, Tryz.ntmps41
  go_wp2_with fail
  refine HI.out.mono ?_
  rintro e w1 ⟨v1, rfl, hi1, hb1⟩
  have hat := hi1.at
  obtain ⟨ia, ic, rfl, hic, hat⟩ := hat
  rw [List.length_map] at hic
  have HAT : Hid (∀ wr, Below w1.heap.size w1 wr → ∀ j (hj : j < s.S.length), ∃ g o, ia = some ⟨g, o, none⟩ ∧ wr.cell? ⟨g, o + j, none⟩ = some (.int .i64 s.S[j].1)) := fun wr hb j hj => by
    obtain ⟨g, o, e1, _, e2⟩ := hat j (by rw [List.length_map]; exact hj)
    rw [List.getElem_map] at e2
    exact ⟨g, o, e1, cell_up e2 hb⟩
  rw [List.length_map]
  have HB1 := Hid.mk' hb1
  have HR0 : Hid (Below w1.heap.size w1 w1) := Below.refl _ _
  have HO0 : Hid (Ob 5 w1.heap.size w1 (.slice none 0 0) (tabB (s.S.take 0))) := ob_nil
  clear hi1 hat hb1
  go_wp2_with fail
  go_loopw [3, 9] (fun y i wr => ∃ (k n : Nat) (oa : Option Addr) (oc : Nat), k ≤ s.S.length ∧ i = .int .i64 k ∧ y = .slice oa n oc ∧ Hid (n = (tabB (s.S.take k)).length) ∧ Hid (Ob 5 w1.heap.size wr (.slice oa n oc) (tabB (s.S.take k))) ∧ Hid (Below w1.heap.size w1 wr)) (fun _ i _ => s.S.length - (intOf i).toNat)
  case atStart => exact ⟨0, 0, none, 0, by omega, rfl, rfl, rfl, HO0, HR0⟩
  case round =>
    clear HR0 HO0
    obtain ⟨k, n, oa, oc, hk, rfl, rfl, HN, HO, HR⟩ := hrel
    by_cases hlt : k < s.S.length
    case neg =>
      obtain rfl : k = s.S.length := by omega
      have HO2 : Hid (Ob 5 w1.heap.size wr (.slice oa n oc) (tabB s.S)) := by have := HO.out; rwa [List.take_length] at this
      have HBZ := Hid.mk' (bt HB1.out HR.out)
      go_wp2_with fail
      go_ret
      exact ⟨_, rfl, own_mono HO2.out HB1.out.size, HBZ.out⟩
    have hlt' : (k : Int) < (s.S.length : Int) := by omega
    obtain ⟨ig, io, rfl, d0⟩ := HAT.out _ HR.out k hlt
    have HTK := Hid.mk' (tabB_take hlt)
    have hx := HS.out _ (List.getElem_mem hlt)
    have HGE : Hid (aget s.S s.S[k].1 = some s.S[k].2) := aget_of_mem HH.out.sS (List.getElem_mem hlt)
    have HLK : Hid ((tabB (s.S.take (k + 1))).length ≤ 1800000) := by
      have h1 := tabB_len (s.S.take (k + 1)) fun x hx => HS.out x (List.mem_of_mem_take hx)
      have h2 : (s.S.take (k + 1)).length ≤ s.S.length := List.length_take_le' _ _
      have := HLL.out
      show _ ≤ _
      omega
    obtain ⟨x, hxe⟩ : ∃ x, x = s.S[k] := ⟨_, rfl⟩
    rw [← hxe] at HTK HGE hx d0
    clear hxe
    obtain ⟨id, sl⟩ := x
    simp only at HTK HGE hx d0
    obtain ⟨z1, hz1⟩ : ∃ z1 : Nat, z1 = id.toNat := ⟨_, rfl⟩
    obtain ⟨z2, hz2⟩ : ∃ z2 : Nat, z2 = (sl + 1).toNat := ⟨_, rfl⟩
    obtain rfl : id = (z1 : Int) := by omega
    have hs1 : -1 ≤ sl := hx.2.2.1
    have hs2 : sl ≤ 1000000 := hx.2.2.2
    have hi2 : sl + 1 = (z2 : Int) := by omega
    have hb1 : (z1 : Int) < 65536 := by omega
    have hb2 : (z2 : Int) ≤ 1000001 := by omega
    rw [← hz1, ← hz2] at HTK
    have HPI := Hid.mk' ((HH.out.up HB1.out).up HR.out)
    obtain ⟨⟨c0, c1, c2, c3, c4, c5, c6, c7, c8, c9⟩, cf⟩ := HPI.out.cells
    generalize hq : tabB (s.S.take k) = q at *
    obtain rfl : n = q.length := HN.out
    obtain ⟨L, hL⟩ : ∃ L, L = q ++ nm z1 := ⟨_, rfl⟩
    have HLe := Hid.mk' hL
    have HLL2 : Hid (L.length = q.length + (nm z1).length ∧ (tabB (s.S.take (k + 1))).length = L.length + (nm z2).length) := by
      refine ⟨by rw [hL, List.length_append], ?_⟩
      rw [HTK.out, ← hL, List.length_append]
    have HOB : Hid (∀ k, (Value.slice oa q.length oc).ownBlock = some k → w1.heap.size ≤ k ∧ k < wr.heap.size) := HO.out.lt
    clear hq hz1 hz2 hL c0 c1 c2 c4 c5 c6 c7 c8 c9
    go_upto_region 5 with fail
    obtain ⟨uf, huf⟩ : ∃ uf, uf = Value.slice oa (q.length + (nm z1).length) oc := ⟨_, rfl⟩
    have HUF := Hid.mk' huf
    clear huf
    obtain ⟨T0, hT0⟩ : ∃ T0 : World → World → Prop, T0 = Tb w1.heap.size (.slice oa q.length oc) q uf L := ⟨_, rfl⟩
    have hinh : Inhabited (Wy (Tb w1.heap.size (.slice oa q.length oc) q uf L) wr) := ⟨⟨wr, Tb.below (Below.refl _ _)⟩⟩
    have HNP : Hid (∀ k, some k = (Value.slice oa q.length oc).ownBlock → ¬ T k ∧ ¬ D k) := fun k hk => by
      have h1 := (HOB.out k hk.symm).1
      have h2 := HB1.out.size
      exact ⟨fun h => by have := HH.out.hT k h; omega, fun h => by have := (HH.out.hD k h).1; omega⟩
    have HPQ : Hid (∀ qq : Wy (Tb w1.heap.size (.slice oa q.length oc) q uf L) wr, Pi T D qq.nx p b s ms mf ma ff nf g) := fun qq => HPI.out.keep qq.ok.wb HNP.out
    have r3 : ∀ qq : Wy (Tb w1.heap.size (.slice oa q.length oc) q uf L) wr, qq.nx.cell? ⟨p, 3, none⟩ = some (.map (some ms)) := fun qq => (HPQ.out qq).cells.1.2.2.2.1
    have rl : ∀ qq : Wy (Tb w1.heap.size (.slice oa q.length oc) q uf L) wr, (Instr.lookup 62 (.map (some ms)) (.int .i64 (z1 : Int)) false).run Tryz.prog qq.nx = .ok (.int .i64 sl) qq.nx := fun qq => by
      have := (HPQ.out qq).mS.look1 Tryz.underlying3 Tryz.underlying62 (z3 _) z1 (Wi.of (by omega) (by omega))
      rw [this]
      unfold sMap
      rw [HGE.out]
      rfl
    have hwz : IntKind.u64.wrap (sl + 1) = (z2 : Int) := by rw [IntKind.wrap_u64]; omega
    have HSZ : Hid (w1.heap.size ≤ wr.heap.size) := HR.out.size
    refine wp_region_free 15 (Tb w1.heap.size (.slice oa q.length oc) q uf L) (fun w' => ∃ qq : Wy (Tb w1.heap.size (.slice oa q.length oc) q uf L) wr, w' = qq.nx) (yul _ [(16, Glit _ _ _ _ _ z1), (17, Gob _ _ _ _ _ wr.heap.size (nm z1)), (18, Gapp _ _ _ _ _), (27, Glit _ _ _ _ _ z2)]) (by kernel_rfl) (by kernel_rfl) (yul_ck Tb.trans _) ⟨⟨wr.drew, Tb.below (drew_blx _ _)⟩, rfl⟩ ?_
    simp only [List.take_succ_cons, List.take_zero, List.drop_succ_cons, List.drop_zero]
    refine wf_take 3 rfl ?_
    simp only [List.take_succ_cons, List.take_zero, List.drop_succ_cons, List.drop_zero]
    repeat (go_big_quiet_step (fail))
    refine wpQuiet_nil ?_
    refine wf_make (V := (Glit w1.heap.size (.slice oa q.length oc) q uf L z1).1) (by kernel_rfl) (by kernel_rfl) (fun w1' hC hK => ?_) (fun u5 ho5 => ?_)
    · obtain ⟨qq, rfl⟩ := hC
      refine ⟨_, _, exec_lit rfl rfl, Tb.below (up_alloc _ _), ⟨_, rfl⟩, ⟨_, rfl, heap_alloc_new _ _, fun k hk e => ?_⟩⟩
      have h1 := (HOB.out k hk).2
      have h2 := qq.ok.wb.size
      omega
    obtain ⟨g5, rfl⟩ := ho5
    simp only [Act.put, List.setIfInBounds_toArray, List.set_cons_succ, List.set_cons_zero]
    refine wf_call (V := (Gob w1.heap.size (.slice oa q.length oc) q uf L wr.heap.size (nm z1)).1) (vals := [.slice (some ⟨g5, 0, none⟩) 1 1]) Tryz.func70 (by kernel_rfl) rfl rfl (by kernel_rfl) (by kernel_rfl) (by kernel_rfl) (fun wq hC hK => ?_) (fun u6 ho6 => ?_)
    · obtain ⟨qq, rfl⟩ := hC
      obtain ⟨g5', e, hg5, _⟩ := hK 16 _ _ (looks_of (by kernel_rfl)) (.inr ⟨rfl, rfl⟩) rfl
      cases e
      refine (pnum_any (us_lit hg5 (by omega)) (by simp)).mono fun e w' ⟨v', he, ho, hb⟩ => ?_
      rw [nms_one] at ho
      obtain ⟨g6, k6, e6⟩ := ho.form (nm_pos z1)
      refine ⟨v', he, Tb.below hb, ⟨g6, k6, e6⟩, own_mono ho qq.ok.wb.size, fun k hk => ?_⟩
      have h1 := (ho.lt k hk).1
      have h2 := qq.ok.wb.size
      intro e
      have h3 := (HOB.out k e).2
      omega
    obtain ⟨g6, k6, rfl⟩ := ho6
    simp only [Act.put, List.setIfInBounds_toArray, List.set_cons_succ, List.set_cons_zero]
    refine wf_app (V := (Gapp w1.heap.size (.slice oa q.length oc) q uf L).1) rfl rfl rfl (by kernel_rfl) (by kernel_rfl) (fun wq hC hK => ?_) (fun u7 ho7 => ?_)
    · obtain ⟨qq, rfl⟩ := hC
      obtain ⟨hs6, hs6'⟩ := hK 17 _ _ (looks_of (by kernel_rfl)) (.inr ⟨rfl, rfl⟩) rfl
      have hob : Ob 5 w1.heap.size qq.nx (.slice oa q.length oc) q := qq.ok.k1 HO.out
      have hbs : Bs (fun k => k = g6) qq.nx (.slice (some ⟨g6, 0, none⟩) (nm z1).length k6) (nm z1) := by
        refine ⟨?_, by have := nm_len (n := z1) (by omega); unfold lim; omega⟩
        obtain ⟨hl, a, c, e, hc, hn, H⟩ := Row.of_own hs6
        refine ⟨hl, a, c, e, hc, hn, fun j u hj => ?_⟩
        obtain ⟨b', o', e1, _, e2⟩ := H j u hj
        cases e
        cases e1
        exact ⟨_, _, rfl, rfl, e2⟩
      obtain ⟨v', w', h1, h2, h3, h4, h5⟩ := app_two hob hbs (nm_pos z1) (by have := HLL2.out; have := HLK.out; omega) (by have := qq.ok.wb.size; have := HSZ.out; omega)
      rw [← HLe.out] at h2
      obtain ⟨a7, c7', e7⟩ := own_slice h2
      refine ⟨v', w', h1, ⟨h3, fun _ => h4, fun hu => ?_⟩, ⟨a7, c7', e7⟩, h2, ?_⟩
      · rcases h5 with h5 | ⟨h5, _⟩
        · rw [HUF.out, ← h5]; exact h2
        · exact hu.keep h5 (Nat.le_refl _)
      · rcases h5 with h5 | ⟨_, h5⟩
        · exact .inl (by rw [HUF.out]; exact h5)
        · refine .inr fun k hk e => ?_
          have := h5 k hk
          have := (HOB.out k e).2
          have := qq.ok.wb.size
          omega
    obtain ⟨a7, k7, rfl⟩ := ho7
    simp only [Act.put, List.setIfInBounds_toArray, List.set_cons_succ, List.set_cons_zero]
    refine wf_take 8 rfl ?_
    simp only [List.take_succ_cons, List.take_zero, List.drop_succ_cons, List.drop_zero]
    repeat (go_big_quiet_step (fail))
    refine wpQuiet_nil ?_
    refine wf_make (V := (Glit w1.heap.size (.slice oa q.length oc) q uf L z2).1) (by kernel_rfl) (by kernel_rfl) (fun w1' hC hK => ?_) (fun u8 ho8 => ?_)
    · obtain ⟨qq, rfl⟩ := hC
      refine ⟨_, _, exec_lit (n := (z2 : Int)) rfl (by first | rfl | (rw [← hi2]; rfl)), Tb.below (up_alloc _ _), ⟨_, rfl⟩, ⟨_, rfl, heap_alloc_new _ _, fun k hk e => ?_⟩⟩
      have h1 := (HOB.out k hk).2
      have h2 := qq.ok.wb.size
      omega
    obtain ⟨g8, rfl⟩ := ho8
    simp only [Act.put, List.setIfInBounds_toArray, List.set_cons_succ, List.set_cons_zero]
    intro we hC hK
    obtain ⟨hb7, _⟩ := hK 18 _ _ trivial (.inl (.inr ⟨rfl, rfl⟩)) rfl
    obtain ⟨g9, e9, hg9, _⟩ := hK 27 _ _ trivial (.inr ⟨rfl, rfl⟩) rfl
    cases e9
    obtain ⟨qq, hq⟩ := hC
    have HWE : Hid (Wb (fun k => some k = (Value.slice oa q.length oc).ownBlock) wr we) := by rw [hq]; exact qq.ok.wb
    have HO7 := Hid.mk' hb7
    have HSE : Hid (w1.heap.size ≤ we.heap.size) := Nat.le_trans HSZ.out HWE.out.size
    have HWB : Hid (Below w1.heap.size w1 we) := HR.out.trans (HWE.out.below HR.out.size fun k hk => (HOB.out k hk.symm).1)
    have HPN := Hid.mk' (pnum_any (us_lit hg9 (by omega)) (by simp))
    clear hK hinh r3 rl hq hb7 hg9
    clear qq
    go_wp2_with fail
    refine HPN.out.mono ?_
    rintro e w8 ⟨v8, rfl, ho8, hb8⟩
    rw [nms_one] at ho8
    obtain ⟨g8, k8, e8⟩ := ho8.form (nm_pos z2)
    subst e8
    have HO9 : Hid (Ob 5 w1.heap.size w8 (.slice a7 L.length k7) L) := HO7.out.keep hb8 (Nat.le_refl _)
    have HR8 : Hid (Row 1 (Lt w8.heap.size) w8 (.slice (some ⟨g8, 0, none⟩) (nm z2).length k8) (nm z2).length (bv (nm z2))) := Row.of_own ho8
    have HWB8 := Hid.mk' (bt HWB.out hb8)
    clear ho8 hb8
    go_wp2_with (at_builtin; refine wpl_app rfl (.tmp 18) (.tmp 28) 22 rfl Tryz.underlying22 Tryz.info5 rfl (by decide) rfl HO9.out rfl HR8.out (bv_one _) (by have := HLL2.out; have := HLK.out; unfold maxLen; omega) (by have := HLL2.out; have := HLK.out; omega) HWB8.out.size ?_; intro v6 w6 ho hg hn2 hbb; obtain ⟨a6, c6, e6⟩ := own_slice ho; subst e6; clear hn2 hbb; have HO6 := Hid.mk' ho; have HG6 := Hid.mk' hg; clear ho hg)
    have HBB : Hid (Below w1.heap.size w1 w6) := below_app HWB8.out HO9.out HG6.out (Nat.le_refl _) HWB8.out.size
    have HOX : Hid (Ob 5 w1.heap.size w6 (.slice a6 (L.length + (nm z2).length) c6) (tabB (s.S.take (k + 1)))) := by
      unfold Hid Ob
      rw [HLL2.out.2, HTK.out, ← HLe.out, bv_append]
      exact HO6.out
    refine ⟨⟨k + 1, _, a6, c6, by omega, by go_num, rfl, HLL2.out.2.symm, HOX, HBB⟩, ?_⟩
    simp only [intOf]; omega
end
end Go.Proofs.YtbmhkdcmepfmbaaGreat
set_option linter.unusedVariables false
set_option linter.unusedSimpArgs false
namespace Go.Proofs.YtbmhkdcmepfmbaaGreat
open Go.RowKit
attribute [local go_sem ↓] Go.wp_at_zero Go.wp_at_succ
/-- how many pages lie in a slot -/
def cnt (S : Al Int) (i : Int) : Nat := (S.filter fun x => x.2 = i).length
/-- of those that are still to come -/
def rc (S : Al Int) (left : Lit → Bool) (i : Int) : Nat := (S.filter fun x => left (.int .i64 x.1) && x.2 = i).length
theorem rc_all {S : Al Int} {left : Lit → Bool} (h : ∀ a ∈ S, left (.int .i64 a.1) = true) (i : Int) : rc S left i = cnt S i := by
  unfold rc cnt
  congr 1
  refine List.filter_congr fun a ha => ?_
  rw [h a ha]; simp
theorem rc_none {S : Al Int} {left : Lit → Bool} (h : ∀ kl, left kl = false) (i : Int) : rc S left i = 0 := by
  unfold rc
  rw [List.filter_eq_nil_iff.2 (fun a _ => by simp [h])]; rfl
theorem rc_cons (a : Int × Int) (r : Al Int) (left : Lit → Bool) (i : Int) : rc (a :: r) left i = (if left (.int .i64 a.1) = true ∧ a.2 = i then 1 else 0) + rc r left i := by
  unfold rc
  rw [List.filter_cons]
  by_cases h1 : left (.int .i64 a.1) = true <;> by_cases h2 : a.2 = i <;> simp [h1, h2] <;> omega
theorem rc_step {S : Al Int} (hF : ASrt S) {s v : Int} {left : Lit → Bool} (h : aget S s = some v) (hl : left (.int .i64 s) = true) (i : Int) : rc S (fun z => left z && !z.sameKey (.int .i64 s)) i + (if v = i then 1 else 0) = rc S left i := by
  induction S with
  | nil => cases h
  | cons a r ih =>
    obtain ⟨x, y⟩ := a
    have h2 := (List.pairwise_cons.1 hF).1
    rw [rc_cons, rc_cons]
    rw [aget] at h
    by_cases e : s = x
    · subst e
      rw [if_pos rfl] at h
      cases h
      have e1 : ((Lit.int .i64 s).sameKey (.int .i64 s)) = true := by simp [Lit.sameKey]
      have e2 : rc r (fun z => left z && !z.sameKey (.int .i64 s)) i = rc r left i := by
        unfold rc
        congr 1
        refine List.filter_congr fun a ha => ?_
        have : a.1 ≠ s := fun e => by have := h2 a ha; simp only at this; omega
        have e3 : ((Lit.int .i64 a.1).sameKey (.int .i64 s)) = false := by simp [Lit.sameKey, this]
        simp [e3]
      simp only [e1, hl, e2]
      simp
      omega
    · rw [if_neg e] at h
      have e1 : ((Lit.int .i64 x).sameKey (.int .i64 s)) = false := by simp [Lit.sameKey]; exact fun h => e h.symm
      have := ih hF.tail h
      simp only [e1, Bool.not_false, Bool.and_true]
      omega
theorem rc_le (S : Al Int) (left : Lit → Bool) (i : Int) : rc S left i ≤ S.length := by unfold rc; exact List.length_filter_le _ _
theorem cnt_le (S : Al Int) (i : Int) : cnt S i ≤ S.length := by unfold cnt; exact List.length_filter_le _ _
/-- a map that counts: block m, at most n entries -/
def CntIs (w : World) (m : Nat) (n : Nat) (C : Int → Nat) : Prop := ∃ f k, MapI Tryz.prog 3 w m f k ∧ k ≤ n ∧ ∀ i, (f i).getD (.int .i64 0) = .int .i64 (C i)
theorem CntIs.mono {w : World} {m n n' : Nat} {C : Int → Nat} (h : CntIs w m n C) (hn : n ≤ n') : CntIs w m n' C := by
  obtain ⟨f, k, h1, h2, h3⟩ := h
  exact ⟨f, k, h1, Nat.le_trans h2 hn, h3⟩
theorem CntIs.keep {X : Nat → Prop} {w w' : World} {m n : Nat} {C : Int → Nat} (h : CntIs w m n C) (hw : Wb X w w') (hX : ¬ X m) : CntIs w' m n C := by
  obtain ⟨f, k, h1, h2, h3⟩ := h
  exact ⟨f, k, h1.wb hw hX, h2, h3⟩
theorem CntIs.lt {w : World} {m n : Nat} {C : Int → Nat} (h : CntIs w m n C) : m < w.heap.size := by obtain ⟨f, k, h1, _⟩ := h; exact h1.lt
theorem CntIs.look {w : World} {m n : Nat} {C : Int → Nat} (h : CntIs w m n C) (i : Int) (hi : Wi i) : (Instr.lookup 62 (.map (some m)) (.int .i64 i) false).run Tryz.prog w = .ok (.int .i64 (C i)) w := by
  obtain ⟨f, k, h1, h2, h3⟩ := h
  rw [h1.look1 Tryz.underlying3 Tryz.underlying62 (z3 _) i hi, h3 i]
theorem CntIs.inc {w : World} {m n : Nat} {C : Int → Nat} (h : CntIs w m n C) (i : Int) (hi : Wi i) (hn : n < 10000000) : ∃ w', (Instr.mapUpdate 62 (.map (some m)) (.int .i64 i) (.int .i64 ((C i : Int) + 1))).run Tryz.prog w = .ok () w' ∧ CntIs w' m (n + 1) (fun j => C j + if i = j then 1 else 0) ∧ w.grownBy w' (some m) := by
  obtain ⟨f, k, h1, h2, h3⟩ := h
  obtain ⟨w', hr, hm, hg⟩ := h1.store Tryz.underlying3 Tryz.underlying62 i hi (.int .i64 ((C i : Int) + 1)) (by unfold maxLen; omega)
  refine ⟨w', hr, ⟨_, _, hm, by split <;> omega, fun j => ?_⟩, hg⟩
  by_cases e : j = i
  · subst e; simp
  · simp only [if_neg e, if_neg (fun h : i = j => e h.symm)]
    exact h3 j
set_option maxHeartbeats 400000 in
theorem CntIs.clone {w : World} {m n : Nat} {C : Int → Nat} (h : CntIs w m n C) : Calls Tryz.prog 89 #[.map (some m)] w fun e w' => e = .returned (.map (some w.heap.size)) ∧ CntIs w' w.heap.size n C ∧ Below w.heap.size w w' := by
  obtain ⟨f, k, ⟨DD, hown, hsz, hT, hf⟩, h2, h3⟩ := h
  refine (AnyW.maps_Clone_owns Tryz.clone89 3 hR m k DD w hown).mono ?_
  rintro e w' ⟨rfl, o1, o2, hb⟩
  exact ⟨rfl, ⟨f, k, ⟨DD, o1, hsz, hT, hf⟩, h2, h3⟩, hb⟩
section
variable {T D X : Nat → Prop} {w w' : World} {p b : Nat} {s : Ps} {ms mf ma : Nat} {ff : Int → Option Value} {nf : Nat} {g : Int → Nat}
set_option maxRecDepth 100000 in
set_option maxHeartbeats 2000000 in
/-- free -/
theorem free_any (h : Pi T D w p b s ms mf ma ff nf g) (hS : Sbd s.S) (hl : s.S.length ≤ 100000) (hnf : nf ≤ 100000) (hc : ∀ i, s.c i ≤ 100000) (z : Nat) (hz : z ≤ 100000) (hz1 : s.c z = 0) (hz2 : cnt s.S z = 0) :
    Calls Tryz.prog 65 #[.pointer (some ⟨p, 0, none⟩)] w fun e w' => ∃ n : Nat, e = .returned (.int .i64 n) ∧ s.c n = 0 ∧ cnt s.S n = 0 ∧ (∀ m : Nat, m < n → s.c m + cnt s.S m ≠ 0) ∧ n ≤ z ∧ Below w.heap.size w w' := by
  obtain ⟨⟨c0, c1, c2, c3, c4, c5, c6, c7, c8, c9⟩, cf⟩ := h.cells
  have hp := h.plt
  have HCF : Hid (CntIs w mf 100000 s.c) := ⟨ff, nf, h.mF, hnf, h.cF⟩
  have HCL := Hid.mk' HCF.out.clone
  have HH := Hid.mk' h
  have HS := Hid.mk' hS
  have HC := Hid.mk' hc
  have HZ : Hid (s.c z = 0 ∧ cnt s.S z = 0 ∧ z ≤ 100000) := ⟨hz1, hz2, hz⟩
  have HL := Hid.mk' hl
  have hsm := h.tS.2
  clear h hS hl hnf hc hz hz1 hz2 c0 c1 c2 c5 c6 c7 c8 c9
  obtain ⟨DD, hown, hsz, hT, hf⟩ := HH.out.mS
  have HF := Hid.mk' hf
  have HOW : Hid (∀ w1, Below w.heap.size w w1 → w1.ownsMap Tryz.prog 3 hR ms s.S.length DD) := fun w1 hb => by
    have hlt := hown.lt
    obtain ⟨es, clock, hb0, r⟩ := hown
    exact ⟨es, clock, (hb.block _ hlt).trans hb0, r⟩
  have HST : Hid (∀ i, rc s.S (Maps.has DD) i = cnt s.S i) := fun i => rc_all (fun a ha => by
    rw [(HF.out a.1).1, sMap_some, aget_of_mem HH.out.sS (s := a.1) (l := a.2) ha]; rfl) i
  have HMS : Hid (ms < w.heap.size) := HH.out.hT _ HH.out.tS.1
  have HSZ : Hid (Maps.size DD ≤ 100000) := by have := HL.out; show _ ≤ _; omega
  clear hown hsz hT hf
  go_enter Tryz.func65, Tryz.ntmps65
  go_wp2_with (first | (go_at_call 89; refine HCL.out.mono ?_; rintro e w1 ⟨rfl, hc1, hb1⟩; have d3 := cell_up c3 hb1) | (at_range; refine wpList_range_own _ rfl (.tmp 15) 62 rfl 3 3 (Maps.int_keyed Tryz.underlying3) Tryz.underlying62 hR ms s.S.length DD rfl (HOW.out _ hb1) ?_; intro w0 hrg0 hg0 hs0) | go_in)
  have hlt1 : w.heap.size < w1.heap.size := hc1.lt
  have hb0 : Below w1.heap.size w1 w0 := ⟨hg0.os, hg0.tape, hg0.output, hg0.size, fun i hi => hg0.block i hi (by simp)⟩
  have HR0 : Hid (CntIs w0 w.heap.size (100000 + 0) s.c) := hc1.keep (Wb.of_below (fun _ => False) hb0) id
  have HB0 := Hid.mk' (bt hb1 hb0)
  have HE0 : Hid (∀ i, s.c i + rc s.S (Maps.has DD) i = s.c i + cnt s.S i) := fun i => by rw [HST.out i]
  have HRG := Hid.mk' hrg0
  have hit : w1.heap.size < w0.heap.size := by omega
  have HIT : Hid (w.heap.size < w1.heap.size) := hlt1
  clear hc1 hb1 hb0 hg0 hs0 d3 hrg0
  obtain ⟨r, hr⟩ : ∃ r, r = w1.heap.size := ⟨_, rfl⟩
  rw [← hr] at HRG HIT ⊢
  clear hr hlt1 hit
  go_frame
  go_loopw [5] (fun v wr => ∃ (left : Lit → Bool) (ct k : Nat) (C : Int → Nat), Hid (wr.ranges Tryz.prog 3 hR ms r s.S.length DD left ct) ∧ Hid (CntIs wr w.heap.size (100000 + k) C) ∧ Hid (∀ i, C i + rc s.S left i = s.c i + cnt s.S i) ∧ Hid (k + ct ≤ 100000) ∧ Hid (Below w.heap.size w wr)) (fun _ wr => wr.rangeLeft ms r)
  case atStart => exact ⟨_, _, 0, _, HRG, HR0, HE0, (show 0 + Maps.size DD ≤ 100000 by have := HSZ.out; omega), HB0⟩
  case round =>
    clear HRG HR0 HE0 HB0
    obtain ⟨left, ct, k, C, HRG, HR, HE, HK, HB⟩ := hrel
    go_wp2_with (first
      | (at_next; refine wpList_next_ranges _ rfl (.tmp 16) rfl 3 (Maps.int_keyed Tryz.underlying3) hR id id (fun key _ _ => ⟨key, rfl⟩) (fun v _ _ => ⟨v, rfl⟩) ms r s.S.length _ _ _ rfl HRG.out ?_ ?_)
      | go_in)
    · intro hc0 hl0
      have HEQ : Hid (∀ i, C i = s.c i + cnt s.S i) := fun i => by have := HE.out i; rw [rc_none hl0] at this; omega
      clear HE hl0 hc0 HRG
      have HZC : Hid (C z = 0) := by have := HEQ.out z; have := HZ.out; show _ = _; omega
      have HR1 := Hid.mk' HB.out
      go_wp2_with fail
      go_loopw [6] (fun y wq => ∃ n : Nat, y = .int .i64 n ∧ n ≤ z ∧ Hid (∀ m : Nat, m < n → C m ≠ 0) ∧ Hid (wq = wr)) (fun y _ => z + 1 - (intOf y).toNat)
      case atStart => exact ⟨0, rfl, Nat.zero_le _, (fun m hm => by omega), Hid.mk' rfl⟩
      case round =>
        obtain ⟨n, rfl, hnz, HM, HW⟩ := hrel
        obtain rfl := HW.out
        have hzi : (n : Int) ≤ 100000 := by have := HZ.out.2.2; omega
        have hlk := HR.out.look n (Wi.of (by omega) (by omega))
        by_cases h0 : C n = 0
        · have HFI : Hid (s.c n = 0 ∧ cnt s.S n = 0 ∧ ∀ m : Nat, m < n → s.c m + cnt s.S m ≠ 0) := by
            have h1 := HEQ.out n
            refine ⟨by omega, by omega, fun m hm => ?_⟩
            have h2 := HM.out m hm
            have h3 := HEQ.out m
            omega
          rw [h0] at hlk
          clear h0
          go_wp2_with fail
          go_ret
          exact ⟨n, rfl, HFI.out.1, HFI.out.2.1, (fun m hm h1 h2 => HFI.out.2.2 m hm (by rw [h1, h2])), hnz, HR1.out⟩
        · have hpos : (0 : Int) < (C n : Int) := by omega
          have HM2 : Hid (∀ m : Nat, m < n + 1 → C m ≠ 0) := fun m hm => by
            by_cases e : m = n
            · subst e; exact h0
            · exact HM.out m (by omega)
          have hnz2 : n + 1 ≤ z := by
            rcases Nat.lt_or_ge n z with h | h
            · omega
            · obtain rfl : n = z := by omega
              exact absurd HZC.out h0
          clear h0
          go_wp2_with fail
          go_roundw
          case rel => exact ⟨n + 1, by go_num, hnz2, HM2, trivial⟩
          case measure => simp [intOf]; omega
    · intro x c kl yd yp w1 cnt1 hkey hlk hv hat hrg1 hlt1 hg1 hs1 hen
      obtain ⟨id, rfl, rfl, hwf⟩ := Maps.keyOf_i64 Tryz.underlying3 hkey
      simp only [hR, Option.some.injEq, Prod.mk.injEq] at hv
      obtain ⟨rfl, rfl⟩ := hv
      have f1 := (HF.out id).2 (.bool true)
      have f2 := (HF.out id).2 (.bool false)
      rw [hat] at f1 f2
      obtain ⟨v, hgv, rfl⟩ : ∃ v, aget s.S id = some v ∧ c = .int .i64 v := by
        cases hg : aget s.S id with
        | none =>
          unfold sMap at f1 f2
          rw [hg] at f1 f2
          simp only [Option.map_none, Option.getD_none, DataW.held.injEq] at f1 f2
          rw [f1] at f2; cases f2
        | some v =>
          unfold sMap at f1
          rw [hg] at f1
          simp only [Option.map_some, Option.getD_some, DataW.held.injEq] at f1
          exact ⟨v, rfl, f1⟩
      have hbd := HS.out _ (aget_mem hgv)
      simp only at hbd
      have hb1 : Below w.heap.size w w1 := HB.out.grown hg1 HB.out.size (fun k hk => by cases hk; have := HIT.out; omega)
      have hlw : w.heap.size < wr.heap.size := HR.out.lt
      have hc1 : CntIs w1 w.heap.size (100000 + k) C := HR.out.keep (Wb.of_map hg1) (fun e => by have := HIT.out; omega)
      have hwv : Wi v := Wi.of (by omega) (by omega)
      have hlk2 := hc1.look v hwv
      obtain ⟨w9, hr9, hc9, hg9⟩ := hc1.inc v hwv (by have := HK.out; omega)
      have hCb : (C v : Int) ≤ 200000 := by
        have h1 := HE.out v
        have h2 := HC.out v
        have h3 := cnt_le s.S v
        have := HL.out
        omega
      have HR9 : Hid (CntIs w9 w.heap.size (100000 + (k + 1)) (fun j => C j + if v = j then 1 else 0)) := hc9
      have HRG9 : Hid (w9.ranges Tryz.prog 3 hR ms r s.S.length DD (fun z => left z && !z.sameKey (.int .i64 id)) cnt1) := hrg1.kept hg9 (by simp; have := HMS.out; omega) (by simp; have := HIT.out; omega)
      have HE9 : Hid (∀ i, (C i + if v = i then 1 else 0) + rc s.S (fun z => left z && !z.sameKey (.int .i64 id)) i = s.c i + cnt s.S i) := fun i => by
        have h1 := HE.out i
        have h2 := rc_step HH.out.sS hgv hlk i
        omega
      have HB9 : Hid (Below w.heap.size w w9) := hb1.grown hg9 hb1.size (fun k hk => by cases hk; exact Nat.le_refl _)
      have HK9 : Hid (k + 1 + cnt1 ≤ 100000) := by have := HK.out; show _ ≤ _; omega
      have HLT : Hid (cnt1 < ct) := hlt1
      have HRG0 := Hid.mk' HRG.out
      clear f1 f2 hat hkey hlk hrg1 hg1 hbd hb1 hc1 hc9 hg9 hgv hlt1
      go_wp2_with fail
      refine ⟨⟨_, cnt1, k + 1, _, HRG9, HR9, HE9, HK9, HB9⟩, ?_⟩
      rw [HRG9.out.left_eq, HRG0.out.left_eq]; exact HLT.out
end
end Go.Proofs.YtbmhkdcmepfmbaaGreat
