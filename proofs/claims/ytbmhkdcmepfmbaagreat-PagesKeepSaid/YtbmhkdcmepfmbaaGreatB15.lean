/- A pool on its drive; an entry of a map, stored later. A page at hand is written to a slot of its own. A page at hand is put away. A page is at hand; others may be put away for it. -/
import Derived.Test.YtbmhkdcmepfmbaaGreatB14
import Derived.WideKeyEntry
import Derived.Test.YtbmhkdcmepfmbaaGreatB06
set_option linter.unusedVariables false
set_option linter.unusedSimpArgs false
set_option maxRecDepth 10000
namespace Go.Proofs.YtbmhkdcmepfmbaaGreat
open Go.RowKit
open Go.ChangeMaps (setBlock heap_setBlock_same)
attribute [local go_sem ↓] Go.wp_at_zero Go.wp_at_succ
theorem wb_setBlock (w : World) (b : Nat) (o : Obj) : Wb (fun k => k = b) w (setBlock w b o) :=
  ⟨rfl, rfl, rfl, by simp [setBlock], fun i hi hx => by
    have hx : ¬ i = b := hx
    have hx2 : ¬ b = i := fun h => hx h.symm
    simp [setBlock, Array.getElem?_setIfInBounds, hx2]⟩
/-- a map's entry is looked for; its value is stored later: as a store at once -/
theorem MapI.entry {w : World} {b n : Nat} {f : Int → Option Value} {t e : TypeId} (h : MapI Tryz.prog 3 w b f n) (ht : Tryz.prog.underlying t = some (.map 3 e)) {z : Value} (hz : ∀ u : World, (zeroValue e).run Tryz.prog u = .ok z u) (s : Int) (hs : Wi s) (hn : n < maxLen) :
    ∃ (v0 : Value) (st : Int) (W1 : World), (Instr.mapEntry t (.map (some b)) (.int .i64 s)).run Tryz.prog w = .ok (.tuple #[v0, .int .i64 st]) W1 ∧ Wb (fun k => k = b) w W1 ∧
      ∀ v, ∃ w', (Instr.entryStore t (.map (some b)) (.int .i64 st) v).run Tryz.prog W1 = .ok () w' ∧ MapI Tryz.prog 3 w' b (fun x => if x = s then some v else f x) (if (f s).isSome then n else n + 1) ∧ Wb (fun k => k = b) w w' := by
  have h0 := h
  obtain ⟨D, ⟨es, clock, hb, F, _⟩, _⟩ := h0
  have K := Maps.int_keyed Tryz.underlying3
  have hkey := Maps.keyOf_int_mk Tryz.underlying3 hs
  obtain ⟨s1, s2, _⟩ := F.stamped
  have key : ∃ (v0 : Value) (st : Nat) (es1 : Array MapEntry) (c1 : Nat), (Instr.mapEntry t (.map (some b)) (.int .i64 s)).run Tryz.prog w = .ok (.tuple #[v0, .int .i64 (st : Int)]) (setBlock w b (.map es1 c1)) ∧
      ∀ v, ∃ es2, (Instr.entryStore t (.map (some b)) (.int .i64 (st : Int)) v).run Tryz.prog (setBlock w b (.map es1 c1)) = .ok () (setBlock (setBlock w b (.map es1 c1)) b (.map es2 c1)) ∧ (Instr.mapUpdate t (.map (some b)) (.int .i64 s) v).run Tryz.prog w = .ok () (setBlock w b (.map es2 c1)) := by
    rcases K.find w hkey es.toList F.keys with ⟨h1, h2⟩ | ⟨j, e0, h1, h2, h3⟩
    · refine ⟨z, clock, es.push ⟨.int .i64 s, z, clock⟩, clock + 1, ?_, fun v => ⟨es.push ⟨.int .i64 s, v, clock⟩, ?_, ?_⟩⟩
      · simp [Instr.mapEntry, run_underlying ht, MapKept.run_getObj_map hb, K.check w false hkey, h1, hz, MapKept.run_setObj_map _ hb, Result.andThen, setBlock, goInt]
      · have hw2 := heap_setBlock_same hb (.map (es.push ⟨.int .i64 s, z, clock⟩) (clock + 1))
        have hnd : ((es.push ⟨.int .i64 s, z, clock⟩).toList.map (·.born)).Nodup := by
          rw [Array.toList_push, List.map_append]
          refine List.nodup_append.2 ⟨s2, by simp, fun a ha c hc e1 => ?_⟩
          obtain ⟨x, hx, rfl⟩ := List.mem_map.1 ha
          have hx := s1 x hx
          simp at hc
          omega
        have hidx : (es.push ⟨.int .i64 s, z, clock⟩).findIdx? (fun e => ((e.born : Nat) : Int) == ((clock : Nat) : Int)) = some es.size := by
          rw [WideElems.findIdx_arr]
          exact WideElems.findIdx_born (e0 := ⟨.int .i64 s, z, clock⟩) hnd (by simp)
        have hmod : (es.push ⟨.int .i64 s, z, clock⟩).modify es.size (fun e => { e with val := v }) = es.push ⟨.int .i64 s, v, clock⟩ := by
          apply Array.toList_inj.1
          rw [Array.toList_modify, Array.toList_push, Array.toList_push, ← Array.length_toList, WideElems.modify_last]
        generalize setBlock w b (.map (es.push ⟨.int .i64 s, z, clock⟩) (clock + 1)) = w2 at *
        simp [Instr.entryStore, MapKept.run_getObj_map hw2, asInt, asIntOf, goInt, hidx, hmod, MapKept.run_setObj_map _ hw2, Result.andThen, setBlock]
      · simp [Instr.mapUpdate, run_underlying ht, MapKept.run_getObj_map hb, K.check w false hkey, h1, MapKept.run_setObj_map _ hb, Result.andThen, setBlock]
    · obtain ⟨k0, v0', b0⟩ := e0
      simp only at h3
      subst h3
      have hj : es[j]? = some ⟨.int .i64 s, v0', b0⟩ := by simpa using h2
      obtain ⟨hjl, hje⟩ := Array.getElem?_eq_some_iff.1 hj
      have hme : ∀ v : Value, es.modify j (fun e => { e with val := v }) = es.modify j (fun e => { e with key := .int .i64 s, val := v }) := fun v => by
        apply Array.ext
        · simp
        · intro i h1 h2
          simp only [Array.getElem_modify]
          split
          · next e => subst e
                      rw [hje]
          · rfl
      have hsame : es.modify j (fun e => { e with key := .int .i64 s }) = es := by
        apply Array.ext
        · simp
        · intro i h1 h2
          simp only [Array.getElem_modify]
          split
          · next e => subst e
                      rw [hje]
          · rfl
      refine ⟨v0', b0, es, clock, ?_, fun v => ⟨es.modify j (fun e => { e with val := v }), ?_, ?_⟩⟩
      · simp [Instr.mapEntry, run_underlying ht, MapKept.run_getObj_map hb, K.check w false hkey, h1, hj, K.stays w hkey, hsame, MapKept.run_setObj_map _ hb, Result.andThen, setBlock, goInt]
      · have hw2 := heap_setBlock_same hb (.map es clock)
        have hidx : es.findIdx? (fun e => ((e.born : Nat) : Int) == ((b0 : Nat) : Int)) = some j := by
          rw [WideElems.findIdx_arr]
          exact WideElems.findIdx_born s2 h2
        generalize setBlock w b (.map es clock) = w2 at *
        simp [Instr.entryStore, MapKept.run_getObj_map hw2, asInt, asIntOf, goInt, hidx, MapKept.run_setObj_map _ hw2, Result.andThen, setBlock]
      · rw [hme v]
        simp [Instr.mapUpdate, run_underlying ht, MapKept.run_getObj_map hb, K.check w false hkey, h1, hj, K.stays w hkey, MapKept.run_setObj_map _ hb, Result.andThen, setBlock]
  obtain ⟨v0, st, es1, c1, k1, k2⟩ := key
  refine ⟨v0, (st : Int), _, k1, wb_setBlock _ _ _, fun v => ?_⟩
  obtain ⟨es2, k3, k4⟩ := k2 v
  obtain ⟨w', hr, hm, hg⟩ := h.store Tryz.underlying3 ht s hs v hn
  rw [k4] at hr
  injection hr with _ e2
  refine ⟨_, k3, hm.block ?_, (wb_setBlock _ _ _).trans (wb_setBlock _ _ _)⟩
  rw [heap_setBlock_same (heap_setBlock_same hb _) _, ← e2, heap_setBlock_same hb _]
section
variable {T D X : Nat → Prop} {w w' : World} {p b : Nat} {s : Ps} {ms mf ma : Nat} {ff : Int → Option Value} {nf : Nat} {g : Int → Nat}
theorem Pi.mono (h : Pi T D w p b s ms mf ma ff nf g) {D' : Nat → Prop} (hD : ∀ k, D k → D' k) (hd : ∀ k, D' k → k < w.heap.size ∧ ¬ T k) : Pi T D' w p b s ms mf ma ff nf g :=
  { h with fr := fun i f hf => ⟨(h.fr i f hf).1.mono hD, (h.fr i f hf).2⟩, hD := hd }
theorem hMap_put (H : Al Fr) (hS : ASrt H) (i : Int) (f : Fr) (hi : (aget H i).isSome) : hMap (aput H i f) g = hMap H g := by
  funext x
  unfold hMap
  rw [aget_put hS]
  split
  · next e => subst e
              obtain ⟨f0, hf⟩ := Option.isSome_iff_exists.1 hi
              rw [hf]; rfl
  · rfl
theorem Pi.setF (h : Pi T D w p b s ms mf ma ff nf g) {i : Int} {f f' : Fr} (hf : aget s.H i = some f) (hw : Wb (fun k => k = g i) w w') (hfr : FrIs D w' (g i) f') : Pi T D w' p b { s with H := aput s.H i f' } ms mf ma ff nf g := by
  have hi : (aget s.H i).isSome := by rw [hf]; rfl
  obtain ⟨hfi, hti, hpi⟩ := h.fr i f hf
  obtain ⟨v0, hcell, _⟩ := hfi
  have hnm : ∀ {m n : Nat} {f : Int → Option Value}, MapI Tryz.prog 3 w m f n → ¬ m = g i := fun hm e => by
    obtain ⟨es, c, h2⟩ := hm.is
    rw [e, hcell] at h2
    cases h2
  have hX : ∀ k, k = g i → ¬ D k := fun k hk hd => by subst hk; exact (h.hD _ hd).2 hti
  have hso : ∀ j, (aget (aput s.H i f') j).isSome → (aget s.H j).isSome := fun j hj => by
    rw [aget_put h.sH] at hj
    split at hj
    · next e => subst e; exact hi
    · exact hj
  exact { bx := by rw [hw.block p (h.hT _ h.tp) fun e => hpi e.symm]; exact h.bx
          sS := h.sS
          sH := h.sH.put _ _
          mS := h.mS.wb hw (hnm h.mS)
          mF := h.mF.wb hw (hnm h.mF)
          mH := by
            have := h.mH.wb hw (hnm h.mH)
            show MapI Tryz.prog 3 w' ma (hMap (aput s.H i f') g) (aput s.H i f').length
            rw [hMap_put _ h.sH _ _ hi, len_aput _ h.sH, if_pos hi]
            exact this
          cF := h.cF
          fr := fun j f0 hj => by
            have hj0 : aget (aput s.H i f') j = some f0 := hj
            rw [aget_put h.sH] at hj0
            by_cases e : j = i
            · subst e
              rw [if_pos rfl] at hj0
              cases hj0
              exact ⟨hfr, hti, hpi⟩
            · rw [if_neg e] at hj0
              exact ⟨(h.fr j f0 hj0).1.keep hw hX fun e2 => e (h.inj j i (by rw [hj0]; rfl) hi e2), (h.fr j f0 hj0).2⟩
          inj := fun j k hj hk => h.inj j k (hso j hj) (hso k hk)
          tp := h.tp
          tS := h.tS
          tF := h.tF
          tH := h.tH
          ne := h.ne
          hT := fun k hk => Nat.lt_of_lt_of_le (h.hT k hk) hw.size
          hD := fun k hk => ⟨Nat.lt_of_lt_of_le (h.hD k hk).1 hw.size, (h.hD k hk).2⟩ }
end
/-- blocks of others, of which this pool never keeps memory -/
class Xcl where
  X : Nat → Prop
def Xo [Xcl] (D Dd : Nat → Prop) (n : Nat) : Prop := (∀ k, Xcl.X k → k < n) ∧ (∀ k, D k → ¬ Xcl.X k) ∧ ∀ k, Dd k → ¬ Xcl.X k
/-- a pool on its drive; T: the pool's own blocks, M: the drive's maps -/
structure Jn [Xcl] (T M : Nat → Prop) (w : World) (p b : Nat) (s : Ps) (d : Dm) : Prop where
  ex : ∃ D Dd ms mf ma ff nf g, Pi T D w p b s ms mf ma ff nf g ∧ DrIs M Dd w b d ∧ nf ≤ 100000 ∧ (∀ k, D k → ¬ M k ∧ k ≠ b) ∧ (∀ k, Dd k → ¬ T k) ∧ Xo D Dd w.heap.size
  tm : ∀ k, T k → ¬ M k ∧ k ≠ b
/-- what a call of a pool leaves -/
def Jp [Xcl] (T M : Nat → Prop) (w : World) (p b : Nat) (s' : Ps) (d' : Dm) (w' : World) : Prop :=
  Wb (fun k => T k ∨ M k ∨ k = b) w w' ∧ ∃ T' M' : Nat → Prop, (∀ k, T' k → T k ∨ w.heap.size ≤ k) ∧ (∀ k, M' k → M k ∨ w.heap.size ≤ k) ∧ Jn T' M' w' p b s' d'
theorem Xo.up [Xcl] {D Dd : Nat → Prop} {n m : Nat} (h : Xo D Dd n) (hm : n ≤ m) : Xo D Dd m := ⟨fun k hk => Nat.lt_of_lt_of_le (h.1 k hk) hm, h.2⟩
theorem DrIs.blt {M D : Nat → Prop} {w : World} {b : Nat} {d : Dm} (h : DrIs M D w b d) : b < w.heap.size := by obtain ⟨_, _, _, hx, _⟩ := h.ex; exact (Array.getElem?_eq_some_iff.1 hx).1
theorem Jn.up [Xcl] {T M : Nat → Prop} {w w' : World} {p b : Nat} {s : Ps} {d : Dm} (h : Jn T M w p b s d) (hb : Below w.heap.size w w') : Jn T M w' p b s d := by
  obtain ⟨D, Dd, ms, mf, ma, ff, nf, g, h1, h2, h3, h4, h5, h6⟩ := h.ex
  exact ⟨⟨D, Dd, ms, mf, ma, ff, nf, g, h1.up hb, h2.below hb, h3, h4, h5, h6.up hb.size⟩, h.tm⟩
theorem Jp.refl [Xcl] {T M : Nat → Prop} {w w' : World} {p b : Nat} {s : Ps} {d : Dm} (h : Jn T M w p b s d) (hb : Below w.heap.size w w') : Jp T M w p b s d w' :=
  ⟨Wb.of_below _ hb, T, M, fun _ h => .inl h, fun _ h => .inl h, h.up hb⟩
theorem Jp.up [Xcl] {T M : Nat → Prop} {w w' w2 : World} {p b : Nat} {s : Ps} {d : Dm} (h : Jp T M w p b s d w') (hb : Below w'.heap.size w' w2) : Jp T M w p b s d w2 := by
  obtain ⟨h1, T', M', h2, h3, h4⟩ := h
  exact ⟨h1.trans (Wb.of_below _ hb), T', M', h2, h3, h4.up hb⟩
theorem Jn.lt [Xcl] {T M : Nat → Prop} {w : World} {p b : Nat} {s : Ps} {d : Dm} (h : Jn T M w p b s d) : p < w.heap.size ∧ b < w.heap.size ∧ (∀ k, T k → k < w.heap.size) ∧ ∀ k, M k → k < w.heap.size := by
  obtain ⟨D, Dd, ms, mf, ma, ff, nf, g, h1, h2, h3⟩ := h.ex
  exact ⟨h1.plt, h2.blt, h1.hT, fun k hk => (h2.hM k hk).1⟩
theorem Jn.xlt [Xcl] {T M : Nat → Prop} {w : World} {p b : Nat} {s : Ps} {d : Dm} (h : Jn T M w p b s d) : ∀ k, Xcl.X k → k < w.heap.size := by
  obtain ⟨D, Dd, ms, mf, ma, ff, nf, g, h1, h2, h3, h4, h5, h6⟩ := h.ex
  exact h6.1
theorem Jp.trans [Xcl] {T M T1 M1 : Nat → Prop} {w w1 w2 : World} {p b : Nat} {s2 : Ps} {d2 : Dm} (hw : Wb (fun k => T k ∨ M k ∨ k = b) w w1) (hT : ∀ k, T1 k → T k ∨ w.heap.size ≤ k) (hM : ∀ k, M1 k → M k ∨ w.heap.size ≤ k) (h : Jp T1 M1 w1 p b s2 d2 w2) : Jp T M w p b s2 d2 w2 := by
  obtain ⟨h1, T', M', h2, h3, h4⟩ := h
  refine ⟨⟨(Wb.trans (X := fun _ => True) (hw.mono fun _ _ => trivial) (h1.mono fun _ _ => trivial)).os, ?_, ?_, Nat.le_trans hw.size h1.size, fun i hi hx => ?_⟩, T', M', fun k hk => ?_, fun k hk => ?_, h4⟩
  · exact (Wb.trans (X := fun _ => True) (hw.mono fun _ _ => trivial) (h1.mono fun _ _ => trivial)).tape
  · exact (Wb.trans (X := fun _ => True) (hw.mono fun _ _ => trivial) (h1.mono fun _ _ => trivial)).output
  · rw [h1.block i (Nat.lt_of_lt_of_le hi hw.size) fun e => ?_, hw.block i hi hx]
    rcases e with e | e | e
    · rcases hT i e with e | e
      · exact hx (.inl e)
      · omega
    · rcases hM i e with e | e
      · exact hx (.inr (.inl e))
      · omega
    · exact hx (.inr (.inr e))
  · rcases h2 k hk with h | h
    · exact hT k h
    · exact .inr (Nat.le_trans hw.size h)
  · rcases h3 k hk with h | h
    · exact hM k h
    · exact .inr (Nat.le_trans hw.size h)
end Go.Proofs.YtbmhkdcmepfmbaaGreat
set_option linter.unusedVariables false
set_option linter.unusedSimpArgs false
namespace Go.Proofs.YtbmhkdcmepfmbaaGreat
open Go.RowKit
attribute [local go_sem ↓] Go.wp_at_zero Go.wp_at_succ
/-- a pool on its drive, told whole -/
structure Jx [Xcl] (T D M Dd : Nat → Prop) (w : World) (p b : Nat) (s : Ps) (d : Dm) (ms mf ma : Nat) (ff : Int → Option Value) (nf : Nat) (g : Int → Nat) : Prop where
  P : Pi T D w p b s ms mf ma ff nf g
  Dr : DrIs M Dd w b d
  nf : nf ≤ 100000
  dm : ∀ k, D k → ¬ M k ∧ k ≠ b
  dd : ∀ k, Dd k → ¬ T k
  tm : ∀ k, T k → ¬ M k ∧ k ≠ b
  xo : Xo D Dd w.heap.size
theorem Jn.jx [Xcl] {T M : Nat → Prop} {w : World} {p b : Nat} {s : Ps} {d : Dm} (h : Jn T M w p b s d) : ∃ D Dd ms mf ma ff nf g, Jx T D M Dd w p b s d ms mf ma ff nf g := by
  obtain ⟨D, Dd, ms, mf, ma, ff, nf, g, h1, h2, h3, h4, h5, h6⟩ := h.ex
  exact ⟨D, Dd, ms, mf, ma, ff, nf, g, h1, h2, h3, h4, h5, h.tm, h6⟩
theorem Jx.jn [Xcl] {T D M Dd : Nat → Prop} {w : World} {p b : Nat} {s : Ps} {d : Dm} {ms mf ma : Nat} {ff : Int → Option Value} {nf : Nat} {g : Int → Nat} (h : Jx T D M Dd w p b s d ms mf ma ff nf g) : Jn T M w p b s d :=
  ⟨⟨D, Dd, ms, mf, ma, ff, nf, g, h.P, h.Dr, h.nf, h.dm, h.dd, h.xo⟩, h.tm⟩
theorem Jx.drive [Xcl] {T D M Dd : Nat → Prop} {w wa wb : World} {p b : Nat} {s : Ps} {d d' : Dm} {ms mf ma : Nat} {ff : Int → Option Value} {nf : Nat} {g : Int → Nat} (h : Jx T D M Dd w p b s d ms mf ma ff nf g) (hb : Below w.heap.size w wa) (hT : Turned M Dd wa b d' wb) :
    ∃ M' D', (∀ k, M' k → M k ∨ w.heap.size ≤ k) ∧ Wb (fun k => k = b ∨ M k) w wb ∧ Jx T D M' D' wb p b s d' ms mf ma ff nf g := by
  obtain ⟨h1, M', D', h2, h3, h4⟩ := hT
  have hw : Wb (fun k => k = b ∨ M k) w wb := (Wb.of_below _ hb).trans h1
  have hs := hb.size
  have hm : ∀ k, M' k → M k ∨ w.heap.size ≤ k := fun k hk => (h2 k hk).imp id fun h => by omega
  refine ⟨M', D', hm, hw, h.P.keep hw fun k hk => ?_, h4, h.nf, fun k hk => ⟨fun hk2 => ?_, (h.dm k hk).2⟩, fun k hk hk2 => ?_, fun k hk => ⟨fun hk2 => ?_, (h.tm k hk).2⟩, ⟨fun k hk => Nat.lt_of_lt_of_le (h.xo.1 k hk) hw.size, h.xo.2.1, fun k hk hk2 => ?_⟩⟩
  · rcases hk with rfl | hk
    · exact ⟨fun h6 => (h.tm _ h6).2 rfl, fun h6 => (h.dm _ h6).2 rfl⟩
    · exact ⟨fun h6 => (h.tm _ h6).1 hk, fun h6 => (h.dm _ h6).1 hk⟩
  · rcases hm k hk2 with h6 | h6
    · exact (h.dm k hk).1 h6
    · have := (h.P.hD k hk).1; omega
  · rcases h3 k hk with h6 | h6
    · exact h.dd k h6 hk2
    · have := h.P.hT k hk2; omega
  · rcases hm k hk2 with h6 | h6
    · exact (h.tm k hk).1 h6
    · have := h.P.hT k hk; omega
  · rcases h3 k hk with h6 | h6
    · exact h.xo.2.2 k h6 hk2
    · have := h.xo.1 k hk2; omega
/-- the drive's part stays, where only the pool's blocks are written -/
theorem Jx.pool [Xcl] {T D M Dd : Nat → Prop} {w w' : World} {p b : Nat} {s s' : Ps} {d : Dm} {ms mf ma : Nat} {ff : Int → Option Value} {nf : Nat} {g : Int → Nat} (h : Jx T D M Dd w p b s d ms mf ma ff nf g) (hw : Wb T w w') (hP : Pi T D w' p b s' ms mf ma ff nf g) : Jx T D M Dd w' p b s' d ms mf ma ff nf g :=
  { h with P := hP, Dr := h.Dr.keep hw fun k hk => ⟨(h.tm k hk).1, fun hd => h.dd k hd hk, (h.tm k hk).2⟩, xo := h.xo.up hw.size }
/-- bounds of a pool, in plain words -/
structure Pb (s : Ps) : Prop where
  S : Sbd s.S
  len : s.S.length ≤ 100000
  c : ∀ i, s.c i ≤ 100000
  dat : ∀ i f, aget s.H i = some f → f.data.length = 512
  ids : ∀ i, (aget s.H i).isSome → (aget s.S i).isSome
/-- bounds of a drive -/
structure Db (d : Dm) : Prop where
  tot : tot d.seen ≤ 100000000
  room : 0 ≤ d.room ∧ d.room ≤ 9223372036854775807
  len : d.seen.length ≤ 1000
  que : d.queue.length ≤ 1000000
/-- the slot that a page is written to -/
def Sl (s : Ps) (sl : Int) (z n : Nat) : Prop := (sl = n ∧ s.c n = 0) ∨ ((sl < 0 ∨ s.c sl ≠ 0) ∧ s.c n = 0 ∧ cnt s.S n = 0 ∧ (∀ m : Nat, m < n → s.c m + cnt s.S m ≠ 0) ∧ n ≤ z)
theorem Sl.le {s : Ps} {sl : Int} {z n : Nat} (h : Sl s sl z n) (hs : sl ≤ 1000000) (hz : z ≤ 100000) : n ≤ 1000000 := by
  rcases h with ⟨h, _⟩ | ⟨_, _, _, _, h⟩ <;> omega
/-- the state of a pool behind clean -/
def pcS (s : Ps) (id : Int) (f : Fr) (n : Nat) : Ps := { s with S := aput s.S id n, H := aput s.H id { f with dirty := false } }
def pcE (d : Dm) (n : Nat) : Int := rawE d (wrE d nmP ((n : Int) * 512) 512)
def pcD (d : Dm) (n : Nat) (l : By) : Dm := rawD d (.write nmP (n * 512) l) (wrE d nmP ((n : Int) * 512) 512)
def ClP [Xcl] (T M : Nat → Prop) (w : World) (p b : Nat) (s : Ps) (d : Dm) (id : Int) (f : Fr) (sl : Int) (z : Nat) (e : Ending) (w' : World) : Prop :=
  (f.dirty = false → e = .returned (.int .i64 0) ∧ w' = w) ∧
  (f.dirty = true → ∃ n : Nat, Sl s sl z n ∧ e = .returned (.int .i64 (pcE d n)) ∧ (pcE d n ≠ 0 → Jp T M w p b s (pcD d n f.data) w') ∧ (pcE d n = 0 → Jp T M w p b (pcS s id f n) (pcD d n f.data) w'))
set_option maxRecDepth 100000 in
set_option maxHeartbeats 4000000 in
theorem clean_any [Xcl] {T M : Nat → Prop} {w : World} {p b : Nat} {s : Ps} {d : Dm} (h : Jn T M w p b s d) (hb : Pb s) (hd : Db d) {id : Int} {f : Fr} {sl : Int} (hf : aget s.H id = some f) (hsl : aget s.S id = some sl) (z : Nat) (hz : z ≤ 100000) (hz1 : s.c z = 0) (hz2 : cnt s.S z = 0) :
    Calls Tryz.prog 38 #[.pointer (some ⟨p, 0, none⟩), .int .i64 id] w (ClP T M w p b s d id f sl z) := by
  obtain ⟨D, Dd, ms, mf, ma, ff, nf, g, hP, hDr, hnf, hDM, hDd, hXO⟩ := h.ex
  have hTM := h.tm
  have hbs := hb.S _ (aget_mem hsl)
  simp only at hbs
  have hwi : Wi id := Wi.of (by omega) (by omega)
  have hws : Wi sl := Wi.of (by omega) (by omega)
  obtain ⟨⟨c0, c1, c2, c3, c4, c5, c6, c7, c8, c9⟩, cf⟩ := hP.cells
  have hp := hP.plt
  obtain ⟨hfr, hTg, hgp⟩ := hP.fr id f hf
  obtain ⟨fv, hgx, hfv⟩ := hfr
  obtain ⟨fa, fc, rfl, _⟩ := hfv.at
  have hg := (Array.getElem?_eq_some_iff.1 hgx).1
  have hl1a := hP.mH.look1 Tryz.underlying3 Tryz.underlying63 (z87 w) id hwi
  have hl1 : (Instr.lookup 63 (.map (some ma)) (.int .i64 id) false).run Tryz.prog w = .ok (.pointer (some ⟨g id, 0, none⟩)) w := by
    rw [hl1a]; unfold hMap; rw [hf]; rfl
  clear hl1a
  obtain ⟨d0, d1, d2⟩ := bx3 hgx
  cases hdy : f.dirty with
  | false =>
    rw [hdy] at d1
    clear hP hDr hgx hfv c0 c1 c2 c3 c4 c6 c7 c8 c9
    go_enter Tryz.func38, Tryz.ntmps38
    go_wp2_with fail
    go_ret
    exact ⟨fun _ => ⟨rfl, rfl⟩, fun h => by rw [hdy] at h; cases h⟩
  | true =>
    rw [hdy] at d1
    have hl2a := hP.mS.look1 Tryz.underlying3 Tryz.underlying62 (z3 w) id hwi
    have hl2 : (Instr.lookup 62 (.map (some ms)) (.int .i64 id) false).run Tryz.prog w = .ok (.int .i64 sl) w := by
      rw [hl2a]; unfold sMap; rw [hsl]; rfl
    clear hl2a
    have hl3 := CntIs.look (⟨ff, nf, hP.mF, hnf, hP.cF⟩ : CntIs w mf 100000 s.c) sl hws
    have HFR := Hid.mk' (free_any hP hb.S hb.len hnf hb.c z hz hz1 hz2)
    have HH := Hid.mk' hP
    have HDR := Hid.mk' hDr
    have HFV := Hid.mk' hfv
    have HGX := Hid.mk' hgx
    have HTM := Hid.mk' hTM
    have HDM := Hid.mk' hDM
    have HDD := Hid.mk' hDd
    have HDB := Hid.mk' hd
    have HPB := Hid.mk' hb
    have HF := Hid.mk' hf
    have HSL := Hid.mk' hsl
    have HTG : Hid (T (g id) ∧ g id ≠ p) := ⟨hTg, hgp⟩
    have hgp' : ¬ p = g id := fun e => hgp e.symm
    have hsb1 : -1 ≤ sl := hbs.2.2.1
    have hsb2 : sl ≤ 1000000 := hbs.2.2.2
    have HZ : Hid (s.c z = 0 ∧ cnt s.S z = 0 ∧ z ≤ 100000) := ⟨hz1, hz2, hz⟩
    have HDY := Hid.mk' hdy
    have HNF := Hid.mk' hnf
    have GX0 : Hid (w.heap[g id]? = some (.cells #[.slice fa f.data.length fc, .bool true, .int .i64 f.used] 94 (0, 0))) := by have := hgx; rw [hdy] at this; exact this
    have HPX : Hid (¬ (p = b ∨ M p)) := fun h => h.elim (fun h => (hTM p hP.tp).2 h) fun h => (hTM p hP.tp).1 h
    have HJX : Hid (Jx T D M Dd w p b s d ms mf ma ff nf g) := ⟨hP, hDr, hnf, hDM, hDd, hTM, hXO⟩
    have HGY : Hid (¬ (g id = b ∨ M (g id))) := fun h => h.elim (fun h => (hTM _ hTg).2 h) fun h => (hTM _ hTg).1 h
    clear h hb hd hf hsl hz hz1 hz2 hP hDr hnf hDM hDd hTM hXO hbs hTg hfv hgx hdy c2 c6 c7 c8 c9
    have hcase : (sl < 0 ∧ Hid (sl < 0 ∨ s.c sl ≠ 0)) ∨ (¬ sl < 0 ∧ (0 : Int) < (s.c sl : Int) ∧ Hid (sl < 0 ∨ s.c sl ≠ 0)) ∨ (∃ n : Nat, sl = n ∧ (s.c sl : Int) = 0 ∧ Hid (s.c sl = 0)) := by
      by_cases h0 : sl < 0
      · exact .inl ⟨h0, Hid.mk' (.inl h0)⟩
      · by_cases h1 : s.c sl = 0
        · exact .inr (.inr ⟨sl.toNat, by omega, by omega, h1⟩)
        · exact .inr (.inl ⟨h0, by omega, Hid.mk' (.inr h1)⟩)
    clear hgp
    rcases hcase with ⟨h0, HA⟩ | ⟨h0, h1, HA⟩ | ⟨n, rfl, h1, HA⟩
    case inl =>
      go_enter Tryz.func38, Tryz.ntmps38
      go_wp2_with fail
      refine HFR.out.mono ?_
      rintro e WW ⟨n, rfl, hn1, hn2, hn3, hn4, hbw⟩
      have HSn : Hid (Sl s sl z n) := .inr ⟨HA.out, hn1, hn2, (fun m hm e => by have := hn3 m hm; omega), hn4⟩
      have HBW := Hid.mk' hbw
      clear hn1 hn2 hn3 hn4 hbw c0 c1 c3 c4 c5 d0 d1 d2
      have HPW := Hid.mk' (HH.out.up HBW.out)
      have HDW := Hid.mk' (HDR.out.below HBW.out)
      obtain ⟨⟨c0, c1, c2, c3, c4, c5, c6, c7, c8, c9⟩, _⟩ := HPW.out.cells
      have HGW : Hid (WW.heap[g id]? = some (.cells #[.slice fa f.data.length fc, .bool true, .int .i64 f.used] 94 (0, 0))) := by
        show _ = _
        rw [HBW.out.block _ hg, GX0.out]
      obtain ⟨d0, d1, d2⟩ := bx3 HGW.out
      have HFW := Hid.mk' (HFV.out.up HBW.out)
      have hdl : f.data.length = 512 := HPB.out.dat id f HF.out
      have HDL := Hid.mk' hdl
      rw [hdl] at d0 HFW HGW
      have hni : (n : Int) ≤ 1000000 := by have := HSn.out.le hsb2 HZ.out.2.2; omega
      have r0 : ∀ q : Kp (fun k => k = b ∨ M k) WW, q.nx.cell? ⟨p, 0, none⟩ = some (.pointer (some ⟨b, 0, none⟩)) := fun q => q.cell c0 HPX.out
      have r1 : ∀ q : Kp (fun k => k = b ∨ M k) WW, q.nx.cell? ⟨g id, 0, none⟩ = some (.slice fa 512 fc) := fun q => q.cell d0 HGY.out
      have hdr := drew_blx WW WW.heap.size
      have hfl := file_any (cell_up c0 hdr) (cell_up c1 hdr)
      have HFL := Hid.mk' hfl
      have HWR : Hid (∀ W', Below WW.heap.size WW W' → Calls Tryz.prog 66 #[.pointer (some ⟨b, 0, none⟩), .string ⟨nmP.toArray⟩, .int .i64 ((n : Int) * 512), .slice fa 512 fc] W' (WritePost M Dd W' b d nmP ((n : Int) * 512) f.data)) := fun W' hW' => by
        have h1 : Bs D W' (.slice fa 512 fc) f.data := HFW.out.up hW'
        refine write_any nmP f.data ((n : Int) * 512) _ (HDW.out.below hW') (by decide) h1 (by have := HDB.out.tot; unfold lim; omega) HDB.out.room (fun _ => ?_) (by have := HDB.out.len; unfold maxLen; omega) (by have := HDB.out.que; omega)
        rw [HDL.out]
        unfold lim
        omega
      have hmul : IntKind.i64.wrap ((n : Int) * 512) = (n : Int) * 512 := by rw [IntKind.wrap_i64]; omega
      clear c2 c6 c7 c8 c9 d1 d2 hdl hdr hfl
      go_wp2_with fail
      refine wp_region_mix 14 (fun w' => ∃ q : Kp (fun k => k = b ∨ M k) WW, w' = q.nx) (by kernel_rfl) (by kernel_rfl) (kp_first _ WW) ?_
      simp only [List.take_succ_cons, List.take_zero, List.drop_succ_cons, List.drop_zero]
      refine mx_take 6 rfl ?_
      simp only [List.take_succ_cons, List.take_zero, List.drop_succ_cons, List.drop_zero]
      repeat (go_big_quiet_step (fail))
      refine wpQuiet_nil ?_
      refine mx_call (vals := [.pointer (some ⟨p, 0, none⟩)]) Tryz.func44 (by kernel_rfl) rfl rfl (by kernel_rfl) (by kernel_rfl) HFL.out (fun e wa ha => ?_)
      obtain ⟨rfl, hba⟩ := ha
      have HBA : Hid (Below WW.heap.size WW wa) := bt (drew_blx WW _) hba
      refine ⟨_, rfl, kp_mk HBA.out.size fun k hk _ => HBA.out.block k hk, ?_⟩
      simp only [Act.put, List.setIfInBounds_toArray, List.set_cons_succ, List.set_cons_zero]
      refine mx_take 6 rfl ?_
      simp only [List.take_succ_cons, List.take_zero, List.drop_succ_cons, List.drop_zero]
      repeat (go_big_quiet_step (fail))
      refine wpQuiet_nil ?_
      refine mx_call (vals := [.pointer (some ⟨b, 0, none⟩), .string ⟨nmP.toArray⟩, .int .i64 ((n : Int) * 512), .slice fa 512 fc]) Tryz.func66 (by kernel_rfl) rfl rfl (by kernel_rfl) (by kernel_rfl) (HWR.out wa HBA.out) (fun e wb hb => ?_)
      obtain ⟨rfl, hT⟩ := hb
      have HT := Hid.mk' hT
      have HWB : Hid (Wb (fun k => k = b ∨ M k) WW wb) := (Wb.of_below _ HBA.out).trans hT.1
      refine ⟨_, rfl, kp_mk HWB.out.size fun k hk hx => HWB.out.block k hk hx, ?_⟩
      simp only [Act.put, List.setIfInBounds_toArray, List.set_cons_succ, List.set_cons_zero, wpMix]
      clear hba hT r0 r1 HFL HWR hmul
      have HEE : Hid (rawE d (wrE d nmP ((n : Int) * 512) f.data.length) = pcE d n) := by show _ = _; rw [HDL.out]; rfl
      rw [HEE.out]
      have HJ2 : Hid (∃ M' D', (∀ k, M' k → M k ∨ w.heap.size ≤ k) ∧ Wb (fun k => k = b ∨ M k) w wb ∧ Jx T D M' D' wb p b s (pcD d n f.data) ms mf ma ff nf g) := by
        have hT := HT.out
        have e1 : rawD d (.write nmP ((n : Int) * 512).toNat f.data) (wrE d nmP ((n : Int) * 512) f.data.length) = pcD d n f.data := by
          rw [HDL.out, show ((n : Int) * 512).toNat = n * 512 by omega]; rfl
        rw [e1] at hT
        exact HJX.out.drive (bt HBW.out HBA.out) hT
      obtain ⟨M', D', hM', hwB, hJ⟩ := HJ2.out
      have HM' := Hid.mk' hM'
      have HWX := Hid.mk' hwB
      have HJ := Hid.mk' hJ
      have hpb := hJ.P.plt
      obtain ⟨⟨c0, c1, c2, c3, c4, c5, c6, c7, c8, c9⟩, cf⟩ := hJ.P.cells
      clear hM' hwB hJ HJ2 HT HEE
      by_cases he : pcE d n = 0
      · have HE := Hid.mk' he
        have hsi : (sMap s.S id).isSome = true := by rw [sMap_some, HSL.out]; rfl
        obtain ⟨v0, st, W1, hen, hw1, hst⟩ := HJ.out.P.mS.entry Tryz.underlying62 z3 id hwi (by have := HPB.out.len; unfold maxLen; omega)
        obtain ⟨w9, hr9, hm9, hw9⟩ := hst (.int .i64 (n : Int))
        rw [if_pos hsi, sMap_put _ HJ.out.P.sS] at hm9
        have HP9 : Hid (Pi T D w9 p b { s with S := aput s.S id n } ms mf ma ff nf g) := HJ.out.P.setS hw9 (by rw [len_aput _ HJ.out.P.sS, HSL.out]; exact hm9) (HJ.out.P.sS.put _ _)
        have HW9 := Hid.mk' hw9
        obtain ⟨hfr9, hTg9, _⟩ := HP9.out.fr id f HF.out
        obtain ⟨fv9, hx9, hv9⟩ := hfr9
        have hd9 := (bx3 hx9).2.1
        have hf9 := bx3_fr hx9 1
        have hg9 : g id < w9.heap.size := (Array.getElem?_eq_some_iff.1 hx9).1
        have HFIN : Hid (Jp T M w p b (pcS s id f n) (pcD d n f.data) (w9.setCell ⟨g id, 1, none⟩ (.bool false))) := by
          have hws := Wb.set (X := fun k => k = g id) w9 (g id) 1 (.bool false) rfl
          have hP10 := HP9.out.setF (f := f) (f' := { f with dirty := false }) HF.out hws ⟨fv9, by rw [bx3_set hx9]; rfl, hv9.wb hws fun k hk hd => by subst hk; exact (HP9.out.hD _ hd).2 hTg9⟩
          have hwT : Wb T wb (w9.setCell ⟨g id, 1, none⟩ (.bool false)) := (HW9.out.mono fun k hk => by subst hk; exact HJ.out.P.tS.1).trans (hws.mono fun k hk => by subst hk; exact hTg9)
          have hJ10 := HJ.out.pool hwT hP10
          have hWa : Wb (fun k => T k ∨ M k ∨ k = b) w wb := HWX.out.mono fun k hk => hk.elim (fun h => .inr (.inr h)) fun h => .inr (.inl h)
          exact ⟨hWa.trans (hwT.mono fun k hk => .inl hk), T, M', fun k hk => .inl hk, HM'.out, hJ10.jn⟩
        rw [he]
        clear he hw1 hst hm9 hw9 hx9 hv9 hsi hTg9 c0 c1 c2 c4 c5 c6 c7 c8 c9
        go_wp2_with fail
        go_ret
        exact ⟨fun h => absurd (h.symm.trans HDY.out) (by decide), fun _ => ⟨n, HSn.out, by rw [HE.out]; rfl, fun h => absurd HE.out h, fun _ => HFIN.out⟩⟩
      · have HE := Hid.mk' he
        have he' : ¬ pcE d n = 0 := he
        have HFIN : Hid (Jp T M w p b s (pcD d n f.data) wb) := ⟨HWX.out.mono fun k hk => hk.elim (fun h => .inr (.inr h)) fun h => .inr (.inl h), T, M', fun k hk => .inl hk, HM'.out, HJ.out.jn⟩
        generalize hpe : pcE d n = pe at *
        have HPE := Hid.mk' hpe
        clear hpe he c0 c1 c2 c3 c4 c5 c6 c7 c8 c9
        go_wp2_with fail
        go_ret
        exact ⟨fun h => absurd (h.symm.trans HDY.out) (by decide), fun _ => ⟨n, HSn.out, by rw [HPE.out]; rfl, fun _ => HFIN.out, fun h => absurd (HPE.out.symm.trans h) HE.out⟩⟩
    case inr.inl =>
      go_enter Tryz.func38, Tryz.ntmps38
      go_wp2_with fail
      refine HFR.out.mono ?_
      rintro e WW ⟨n, rfl, hn1, hn2, hn3, hn4, hbw⟩
      have HSn : Hid (Sl s sl z n) := .inr ⟨HA.out, hn1, hn2, (fun m hm e => by have := hn3 m hm; omega), hn4⟩
      have HBW := Hid.mk' hbw
      clear hn1 hn2 hn3 hn4 hbw c0 c1 c3 c4 c5 d0 d1 d2
      have HPW := Hid.mk' (HH.out.up HBW.out)
      have HDW := Hid.mk' (HDR.out.below HBW.out)
      obtain ⟨⟨c0, c1, c2, c3, c4, c5, c6, c7, c8, c9⟩, _⟩ := HPW.out.cells
      have HGW : Hid (WW.heap[g id]? = some (.cells #[.slice fa f.data.length fc, .bool true, .int .i64 f.used] 94 (0, 0))) := by
        show _ = _
        rw [HBW.out.block _ hg, GX0.out]
      obtain ⟨d0, d1, d2⟩ := bx3 HGW.out
      have HFW := Hid.mk' (HFV.out.up HBW.out)
      have hdl : f.data.length = 512 := HPB.out.dat id f HF.out
      have HDL := Hid.mk' hdl
      rw [hdl] at d0 HFW HGW
      have hni : (n : Int) ≤ 1000000 := by have := HSn.out.le hsb2 HZ.out.2.2; omega
      have r0 : ∀ q : Kp (fun k => k = b ∨ M k) WW, q.nx.cell? ⟨p, 0, none⟩ = some (.pointer (some ⟨b, 0, none⟩)) := fun q => q.cell c0 HPX.out
      have r1 : ∀ q : Kp (fun k => k = b ∨ M k) WW, q.nx.cell? ⟨g id, 0, none⟩ = some (.slice fa 512 fc) := fun q => q.cell d0 HGY.out
      have hdr := drew_blx WW WW.heap.size
      have hfl := file_any (cell_up c0 hdr) (cell_up c1 hdr)
      have HFL := Hid.mk' hfl
      have HWR : Hid (∀ W', Below WW.heap.size WW W' → Calls Tryz.prog 66 #[.pointer (some ⟨b, 0, none⟩), .string ⟨nmP.toArray⟩, .int .i64 ((n : Int) * 512), .slice fa 512 fc] W' (WritePost M Dd W' b d nmP ((n : Int) * 512) f.data)) := fun W' hW' => by
        have h1 : Bs D W' (.slice fa 512 fc) f.data := HFW.out.up hW'
        refine write_any nmP f.data ((n : Int) * 512) _ (HDW.out.below hW') (by decide) h1 (by have := HDB.out.tot; unfold lim; omega) HDB.out.room (fun _ => ?_) (by have := HDB.out.len; unfold maxLen; omega) (by have := HDB.out.que; omega)
        rw [HDL.out]
        unfold lim
        omega
      have hmul : IntKind.i64.wrap ((n : Int) * 512) = (n : Int) * 512 := by rw [IntKind.wrap_i64]; omega
      clear c2 c6 c7 c8 c9 d1 d2 hdl hdr hfl
      go_wp2_with fail
      refine wp_region_mix 14 (fun w' => ∃ q : Kp (fun k => k = b ∨ M k) WW, w' = q.nx) (by kernel_rfl) (by kernel_rfl) (kp_first _ WW) ?_
      simp only [List.take_succ_cons, List.take_zero, List.drop_succ_cons, List.drop_zero]
      refine mx_take 6 rfl ?_
      simp only [List.take_succ_cons, List.take_zero, List.drop_succ_cons, List.drop_zero]
      repeat (go_big_quiet_step (fail))
      refine wpQuiet_nil ?_
      refine mx_call (vals := [.pointer (some ⟨p, 0, none⟩)]) Tryz.func44 (by kernel_rfl) rfl rfl (by kernel_rfl) (by kernel_rfl) HFL.out (fun e wa ha => ?_)
      obtain ⟨rfl, hba⟩ := ha
      have HBA : Hid (Below WW.heap.size WW wa) := bt (drew_blx WW _) hba
      refine ⟨_, rfl, kp_mk HBA.out.size fun k hk _ => HBA.out.block k hk, ?_⟩
      simp only [Act.put, List.setIfInBounds_toArray, List.set_cons_succ, List.set_cons_zero]
      refine mx_take 6 rfl ?_
      simp only [List.take_succ_cons, List.take_zero, List.drop_succ_cons, List.drop_zero]
      repeat (go_big_quiet_step (fail))
      refine wpQuiet_nil ?_
      refine mx_call (vals := [.pointer (some ⟨b, 0, none⟩), .string ⟨nmP.toArray⟩, .int .i64 ((n : Int) * 512), .slice fa 512 fc]) Tryz.func66 (by kernel_rfl) rfl rfl (by kernel_rfl) (by kernel_rfl) (HWR.out wa HBA.out) (fun e wb hb => ?_)
      obtain ⟨rfl, hT⟩ := hb
      have HT := Hid.mk' hT
      have HWB : Hid (Wb (fun k => k = b ∨ M k) WW wb) := (Wb.of_below _ HBA.out).trans hT.1
      refine ⟨_, rfl, kp_mk HWB.out.size fun k hk hx => HWB.out.block k hk hx, ?_⟩
      simp only [Act.put, List.setIfInBounds_toArray, List.set_cons_succ, List.set_cons_zero, wpMix]
      clear hba hT r0 r1 HFL HWR hmul
      have HEE : Hid (rawE d (wrE d nmP ((n : Int) * 512) f.data.length) = pcE d n) := by show _ = _; rw [HDL.out]; rfl
      rw [HEE.out]
      have HJ2 : Hid (∃ M' D', (∀ k, M' k → M k ∨ w.heap.size ≤ k) ∧ Wb (fun k => k = b ∨ M k) w wb ∧ Jx T D M' D' wb p b s (pcD d n f.data) ms mf ma ff nf g) := by
        have hT := HT.out
        have e1 : rawD d (.write nmP ((n : Int) * 512).toNat f.data) (wrE d nmP ((n : Int) * 512) f.data.length) = pcD d n f.data := by
          rw [HDL.out, show ((n : Int) * 512).toNat = n * 512 by omega]; rfl
        rw [e1] at hT
        exact HJX.out.drive (bt HBW.out HBA.out) hT
      obtain ⟨M', D', hM', hwB, hJ⟩ := HJ2.out
      have HM' := Hid.mk' hM'
      have HWX := Hid.mk' hwB
      have HJ := Hid.mk' hJ
      have hpb := hJ.P.plt
      obtain ⟨⟨c0, c1, c2, c3, c4, c5, c6, c7, c8, c9⟩, cf⟩ := hJ.P.cells
      clear hM' hwB hJ HJ2 HT HEE
      by_cases he : pcE d n = 0
      · have HE := Hid.mk' he
        have hsi : (sMap s.S id).isSome = true := by rw [sMap_some, HSL.out]; rfl
        obtain ⟨v0, st, W1, hen, hw1, hst⟩ := HJ.out.P.mS.entry Tryz.underlying62 z3 id hwi (by have := HPB.out.len; unfold maxLen; omega)
        obtain ⟨w9, hr9, hm9, hw9⟩ := hst (.int .i64 (n : Int))
        rw [if_pos hsi, sMap_put _ HJ.out.P.sS] at hm9
        have HP9 : Hid (Pi T D w9 p b { s with S := aput s.S id n } ms mf ma ff nf g) := HJ.out.P.setS hw9 (by rw [len_aput _ HJ.out.P.sS, HSL.out]; exact hm9) (HJ.out.P.sS.put _ _)
        have HW9 := Hid.mk' hw9
        obtain ⟨hfr9, hTg9, _⟩ := HP9.out.fr id f HF.out
        obtain ⟨fv9, hx9, hv9⟩ := hfr9
        have hd9 := (bx3 hx9).2.1
        have hf9 := bx3_fr hx9 1
        have hg9 : g id < w9.heap.size := (Array.getElem?_eq_some_iff.1 hx9).1
        have HFIN : Hid (Jp T M w p b (pcS s id f n) (pcD d n f.data) (w9.setCell ⟨g id, 1, none⟩ (.bool false))) := by
          have hws := Wb.set (X := fun k => k = g id) w9 (g id) 1 (.bool false) rfl
          have hP10 := HP9.out.setF (f := f) (f' := { f with dirty := false }) HF.out hws ⟨fv9, by rw [bx3_set hx9]; rfl, hv9.wb hws fun k hk hd => by subst hk; exact (HP9.out.hD _ hd).2 hTg9⟩
          have hwT : Wb T wb (w9.setCell ⟨g id, 1, none⟩ (.bool false)) := (HW9.out.mono fun k hk => by subst hk; exact HJ.out.P.tS.1).trans (hws.mono fun k hk => by subst hk; exact hTg9)
          have hJ10 := HJ.out.pool hwT hP10
          have hWa : Wb (fun k => T k ∨ M k ∨ k = b) w wb := HWX.out.mono fun k hk => hk.elim (fun h => .inr (.inr h)) fun h => .inr (.inl h)
          exact ⟨hWa.trans (hwT.mono fun k hk => .inl hk), T, M', fun k hk => .inl hk, HM'.out, hJ10.jn⟩
        rw [he]
        clear he hw1 hst hm9 hw9 hx9 hv9 hsi hTg9 c0 c1 c2 c4 c5 c6 c7 c8 c9
        go_wp2_with fail
        go_ret
        exact ⟨fun h => absurd (h.symm.trans HDY.out) (by decide), fun _ => ⟨n, HSn.out, by rw [HE.out]; rfl, fun h => absurd HE.out h, fun _ => HFIN.out⟩⟩
      · have HE := Hid.mk' he
        have he' : ¬ pcE d n = 0 := he
        have HFIN : Hid (Jp T M w p b s (pcD d n f.data) wb) := ⟨HWX.out.mono fun k hk => hk.elim (fun h => .inr (.inr h)) fun h => .inr (.inl h), T, M', fun k hk => .inl hk, HM'.out, HJ.out.jn⟩
        generalize hpe : pcE d n = pe at *
        have HPE := Hid.mk' hpe
        clear hpe he c0 c1 c2 c3 c4 c5 c6 c7 c8 c9
        go_wp2_with fail
        go_ret
        exact ⟨fun h => absurd (h.symm.trans HDY.out) (by decide), fun _ => ⟨n, HSn.out, by rw [HPE.out]; rfl, fun _ => HFIN.out, fun h => absurd (HPE.out.symm.trans h) HE.out⟩⟩
    case inr.inr =>
      have h0 : ¬ (n : Int) < 0 := by omega
      have HSn : Hid (Sl s n z n) := .inl ⟨rfl, HA.out⟩
      obtain ⟨WW, hWW⟩ : ∃ WW, WW = w := ⟨_, rfl⟩
      have HBW : Hid (Below w.heap.size w WW) := by rw [hWW]; exact Below.refl _ _
      go_enter Tryz.func38, Tryz.ntmps38
      go_upto_region 7 with fail
      rw [← hWW]
      clear hWW c0 c1 c3 c4 c5 d0 d1 d2 h1
      have HPW := Hid.mk' (HH.out.up HBW.out)
      have HDW := Hid.mk' (HDR.out.below HBW.out)
      obtain ⟨⟨c0, c1, c2, c3, c4, c5, c6, c7, c8, c9⟩, _⟩ := HPW.out.cells
      have HGW : Hid (WW.heap[g id]? = some (.cells #[.slice fa f.data.length fc, .bool true, .int .i64 f.used] 94 (0, 0))) := by
        show _ = _
        rw [HBW.out.block _ hg, GX0.out]
      obtain ⟨d0, d1, d2⟩ := bx3 HGW.out
      have HFW := Hid.mk' (HFV.out.up HBW.out)
      have hdl : f.data.length = 512 := HPB.out.dat id f HF.out
      have HDL := Hid.mk' hdl
      rw [hdl] at d0 HFW HGW
      have hni : (n : Int) ≤ 1000000 := by have := HSn.out.le hsb2 HZ.out.2.2; omega
      have r0 : ∀ q : Kp (fun k => k = b ∨ M k) WW, q.nx.cell? ⟨p, 0, none⟩ = some (.pointer (some ⟨b, 0, none⟩)) := fun q => q.cell c0 HPX.out
      have r1 : ∀ q : Kp (fun k => k = b ∨ M k) WW, q.nx.cell? ⟨g id, 0, none⟩ = some (.slice fa 512 fc) := fun q => q.cell d0 HGY.out
      have hdr := drew_blx WW WW.heap.size
      have hfl := file_any (cell_up c0 hdr) (cell_up c1 hdr)
      have HFL := Hid.mk' hfl
      have HWR : Hid (∀ W', Below WW.heap.size WW W' → Calls Tryz.prog 66 #[.pointer (some ⟨b, 0, none⟩), .string ⟨nmP.toArray⟩, .int .i64 ((n : Int) * 512), .slice fa 512 fc] W' (WritePost M Dd W' b d nmP ((n : Int) * 512) f.data)) := fun W' hW' => by
        have h1 : Bs D W' (.slice fa 512 fc) f.data := HFW.out.up hW'
        refine write_any nmP f.data ((n : Int) * 512) _ (HDW.out.below hW') (by decide) h1 (by have := HDB.out.tot; unfold lim; omega) HDB.out.room (fun _ => ?_) (by have := HDB.out.len; unfold maxLen; omega) (by have := HDB.out.que; omega)
        rw [HDL.out]
        unfold lim
        omega
      have hmul : IntKind.i64.wrap ((n : Int) * 512) = (n : Int) * 512 := by rw [IntKind.wrap_i64]; omega
      clear c2 c6 c7 c8 c9 d1 d2 hdl hdr hfl
      go_wp2_with fail
      refine wp_region_mix 14 (fun w' => ∃ q : Kp (fun k => k = b ∨ M k) WW, w' = q.nx) (by kernel_rfl) (by kernel_rfl) (kp_first _ WW) ?_
      simp only [List.take_succ_cons, List.take_zero, List.drop_succ_cons, List.drop_zero]
      refine mx_take 6 rfl ?_
      simp only [List.take_succ_cons, List.take_zero, List.drop_succ_cons, List.drop_zero]
      repeat (go_big_quiet_step (fail))
      refine wpQuiet_nil ?_
      refine mx_call (vals := [.pointer (some ⟨p, 0, none⟩)]) Tryz.func44 (by kernel_rfl) rfl rfl (by kernel_rfl) (by kernel_rfl) HFL.out (fun e wa ha => ?_)
      obtain ⟨rfl, hba⟩ := ha
      have HBA : Hid (Below WW.heap.size WW wa) := bt (drew_blx WW _) hba
      refine ⟨_, rfl, kp_mk HBA.out.size fun k hk _ => HBA.out.block k hk, ?_⟩
      simp only [Act.put, List.setIfInBounds_toArray, List.set_cons_succ, List.set_cons_zero]
      refine mx_take 6 rfl ?_
      simp only [List.take_succ_cons, List.take_zero, List.drop_succ_cons, List.drop_zero]
      repeat (go_big_quiet_step (fail))
      refine wpQuiet_nil ?_
      refine mx_call (vals := [.pointer (some ⟨b, 0, none⟩), .string ⟨nmP.toArray⟩, .int .i64 ((n : Int) * 512), .slice fa 512 fc]) Tryz.func66 (by kernel_rfl) rfl rfl (by kernel_rfl) (by kernel_rfl) (HWR.out wa HBA.out) (fun e wb hb => ?_)
      obtain ⟨rfl, hT⟩ := hb
      have HT := Hid.mk' hT
      have HWB : Hid (Wb (fun k => k = b ∨ M k) WW wb) := (Wb.of_below _ HBA.out).trans hT.1
      refine ⟨_, rfl, kp_mk HWB.out.size fun k hk hx => HWB.out.block k hk hx, ?_⟩
      simp only [Act.put, List.setIfInBounds_toArray, List.set_cons_succ, List.set_cons_zero, wpMix]
      clear hba hT r0 r1 HFL HWR hmul
      have HEE : Hid (rawE d (wrE d nmP ((n : Int) * 512) f.data.length) = pcE d n) := by show _ = _; rw [HDL.out]; rfl
      rw [HEE.out]
      have HJ2 : Hid (∃ M' D', (∀ k, M' k → M k ∨ w.heap.size ≤ k) ∧ Wb (fun k => k = b ∨ M k) w wb ∧ Jx T D M' D' wb p b s (pcD d n f.data) ms mf ma ff nf g) := by
        have hT := HT.out
        have e1 : rawD d (.write nmP ((n : Int) * 512).toNat f.data) (wrE d nmP ((n : Int) * 512) f.data.length) = pcD d n f.data := by
          rw [HDL.out, show ((n : Int) * 512).toNat = n * 512 by omega]; rfl
        rw [e1] at hT
        exact HJX.out.drive (bt HBW.out HBA.out) hT
      obtain ⟨M', D', hM', hwB, hJ⟩ := HJ2.out
      have HM' := Hid.mk' hM'
      have HWX := Hid.mk' hwB
      have HJ := Hid.mk' hJ
      have hpb := hJ.P.plt
      obtain ⟨⟨c0, c1, c2, c3, c4, c5, c6, c7, c8, c9⟩, cf⟩ := hJ.P.cells
      clear hM' hwB hJ HJ2 HT HEE
      by_cases he : pcE d n = 0
      · have HE := Hid.mk' he
        have hsi : (sMap s.S id).isSome = true := by rw [sMap_some, HSL.out]; rfl
        obtain ⟨v0, st, W1, hen, hw1, hst⟩ := HJ.out.P.mS.entry Tryz.underlying62 z3 id hwi (by have := HPB.out.len; unfold maxLen; omega)
        obtain ⟨w9, hr9, hm9, hw9⟩ := hst (.int .i64 (n : Int))
        rw [if_pos hsi, sMap_put _ HJ.out.P.sS] at hm9
        have HP9 : Hid (Pi T D w9 p b { s with S := aput s.S id n } ms mf ma ff nf g) := HJ.out.P.setS hw9 (by rw [len_aput _ HJ.out.P.sS, HSL.out]; exact hm9) (HJ.out.P.sS.put _ _)
        have HW9 := Hid.mk' hw9
        obtain ⟨hfr9, hTg9, _⟩ := HP9.out.fr id f HF.out
        obtain ⟨fv9, hx9, hv9⟩ := hfr9
        have hd9 := (bx3 hx9).2.1
        have hf9 := bx3_fr hx9 1
        have hg9 : g id < w9.heap.size := (Array.getElem?_eq_some_iff.1 hx9).1
        have HFIN : Hid (Jp T M w p b (pcS s id f n) (pcD d n f.data) (w9.setCell ⟨g id, 1, none⟩ (.bool false))) := by
          have hws := Wb.set (X := fun k => k = g id) w9 (g id) 1 (.bool false) rfl
          have hP10 := HP9.out.setF (f := f) (f' := { f with dirty := false }) HF.out hws ⟨fv9, by rw [bx3_set hx9]; rfl, hv9.wb hws fun k hk hd => by subst hk; exact (HP9.out.hD _ hd).2 hTg9⟩
          have hwT : Wb T wb (w9.setCell ⟨g id, 1, none⟩ (.bool false)) := (HW9.out.mono fun k hk => by subst hk; exact HJ.out.P.tS.1).trans (hws.mono fun k hk => by subst hk; exact hTg9)
          have hJ10 := HJ.out.pool hwT hP10
          have hWa : Wb (fun k => T k ∨ M k ∨ k = b) w wb := HWX.out.mono fun k hk => hk.elim (fun h => .inr (.inr h)) fun h => .inr (.inl h)
          exact ⟨hWa.trans (hwT.mono fun k hk => .inl hk), T, M', fun k hk => .inl hk, HM'.out, hJ10.jn⟩
        rw [he]
        clear he hw1 hst hm9 hw9 hx9 hv9 hsi hTg9 c0 c1 c2 c4 c5 c6 c7 c8 c9
        go_wp2_with fail
        go_ret
        exact ⟨fun h => absurd (h.symm.trans HDY.out) (by decide), fun _ => ⟨n, HSn.out, by rw [HE.out]; rfl, fun h => absurd HE.out h, fun _ => HFIN.out⟩⟩
      · have HE := Hid.mk' he
        have he' : ¬ pcE d n = 0 := he
        have HFIN : Hid (Jp T M w p b s (pcD d n f.data) wb) := ⟨HWX.out.mono fun k hk => hk.elim (fun h => .inr (.inr h)) fun h => .inr (.inl h), T, M', fun k hk => .inl hk, HM'.out, HJ.out.jn⟩
        generalize hpe : pcE d n = pe at *
        have HPE := Hid.mk' hpe
        clear hpe he c0 c1 c2 c3 c4 c5 c6 c7 c8 c9
        go_wp2_with fail
        go_ret
        exact ⟨fun h => absurd (h.symm.trans HDY.out) (by decide), fun _ => ⟨n, HSn.out, by rw [HPE.out]; rfl, fun _ => HFIN.out, fun h => absurd (HPE.out.symm.trans h) HE.out⟩⟩
end Go.Proofs.YtbmhkdcmepfmbaaGreat
set_option linter.unusedVariables false
set_option linter.unusedSimpArgs false
namespace Go.Proofs.YtbmhkdcmepfmbaaGreat
open Go.RowKit
attribute [local go_sem ↓] Go.wp_at_zero Go.wp_at_succ
section
variable {T D X : Nat → Prop} {w w' : World} {p b : Nat} {s : Ps} {ms mf ma : Nat} {ff : Int → Option Value} {nf : Nat} {g : Int → Nat}
theorem Pi.setP (h : Pi T D w p b s ms mf ma ff nf g) {s' : Ps} (hw : Wb (fun k => k = p) w w') (hbx : w'.heap[p]? = some (.cells (pCells b ms mf ma s') 67 (0, 0))) (hS : s'.S = s.S) (hH : s'.H = s.H) (hc : s'.c = s.c) : Pi T D w' p b s' ms mf ma ff nf g := by
  obtain ⟨S, c, H, hand, clock, hit, mis, ev⟩ := s'
  simp only at hS hH hc
  subst hS; subst hH; subst hc
  have hX : ∀ k, k = p → ¬ D k := fun k hk hd => by subst hk; exact (h.hD _ hd).2 h.tp
  exact { bx := hbx
          sS := h.sS
          sH := h.sH
          mS := h.mS.wb hw h.tS.2
          mF := h.mF.wb hw h.tF.2
          mH := h.mH.wb hw h.tH.2
          cF := h.cF
          fr := fun i f hf => ⟨(h.fr i f hf).1.keep hw hX (h.fr i f hf).2.2, (h.fr i f hf).2⟩
          inj := h.inj
          tp := h.tp
          tS := h.tS
          tF := h.tF
          tH := h.tH
          ne := h.ne
          hT := fun k hk => Nat.lt_of_lt_of_le (h.hT k hk) hw.size
          hD := fun k hk => ⟨Nat.lt_of_lt_of_le (h.hD k hk).1 hw.size, (h.hD k hk).2⟩ }
end
def evS (s : Ps) (id : Int) : Ps := { s with H := adel s.H id, ev := s.ev + 1 }
def EvP [Xcl] (T M : Nat → Prop) (w : World) (p b : Nat) (s : Ps) (d : Dm) (z : Nat) (e : Ending) (w' : World) : Prop :=
  ∃ id f sl, aget s.H id = some f ∧ aget s.S id = some sl ∧
  (f.dirty = false → e = .returned (.int .i64 0) ∧ Jp T M w p b (evS s id) d w') ∧
  (f.dirty = true → ∃ n : Nat, Sl s sl z n ∧ e = .returned (.int .i64 (pcE d n)) ∧ (pcE d n ≠ 0 → Jp T M w p b s (pcD d n f.data) w') ∧ (pcE d n = 0 → Jp T M w p b (evS (pcS s id f n) id) (pcD d n f.data) w'))
set_option maxRecDepth 100000 in
set_option maxHeartbeats 4000000 in
theorem evict_any [Xcl] {T M : Nat → Prop} {w : World} {p b : Nat} {s : Ps} {d : Dm} (h : Jn T M w p b s d) (hb : Pb s) (hd : Db d) (hH : s.H ≠ []) (hev : 0 ≤ s.ev ∧ s.ev ≤ 1000000000) (z : Nat) (hz : z ≤ 100000) (hz1 : s.c z = 0) (hz2 : cnt s.S z = 0) :
    Calls Tryz.prog 61 #[.pointer (some ⟨p, 0, none⟩)] w (EvP T M w p b s d z) := by
  obtain ⟨D, Dd, ms, mf, ma, ff, nf, g, hJ⟩ := h.jx
  have hP := hJ.P
  obtain ⟨⟨c0, c1, c2, c3, c4, c5, c6, c7, c8, c9⟩, cf⟩ := hP.cells
  have hp := hP.plt
  have HH := Hid.mk' hP
  have HJ := Hid.mk' hJ
  have HPB := Hid.mk' hb
  have HDB := Hid.mk' hd
  have HEV := Hid.mk' hev
  have HNE := Hid.mk' hH
  have HZ : Hid (s.c z = 0 ∧ cnt s.S z = 0 ∧ z ≤ 100000) := ⟨hz1, hz2, hz⟩
  obtain ⟨DD, hown, hsz, hT, hf⟩ := hP.mH
  have HF := Hid.mk' hf
  have HID : Hid (∀ i f, aget s.H i = some f → 0 ≤ i ∧ i < 65536 ∧ Wi i) := fun i f hf => by
    have h1 := hb.ids i (by rw [hf]; rfl)
    obtain ⟨v, hv⟩ := Option.isSome_iff_exists.1 h1
    have h2 := hb.S _ (aget_mem hv)
    simp only at h2
    exact ⟨h2.1, h2.2.1, Wi.of (by omega) (by omega)⟩
  have hmp := hP.tH.2
  clear h hb hd hH hev hz hz1 hz2 hP hJ c0 c1 c2 c3 c4 c6 c7 c8 c9 hsz hT hf
  go_enter Tryz.func61, Tryz.ntmps61
  go_wp2_with (first | (at_range; refine wpList_range_own _ rfl (.tmp 10) 63 rfl 3 87 (Maps.int_keyed Tryz.underlying3) Tryz.underlying63 hR ma s.H.length DD rfl hown ?_; intro w0 hrg0 hg0 hs0) | go_in)
  have hb0 : Below w.heap.size w w0 := ⟨hg0.os, hg0.tape, hg0.output, hg0.size, fun i hi => hg0.block i hi (by simp)⟩
  have HB0 := Hid.mk' hb0
  have HRG := Hid.mk' hrg0
  have HL0 : Hid ((-1 : Int) = -1 ∧ (∀ kl, Maps.has DD kl = Maps.has DD kl) ∨ (aget s.H (-1)).isSome) := .inl ⟨rfl, fun _ => rfl⟩
  clear hg0 hs0 hrg0 hb0 hown
  obtain ⟨r, hr⟩ : ∃ r, r = w.heap.size := ⟨_, rfl⟩
  have HIT : Hid (w.heap.size ≤ r) := by rw [hr]; exact Nat.le_refl _
  rw [← hr] at HRG ⊢
  clear hr
  go_frame
  go_loopw [3] (fun v wr => ∃ (left : Lit → Bool) (ct : Nat) (o : Int), v = .int .i64 o ∧ Hid (wr.ranges Tryz.prog 3 hR ma r s.H.length DD left ct) ∧ Hid (o = -1 ∧ (∀ kl, left kl = Maps.has DD kl) ∨ (aget s.H o).isSome) ∧ Hid (Below w.heap.size w wr)) (fun _ wr => wr.rangeLeft ma r)
  case atStart => exact ⟨_, _, -1, rfl, HRG, HL0, HB0⟩
  case round =>
    clear HRG HL0 HB0
    obtain ⟨left, ct, o, rfl, HRG, HL, HB⟩ := hrel
    go_wp2_with (first
      | (at_next; refine wpList_next_ranges _ rfl (.tmp 11) rfl 3 (Maps.int_keyed Tryz.underlying3) hR id id (fun key _ _ => ⟨key, rfl⟩) (fun v _ _ => ⟨v, rfl⟩) ma r s.H.length _ _ _ rfl HRG.out ?_ ?_)
      | go_in)
    · intro hc0 hl0
      have HOH : Hid (∃ f, aget s.H o = some f) := by
        rcases HL.out with ⟨_, h1⟩ | h1
        · exfalso
          cases hh : s.H with
          | nil => exact HNE.out hh
          | cons a rr =>
            have h2 := (HF.out a.1).1
            rw [← h1, hl0, hMap_some, hh] at h2
            simp [aget] at h2
        · exact Option.isSome_iff_exists.1 h1
      clear HL hl0 hc0 HRG
      obtain ⟨f, hfo⟩ := HOH.out
      have hio := HID.out o f hfo
      have hwo := hio.2.2
      obtain ⟨sl, hslo⟩ := Option.isSome_iff_exists.1 (HPB.out.ids o (by rw [hfo]; rfl))
      have HFO := Hid.mk' hfo
      have HSO := Hid.mk' hslo
      have HCL := Hid.mk' (clean_any (HJ.out.jn.up HB.out) HPB.out HDB.out hfo hslo z HZ.out.2.2 HZ.out.1 HZ.out.2.1)
      have hev1 := HEV.out.1
      have hev2 := HEV.out.2
      have HJR := Hid.mk' (HJ.out.jn.up HB.out)
      have HBT : Hid (Wb (fun k => T k ∨ M k ∨ k = b) w wr) := Wb.of_below _ HB.out
      clear hfo hslo hio
      cases hdy : f.dirty with
      | false =>
        have HDY := Hid.mk' hdy
        go_wp2_with fail
        refine HCL.out.mono ?_
        rintro e w5 ⟨hq1, _⟩
        obtain ⟨rfl, rfl⟩ := hq1 HDY.out
        clear hq1 hdy
        obtain ⟨D1, Dd1, ms1, mf1, ma1, ff1, nf1, g1, hJ1⟩ := HJR.out.jx
        obtain ⟨⟨e0, e1, e2, e3, e4, e5, e6, e7, e8, e9⟩, ef⟩ := hJ1.P.cells
        have hp5 := hJ1.P.plt
        obtain ⟨w8, hr8, hm8, hg8⟩ := hJ1.P.mH.drop Tryz.underlying3 Tryz.underlying63 o hwo 0
        rw [hMap_some, hMap_del _ hJ1.P.sH, ← len_adel] at hm8
        have hP8 := hJ1.P.setH (Wb.of_map hg8) hm8 (hJ1.P.sH.del _) fun i f hf => by
          rw [aget_del hJ1.P.sH] at hf
          split at hf
          · cases hf
          · exact hf
        obtain ⟨⟨f0, f1, f2, f3, f4, f5, f6, f7, f8, f9a⟩, ff8⟩ := hP8.cells
        have f9 : w8.cell? ⟨p, 9, none⟩ = some (.int .i64 s.ev) := f9a
        clear f9a
        have hp8 := hP8.plt
        have hbx9 := heap_setCell_same w8 p 9 _ 67 (.int .i64 (s.ev + 1)) hP8.bx
        have hws9 := Wb.set (X := fun k => k = p) w8 p 9 (.int .i64 (s.ev + 1)) rfl
        have hP9 := hP8.setP (s' := evS s o) hws9 (by rw [hbx9]; rfl) rfl rfl rfl
        have hwT : Wb T w5 (w8.setCell ⟨p, 9, none⟩ (.int .i64 (s.ev + 1))) := ((Wb.of_map hg8).mono fun k hk => by subst hk; exact hJ1.P.tH.1).trans (hws9.mono fun k hk => by subst hk; exact hJ1.P.tp)
        have HJ9 : Hid (Jp T M w5 p b (evS s o) d (w8.setCell ⟨p, 9, none⟩ (.int .i64 (s.ev + 1)))) := ⟨hwT.mono fun k hk => .inl hk, T, M, fun k hk => .inl hk, fun k hk => .inl hk, (hJ1.pool hwT hP9).jn⟩
        clear hJ1 hm8 hg8 hP8 hbx9 hws9 hP9 hwT e0 e1 e2 e3 e4 e6 e7 e8 e9 f0 f1 f2 f3 f4 f5 f6 f7 f8
        go_wp2_with fail
        go_ret
        refine ⟨o, f, sl, HFO.out, HSO.out, fun _ => ⟨rfl, Jp.trans HBT.out (fun _ h => .inl h) (fun _ h => .inl h) HJ9.out⟩, fun h => absurd (h.symm.trans HDY.out) (by decide)⟩
      | true =>
        have HDY := Hid.mk' hdy
        go_wp2_with fail
        refine HCL.out.mono ?_
        rintro e w5 ⟨_, hq1⟩
        obtain ⟨n, hSl, rfl, hj1, hj2⟩ := hq1 HDY.out
        have HSl := Hid.mk' hSl
        by_cases he : pcE d n = 0
        · have HE := Hid.mk' he
          obtain ⟨hwJ, T1, M1, hT1, hM1, hJN⟩ := hj2 he
          have HWJ : Hid (Wb (fun k => T k ∨ M k ∨ k = b) w w5 ∧ (∀ k, T1 k → T k ∨ w.heap.size ≤ k) ∧ ∀ k, M1 k → M k ∨ w.heap.size ≤ k) := ⟨HBT.out.trans hwJ, fun k hk => (hT1 k hk).imp id fun h => Nat.le_trans HB.out.size h, fun k hk => (hM1 k hk).imp id fun h => Nat.le_trans HB.out.size h⟩
          have HJN := Hid.mk' hJN
          rw [he]
          clear hdy hq1 hSl hj1 hj2 he hwJ hT1 hM1 hJN
          obtain ⟨D1, Dd1, ms1, mf1, ma1, ff1, nf1, g1, hJ1⟩ := HJN.out.jx
          obtain ⟨⟨e0, e1, e2, e3, e4, e5, e6, e7, e8, e9⟩, ef⟩ := hJ1.P.cells
          have hp5 := hJ1.P.plt
          obtain ⟨w8, hr8, hm8, hg8⟩ := hJ1.P.mH.drop Tryz.underlying3 Tryz.underlying63 o hwo 0
          rw [hMap_some, hMap_del _ hJ1.P.sH, ← len_adel] at hm8
          have hP8 := hJ1.P.setH (Wb.of_map hg8) hm8 (hJ1.P.sH.del _) fun i f hf => by
            rw [aget_del hJ1.P.sH] at hf
            split at hf
            · cases hf
            · exact hf
          obtain ⟨⟨f0, f1, f2, f3, f4, f5, f6, f7, f8, f9a⟩, ff8⟩ := hP8.cells
          have f9 : w8.cell? ⟨p, 9, none⟩ = some (.int .i64 s.ev) := f9a
          clear f9a
          have hp8 := hP8.plt
          have hbx9 := heap_setCell_same w8 p 9 _ 67 (.int .i64 (s.ev + 1)) hP8.bx
          have hws9 := Wb.set (X := fun k => k = p) w8 p 9 (.int .i64 (s.ev + 1)) rfl
          have hP9 := hP8.setP (s' := evS (pcS s o f n) o) hws9 (by rw [hbx9]; rfl) rfl rfl rfl
          have hwT : Wb T1 w5 (w8.setCell ⟨p, 9, none⟩ (.int .i64 (s.ev + 1))) := ((Wb.of_map hg8).mono fun k hk => by subst hk; exact hJ1.P.tH.1).trans (hws9.mono fun k hk => by subst hk; exact hJ1.P.tp)
          have HJ9 : Hid (Jp T1 M1 w5 p b (evS (pcS s o f n) o) (pcD d n f.data) (w8.setCell ⟨p, 9, none⟩ (.int .i64 (s.ev + 1)))) := ⟨hwT.mono fun k hk => .inl hk, T1, M1, fun k hk => .inl hk, fun k hk => .inl hk, (hJ1.pool hwT hP9).jn⟩
          clear hJ1 hm8 hg8 hP8 hbx9 hws9 hP9 hwT e0 e1 e2 e3 e4 e6 e7 e8 e9 f0 f1 f2 f3 f4 f5 f6 f7 f8
          go_wp2_with fail
          go_ret
          refine ⟨o, f, sl, HFO.out, HSO.out, fun h => absurd (h.symm.trans HDY.out) (by decide), fun _ => ⟨n, HSl.out, by rw [HE.out]; rfl, fun h => absurd HE.out h, fun _ => Jp.trans HWJ.out.1 HWJ.out.2.1 HWJ.out.2.2 HJ9.out⟩⟩
        · have HE := Hid.mk' he
          have HJP := Hid.mk' (hj1 he)
          generalize hpe : pcE d n = pe at *
          have HPE := Hid.mk' hpe
          have he' : ¬ pe = 0 := he
          clear hpe hdy hq1 hSl hj1 hj2 he
          go_wp2_with fail
          go_ret
          refine ⟨o, f, sl, HFO.out, HSO.out, fun h => absurd (h.symm.trans HDY.out) (by decide), fun _ => ⟨n, HSl.out, by rw [HPE.out]; rfl, fun _ => Jp.trans HBT.out (fun _ h => .inl h) (fun _ h => .inl h) ?_, fun h => absurd (HPE.out.symm.trans h) HE.out⟩⟩
          exact HJP.out
    · intro x c kl yd yp w1 cnt1 hkey hlk hv hat hrg1 hlt1 hg1 hs1 hen
      obtain ⟨id, rfl, rfl, hwf⟩ := Maps.keyOf_i64 Tryz.underlying3 hkey
      simp only [hR, Option.some.injEq, Prod.mk.injEq] at hv
      obtain ⟨rfl, rfl⟩ := hv
      have k1 := (HF.out id).2 (.bool true)
      have k2 := (HF.out id).2 (.bool false)
      rw [hat] at k1 k2
      obtain ⟨f, hgf, rfl⟩ : ∃ f, aget s.H id = some f ∧ c = .pointer (some ⟨g id, 0, none⟩) := by
        cases hg : aget s.H id with
        | none =>
          unfold hMap at k1 k2
          rw [hg] at k1 k2
          simp only [Option.map_none, Option.getD_none, DataW.held.injEq] at k1 k2
          rw [k1] at k2; cases k2
        | some v =>
          unfold hMap at k1
          rw [hg] at k1
          simp only [Option.map_some, Option.getD_some, DataW.held.injEq] at k1
          exact ⟨v, rfl, k1⟩
      have hb1 : Below w.heap.size w w1 := HB.out.grown hg1 HB.out.size (fun k hk => by cases hk; exact HIT.out)
      have HB1 := Hid.mk' (bt hb1 (drew_blx w1 _))
      have HP1 := Hid.mk' (HH.out.up hb1)
      obtain ⟨⟨e0, e1, e2, e3, e4, e5, e6, e7, e8, e9⟩, ef⟩ := HP1.out.cells
      have hp1 := HP1.out.plt
      have HRG1 : Hid (w1.drew.ranges Tryz.prog 3 hR ma r s.H.length DD (fun z => left z && !z.sameKey (.int .i64 id)) cnt1) := hrg1.kept (row := none) ⟨rfl, rfl, rfl, Nat.le_refl _, fun _ _ _ => rfl⟩ (by simp) (by simp)
      have HRG0 := Hid.mk' HRG.out
      have HLT := Hid.mk' hlt1
      have HIS : Hid ((aget s.H id).isSome) := by show _ = _; rw [hgf]; rfl
      have hid0 := (HID.out id f hgf).1
      obtain ⟨hfr, hTg, hgp⟩ := HP1.out.fr id f hgf
      obtain ⟨fv, hgx, _⟩ := hfr
      have d2 := (bx3 hgx).2.2
      have r2 : ∀ q : Kp (fun _ => False) w1, q.nx.cell? ⟨g id, 2, none⟩ = some (.int .i64 f.used) := fun q => q.cell d2 (fun h => h)
      have r5 : ∀ q : Kp (fun _ => False) w1, q.nx.cell? ⟨p, 5, none⟩ = some (.map (some ma)) := fun q => q.cell e5 (fun h => h)
      rcases HL.out with ⟨ho, _⟩ | ho
      · subst ho
        have hneg : decide ((-1 : Int) < 0) = true := rfl
        clear k1 k2 hat hkey hlk hrg1 hg1 hs1 hlt1 hgx hgf hTg hgp hb1 d2 e0 e1 e2 e3 e4 e6 e7 e8 e9 HL hwf
        go_wp2_with fail
        refine wp_region_mix 18 (fun w' => ∃ q : Kp (fun _ => False) w1, w' = q.nx) (by kernel_rfl) (by kernel_rfl) (kp_first _ w1) ?_
        simp only [List.take_succ_cons, List.take_zero, List.drop_succ_cons, List.drop_zero]
        refine mx_take 18 rfl ?_
        simp only [List.take_succ_cons, List.take_zero, List.drop_succ_cons, List.drop_zero]
        repeat (go_big_quiet_step (fail))
        refine wpQuiet_nil ?_
        simp only [wpMix]
        have HFX : Hid (w1.drew.rangeLeft ma r < wr.rangeLeft ma r) := by show _ < _; rw [HRG1.out.left_eq, HRG0.out.left_eq]; exact HLT.out
        clear r2 r5
        go_wp2_with fail
        exact ⟨⟨_, cnt1, id, rfl, HRG1, Hid.mk' (.inr HIS.out), HB1⟩, HFX.out⟩
      · have HOO := Hid.mk' ho
        obtain ⟨fo, hgo⟩ := Option.isSome_iff_exists.1 ho
        have hoi := HID.out o fo hgo
        have hno : ¬ o < 0 := by omega
        have hneg : decide (o < 0) = false := by simpa using hno
        obtain ⟨hfro, _, _⟩ := HP1.out.fr o fo hgo
        obtain ⟨fvo, hgxo, _⟩ := hfro
        have d2o := (bx3 hgxo).2.2
        have r2o : ∀ q : Kp (fun _ => False) w1, q.nx.cell? ⟨g o, 2, none⟩ = some (.int .i64 fo.used) := fun q => q.cell d2o (fun h => h)
        have rl : ∀ q : Kp (fun _ => False) w1, (Instr.lookup 63 (.map (some ma)) (.int .i64 o) false).run Tryz.prog q.nx = .ok (.pointer (some ⟨g o, 0, none⟩)) q.nx := fun q => by
          have hm := HP1.out.mH.block (w' := q.nx) (q.ok ma HP1.out.mH.lt (fun h => h))
          rw [hm.look1 Tryz.underlying3 Tryz.underlying63 (z87 _) o hoi.2.2]
          unfold hMap
          rw [hgo]
          rfl
        clear k1 k2 hat hkey hlk hrg1 hg1 hs1 hlt1 hgx hgf hTg hgp hb1 d2 e0 e1 e2 e3 e4 e6 e7 e8 e9 HL hwf ho hgo hgxo d2o hoi
        go_wp2_with fail
        refine wp_region_mix 18 (fun w' => ∃ q : Kp (fun _ => False) w1, w' = q.nx) (by kernel_rfl) (by kernel_rfl) (kp_first _ w1) ?_
        simp only [List.take_succ_cons, List.take_zero, List.drop_succ_cons, List.drop_zero]
        refine mx_take 18 rfl ?_
        simp only [List.take_succ_cons, List.take_zero, List.drop_succ_cons, List.drop_zero]
        repeat (go_big_quiet_step (fail))
        refine wpQuiet_nil ?_
        simp only [wpMix]
        have HFX : Hid (w1.drew.rangeLeft ma r < wr.rangeLeft ma r) := by show _ < _; rw [HRG1.out.left_eq, HRG0.out.left_eq]; exact HLT.out
        clear r2 r5
        clear r2o rl
        by_cases hlu : f.used < fo.used
        · go_wp2_with fail
          exact ⟨⟨_, cnt1, id, rfl, HRG1, Hid.mk' (.inr HIS.out), HB1⟩, HFX.out⟩
        · go_wp2_with fail
          exact ⟨⟨_, cnt1, o, rfl, HRG1, Hid.mk' (.inr HOO.out), HB1⟩, HFX.out⟩
end Go.Proofs.YtbmhkdcmepfmbaaGreat
set_option linter.unusedVariables false
set_option linter.unusedSimpArgs false
namespace Go.Proofs.YtbmhkdcmepfmbaaGreat
open Go.RowKit
attribute [local go_sem ↓] Go.wp_at_zero Go.wp_at_succ
theorem aput_aput {α : Type} (F : Al α) (s : Int) (a b : α) : aput (aput F s a) s b = aput F s b := by
  induction F with
  | nil => simp [aput]
  | cons x r ih =>
    obtain ⟨n, m⟩ := x
    simp only [aput]
    split
    · simp [aput]
    · split
      · simp [aput]
      · simp only [aput]
        rw [if_neg (by assumption), if_neg (by assumption), ih]
/-- how many entries a pool has at hand, read off the world -/
def atLen (w : World) (p : Nat) : Nat := match w.cell? ⟨p, 5, none⟩ with
  | some (.map (some m)) => (match w.heap[m]? with | some (.map es _) => es.size | _ => 0)
  | _ => 0
theorem MapI.size {P : Program} {k : TypeId} {w : World} {b n : Nat} {f : Int → Option Value} (h : MapI P k w b f n) : ∃ es c, w.heap[b]? = some (.map es c) ∧ es.size = n := by
  obtain ⟨D, ⟨es, clock, hb, F, hs, hD⟩, hn, _⟩ := h
  refine ⟨es, clock, hb, ?_⟩
  rw [← hn, hD]
  exact (length_read es).symm
theorem Pi.atLen {T D : Nat → Prop} {w : World} {p b : Nat} {s : Ps} {ms mf ma : Nat} {ff : Int → Option Value} {nf : Nat} {g : Int → Nat} (h : Pi T D w p b s ms mf ma ff nf g) : atLen w p = s.H.length := by
  obtain ⟨es, c, h1, h2⟩ := h.mH.size
  unfold YtbmhkdcmepfmbaaGreat.atLen
  rw [h.cells.1.2.2.2.2.2.1]
  simp only [h1]
  exact h2
/-- the invariant that evictions keep, whatever it is; J: what is so where the drive has died -/
structure Hv (I : Ps → Dm → Prop) (J : Dm → Prop) (hand : Int) (E : Int) : Prop where
  pb : ∀ s d, I s d → Pb s ∧ Db d ∧ (0 ≤ s.ev ∧ s.ev ≤ E) ∧ (0 ≤ s.clock ∧ s.clock ≤ E) ∧ s.hand = hand ∧ s.H.length ≤ 100000 ∧ (0 ≤ s.hit ∧ s.hit ≤ E) ∧ (0 ≤ s.mis ∧ s.mis ≤ E)
  z : ∀ s d, I s d → ∃ z : Nat, z ≤ 100000 ∧ s.c z = 0 ∧ cnt s.S z = 0 ∧
    ∀ id f sl, aget s.H id = some f → aget s.S id = some sl →
      (f.dirty = false → I (evS s id) d) ∧ (f.dirty = true → ∀ n, Sl s sl z n → pcE d n ≠ 8 ∧ (pcE d n = 0 → I (evS (pcS s id f n) id) (pcD d n f.data)) ∧ (pcE d n ≠ 0 → J (pcD d n f.data)))
def hoS (s : Ps) (id : Int) (l : By) (dy : Bool) : Ps := { s with H := aput s.H id ⟨l, ((aget s.H id).getD ⟨[], false, 0⟩).dirty || dy, s.clock + 1⟩, clock := s.clock + 1 }
def HoP [Xcl] (I : Ps → Dm → Prop) (J : Dm → Prop) (T M : Nat → Prop) (w : World) (p b : Nat) (s : Ps) (d : Dm) (id : Int) (l : By) (dy : Bool) (e : Ending) (w' : World) : Prop :=
  (∃ (x : Int) (s1 : Ps) (d1 : Dm), x ≠ 0 ∧ e = .returned (.int .i64 x) ∧ J d1 ∧ Jp T M w p b s1 d1 w') ∨
  (e = .returned (.int .i64 0) ∧ ∃ s1 d1, I s1 d1 ∧ ((aget s.H id).isSome → s1 = s ∧ d1 = d) ∧ ((aget s.H id).isSome = false → aget s1.H id = none ∧ (s1.H.length : Int) < s1.hand) ∧ Jp T M w p b (hoS s1 id l dy) d1 w')
theorem Pi.addH {T D : Nat → Prop} {w w' : World} {p b : Nat} {s : Ps} {ms mf ma : Nat} {ff : Int → Option Value} {nf : Nat} {g : Int → Nat} (h : Pi T D w p b s ms mf ma ff nf g) {id : Int} (hn : aget s.H id = none) {gN : Nat} (hgN : w.heap[gN]? = some (.cells #[.slice none 0 0, .bool false, .int .i64 0] 94 (0, 0))) (hgT : ¬ T gN) (hgD : ¬ D gN) (hw : Wb (fun k => k = ma) w w')
    (hm : MapI Tryz.prog 3 w' ma (fun x => if x = id then some (.pointer (some ⟨gN, 0, none⟩)) else hMap s.H g x) (s.H.length + 1)) : Pi (fun k => T k ∨ k = gN) D w' p b { s with H := aput s.H id ⟨[], false, 0⟩ } ms mf ma ff nf (fun i => if i = id then gN else g i) := by
  have hX : ∀ k, k = ma → ¬ D k := fun k hk hd => by subst hk; exact (h.hD _ hd).2 h.tH.1
  have hgl := (Array.getElem?_eq_some_iff.1 hgN).1
  have hgm : ¬ gN = ma := fun e => hgT (by rw [e]; exact h.tH.1)
  have hgp : gN ≠ p := fun e => hgT (by rw [e]; exact h.tp)
  have hget : ∀ j, aget (aput s.H id ⟨[], false, 0⟩) j = if j = id then some ⟨[], false, 0⟩ else aget s.H j := fun j => aget_put h.sH id _ j
  have hfun : (fun x => if x = id then some (.pointer (some ⟨gN, 0, none⟩)) else hMap s.H g x) = hMap (aput s.H id ⟨[], false, 0⟩) (fun i => if i = id then gN else g i) := by
    funext x
    unfold hMap
    rw [hget]
    by_cases e : x = id
    · simp [e]
    · simp [e]
  exact { bx := by rw [hw.block p (h.hT _ h.tp) fun e => h.tH.2 e.symm]; exact h.bx
          sS := h.sS
          sH := h.sH.put _ _
          mS := h.mS.wb hw h.ne.2.1
          mF := h.mF.wb hw h.ne.2.2
          mH := by
            show MapI Tryz.prog 3 w' ma (hMap (aput s.H id ⟨[], false, 0⟩) (fun i => if i = id then gN else g i)) (aput s.H id ⟨[], false, 0⟩).length
            rw [← hfun, len_aput _ h.sH, hn]
            exact hm
          cF := h.cF
          fr := fun i f hf => by
            have hf0 : aget (aput s.H id ⟨[], false, 0⟩) i = some f := hf
            rw [hget] at hf0
            by_cases e : i = id
            · rw [if_pos e] at hf0
              cases hf0
              simp only [if_pos e]
              refine ⟨⟨.slice none 0 0, by rw [hw.block gN hgl hgm]; exact hgN, ?_⟩, by first | exact .inr rfl | exact .inr trivial, hgp⟩
              exact ⟨⟨rfl, none, 0, rfl, Nat.le_refl _, fun _ => rfl, fun j u hj => by simp [bv] at hj⟩, Nat.zero_le _⟩
            · rw [if_neg e] at hf0
              simp only [if_neg e]
              refine ⟨(h.fr i f hf0).1.keep hw hX (fun e2 => ?_), .inl (h.fr i f hf0).2.1, (h.fr i f hf0).2.2⟩
              obtain ⟨v, h1, _⟩ := (h.fr i f hf0).1
              obtain ⟨es, c, h2⟩ := h.mH.is
              rw [e2, h2] at h1
              cases h1
          inj := fun i j hi hj he => by
            have hi0 : (aget (aput s.H id ⟨[], false, 0⟩) i).isSome := hi
            have hj0 : (aget (aput s.H id ⟨[], false, 0⟩) j).isSome := hj
            rw [hget] at hi0 hj0
            by_cases e1 : i = id
            · by_cases e2 : j = id
              · rw [e1, e2]
              · rw [if_neg e2] at hj0
                simp only [if_pos e1, if_neg e2] at he
                obtain ⟨f, hf⟩ := Option.isSome_iff_exists.1 hj0
                exact absurd (by rw [he]; exact (h.fr j f hf).2.1) hgT
            · rw [if_neg e1] at hi0
              by_cases e2 : j = id
              · simp only [if_neg e1, if_pos e2] at he
                obtain ⟨f, hf⟩ := Option.isSome_iff_exists.1 hi0
                exact absurd (by rw [← he]; exact (h.fr i f hf).2.1) hgT
              · rw [if_neg e2] at hj0
                simp only [if_neg e1, if_neg e2] at he
                exact h.inj i j hi0 hj0 he
          tp := .inl h.tp
          tS := ⟨.inl h.tS.1, h.tS.2⟩
          tF := ⟨.inl h.tF.1, h.tF.2⟩
          tH := ⟨.inl h.tH.1, h.tH.2⟩
          ne := h.ne
          hT := fun k hk => by
            rcases hk with hk | hk
            · exact Nat.lt_of_lt_of_le (h.hT k hk) hw.size
            · subst hk; exact Nat.lt_of_lt_of_le hgl hw.size
          hD := fun k hk => ⟨Nat.lt_of_lt_of_le (h.hD k hk).1 hw.size, fun h2 => h2.elim (h.hD k hk).2 fun e => hgD (by rw [← e]; exact hk)⟩ }
theorem wb_comb {T M T1 M1 : Nat → Prop} {w w1 w2 : World} {b : Nat} (hw : Wb (fun k => T k ∨ M k ∨ k = b) w w1) (hT : ∀ k, T1 k → T k ∨ w.heap.size ≤ k) (hM : ∀ k, M1 k → M k ∨ w.heap.size ≤ k) (h : Wb (fun k => T1 k ∨ M1 k ∨ k = b) w1 w2) : Wb (fun k => T k ∨ M k ∨ k = b) w w2 := by
  have hh := Wb.trans (X := fun _ => True) (hw.mono fun _ _ => trivial) (h.mono fun _ _ => trivial)
  refine ⟨hh.os, hh.tape, hh.output, hh.size, fun i hi hx => ?_⟩
  rw [h.block i (Nat.lt_of_lt_of_le hi hw.size) fun e => ?_, hw.block i hi hx]
  rcases e with e | e | e
  · rcases hT i e with e | e
    · exact hx (.inl e)
    · omega
  · rcases hM i e with e | e
    · exact hx (.inr (.inl e))
    · omega
  · exact hx (.inr (.inr e))
theorem Jx.up [Xcl] {T D M Dd : Nat → Prop} {w w' : World} {p b : Nat} {s : Ps} {d : Dm} {ms mf ma : Nat} {ff : Int → Option Value} {nf : Nat} {g : Int → Nat} (h : Jx T D M Dd w p b s d ms mf ma ff nf g) (hb : Below w.heap.size w w') : Jx T D M Dd w' p b s d ms mf ma ff nf g := { h with P := h.P.up hb, Dr := h.Dr.below hb, xo := h.xo.up hb.size }
/-- behind the search for a place: state s1, its frame for id at block k -/
def Hmid [Xcl] (T M : Nat → Prop) (w : World) (p b : Nat) (s1 : Ps) (d1 : Dm) (id : Int) (k : Nat) (wx : World) : Prop :=
  Wb (fun k => T k ∨ M k ∨ k = b) w wx ∧ ∃ (T1 M1 D1 Dd1 : Nat → Prop) (ms mf ma : Nat) (ff : Int → Option Value) (nf : Nat) (g : Int → Nat), (∀ k, T1 k → T k ∨ w.heap.size ≤ k) ∧ (∀ k, M1 k → M k ∨ w.heap.size ≤ k) ∧ Jx T1 D1 M1 Dd1 wx p b s1 d1 ms mf ma ff nf g ∧ (aget s1.H id).isSome ∧ g id = k
def hoX (s : Ps) (id : Int) : Ps := if (aget s.H id).isSome then s else { s with H := aput s.H id ⟨[], false, 0⟩ }
theorem hoS_hoX (s : Ps) (id : Int) (l : By) (dy : Bool) (hH : ASrt s.H) : hoS (hoX s id) id l dy = hoS s id l dy := by
  unfold hoX
  split
  · rfl
  · next h =>
    have hn : aget s.H id = none := by simpa using h
    unfold hoS
    simp only [aget_put hH, aput_aput, hn]
    rfl
set_option maxRecDepth 100000 in
set_option maxHeartbeats 4000000 in
theorem hold_any [Xcl] {I : Ps → Dm → Prop} {J : Dm → Prop} {hand E : Int} (HV : Hv I J hand E) (hhand : 1 ≤ hand) (hE : E ≤ 900000000) {T M A : Nat → Prop} {w : World} {p b : Nat} {s : Ps} {d : Dm} (h : Jn T M w p b s d) (hI : I s d) (id : Int) (hid : Wi id) {v : Value} {l : By} (hv : Bs A w v l) (hA : ∀ k, A k → k < w.heap.size ∧ ¬ T k ∧ ¬ M k ∧ k ≠ b) (hAX : ∀ k, A k → ¬ Xcl.X k) (dy : Bool) :
    Calls Tryz.prog 34 #[.pointer (some ⟨p, 0, none⟩), .int .i64 id, v, .bool dy] w (HoP I J T M w p b s d id l dy) := by
  obtain ⟨va, vc, rfl, _⟩ := hv.at
  obtain ⟨D, Dd, ms, mf, ma, ff, nf, g, hJ⟩ := h.jx
  have hP := hJ.P
  obtain ⟨⟨c0, c1, c2, c3, c4, c5, c6, c7, c8, c9⟩, cf⟩ := hP.cells
  have hp := hP.plt
  have HJ := Hid.mk' hJ
  have HI := Hid.mk' hI
  have HVV := Hid.mk' HV
  have HB := Hid.mk' hv
  have HA := Hid.mk' hA
  have HAX := Hid.mk' hAX
  have HHD := Hid.mk' hhand
  have HEE := Hid.mk' hE
  have hla := hP.mH.look1 Tryz.underlying3 Tryz.underlying63 (z87 w) id hid
  have HID := Hid.mk' hid
  have hw00 : Below w.heap.size w w := Below.refl _ _
  clear h hI hv hA hAX hhand hE HV
  go_enter Tryz.func34, Tryz.ntmps34
  by_cases hs : (aget s.H id).isSome = true
  · obtain ⟨f, hf⟩ := Option.isSome_iff_exists.1 hs
    have hl1 : (Instr.lookup 63 (.map (some ma)) (.int .i64 id) false).run Tryz.prog w = .ok (.pointer (some ⟨g id, 0, none⟩)) w := by
      rw [hla]; unfold hMap; rw [hf]; rfl
    have HM : Hid (Hmid T M w p b (hoX s id) d id (g id) w) := by
      refine ⟨Wb.refl _ _, T, M, D, Dd, ms, mf, ma, ff, nf, g, fun _ h => .inl h, fun _ h => .inl h, ?_, ?_, rfl⟩
      · unfold hoX; rw [if_pos hs]; exact HJ.out
      · unfold hoX; rw [if_pos hs]; exact hs
    have HS := Hid.mk' hs
    clear hla hJ hP hf hs c0 c1 c2 c3 c4 c6 c7 c8 c9 hid hw00
    have HI1 := HI
    have HS1 : Hid (ASrt s.H) := HJ.out.P.sH
    have HC1 : Hid ((aget s.H id).isSome → s = s ∧ d = d) := fun _ => ⟨rfl, rfl⟩
    have HC2 : Hid ((aget s.H id).isSome = false → aget s.H id = none ∧ (s.H.length : Int) < s.hand) := fun h => by rw [HS.out] at h; cases h
    go_upto_region 10 with fail
    obtain ⟨hwX, T1, M1, D1, Dd1, ms1, mf1, ma1, ff1, nf1, g1, hT1, hM1, hJ1, hi1, hg1⟩ := HM.out
    obtain ⟨f, hf⟩ := Option.isSome_iff_exists.1 hi1
    obtain ⟨hfr, hTg, hgp⟩ := hJ1.P.fr id f hf
    obtain ⟨fv, hgx, hfv⟩ := hfr
    obtain ⟨fa, fc, rfl, _⟩ := hfv.at
    obtain ⟨kk, hkk⟩ : ∃ kk, kk = g id := ⟨_, rfl⟩
    rw [← hkk] at hg1 ⊢
    rw [hg1] at hgx hTg hgp
    have hck : (hoX s id).clock = s.clock := by unfold hoX; split <;> rfl
    obtain ⟨⟨e0, e1, e2, e3, e4, e5, e6, e7, e8, e9⟩, ef⟩ := hJ1.P.cells
    rw [hck] at e6
    have hp1 := hJ1.P.plt
    obtain ⟨d0, d1c, d2⟩ := bx3 hgx
    have df := bx3_fr hgx
    have hkl := (Array.getElem?_eq_some_iff.1 hgx).1
    obtain ⟨dy2, hdy2⟩ : ∃ dy2, dy2 = (f.dirty || dy) := ⟨_, rfl⟩
    obtain ⟨W3, hW3⟩ : ∃ W3, W3 = (w.setCell ⟨kk, 0, none⟩ (.slice va l.length vc)).setCell ⟨kk, 1, none⟩ (.bool dy2) := ⟨_, rfl⟩
    have hx3 : W3.heap[kk]? = some (.cells #[.slice va l.length vc, .bool dy2, .int .i64 f.used] 94 (0, 0)) := by
      rw [hW3]
      have h1 := bx3_set hgx 0 (.slice va l.length vc)
      have h2 := bx3_set (c0 := .slice va l.length vc) (by rw [h1]; rfl) 1 (.bool dy2)
      rw [h2]; rfl
    have hw3 : Wb (fun j => j = kk) w W3 := by
      rw [hW3]
      exact (Wb.set (X := fun j => j = kk) w kk 0 _ rfl).trans (Wb.set _ kk 1 _ rfl)
    have hD2 : ∀ j, (D1 j ∨ A j) → j < w.heap.size ∧ ¬ T1 j := fun j hj => by
      rcases hj with hj | hj
      · exact hJ1.P.hD j hj
      · have h1 := HA.out j hj
        refine ⟨Nat.lt_of_lt_of_le h1.1 hwX.size, fun h2 => ?_⟩
        rcases hT1 j h2 with h3 | h3
        · exact h1.2.1 h3
        · omega
    have hdm2 : ∀ j, (D1 j ∨ A j) → ¬ M1 j ∧ j ≠ b := fun j hj => by
      rcases hj with hj | hj
      · exact hJ1.dm j hj
      · have h1 := HA.out j hj
        refine ⟨fun h2 => ?_, h1.2.2.2⟩
        rcases hM1 j h2 with h3 | h3
        · exact h1.2.2.1 h3
        · omega
    have hJ2 : Jx T1 (fun j => D1 j ∨ A j) M1 Dd1 w p b (hoX s id) d ms1 mf1 ma1 ff1 nf1 g1 := { hJ1 with P := hJ1.P.mono (fun j h => .inl h) hD2, dm := hdm2, xo := ⟨hJ1.xo.1, fun k hk => hk.elim (hJ1.xo.2.1 k) (HAX.out k), hJ1.xo.2.2⟩ }
    have hbW : Bs A w (.slice va l.length vc) l := HB.out.wb hwX fun j hj hj2 => by
      have h1 := HA.out j hj2
      rcases hj with hj | hj | hj
      · exact h1.2.1 hj
      · exact h1.2.2.1 hj
      · exact h1.2.2.2 hj
    have hnk : ∀ j, j = kk → ¬ (D1 j ∨ A j) := fun j hj h => by subst hj; exact (hD2 _ h).2 hTg
    have hP3 := hJ2.P.setF (w' := W3) (f := f) (f' := ⟨l, dy2, f.used⟩) hf (by rw [hg1]; exact hw3) ⟨_, by rw [hg1]; exact hx3, (hbW.monoS fun j h => .inr h).wb hw3 hnk⟩
    have c6' : W3.cell? ⟨p, 6, none⟩ = some (.int .i64 s.clock) := by have := hP3.cells.1.2.2.2.2.2.2.1; rw [← hck]; exact this
    have cf' := hP3.cells.2 6
    have dd2 := (bx3 hx3).2.2
    have ddf := bx3_fr hx3 2
    obtain ⟨W5, hW5⟩ : ∃ W5, W5 = (W3.setCell ⟨p, 6, none⟩ (.int .i64 (s.clock + 1))).setCell ⟨kk, 2, none⟩ (.int .i64 (s.clock + 1)) := ⟨_, rfl⟩
    have hws4 := Wb.set (X := fun j => j = p) W3 p 6 (.int .i64 (s.clock + 1)) rfl
    have hbx4 := heap_setCell_same W3 p 6 _ 67 (.int .i64 (s.clock + 1)) hP3.bx
    have hP4 := hP3.setP (s' := { (hoX s id) with H := aput (hoX s id).H id ⟨l, dy2, f.used⟩, clock := s.clock + 1 }) hws4 (by rw [hbx4]; rfl) rfl rfl rfl
    have hws5 := Wb.set (X := fun j => j = kk) (W3.setCell ⟨p, 6, none⟩ (.int .i64 (s.clock + 1))) kk 2 (.int .i64 (s.clock + 1)) rfl
    rw [← hW5] at hws5
    have hx4 : (W3.setCell ⟨p, 6, none⟩ (.int .i64 (s.clock + 1))).heap[kk]? = some (.cells #[.slice va l.length vc, .bool dy2, .int .i64 f.used] 94 (0, 0)) := by
      rw [hws4.block kk (Array.getElem?_eq_some_iff.1 hx3).1 (fun h => hgp h)]; exact hx3
    have hx5 : W5.heap[kk]? = some (.cells #[.slice va l.length vc, .bool dy2, .int .i64 (s.clock + 1)] 94 (0, 0)) := by
      rw [hW5, bx3_set hx4]; rfl
    have hP5 := hP4.setF (w' := W5) (i := id) (f := ⟨l, dy2, f.used⟩) (f' := ⟨l, dy2, s.clock + 1⟩) (by show aget (aput _ _ _) _ = _; rw [aget_put hJ1.P.sH, if_pos rfl]) (by rw [hg1]; exact hws5) ⟨_, by rw [hg1]; exact hx5, (((hbW.monoS fun j h => .inr h).wb hw3 hnk).wb hws4 fun j hj h => by subst hj; exact (hD2 _ h).2 hJ1.P.tp).wb hws5 hnk⟩
    have hwT : Wb T1 w W5 := ((hw3.mono fun j hj => by subst hj; exact hTg).trans (hws4.mono fun j hj => by subst hj; exact hJ1.P.tp)).trans (hws5.mono fun j hj => by subst hj; exact hTg)
    have hst : hoS s id l dy = { (hoX s id) with H := aput (aput (hoX s id).H id ⟨l, dy2, f.used⟩) id ⟨l, dy2, s.clock + 1⟩, clock := s.clock + 1 } := by
      rw [← hoS_hoX s id l dy HS1.out]
      unfold hoS
      rw [aput_aput, hf, hdy2, hck]
      rfl
    have HFIN : Hid (Jp T M w p b (hoS s id l dy) d W5) := by
      have h9 : Jx T1 (fun j => D1 j ∨ A j) M1 Dd1 W5 p b (hoS s id l dy) d ms1 mf1 ma1 ff1 nf1 g1 := hJ2.pool hwT (by rw [hst]; exact hP5)
      refine ⟨⟨?_, ?_, ?_, Nat.le_trans hwX.size hwT.size, fun i hi hx => ?_⟩, T1, M1, hT1, hM1, h9.jn⟩
      · exact (Wb.trans (X := fun _ => True) (hwX.mono fun _ _ => trivial) (hwT.mono fun _ _ => trivial)).os
      · exact (Wb.trans (X := fun _ => True) (hwX.mono fun _ _ => trivial) (hwT.mono fun _ _ => trivial)).tape
      · exact (Wb.trans (X := fun _ => True) (hwX.mono fun _ _ => trivial) (hwT.mono fun _ _ => trivial)).output
      · rw [hwT.block i (Nat.lt_of_lt_of_le hi hwX.size) fun h => ?_, hwX.block i hi hx]
        rcases hT1 i h with h | h
        · exact hx (.inl h)
        · omega
    have hckb := (HVV.out.pb s d HI1.out).2.2.2.1
    have HTO := Hid.mk' (touch_any c6' cf' dd2 ddf hgp hckb.1 (by have := HEE.out; omega))
    rw [← hW5] at HTO
    have HDY2 := Hid.mk' hdy2
    have HW3 := Hid.mk' hW3
    have hgp' : ¬ p = kk := fun e => hgp e.symm
    clear hwX hT1 hM1 hJ1 hi1 hg1 hf hTg hgx hfv hx3 hw3 hD2 hdm2 hJ2 hbW hnk hP3 hws4 hbx4 hP4 hws5 hx4 hx5 hP5 hwT hst hckb e0 e1 e2 e3 e4 e5 e6 e7 e8 e9 c6' cf' dd2 ddf hW5 HM hkk hck hgp hW3 hdy2
    cases hfd : f.dirty with
    | false =>
      rw [hfd] at d1c HDY2
      rw [Bool.false_or] at HDY2
      rw [HDY2.out] at HW3
      clear hfd HDY2
      go_wp2_with fail
      rw [← HW3.out]
      refine HTO.out.mono ?_
      rintro e wt ⟨rfl, rfl⟩
      go_wp2_with fail
      go_ret
      exact .inr ⟨rfl, s, d, HI1.out, (by first | exact HC1.out | exact fun _ => ⟨rfl, rfl⟩), HC2.out, HFIN.out⟩
    | true =>
      rw [hfd] at d1c HDY2
      rw [Bool.true_or] at HDY2
      rw [HDY2.out] at HW3
      clear hfd HDY2
      go_wp2_with fail
      rw [← HW3.out]
      refine HTO.out.mono ?_
      rintro e wt ⟨rfl, rfl⟩
      go_wp2_with fail
      go_ret
      exact .inr ⟨rfl, s, d, HI1.out, (by first | exact HC1.out | exact fun _ => ⟨rfl, rfl⟩), HC2.out, HFIN.out⟩
  · have hs' : aget s.H id = none := by simpa using hs
    have hl1 : (Instr.lookup 63 (.map (some ma)) (.int .i64 id) false).run Tryz.prog w = .ok (.pointer none) w := by
      rw [hla]; unfold hMap; rw [hs']; rfl
    have HN0 := Hid.mk' hs'
    have HJ0 : Hid (Wb (fun k => T k ∨ M k ∨ k = b) w w ∧ (∀ k, T k → T k ∨ w.heap.size ≤ k) ∧ (∀ k, M k → M k ∨ w.heap.size ≤ k) ∧ Jn T M w p b s d) := ⟨Wb.refl _ _, fun _ h => .inl h, fun _ h => .inl h, HJ.out.jn⟩
    clear hla hJ hP hs hs' c0 c1 c2 c3 c4 c6 c7 c8 c9 hid hw00
    go_wp2_with fail
    clear hl1 c5 cf
    go_loopw [10] (fun _ wr => ∃ (s1 : Ps) (d1 : Dm) (T1 M1 : Nat → Prop), Hid (I s1 d1) ∧ Hid (aget s1.H id = none) ∧ Hid (Wb (fun k => T k ∨ M k ∨ k = b) w wr ∧ (∀ k, T1 k → T k ∨ w.heap.size ≤ k) ∧ (∀ k, M1 k → M k ∨ w.heap.size ≤ k) ∧ Jn T1 M1 wr p b s1 d1)) (fun _ wr => atLen wr p)
    case atStart => exact ⟨s, d, T, M, HI, HN0, HJ0⟩
    case round =>
      clear HI HJ0
      obtain ⟨s1, d1, T1, M1, HI1, HN1, HJ1⟩ := hrel
      obtain ⟨D1, Dd1, ms1, mf1, ma1, ff1, nf1, g1, hJ1⟩ := HJ1.out.2.2.2.jx
      have hpb := HVV.out.pb s1 d1 HI1.out
      have HPB1 := Hid.mk' hpb
      have hhd : s1.hand = hand := hpb.2.2.2.2.1
      have hHl : s1.H.length ≤ 100000 := hpb.2.2.2.2.2.1
      have hHi : (s1.H.length : Int) ≤ 100000 := by omega
      obtain ⟨⟨e0, e1, e2, e3, e4, e5, e6, e7, e8, e9⟩, ef⟩ := hJ1.P.cells
      rw [hhd] at e2
      have hp1 := hJ1.P.plt
      have HX1 := Hid.mk' hJ1
      have r2 : ∀ q : Kp (fun _ => False) wr, q.nx.cell? ⟨p, 2, none⟩ = some (.int .i64 hand) := fun q => q.cell e2 (fun h => h)
      have r5 : ∀ q : Kp (fun _ => False) wr, q.nx.cell? ⟨p, 5, none⟩ = some (.map (some ma1)) := fun q => q.cell e5 (fun h => h)
      have rl : ∀ (q : Kp (fun _ => False) wr), (Builtin.len_ #[63] 3 #[.map (some ma1)]).run Tryz.prog q.nx = .ok (.int .i64 (s1.H.length : Int)) q.nx := fun q => (hJ1.P.mH.block (w' := q.nx) (q.ok ma1 hJ1.P.mH.lt (fun h => h))).len Tryz.underlying63 3
      have hAL := hJ1.P.atLen
      have HAL := Hid.mk' hAL
      clear hpb hhd hHl e0 e1 e2 e3 e4 e5 e6 e7 e8 e9 hJ1 hAL
      go_wp2_with fail
      refine wp_region_mix 10 (fun w' => ∃ q : Kp (fun _ => False) wr, w' = q.nx) (by kernel_rfl) (by kernel_rfl) (kp_first _ wr) ?_
      simp only [List.take_succ_cons, List.take_zero, List.drop_succ_cons, List.drop_zero]
      refine mx_take 10 rfl ?_
      simp only [List.take_succ_cons, List.take_zero, List.drop_succ_cons, List.drop_zero]
      repeat (go_big_quiet_step (fail))
      refine wpQuiet_nil ?_
      simp only [wpMix]
      clear r2 r5 rl
      have HBD : Hid (Below wr.heap.size wr wr.drew) := drew_blx wr _
      by_cases hge : hand ≤ (s1.H.length : Int)
      · have HNL : Hid (0 < s1.H.length) := by have := HHD.out; show 0 < _; omega
        obtain ⟨z, hz, hz1, hz2, hvic⟩ := HVV.out.z s1 d1 HI1.out
        have HVI := Hid.mk' hvic
        have HEV := Hid.mk' (evict_any (HX1.out.jn.up HBD.out) HPB1.out.1 HPB1.out.2.1 (fun e => by have := HNL.out; rw [e] at this; exact absurd this (by decide)) ⟨HPB1.out.2.2.1.1, by have := HPB1.out.2.2.1.2; have := HEE.out; omega⟩ z hz hz1 hz2)
        clear hvic hz hz1 hz2
        go_wp2_with fail
        refine HEV.out.mono ?_
        rintro e w5 ⟨vid, f, sl, hf, hsl, hq1, hq2⟩
        obtain ⟨hv1, hv2⟩ := HVI.out vid f sl hf hsl
        have HF := Hid.mk' hf
        cases hdy : f.dirty with
        | false =>
          obtain ⟨rfl, hj⟩ := hq1 hdy
          have hJP : Jp T M w p b (evS s1 vid) d1 w5 := Jp.trans (w1 := wr.drew) (HJ1.out.1.trans (Wb.of_below _ HBD.out)) HJ1.out.2.1 HJ1.out.2.2.1 hj
          obtain ⟨hwJ, T5, M5, hT5, hM5, hJN⟩ := hJP
          have HJ5 : Hid (Wb (fun k => T k ∨ M k ∨ k = b) w w5 ∧ (∀ k, T5 k → T k ∨ w.heap.size ≤ k) ∧ (∀ k, M5 k → M k ∨ w.heap.size ≤ k) ∧ Jn T5 M5 w5 p b (evS s1 vid) d1) := ⟨hwJ, hT5, hM5, hJN⟩
          have HI5 := Hid.mk' (hv1 hdy)
          have HN5 : Hid (aget (evS s1 vid).H id = none) := by
            have h1 := HN1.out
            show aget (adel _ _) id = none
            rw [aget_del HX1.out.P.sH]; split
            · rfl
            · exact h1
          have HAL5 : Hid (atLen w5 p < atLen wr p) := by
            obtain ⟨D5, Dd5, ms5, mf5, ma5, ff5, nf5, g5, hJ5⟩ := hJN.jx
            have h2 := hJ5.P.atLen
            have h1 := HAL.out
            have h3 := HNL.out
            have h4 : (evS s1 vid).H.length = s1.H.length - 1 := by show (adel s1.H vid).length = _; rw [len_adel, HF.out]; rfl
            show _ < _
            omega
          clear hwJ hT5 hM5 hJN
          clear hq1 hq2 hf hsl hv1 hv2 hdy
          go_wp2_with fail
          exact ⟨⟨_, _, T5, M5, HI5, HN5, HJ5⟩, HAL5.out⟩
        | true =>
          obtain ⟨n, hSl, rfl, hj1, hj2⟩ := hq2 hdy
          obtain ⟨h8, hz0, hne0⟩ := hv2 hdy n hSl
          by_cases he : pcE d1 n = 0
          · have hj := hj2 he
            have hJP : Jp T M w p b (evS (pcS s1 vid f n) vid) (pcD d1 n f.data) w5 := Jp.trans (w1 := wr.drew) (HJ1.out.1.trans (Wb.of_below _ HBD.out)) HJ1.out.2.1 HJ1.out.2.2.1 hj
            obtain ⟨hwJ, T5, M5, hT5, hM5, hJN⟩ := hJP
            have HJ5 : Hid (Wb (fun k => T k ∨ M k ∨ k = b) w w5 ∧ (∀ k, T5 k → T k ∨ w.heap.size ≤ k) ∧ (∀ k, M5 k → M k ∨ w.heap.size ≤ k) ∧ Jn T5 M5 w5 p b (evS (pcS s1 vid f n) vid) (pcD d1 n f.data)) := ⟨hwJ, hT5, hM5, hJN⟩
            have HI5 := Hid.mk' (hz0 he)
            have HN5 : Hid (aget (evS (pcS s1 vid f n) vid).H id = none) := by
              have h1 := HN1.out
              show aget (adel _ _) id = none
              show aget (adel (aput s1.H vid _) vid) id = none; rw [aget_del (HX1.out.P.sH.put _ _), aget_put HX1.out.P.sH]; split
              · rfl
              · exact h1
            have HAL5 : Hid (atLen w5 p < atLen wr p) := by
              obtain ⟨D5, Dd5, ms5, mf5, ma5, ff5, nf5, g5, hJ5⟩ := hJN.jx
              have h2 := hJ5.P.atLen
              have h1 := HAL.out
              have h3 := HNL.out
              have h4 : (evS (pcS s1 vid f n) vid).H.length = s1.H.length - 1 := by show (adel (aput s1.H vid _) vid).length = _; rw [len_adel, aget_put HX1.out.P.sH, if_pos rfl, len_aput _ HX1.out.P.sH, HF.out]; rfl
              show _ < _
              omega
            clear hwJ hT5 hM5 hJN
            rw [he]
            clear hq1 hq2 hf hsl hv1 hv2 hdy h8 hz0 hne0 hj1 hj2 he hSl
            go_wp2_with fail
            exact ⟨⟨_, _, T5, M5, HI5, HN5, HJ5⟩, HAL5.out⟩
          · have hJP : Jp T M w p b s1 (pcD d1 n f.data) w5 := Jp.trans (w1 := wr.drew) (HJ1.out.1.trans (Wb.of_below _ HBD.out)) HJ1.out.2.1 HJ1.out.2.2.1 (hj1 he)
            have HJP := Hid.mk' hJP
            have HJJ := Hid.mk' (hne0 he)
            have HE := Hid.mk' he
            have he' : ¬ pcE d1 n = 0 := he
            have h8' : ¬ pcE d1 n = 8 := h8
            clear hq1 hq2 hf hsl hv1 hv2 hdy h8 hz0 hne0 hj1 hj2 he hSl hJP
            generalize pcE d1 n = pe at *
            go_wp2_with fail
            go_ret
            exact .inl ⟨pe, s1, _, HE.out, rfl, HJJ.out, HJP.out⟩
      · have hx1 := HX1.out.up HBD.out
        obtain ⟨gN, hgN⟩ : ∃ gN, gN = wr.heap.size := ⟨_, rfl⟩
        obtain ⟨W1, hW1⟩ : ∃ W1, W1 = (wr.alloc (.cells #[.slice none 0 0, .bool false, .int .i64 0] 94)).drew := ⟨_, rfl⟩
        have hbx : W1.heap[gN]? = some (.cells #[.slice none 0 0, .bool false, .int .i64 0] 94 (0, 0)) := by rw [hW1, hgN]; exact heap_alloc_new wr _
        have hb1 : Below wr.heap.size wr W1 := by rw [hW1]; exact (up_alloc wr _).trans (drew_blx _ _)
        have hx2 := HX1.out.up hb1
        obtain ⟨w9, hr9, hm9, hg9⟩ := hx2.P.mH.store Tryz.underlying3 Tryz.underlying63 id HID.out (.pointer (some ⟨gN, 0, none⟩)) (by unfold maxLen; omega)
        rw [hMap_some, HN1.out] at hm9
        have hgT : ¬ T1 gN := fun h => by have := HX1.out.P.hT gN h; omega
        have hgD : ¬ D1 gN := fun h => by have := (HX1.out.P.hD gN h).1; omega
        have hw9 := Wb.of_map hg9
        have hP9 := hx2.P.addH HN1.out hbx hgT hgD hw9 hm9
        have hlt9 : gN < w9.heap.size := Nat.lt_of_lt_of_le (Array.getElem?_eq_some_iff.1 hbx).1 hw9.size
        have hX9 : Jx (fun k => T1 k ∨ k = gN) D1 M1 Dd1 w9 p b { s1 with H := aput s1.H id ⟨[], false, 0⟩ } d1 ms1 mf1 ma1 ff1 nf1 (fun i => if i = id then gN else g1 i) :=
          { P := hP9
            Dr := hx2.Dr.keep hw9 fun k hk => by subst hk; exact ⟨(hx2.tm _ hx2.P.tH.1).1, fun h => hx2.dd _ h hx2.P.tH.1, (hx2.tm _ hx2.P.tH.1).2⟩
            nf := hx2.nf
            dm := hx2.dm
            xo := hx2.xo.up hw9.size
            dd := fun k hk h => h.elim (hx2.dd k hk) fun e => by have := (HX1.out.Dr.hD k hk).1; omega
            tm := fun k hk => by
              rcases hk with hk | hk
              · exact hx2.tm k hk
              · refine ⟨fun h => ?_, fun h => ?_⟩
                · have := (HX1.out.Dr.hM k h).1; omega
                · have := HX1.out.Dr.blt; omega }
        have hn1 : ¬ (aget s1.H id).isSome = true := by rw [HN1.out]; simp
        have HM : Hid (Hmid T M w p b (hoX s1 id) d1 id gN w9) := by
          refine ⟨?_, fun k => T1 k ∨ k = gN, M1, D1, Dd1, ms1, mf1, ma1, ff1, nf1, _, fun k hk => ?_, HJ1.out.2.2.1, by unfold hoX; rw [if_neg hn1]; exact hX9, ?_, ?_⟩
          · have hwA := HJ1.out.1
            have hwB : Wb (fun k => T1 k ∨ M1 k ∨ k = b) wr w9 := (Wb.of_below _ hb1).trans (hw9.mono fun k hk => by subst hk; exact .inl hx2.P.tH.1)
            exact wb_comb hwA HJ1.out.2.1 HJ1.out.2.2.1 hwB
          · rcases hk with hk | hk
            · exact HJ1.out.2.1 k hk
            · refine .inr ?_
              have := HJ1.out.1.size
              omega
          · unfold hoX; rw [if_neg hn1]
            show (aget (aput _ _ _) _).isSome
            rw [aget_put HX1.out.P.sH, if_pos rfl]; rfl
          · exact if_pos rfl
        have HS1 : Hid (ASrt s1.H) := HX1.out.P.sH
        have HC1 : Hid ((aget s.H id).isSome → s1 = s ∧ d1 = d) := fun h => by rw [HN0.out] at h; cases h
        have HC2 : Hid ((aget s.H id).isSome = false → aget s1.H id = none ∧ (s1.H.length : Int) < s1.hand) := fun _ => ⟨HN1.out, by rw [HPB1.out.2.2.2.2.1]; omega⟩
        have e5 : W1.cell? ⟨p, 5, none⟩ = some (.map (some ma1)) := hx2.P.cells.1.2.2.2.2.2.1
        have hp2 := hx2.P.plt
        have hdz : wr.drew.heap.size = wr.heap.size := rfl
        have HW1 := Hid.mk' hW1
        have HGN := Hid.mk' hgN
        clear hx1 hW1 hbx hb1 hx2 hm9 hgT hgD hw9 hP9 hlt9 hX9 hn1 hg9 hgN
        go_upto_region 9 with fail
        rw [← HGN.out, ← HW1.out]
        go_upto_region 10 with fail
        obtain ⟨hwX, T1, M1, D1, Dd1, ms1, mf1, ma1, ff1, nf1, g1, hT1, hM1, hJ1, hi1, hg1⟩ := HM.out
        obtain ⟨f, hf⟩ := Option.isSome_iff_exists.1 hi1
        obtain ⟨hfr, hTg, hgp⟩ := hJ1.P.fr id f hf
        obtain ⟨fv, hgx, hfv⟩ := hfr
        obtain ⟨fa, fc, rfl, _⟩ := hfv.at
        obtain ⟨kk, hkk⟩ : ∃ kk, kk = gN := ⟨_, rfl⟩
        rw [← hkk] at hg1 ⊢
        rw [hg1] at hgx hTg hgp
        have hck : (hoX s1 id).clock = s1.clock := by unfold hoX; split <;> rfl
        obtain ⟨⟨e0, e1, e2, e3, e4, e5, e6, e7, e8, e9⟩, ef⟩ := hJ1.P.cells
        rw [hck] at e6
        have hp1 := hJ1.P.plt
        obtain ⟨d0, d1c, d2⟩ := bx3 hgx
        have df := bx3_fr hgx
        have hkl := (Array.getElem?_eq_some_iff.1 hgx).1
        obtain ⟨dy2, hdy2⟩ : ∃ dy2, dy2 = (f.dirty || dy) := ⟨_, rfl⟩
        obtain ⟨W3, hW3⟩ : ∃ W3, W3 = (w9.setCell ⟨kk, 0, none⟩ (.slice va l.length vc)).setCell ⟨kk, 1, none⟩ (.bool dy2) := ⟨_, rfl⟩
        have hx3 : W3.heap[kk]? = some (.cells #[.slice va l.length vc, .bool dy2, .int .i64 f.used] 94 (0, 0)) := by
          rw [hW3]
          have h1 := bx3_set hgx 0 (.slice va l.length vc)
          have h2 := bx3_set (c0 := .slice va l.length vc) (by rw [h1]; rfl) 1 (.bool dy2)
          rw [h2]; rfl
        have hw3 : Wb (fun j => j = kk) w9 W3 := by
          rw [hW3]
          exact (Wb.set (X := fun j => j = kk) w9 kk 0 _ rfl).trans (Wb.set _ kk 1 _ rfl)
        have hD2 : ∀ j, (D1 j ∨ A j) → j < w9.heap.size ∧ ¬ T1 j := fun j hj => by
          rcases hj with hj | hj
          · exact hJ1.P.hD j hj
          · have h1 := HA.out j hj
            refine ⟨Nat.lt_of_lt_of_le h1.1 hwX.size, fun h2 => ?_⟩
            rcases hT1 j h2 with h3 | h3
            · exact h1.2.1 h3
            · omega
        have hdm2 : ∀ j, (D1 j ∨ A j) → ¬ M1 j ∧ j ≠ b := fun j hj => by
          rcases hj with hj | hj
          · exact hJ1.dm j hj
          · have h1 := HA.out j hj
            refine ⟨fun h2 => ?_, h1.2.2.2⟩
            rcases hM1 j h2 with h3 | h3
            · exact h1.2.2.1 h3
            · omega
        have hJ2 : Jx T1 (fun j => D1 j ∨ A j) M1 Dd1 w9 p b (hoX s1 id) d1 ms1 mf1 ma1 ff1 nf1 g1 := { hJ1 with P := hJ1.P.mono (fun j h => .inl h) hD2, dm := hdm2, xo := ⟨hJ1.xo.1, fun k hk => hk.elim (hJ1.xo.2.1 k) (HAX.out k), hJ1.xo.2.2⟩ }
        have hbW : Bs A w9 (.slice va l.length vc) l := HB.out.wb hwX fun j hj hj2 => by
          have h1 := HA.out j hj2
          rcases hj with hj | hj | hj
          · exact h1.2.1 hj
          · exact h1.2.2.1 hj
          · exact h1.2.2.2 hj
        have hnk : ∀ j, j = kk → ¬ (D1 j ∨ A j) := fun j hj h => by subst hj; exact (hD2 _ h).2 hTg
        have hP3 := hJ2.P.setF (w' := W3) (f := f) (f' := ⟨l, dy2, f.used⟩) hf (by rw [hg1]; exact hw3) ⟨_, by rw [hg1]; exact hx3, (hbW.monoS fun j h => .inr h).wb hw3 hnk⟩
        have c6' : W3.cell? ⟨p, 6, none⟩ = some (.int .i64 s1.clock) := by have := hP3.cells.1.2.2.2.2.2.2.1; rw [← hck]; exact this
        have cf' := hP3.cells.2 6
        have dd2 := (bx3 hx3).2.2
        have ddf := bx3_fr hx3 2
        obtain ⟨W5, hW5⟩ : ∃ W5, W5 = (W3.setCell ⟨p, 6, none⟩ (.int .i64 (s1.clock + 1))).setCell ⟨kk, 2, none⟩ (.int .i64 (s1.clock + 1)) := ⟨_, rfl⟩
        have hws4 := Wb.set (X := fun j => j = p) W3 p 6 (.int .i64 (s1.clock + 1)) rfl
        have hbx4 := heap_setCell_same W3 p 6 _ 67 (.int .i64 (s1.clock + 1)) hP3.bx
        have hP4 := hP3.setP (s' := { (hoX s1 id) with H := aput (hoX s1 id).H id ⟨l, dy2, f.used⟩, clock := s1.clock + 1 }) hws4 (by rw [hbx4]; rfl) rfl rfl rfl
        have hws5 := Wb.set (X := fun j => j = kk) (W3.setCell ⟨p, 6, none⟩ (.int .i64 (s1.clock + 1))) kk 2 (.int .i64 (s1.clock + 1)) rfl
        rw [← hW5] at hws5
        have hx4 : (W3.setCell ⟨p, 6, none⟩ (.int .i64 (s1.clock + 1))).heap[kk]? = some (.cells #[.slice va l.length vc, .bool dy2, .int .i64 f.used] 94 (0, 0)) := by
          rw [hws4.block kk (Array.getElem?_eq_some_iff.1 hx3).1 (fun h => hgp h)]; exact hx3
        have hx5 : W5.heap[kk]? = some (.cells #[.slice va l.length vc, .bool dy2, .int .i64 (s1.clock + 1)] 94 (0, 0)) := by
          rw [hW5, bx3_set hx4]; rfl
        have hP5 := hP4.setF (w' := W5) (i := id) (f := ⟨l, dy2, f.used⟩) (f' := ⟨l, dy2, s1.clock + 1⟩) (by show aget (aput _ _ _) _ = _; rw [aget_put hJ1.P.sH, if_pos rfl]) (by rw [hg1]; exact hws5) ⟨_, by rw [hg1]; exact hx5, (((hbW.monoS fun j h => .inr h).wb hw3 hnk).wb hws4 fun j hj h => by subst hj; exact (hD2 _ h).2 hJ1.P.tp).wb hws5 hnk⟩
        have hwT : Wb T1 w9 W5 := ((hw3.mono fun j hj => by subst hj; exact hTg).trans (hws4.mono fun j hj => by subst hj; exact hJ1.P.tp)).trans (hws5.mono fun j hj => by subst hj; exact hTg)
        have hst : hoS s1 id l dy = { (hoX s1 id) with H := aput (aput (hoX s1 id).H id ⟨l, dy2, f.used⟩) id ⟨l, dy2, s1.clock + 1⟩, clock := s1.clock + 1 } := by
          rw [← hoS_hoX s1 id l dy HS1.out]
          unfold hoS
          rw [aput_aput, hf, hdy2, hck]
          rfl
        have HFIN : Hid (Jp T M w p b (hoS s1 id l dy) d1 W5) := by
          have h9 : Jx T1 (fun j => D1 j ∨ A j) M1 Dd1 W5 p b (hoS s1 id l dy) d1 ms1 mf1 ma1 ff1 nf1 g1 := hJ2.pool hwT (by rw [hst]; exact hP5)
          refine ⟨⟨?_, ?_, ?_, Nat.le_trans hwX.size hwT.size, fun i hi hx => ?_⟩, T1, M1, hT1, hM1, h9.jn⟩
          · exact (Wb.trans (X := fun _ => True) (hwX.mono fun _ _ => trivial) (hwT.mono fun _ _ => trivial)).os
          · exact (Wb.trans (X := fun _ => True) (hwX.mono fun _ _ => trivial) (hwT.mono fun _ _ => trivial)).tape
          · exact (Wb.trans (X := fun _ => True) (hwX.mono fun _ _ => trivial) (hwT.mono fun _ _ => trivial)).output
          · rw [hwT.block i (Nat.lt_of_lt_of_le hi hwX.size) fun h => ?_, hwX.block i hi hx]
            rcases hT1 i h with h | h
            · exact hx (.inl h)
            · omega
        have hckb := (HVV.out.pb s1 d1 HI1.out).2.2.2.1
        have HTO := Hid.mk' (touch_any c6' cf' dd2 ddf hgp hckb.1 (by have := HEE.out; omega))
        rw [← hW5] at HTO
        have HDY2 := Hid.mk' hdy2
        have HW3 := Hid.mk' hW3
        have hgp' : ¬ p = kk := fun e => hgp e.symm
        clear hwX hT1 hM1 hJ1 hi1 hg1 hf hTg hgx hfv hx3 hw3 hD2 hdm2 hJ2 hbW hnk hP3 hws4 hbx4 hP4 hws5 hx4 hx5 hP5 hwT hst hckb e0 e1 e2 e3 e4 e5 e6 e7 e8 e9 c6' cf' dd2 ddf hW5 HM hkk hck hgp hW3 hdy2
        cases hfd : f.dirty with
        | false =>
          rw [hfd] at d1c HDY2
          rw [Bool.false_or] at HDY2
          rw [HDY2.out] at HW3
          clear hfd HDY2
          go_wp2_with fail
          rw [← HW3.out]
          refine HTO.out.mono ?_
          rintro e wt ⟨rfl, rfl⟩
          go_wp2_with fail
          go_ret
          exact .inr ⟨rfl, s1, d1, HI1.out, (by first | exact HC1.out | exact fun _ => ⟨rfl, rfl⟩), HC2.out, HFIN.out⟩
        | true =>
          rw [hfd] at d1c HDY2
          rw [Bool.true_or] at HDY2
          rw [HDY2.out] at HW3
          clear hfd HDY2
          go_wp2_with fail
          rw [← HW3.out]
          refine HTO.out.mono ?_
          rintro e wt ⟨rfl, rfl⟩
          go_wp2_with fail
          go_ret
          exact .inr ⟨rfl, s1, d1, HI1.out, (by first | exact HC1.out | exact fun _ => ⟨rfl, rfl⟩), HC2.out, HFIN.out⟩
end Go.Proofs.YtbmhkdcmepfmbaaGreat
