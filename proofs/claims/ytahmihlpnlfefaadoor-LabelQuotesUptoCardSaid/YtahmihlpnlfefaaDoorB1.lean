/- Walks: strings.Builder (copyCheck, WriteByte, Write). -/
import Derived.Test.YtahmihlpnlfefaaDoorSB
import Derived.Test.YtahmihlpnlfefaaDoorU4
import Derived.Lib.Walk
import Derived.Lib.Builder
import Derived.Laws.Externs
set_option linter.unusedVariables false
set_option linter.unusedSimpArgs false
namespace Go.Proofs.YtahmihlpnlfefaaDoor
open Go.RowKit
open PL
theorem szB : ∃ j, Tryd.prog.info? 56 = some j ∧ j.size = 2 := by
  have : (Tryd.prog.info? 56).map (·.size) = some 2 := by kernel_rfl
  exact Option.map_eq_some_iff.1 this
set_option maxHeartbeats 1000000 in
set_option maxRecDepth 100000 in
theorem copyCheck_used (b : Nat) (w : World) (h0 : w.cell? ⟨b, 0, none⟩ = some (.pointer (some ⟨b, 0, none⟩))) :
    Calls Tryd.prog 64 #[.pointer (some ⟨b, 0, none⟩)] w fun e w' => e = .returned (.tuple #[]) ∧ w = w' := by
  obtain ⟨j, hj, _⟩ := szB
  go_enter Tryd.func64, Tryd.ntmps64
  go_wp2
  rw [Lib.run_neq_ptr_same w _ Tryd.underlying54 hj]
  go_wp2
  go_end0
  exact ⟨rfl, rfl⟩
set_option maxHeartbeats 1000000 in
set_option maxRecDepth 100000 in
theorem copyCheck_fresh (b : Nat) (w : World) (h0 : w.cell? ⟨b, 0, none⟩ = some (.pointer none)) (hsh : w.shape? b = some (56, 2)) (hfz : w.frozen? ⟨b, 0, none⟩ = false) :
    Calls Tryd.prog 64 #[.pointer (some ⟨b, 0, none⟩)] w fun e w' => e = .returned (.tuple #[]) ∧ w' = w.setCell ⟨b, 0, none⟩ (.pointer (some ⟨b, 0, none⟩)) := by
  obtain ⟨j, hj, hjs⟩ := szB
  go_enter Tryd.func64, Tryd.ntmps64
  go_wp2
  rw [Lib.run_to_unsafe w ⟨b, 0, none⟩ Tryd.underlying54 Tryd.underlying90 hj (by rw [hjs]; decide) hsh (Nat.zero_lt_succ 1)]
  simp only [Result.andThen]
  rw [Oper.upon_value]
  go_wp2
  rw [run_callFunc_extern Tryd.func74 (by kernel_rfl) (by kernel_rfl) (by kernel_rfl) (e := Extern.AbiNoEscape.same) (by kernel_rfl)]
  rw [Lib.run_noEscape]
  simp only [Result.andThen]
  rw [Oper.upon_value]
  go_wp2
  rw [Lib.run_from_unsafe w ⟨b, 0, none⟩ Tryd.underlying90 Tryd.underlying54 hj hsh (by kernel_rfl)]
  simp only [Result.andThen]
  rw [Oper.upon_value]
  go_wp2
  go_end0
  exact ⟨rfl, rfl⟩
theorem copyCheck_any (B b : Nat) (bs : List Value) (w : World) (h : Lib.IsBuilder 56 5 B b bs w) :
    Calls Tryd.prog 64 #[.pointer (some ⟨b, 0, none⟩)] w fun e w' => e = .returned (.tuple #[]) ∧ (Lib.BuilderAt 56 5 B b (.pointer (some ⟨b, 0, none⟩)) bs w' ∧ Below B w w' ∧ (∀ k, k ≠ b → w'.heap[k]? = w.heap[k]?) ∧ w'.heap.size = w.heap.size) := by
  rcases h with h | h
  · refine (copyCheck_fresh b w h.cell0 h.shape h.frozen0).mono ?_
    rintro e w' ⟨rfl, rfl⟩
    exact ⟨rfl, h.used _, (Below.refl B w).setCell (p := ⟨b, 0, none⟩) h.1 _, fun k hk => Below.heap_setCell _ _ _ _ hk, by simp [World.setCell]⟩
  · refine (copyCheck_used b w h.cell0).mono ?_
    rintro e w' ⟨rfl, rfl⟩
    exact ⟨rfl, h, Below.refl B _, fun _ _ => rfl, rfl⟩
/-- the builder in block b holds the bytes l -/
def Bd (B b : Nat) (l : List UInt8) (w : World) : Prop := Lib.IsBuilder 56 5 B b (bv l) w
theorem bv_cells (l : List UInt8) : bv l = Lib.byteCells l := rfl
/-- the builder's block, taken apart -/
theorem bd_open {B b : Nat} {p : Value} {l : List UInt8} {w : World} (h : Lib.BuilderAt 56 5 B b p (bv l) w) :
    B ≤ b ∧ ∃ v, w.heap[b]? = some (.cells #[p, v] 56 (0, 0)) ∧ Ob 5 B w v l ∧ v.ownBlock ≠ some b := by
  obtain ⟨hB, v, h1, h2, h3⟩ := h
  exact ⟨hB, v, h1, by unfold Ob; rw [bv_length] at h2; exact h2, h3⟩
theorem ob_slice {e : TypeId} {B : Nat} {w : World} {v : Value} {l : List UInt8} (h : Ob e B w v l) : ∃ ao n c, v = .slice ao n c := by
  rcases h.2 with ⟨rfl, _⟩ | ⟨g, cap, cur, rfl, _⟩
  · exact ⟨_, _, _, rfl⟩
  · exact ⟨_, _, _, rfl⟩
theorem bd_put {B b : Nat} {p v v' : Value} {m : List UInt8} {w1 w2 : World} (hB : B ≤ b) (hlt : b < w1.heap.size) (hb : w1.heap[b]? = some (.cells #[p, v] 56 (0, 0))) (hne : v.ownBlock ≠ some b)
    (hgr : w1.grownBy w2 v.ownBlock) (ho : Ob 5 B w2 v' m) : Lib.BuilderAt 56 5 B b p (bv m) (w2.setCell ⟨b, 1, none⟩ v') := by
  have hb2 : w2.heap[b]? = some (.cells #[p, v] 56 (0, 0)) := by
    rw [hgr.block b hlt (fun e => hne e.symm)]; exact hb
  exact Lib.BuilderAt.put (T := 56) (e := 5) hB hb2 (by rw [bv_length]; exact ho) (by decide)
set_option maxHeartbeats 1000000 in
set_option maxRecDepth 100000 in
/-- (*strings.Builder).Write -/
theorem bwrite_any {A : Nat → Prop} (B b : Nat) (v : Value) (l m : List UInt8) (w : World) (h : Bd B b l w) (hv : Bs A w v m) (hA : ∀ k, A k → k ≠ b) (hlen : l.length + m.length ≤ lim) (hBw : B ≤ w.heap.size) :
    Calls Tryd.prog 42 #[.pointer (some ⟨b, 0, none⟩), v] w fun e w' => e = .returned (.tuple #[.int .i64 m.length, .nilIface]) ∧ Bd B b (l ++ m) w' ∧ Below B w w' := by
  have HC := Hid.mk' (copyCheck_any B b (bv l) w h)
  have HV := Hid.mk' hv
  clear h hv
  obtain ⟨va, vc, rfl, vv, _, _⟩ := HV.out.at
  go_enter Tryd.func42, Tryd.ntmps42
  go_wp2_with fail
  refine HC.out.mono ?_
  rintro e w1 ⟨rfl, h1, hb1, hk1, hs1⟩
  obtain ⟨hB, v, hbk, hown, hne⟩ := bd_open h1
  have c1 : w1.cell? ⟨b, 1, none⟩ = some v := by rw [Lib.cell_of_heap hbk]; rfl
  have hlt : b < w1.heap.size := (Array.getElem?_eq_some_iff.1 hbk).1
  have HV1 : Hid (Bs A w1 (.slice va m.length vc) m) := HV.out.keepS (fun k hk => hk1 k (hA k hk))
  have HO := Hid.mk' hown
  have HK := Hid.mk' hbk
  have HB := Hid.mk' hb1
  clear h1 hbk hown hb1 hk1 hs1
  go_wp2_with (at_builtin; refine app31 rfl (.tmp 12) (.tmp 13) rfl (v := v) rfl HO.out rfl HV1.out hlen ?c5 ?_; (case c5 => have := HB.out.size; omega); intro v' w2 ho hgr hn hb; clear hn hb; obtain ⟨ao, nn, cc, rfl⟩ := ob_slice ho; have HP := Hid.mk' (bd_put hB hlt HK.out hne hgr ho); have HB2 := Hid.mk' ((HB.out.grown hgr (by have := HB.out.size; omega) (fun k hk => (HO.out.lt k hk).1)).setCell (p := ⟨b, 1, none⟩) hB (.slice ao nn cc)); have hb2 : w2.heap[b]? = some (.cells #[.pointer (some ⟨b, 0, none⟩), v] 56 (0, 0)) := (by rw [hgr.block b hlt (fun e => hne e.symm)]; exact HK.out); have d1 : w2.cell? ⟨b, 1, none⟩ = some v := (by rw [Lib.cell_of_heap hb2]; rfl); have f1 : w2.frozen? ⟨b, 1, none⟩ = false := Lib.frozen_of_heap hb2 1; clear ho hgr hb2)
  go_ret2
  exact ⟨rfl, .inr HP.out, HB2.out⟩
set_option maxHeartbeats 1000000 in
set_option maxRecDepth 100000 in
/-- (*strings.Builder).WriteByte -/
theorem bbyte_any (B b : Nat) (c : UInt8) (l : List UInt8) (w : World) (h : Bd B b l w) (hlen : l.length + 1 ≤ lim) (hBw : B ≤ w.heap.size) :
    Calls Tryd.prog 41 #[.pointer (some ⟨b, 0, none⟩), .int .u8 (c.toNat : Int)] w fun e w' => e = .returned .nilIface ∧ Bd B b (l ++ [c]) w' ∧ Below B w w' := by
  have HC := Hid.mk' (copyCheck_any B b (bv l) w h)
  clear h
  go_enter Tryd.func41, Tryd.ntmps41
  go_wp2_with fail
  refine HC.out.mono ?_
  rintro e w1 ⟨rfl, h1, hb1, hk1, hs1⟩
  obtain ⟨hB, v, hbk, hown, hne⟩ := bd_open h1
  have c1 : w1.cell? ⟨b, 1, none⟩ = some v := by rw [Lib.cell_of_heap hbk]; rfl
  have hlt : b < w1.heap.size := (Array.getElem?_eq_some_iff.1 hbk).1
  have HO := Hid.mk' hown
  have HK := Hid.mk' hbk
  have HB := Hid.mk' hb1
  clear h1 hbk hown hb1 hk1 hs1
  go_wp2_with (at_builtin; refine app31 rfl (.tmp 11) (.tmp 13) rfl (v := v) rfl (HO.out.alloc _) rfl (bs_row [c] rfl rfl (by simp)) hlen ?c5 ?_; (case c5 => have := HB.out.size; simp; omega); intro v' w2 ho hgr hn hb; clear hn hb; obtain ⟨ao, nn, cc, rfl⟩ := ob_slice ho; have HP := Hid.mk' (bd_put hB (by simp; omega) (by rw [Lib.alloc_old w1 _ b hlt]; exact HK.out) hne hgr ho); have HB2 := Hid.mk' (((HB.out.alloc (by have := HB.out.size; omega) _).grown hgr (by have := HB.out.size; simp; omega) (fun k hk => (Ob.lt (HO.out.alloc (.cells #[.int .u8 (c.toNat : Int)] 5)) k hk).1)).setCell (p := ⟨b, 1, none⟩) hB (.slice ao nn cc)); have hb2 : w2.heap[b]? = some (.cells #[.pointer (some ⟨b, 0, none⟩), v] 56 (0, 0)) := (by rw [hgr.block b (by simp; omega) (fun e => hne e.symm)]; exact (by rw [Lib.alloc_old w1 _ b hlt]; exact HK.out)); have d1 : w2.cell? ⟨b, 1, none⟩ = some v := (by rw [Lib.cell_of_heap hb2]; rfl); have f1 : w2.frozen? ⟨b, 1, none⟩ = false := Lib.frozen_of_heap hb2 1; clear ho hgr hb2)
  go_ret
  exact ⟨rfl, .inr HP.out, HB2.out⟩
end Go.Proofs.YtahmihlpnlfefaaDoor
