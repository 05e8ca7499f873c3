/- How a range and a list of transactions that were handed in read. -/
import Derived.Test.YteejlmeinndlhaaAW
import Derived.Test.YteejlmeinndlhaaGL
import Derived.ChangeArms
set_option linter.unusedVariables false
set_option linter.unusedSimpArgs false
namespace Go.Proofs.Yteejlmeinndlhaa
open Go.RowKit
open Go.WideShapes
def booOf {H : Type} (d : DataW H) : Bool := match d with | .lit (.bool b) => b | _ => false
def rgOf {H : Type} (d : DataW H) : Rg := match d with | .agg [d0, d1, d2] => ⟨bytesOf d0, bytesOf d1, booOf d2⟩ | _ => ⟨[], [], false⟩
def rgsOf {H : Type} (d : DataW H) : List Rg := match d with | .slice elems _ => elems.map rgOf | _ => []
def numU {H : Type} (d : DataW H) : UInt64 := match d with | .lit (.int _ n) => UInt64.ofNat n.toNat | _ => 0
def txOf {H : Type} (d : DataW H) : Tx := match d with | .agg [d0, d1, d2] => (numU d0, numU d1, numU d2) | _ => (0, 0, 0)
def txsOf {H : Type} (d : DataW H) : List Tx := match d with | .slice elems _ => elems.map txOf | _ => []
set_option maxRecDepth 100000 in
/-- a range's cells -/
theorem open_rgc {H : Type} {enc : TypeId × Value → H} {W : World} {base : Nat} {spare : Nat → Bool} {held : Bool} {fuel : Nat} {cs : List Value} {x : DataW H × List MemPlace} (h3 : cs.length = 3)
    (h : DataW.trod enc Try.prog W base spare held fuel 24 cs = some x) (hz : Sz Try.prog 24 x.1) : ∃ f t, cs = rc (rgOf x.1, f, t) ∧ Bs (Lt W.heap.size) W f (rgOf x.1).lo ∧ Bs (Lt W.heap.size) W t (rgOf x.1).hi := by
  obtain ⟨xs, n, _, hx, hl, hlen, hf⟩ := DataW.trod_struct Try.underlying24 h
  have f0 := hf 0 _ rfl
  have f1 := hf 1 _ rfl
  have f2 := hf 2 _ rfl
  obtain ⟨y0, y1, y2, rfl⟩ : ∃ y0 y1 y2, xs = [y0, y1, y2] := by
    match xs, hlen with
    | [y0, y1, y2], _ => exact ⟨y0, y1, y2, rfl⟩
  obtain ⟨q0, q1, q2, rfl⟩ : ∃ q0 q1 q2, cs = [q0, q1, q2] := by
    match cs, h3 with
    | [q0, q1, q2], _ => exact ⟨q0, q1, q2, rfl⟩
  have k4 : Try.prog.cellsOf 4 = 1 := by kernel_rfl
  have k22 : Try.prog.cellsOf 22 = 1 := by kernel_rfl
  simp only [k4, k22, List.drop_zero, List.drop_succ_cons, List.take_succ_cons, List.take_zero, List.getElem?_cons_zero, List.getElem?_cons_succ] at f0 f1 f2
  subst hx
  have hz' : ∀ d : DataW H, (d = y0.1 ∨ d = y1.1) → Sz Try.prog 22 d := by
    intro d hd
    unfold Sz at hz ⊢
    rw [List.all_eq_true] at hz ⊢
    intro m hm
    refine hz m ?_
    simp only [List.map_cons, List.map_nil, DataW.weights, Try.underlying24, DataW.weightsEach, List.mem_append]
    rcases hd with rfl | rfl <;> simp [hm]
  obtain ⟨v0, g0, r0⟩ := open_bs Try.underlying22 Try.underlying5 (by kernel_rfl) (by kernel_rfl) f0 (hz' _ (.inl rfl))
  obtain ⟨v1, g1, r1⟩ := open_bs Try.underlying22 Try.underlying5 (by kernel_rfl) (by kernel_rfl) f1 (hz' _ (.inr rfl))
  obtain ⟨bb, e1, e2⟩ := DataW.trod_bool Try.underlying4 f2
  obtain rfl : q0 = v0 := (List.cons.inj (show [q0] = [v0] from g0)).1
  obtain rfl : q1 = v1 := (List.cons.inj (show [q1] = [v1] from g1)).1
  obtain rfl : q2 = .bool bb := (List.cons.inj (show [q2] = [Value.bool bb] from e1)).1
  have x2 : booOf y2.1 = bb := by rw [e2]; rfl
  refine ⟨q0, q1, ?_, r0, r1⟩
  simp [rc, rgOf, x2]
set_option maxRecDepth 100000 in
/-- a range -/
theorem open_rg {H : Type} {enc : TypeId × Value → H} {W : World} {base b0 : Nat} {spare : Nat → Bool} {held : Bool} {fuel : Nat} {r : Reach} {v : Value} {x : DataW H × List MemPlace} (hv : Value.okWide Try.prog W r b0 24 v)
    (h : DataW.trod enc Try.prog W base spare held fuel 24 v.cells.toList = some x) (hz : Sz Try.prog 24 x.1) : RgIs (Lt W.heap.size) W v (rgOf x.1) := by
  obtain ⟨cs, rfl, hcs⟩ := okWide_struct Try.underlying24 hv
  have hc3 : cs.toList.length = 3 := by rw [Array.length_toList, hcs]; kernel_rfl
  obtain ⟨f, t, e, h1, h2⟩ := open_rgc hc3 h hz
  have e : cs.toList = rc (rgOf x.1, f, t) := e
  refine ⟨f, t, ?_, h1, h2⟩
  rw [show cs = (rc (rgOf x.1, f, t)).toArray by rw [← e]]
  rfl
set_option maxRecDepth 100000 in
/-- a transaction's cells -/
theorem open_tx {H : Type} {enc : TypeId × Value → H} {W : World} {base : Nat} {spare : Nat → Bool} {held : Bool} {fuel : Nat} {cs : List Value} {x : DataW H × List MemPlace} (h3 : cs.length = 3)
    (h : DataW.trod enc Try.prog W base spare held fuel 30 cs = some x) : cs = tc (txOf x.1) := by
  obtain ⟨xs, n, _, hx, hl, hlen, hf⟩ := DataW.trod_struct Try.underlying30 h
  have f0 := hf 0 _ rfl
  have f1 := hf 1 _ rfl
  have f2 := hf 2 _ rfl
  obtain ⟨y0, y1, y2, rfl⟩ : ∃ y0 y1 y2, xs = [y0, y1, y2] := by
    match xs, hlen with
    | [y0, y1, y2], _ => exact ⟨y0, y1, y2, rfl⟩
  obtain ⟨q0, q1, q2, rfl⟩ : ∃ q0 q1 q2, cs = [q0, q1, q2] := by
    match cs, h3 with
    | [q0, q1, q2], _ => exact ⟨q0, q1, q2, rfl⟩
  simp only [c28, List.drop_zero, List.drop_succ_cons, List.take_succ_cons, List.take_zero, List.getElem?_cons_zero, List.getElem?_cons_succ] at f0 f1 f2
  subst hx
  obtain ⟨m0, a1, a2, a3⟩ := DataW.trod_int Try.underlying28 f0
  obtain ⟨m1, b1, b2, b3⟩ := DataW.trod_int Try.underlying28 f1
  obtain ⟨m2, c1, c2, c3⟩ := DataW.trod_int Try.underlying28 f2
  obtain rfl : q0 = .int .u64 m0 := (List.cons.inj (show [q0] = [Value.int .u64 m0] from a1)).1
  obtain rfl : q1 = .int .u64 m1 := (List.cons.inj (show [q1] = [Value.int .u64 m1] from b1)).1
  obtain rfl : q2 = .int .u64 m2 := (List.cons.inj (show [q2] = [Value.int .u64 m2] from c1)).1
  obtain ⟨u0, rfl⟩ := u64_back a3
  obtain ⟨u1, rfl⟩ := u64_back b3
  obtain ⟨u2, rfl⟩ := u64_back c3
  have hn : ∀ u : UInt64, numU (H := H) (.lit (.int .u64 (u.toNat : Int))) = u := fun u => by simp [numU]
  have x0 : numU y0.1 = u0 := by rw [a2]; exact hn u0
  have x1 : numU y1.1 = u1 := by rw [b2]; exact hn u1
  have x2 : numU y2.1 = u2 := by rw [c2]; exact hn u2
  simp [tc, txOf, x0, x1, x2]
/-- []Txn -/
theorem open_txs {H : Type} {enc : TypeId × Value → H} {W : World} {base : Nat} {spare : Nat → Bool} {held : Bool} {fuel : Nat} {cs : List Value} {x : DataW H × List MemPlace}
    (h : DataW.trod enc Try.prog W base spare held fuel 25 cs = some x) (hz : Sz Try.prog 25 x.1) : ∃ v, cs = [v] ∧ Txr (Lt W.heap.size) W v (txsOf x.1) := by
  obtain ⟨v, css, ds, h1, h2, h3, h4, h5, h6, h7⟩ := open_rows (k := 3) Try.underlying25 (by kernel_rfl) (by decide) h hz
  have h9 : txsOf x.1 = ds.map txOf := by
    rcases h7 with ⟨h7, rfl⟩ | ⟨sp, h7⟩ <;> rw [h7] <;> rfl
  have hl : (txsOf x.1).length = css.length := by rw [h9, List.length_map, h4]
  refine ⟨v, h1, ?_, ?_⟩
  · rw [hl]
    have e : txs (txsOf x.1) = css.flatten := by
      unfold txs
      congr 1
      apply List.ext_getElem
      · rw [List.length_map, hl]
      · intro i a b
        obtain ⟨n, ps, h10, hz'⟩ := h6 i b (by omega)
        have := open_tx (h3 _ (List.getElem_mem b)) h10
        rw [this]
        simp [h9]
    rw [e]
    exact h2
  · rw [hl]
    have hb : Try.prog.bytesOf 30 = 24 := by kernel_rfl
    rw [hb] at h5
    have : reachBytes = lim := by decide
    omega
end Go.Proofs.Yteejlmeinndlhaa
