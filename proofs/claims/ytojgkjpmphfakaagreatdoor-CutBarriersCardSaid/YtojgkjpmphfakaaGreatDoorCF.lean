/- cut.Lookup. -/
import Derived.Test.YtojgkjpmphfakaaGreatDoorCE
set_option linter.unusedVariables false
set_option linter.unusedSimpArgs false
namespace Go.Proofs.YtojgkjpmphfakaaGreatDoor
open Go.RowKit
attribute [local go_sem ↓] Go.wp_at_zero Go.wp_at_succ
theorem BrO.at {B : Nat} {w : World} {v : Value} {L : List Br} (h : BrO B w v L) : ∃ (a : Option Addr) (c : Nat), v = .slice a L.length c ∧ L.length ≤ c ∧ ∀ k (hk : k < L.length), ∃ b o u, a = some ⟨b, o, none⟩ ∧ B ≤ b ∧
    (w.cell? ⟨b, o + k * 3, none⟩ = some (.int .u64 (L[k].1 : Int)) ∧ w.cell? ⟨b, o + k * 3 + 1, none⟩ = some (.string ⟨L[k].2.1.toArray⟩) ∧ w.cell? ⟨b, o + k * 3 + 2, none⟩ = some u) ∧ Un B w u L[k].2.2 := by
  obtain ⟨ps, rfl, ho, hp⟩ := h
  obtain ⟨hl, a, c, hv, hc, ha, H⟩ := Row.of_ownB ho
  refine ⟨a, c, hv, hc, fun k hk => ?_⟩
  have hk' : k < ps.length := by simpa using hk
  obtain ⟨g0, g1, g2⟩ := bcs_get ps k hk'
  obtain ⟨b, o, e0, hA, c0⟩ := H _ _ g0
  obtain ⟨_, _, e1, _, c1⟩ := H _ _ g1
  obtain ⟨_, _, e2, _, c2⟩ := H _ _ g2
  rw [e0] at e1 e2
  cases e1
  cases e2
  refine ⟨b, o, ps[k].2, e0, hA, ⟨?_, ?_, by rw [Nat.add_assoc]; exact c2⟩, ?_⟩
  · rw [c0]; simp
  · rw [Nat.add_assoc, c1]; simp
  · have := hp _ (List.getElem_mem hk')
    simpa using this
/-- the first of a name -/
def look (nm : List UInt8) (es : List Br) : Option Br := es.find? fun x => x.2.1 == nm
def zBr : Br := (0, [], [])
def LookP (w : World) (r : Option Br) (e : Ending) (w' : World) : Prop := ∃ v, e = .returned (.tuple #[.agg #[.int .u64 ((r.getD zBr).1 : Int), .string ⟨(r.getD zBr).2.1.toArray⟩, v], .int .i64 (if r.isSome then 0 else 6)]) ∧ Un w.heap.size w' v (r.getD zBr).2.2 ∧ Below w.heap.size w w'
theorem LookP.some {w w' : World} {r : Option Br} {x : Br} {v : Value} (h : r = some x) (hu : Un w.heap.size w' v x.2.2) (hb : Below w.heap.size w w') : LookP w r (.returned (.tuple #[.agg #[.int .u64 (x.1 : Int), .string ⟨x.2.1.toArray⟩, v], .int .i64 0])) w' := by subst h; exact ⟨v, rfl, hu, hb⟩
theorem LookP.none {w w' : World} {r : Option Br} (h : r = none) (hb : Below w.heap.size w w') : LookP w r (.returned (.tuple #[.agg #[.int .u64 0, .string ⟨#[]⟩, .slice none 0 0], .int .i64 6])) w' := by subst h; exact ⟨_, rfl, un_nil, hb⟩
set_option maxRecDepth 100000 in
set_option maxHeartbeats 4000000 in
/-- Lookup -/
theorem look_any {V : Nat → Prop} {B b : Nat} {w : World} {l : List Th} {es : List Br} (p : List UInt8) (inc : Nat) (nm : List UInt8) (hI : VaultIs B V w b (tget l) l.length) (hA : Asc l) (hn : l.length ≤ 100000) (hl : p.length ≤ 100) (hs : ∀ t ∈ l, t.1.length ≤ maxLen) (hi : inc < 18446744073709551616) (hc : Cat l (p ++ catp inc) es) :
    Calls Tryz.prog 10 #[.agg #[.pointer (some ⟨b, 0, none⟩), .string ⟨p.toArray⟩], .int .u64 (inc : Int), .string ⟨nm.toArray⟩] w (LookP w (look nm es)) := by
  obtain ⟨W, hW, hB, hsz, ⟨hc0, hc1⟩, _⟩ := enter_box (w := w) (x0 := .pointer (some ⟨b, 0, none⟩)) (x1 := .string ⟨p.toArray⟩) (e := 29) (y0 := .int .u64 0) (y1 := .string ⟨#[]⟩) (y2 := .slice none 0 0) (f := 38)
  have hbx : W.heap[w.heap.size + 1]? = some (.cells #[.int .u64 0, .string ⟨#[]⟩, .slice none 0 0] 38 (0, 0)) := by
    have h := heap_alloc_new (w.alloc (.cells #[.pointer (some ⟨b, 0, none⟩), .string ⟨p.toArray⟩] 29)) (.cells #[.int .u64 0, .string ⟨#[]⟩, .slice none 0 0] 38)
    rw [hW, show w.heap.size + 1 = (w.alloc (.cells #[.pointer (some ⟨b, 0, none⟩), .string ⟨p.toArray⟩] 29)).heap.size by simp]; exact h
  have HBX := Hid.mk' hbx
  have HB := Hid.mk' hB
  have HSZ : Hid (W.heap.size = w.heap.size + 1 + 1) := hsz
  have HBR := Hid.mk' (barriers_any p inc (hI.up hB) hA hn hl hs hi hc (ss_none W) (by simp))
  rw [some_all] at HBR
  have HC := Hid.mk' hc
  have HLE : Hid (es.length ≤ 1000) := hc.few
  clear hsz hB hI hA hn hl hs hc hi hbx
  go_enter Tryz.func10, Tryz.ntmps10
  go_upto_region 1 with fail
  rw [← hW]
  clear hW
  go_wp2_with fail
  refine HBR.out.mono ?_
  rintro e w1 ⟨v1, rfl, ho1, hb1⟩
  have HB1 := Hid.mk' hb1
  have HO1 := Hid.mk' ho1
  obtain ⟨a1, c1, ev, _⟩ := HO1.out.at
  subst ev
  have hel : (es.length : Int) ≤ 1000 := by have := HLE.out; omega
  have HR0 : Hid (look nm es = look nm (es.drop 0)) := rfl
  clear ho1 hb1 HBR hc0 hc1
  go_wp2_with fail
  go_loopw [14] (fun i wr => ∃ (k : Nat), k ≤ es.length ∧ i = .int .i64 k ∧ Hid (look nm es = look nm (es.drop k)) ∧ Hid (Below w1.heap.size w1 wr)) (fun i _ => es.length - (intOf i).toNat)
  case atStart => exact ⟨0, by omega, rfl, HR0, Below.refl _ _⟩
  case round =>
    clear HR0
    obtain ⟨k, hk, rfl, HH, HBK⟩ := hrel
    rename World => wk
    have HBW := Hid.mk' (bt HB1.out HBK.out)
    have HXK : Hid (wk.heap[w.heap.size + 1]? = some (.cells #[.int .u64 0, .string ⟨#[]⟩, .slice none 0 0] 38 (0, 0))) := (HBW.out.block _ (by have := HSZ.out; omega)).trans HBX.out
    by_cases hlt : k < es.length
    case neg =>
      obtain rfl : k = es.length := by omega
      have HNO : Hid (look nm es = none) := by show _ = _; rw [HH.out, List.drop_length]; rfl
      obtain ⟨e0, e1, e2⟩ := bx3 HXK.out
      have f0 := bx3_fr HXK.out 0
      have f1 := bx3_fr HXK.out 1
      have f2 := bx3_fr HXK.out 2
      clear hlt HH
      have HX9 : Hid ((((wk.setCell ⟨w.heap.size + 1, 0, none⟩ (.int .u64 0)).setCell ⟨w.heap.size + 1, 1, none⟩ (.string ⟨#[]⟩)).setCell ⟨w.heap.size + 1, 2, none⟩ (.slice none 0 0)).heap[w.heap.size + 1]? = some (.cells #[.int .u64 0, .string ⟨#[]⟩, .slice none 0 0] 38 (0, 0))) := bx3_set (bx3_set (bx3_set HXK.out 0 _) 1 _) 2 _
      have HW9 : Hid (Wb (fun k => k = w.heap.size + 1) wk (((wk.setCell ⟨w.heap.size + 1, 0, none⟩ (.int .u64 0)).setCell ⟨w.heap.size + 1, 1, none⟩ (.string ⟨#[]⟩)).setCell ⟨w.heap.size + 1, 2, none⟩ (.slice none 0 0))) := ((Wb.set (X := fun k => k = w.heap.size + 1) _ _ _ _ rfl).trans (Wb.set (X := fun k => k = w.heap.size + 1) _ _ _ _ rfl)).trans (Wb.set (X := fun k => k = w.heap.size + 1) _ _ _ _ rfl)
      have HWK := Hid.mk' (bt HB.out HBW.out)
      go_wp2_with fail
      obtain ⟨g0, g1, g2⟩ := bx3 HX9.out
      refine bodyPost_ret (v := .tuple #[.agg #[.int .u64 0, .string ⟨#[]⟩, .slice none 0 0], .int .i64 6]) (by simp [results, Tryz.results10, go_sem, g0, g1, g2]) rfl ?_
      exact LookP.none HNO.out (HWK.out.trans (HW9.out.below HWK.out.size fun k hk => by omega))
    have hlt' : (k : Int) < (es.length : Int) := by omega
    obtain ⟨_, _, ev, _, H1⟩ := HO1.out.at
    cases ev
    obtain ⟨b1, o1, u1, rfl, _, ⟨e0, e1, e2⟩, hu1⟩ := H1 k hlt
    have e0 := cell_later HBK.out e0
    have e1 := cell_later HBK.out e1
    have e2 := cell_later HBK.out e2
    have hun := Un.up hu1 HBK.out
    have hu1 := hun.usB (HC.out.bnd _ (List.getElem_mem hlt)).1 (HC.out.bnd _ (List.getElem_mem hlt)).2
    have HHK : Hid (look nm es = if es[k].2.1 == nm then some es[k] else look nm (es.drop (k + 1))) := by
      show _ = _
      rw [HH.out, List.drop_eq_getElem_cons hlt]
      unfold look
      rw [List.find?_cons]
      cases es[k].2.1 == nm <;> rfl
    have HUN : Hid (Un W.heap.size wk u1 es[k].2.2) := hun
    clear H1 HH hun
    generalize es[k] = x at *
    obtain ⟨x1, x2, x3⟩ := x
    simp only at hu1 e0 e1 e2 HHK HUN
    have hup := up_alloc wk (.cells #[.int .u64 (x1 : Int), .string ⟨x2.toArray⟩, u1] 38)
    have HBA := Hid.mk' (bt HBW.out hup)
    have HBKA := Hid.mk' (bt HBK.out hup)
    obtain ⟨f0, f1, f2⟩ := box3 (w := wk) (x := .int .u64 (x1 : Int)) (y := .string ⟨x2.toArray⟩) (z := u1) (e := 38)
    obtain ⟨ua, uc, rfl, _⟩ := hu1.at
    have HXA : Hid ((wk.alloc (.cells #[.int .u64 (x1 : Int), .string ⟨x2.toArray⟩, .slice ua x3.length uc] 38)).heap[w.heap.size + 1]? = some (.cells #[.int .u64 0, .string ⟨#[]⟩, .slice none 0 0] 38 (0, 0))) := (hup.block _ (Array.getElem?_eq_some_iff.1 HXK.out).1).trans HXK.out
    have HUA := Hid.mk' (HUN.out.up hup)
    clear hup hu1
    by_cases heq : x2 = nm
    · have q2 : (x2 == nm) = true := by rw [beq_iff_eq]; exact heq
      have HS : Hid (look nm es = some (x1, x2, x3)) := by show _ = _; rw [HHK.out, if_pos q2]
      obtain ⟨y0, y1, y2⟩ := bx3 HXA.out
      have z0 := bx3_fr HXA.out 0
      have z1 := bx3_fr HXA.out 1
      have z2 := bx3_fr HXA.out 2
      have HWA := Hid.mk' (bt HB.out HBA.out)
      obtain ⟨WA, hWA⟩ : ∃ WA, WA = wk.alloc (.cells #[.int .u64 (x1 : Int), .string ⟨x2.toArray⟩, .slice ua x3.length uc] 38) := ⟨_, rfl⟩
      rw [← hWA] at HXA HUA HWA HBA HBKA y0 y1 y2 z0 z1 z2 f0 f1 f2
      clear heq HHK
      go_upto_region 4 with fail
      rw [← hWA]
      clear hWA
      have HX9 : Hid ((((WA.setCell ⟨w.heap.size + 1, 0, none⟩ (.int .u64 (x1 : Int))).setCell ⟨w.heap.size + 1, 1, none⟩ (.string ⟨x2.toArray⟩)).setCell ⟨w.heap.size + 1, 2, none⟩ (.slice ua x3.length uc)).heap[w.heap.size + 1]? = some (.cells #[.int .u64 (x1 : Int), .string ⟨x2.toArray⟩, .slice ua x3.length uc] 38 (0, 0))) := bx3_set (bx3_set (bx3_set HXA.out 0 _) 1 _) 2 _
      have HW9 : Hid (Wb (fun k => k = w.heap.size + 1) WA (((WA.setCell ⟨w.heap.size + 1, 0, none⟩ (.int .u64 (x1 : Int))).setCell ⟨w.heap.size + 1, 1, none⟩ (.string ⟨x2.toArray⟩)).setCell ⟨w.heap.size + 1, 2, none⟩ (.slice ua x3.length uc))) := ((Wb.set (X := fun k => k = w.heap.size + 1) _ _ _ _ rfl).trans (Wb.set (X := fun k => k = w.heap.size + 1) _ _ _ _ rfl)).trans (Wb.set (X := fun k => k = w.heap.size + 1) _ _ _ _ rfl)
      go_wp2_with fail
      obtain ⟨g0, g1, g2⟩ := bx3 HX9.out
      refine bodyPost_ret (v := .tuple #[.agg #[.int .u64 (x1 : Int), .string ⟨x2.toArray⟩, .slice ua x3.length uc], .int .i64 0]) (by simp [results, Tryz.results10, go_sem, g0, g1, g2]) rfl ?_
      refine LookP.some HS.out ?_ (HWA.out.trans (HW9.out.below HWA.out.size fun k hk => by omega))
      refine Un.mono (B := W.heap.size) (own_wb HUA.out HW9.out fun k hk e => ?_) HB.out.size
      have := (World.ownsRow.lt HUA.out _ e.symm).1
      have := HSZ.out
      omega
    · have q2 : (x2 == nm) = false := by rw [beq_eq_false_iff_ne]; exact heq
      have HHK : Hid (look nm es = look nm (es.drop (k + 1))) := by show _ = _; rw [HHK.out, q2]; rfl
      clear heq
      go_wp2_with fail
      go_roundw
      case rel => exact ⟨k + 1, by omega, by go_num, HHK, HBKA⟩
      case measure => simp [intOf]; omega
end Go.Proofs.YtojgkjpmphfakaaGreatDoor
