/- LeafBuilds: the closure that builds a leaf. -/
import Derived.Test.YtfmbbpfklhkljaaBP
import Derived.Test.YtfmbbpfklhkljaaWO
set_option linter.unusedVariables false
set_option linter.unusedSimpArgs false
namespace Go.Proofs.Ytfmbbpfklhkljaa
open Go.RowKit
/-- how the building stands -/
structure Bst (w0 : World) (l : List (List UInt8)) (z1 z2 z3 : Option Addr) (y1 y2 y3 : Nat) (w : World) : Prop where
  bl : Below w0.heap.size w0 w
  z : w.heap[w0.heap.size]? = some (.cells #[.bool false, .slice none 0 0, .slice none 0 0, .slice none 0 0] 37 (0, 0))
  at_ : w.heap[w0.heap.size + 1]? = some (.cells #[.bool true, .slice z1 l.length y1, .slice z2 l.length y2, .slice z3 0 y3] 37 (0, 0))
  own : OwnN w0.heap.size w (.agg #[.bool true, .slice z1 l.length y1, .slice z2 l.length y2, .slice z3 0 y3]) (twn l)
theorem Bst.up {w0 w w' : World} {l : List (List UInt8)} {z1 z2 z3 : Option Addr} {y1 y2 y3 : Nat} (h : Bst w0 l z1 z2 z3 y1 y2 y3 w) (hb : Below w.heap.size w w') : Bst w0 l z1 z2 z3 y1 y2 y3 w' :=
  ⟨bt h.bl hb, by rw [hb.block _ (Array.getElem?_eq_some_iff.1 h.z).1]; exact h.z, by rw [hb.block _ (Array.getElem?_eq_some_iff.1 h.at_).1]; exact h.at_, h.own.up hb⟩
/-- the node is replaced -/
theorem Bst.put {w0 w w' : World} {l m : List (List UInt8)} {z1 z2 z3 x1 x2 x3 : Option Addr} {y1 y2 y3 c1 c2 c3 : Nat} (h : Bst w0 l z1 z2 z3 y1 y2 y3 w) (hb : Below w.heap.size w w') (ho : OwnN w0.heap.size w' (.agg #[.bool true, .slice x1 m.length c1, .slice x2 m.length c2, .slice x3 0 c3]) (twn m)) :
    Bst w0 m x1 x2 x3 c1 c2 c3 ((((w'.setCell ⟨w0.heap.size + 1, 0, none⟩ (.bool true)).setCell ⟨w0.heap.size + 1, 1, none⟩ (.slice x1 m.length c1)).setCell ⟨w0.heap.size + 1, 2, none⟩ (.slice x2 m.length c2)).setCell ⟨w0.heap.size + 1, 3, none⟩ (.slice x3 0 c3)) := by
  have hu := h.up hb
  have q1 := cells4_set (o := 0) (u := .bool true) hu.at_
  have q2 := cells4_set (o := 1) (u := .slice x1 m.length c1) q1
  have q3 := cells4_set (o := 2) (u := .slice x2 m.length c2) q2
  have q4 := cells4_set (o := 3) (u := .slice x3 0 c3) q3
  have hs := four_wb w' (w0.heap.size + 1) (.bool true) (.slice x1 m.length c1) (.slice x2 m.length c2) (.slice x3 0 c3)
  refine ⟨hu.bl.trans (hs.below hu.bl.size fun k hk => by subst hk; omega), ?_, q4, ho.wbz hu.at_ hs⟩
  rw [hs.block _ (Array.getElem?_eq_some_iff.1 hu.z).1 (by omega)]; exact hu.z
theorem Sm_twn {l : List (List UInt8)} (h : l.length ≤ 40) : Sm (twn l) := ⟨by show l.length * 24 ≤ lim; unfold lim; omega, by show l.length * 24 ≤ lim; unfold lim; omega, by show 0 * 8 ≤ lim; unfold lim; omega, fun x hx => by cases hx⟩
set_option maxRecDepth 100000 in
set_option maxHeartbeats 4000000 in
theorem build_any {A : Nat → Prop} {w : World} {kb : Nat} {a : Option Addr} {c : Nat} {ks : List (List UInt8)} {f s : Nat} (hc : w.cell? ⟨kb, 0, none⟩ = some (.slice a ks.length c)) (h : Bss A w (.slice a ks.length c) ks) (hn : ks.length ≤ 40) (hf : f < ks.length) (hs : s ≤ 40) :
    Calls Try.prog 40 #[.int .i64 f, .int .i64 s, .pointer (some ⟨kb, 0, none⟩)] w fun e w' => ∃ v', e = .returned v' ∧ OwnN w.heap.size w' v' (twn (bld ks f s ks.length)) ∧ Below w.heap.size w w' := by
  have HK := Hid.mk' h
  obtain ⟨_, _, he, _, _, HA⟩ := h.at
  cases he
  have HA := Hid.mk' HA
  have hlt := World.block_lt_of_cell? w ⟨kb, 0, none⟩ hc
  have hlt1 : kb < w.heap.size := hlt
  clear hlt h
  go_enter Try.func40, Try.ntmps40
  go_wp2_with fail
  obtain ⟨W, hW⟩ : ∃ W, W = (w.alloc (.cells #[.bool false, .slice none 0 0, .slice none 0 0, .slice none 0 0] 37)).alloc (.cells #[.bool true, .slice none 0 0, .slice none 0 0, .slice none 0 0] 37) := ⟨_, rfl⟩
  have hbW : Below w.heap.size w W := by rw [hW]; exact bt (up_alloc _ _) (up_alloc _ _)
  have T0 : Hid (Bst w [] none none none 0 0 0 W) := by
    refine ⟨hbW, ?_, ?_, ?_⟩
    · rw [hW, (up_alloc (w.alloc _) _).block _ (by simp)]; exact heap_alloc_new w _
    · have := heap_alloc_new (w.alloc (.cells #[.bool false, .slice none 0 0, .slice none 0 0, .slice none 0 0] 37)) (.cells #[.bool true, .slice none 0 0, .slice none 0 0, .slice none 0 0] 37)
      rw [hW]; simpa using this
    · exact ⟨_, _, _, rfl, obb_nil, obb_nil, World.ownsRow_nil _ _ _ _, fun k hk => by cases hk⟩
  rw [← hW]
  clear hW hbW
  go_loopw [14] (fun i wr => ∃ k : Nat, k ≤ ks.length ∧ i = .int .i64 k ∧ Hid (∃ z1 z2 z3 y1 y2 y3, Bst w (bld ks f s k) z1 z2 z3 y1 y2 y3 wr)) (fun i _ => ks.length - (intOf i).toNat)
  case atStart => exact ⟨0, by omega, rfl, ⟨_, _, _, _, _, _, T0⟩⟩
  case round =>
    obtain ⟨k, hk, rfl, z1, z2, z3, y1, y2, y3, HT⟩ := hrel
    have HT := Hid.mk' HT
    obtain ⟨⟨b0, b1, b2, b3⟩, bf⟩ := cells4_get HT.out.at_
    have hcr := cell_later HT.out.bl hc
    by_cases hlt : k < ks.length
    · have hlt' : (k : Int) < (ks.length : Int) := by omega
      have hm1 : (0 : Int) ≤ (k : Int) * (s : Int) := by rw [← Int.natCast_mul]; omega
      have hm2 : (k : Int) * (s : Int) ≤ 1600 := by
        have := Nat.mul_le_mul (show k ≤ 40 by omega) hs
        rw [← Int.natCast_mul]; omega
      have hpos1 : (1 : Int) ≤ (ks.length : Int) := by omega
      have hnz : ((ks.length : Int) == 0) = false := by rw [beq_eq_false_iff_ne]; omega
      have t1 := Int.emod_lt_of_pos ((f : Int) + (k : Int) * (s : Int)) (b := (ks.length : Int)) (by omega)
      have t2 := Int.emod_nonneg ((f : Int) + (k : Int) * (s : Int)) (b := (ks.length : Int)) (by omega)
      have htn : (((f : Int) + (k : Int) * (s : Int)) % (ks.length : Int)).toNat = (f + k * s) % ks.length := by
        rw [← Int.natCast_mul, ← Int.natCast_add, ← Int.natCast_emod, Int.toNat_natCast]
      have hjl : (f + k * s) % ks.length < ks.length := Nat.mod_lt _ (by omega)
      obtain ⟨g, o, x, ha, _, hu, hx⟩ := HA.out ((f + k * s) % ks.length) hjl
      subst ha
      have HX := Hid.mk' hx
      have hu1 := cell_later HT.out.bl hu
      clear hu hx
      go_wp2_with fail
      go_quiet (fail)
      obtain ⟨V, hV⟩ : ∃ V, V = wr.drewN nq := ⟨_, rfl⟩
      have hVb : Below wr.heap.size wr V := by rw [hV]; exact ⟨rfl, rfl, rfl, Nat.le_refl _, fun _ _ => rfl⟩
      rw [← hV]
      have HTV := Hid.mk' (HT.out.up hVb)
      have HXV := Hid.mk' (HX.out.up (bt HT.out.bl hVb))
      clear b0 b1 b2 b3 bf hcr hu1 hm1 hm2 hpos1 hnz t1 t2 htn hV hVb HX HT
      obtain ⟨l, hl⟩ : ∃ l, l = bld ks f s k := ⟨_, rfl⟩
      have HL : Hid (bld ks f s (k + 1) = insK l (ks.getD ((f + k * s) % ks.length) [])) := by show _ = _; rw [hl]; rfl
      have hll : l.length ≤ 40 := by rw [hl]; have := bld_len ks f s k; omega
      have HPW : Hid (Pw l) := by rw [hl]; exact bld_pw ks f s k
      rw [← hl] at HTV
      obtain ⟨⟨b0, b1, b2, b3⟩, bf⟩ := cells4_get HTV.out.at_
      have hy : ks[(f + k * s) % ks.length] = ks.getD ((f + k * s) % ks.length) [] := by rw [List.getD_eq_getElem?_getD, List.getElem?_eq_getElem hjl]; rfl
      rw [hy] at HXV
      clear hl hy
      generalize ks.getD ((f + k * s) % ks.length) [] = y at *
      clear hjl
      have hlk : 24 * l.length ≤ 960 := by omega
      have HRN := Hid.mk' (HTV.out.own.rn (Sm_twn hll))
      obtain ⟨xa, xc, ex, _⟩ := HXV.out.at
      subst ex
      have HF : Hid (Calls Try.prog 34 #[.agg #[.bool true, .slice z1 l.length y1, .slice z2 l.length y2, .slice z3 0 y3], .slice xa y.length xc] V (FindPost V l y)) := find_any HRN.out HXV.out (asc_pw.2 HPW.out)
      go_wp2_with fail
      refine HF.out.mono ?_
      rintro e w2 ⟨rfl, h2⟩
      have HT2 := Hid.mk' (HTV.out.up h2)
      have HRN2 := Hid.mk' (HRN.out.up h2)
      have HX2 := Hid.mk' (HXV.out.up h2)
      clear HF h2 b0 b1 b2 b3 bf HTV HRN HXV
      obtain ⟨⟨b0, b1, b2, b3⟩, bf⟩ := cells4_get HT2.out.at_
      cases hh : hit l y with
      | true =>
        have HL2 : Hid (bld ks f s (k + 1) = l) := HL.out.trans (insK_hit l y hh)
        clear hh
        go_wp2_with fail
        go_roundw
        case rel => exact ⟨k + 1, by omega, by go_num, _, _, _, _, _, _, by rw [HL2.out]; exact HT2.out⟩
        case measure => simp [intOf]; omega
      | false =>
        have HWT := Hid.mk' (wth_twn l y hh)
        have HL2 : Hid (bld ks f s (k + 1) = insK l y) := HL.out
        have HWC := Hid.mk' (with_any (i := pos l y) HRN2.out HX2.out HX2.out (by show (l.length + 1) * 24 ≤ lim; unfold lim; omega) (by show (l.length + 1) * 24 ≤ lim; unfold lim; omega))
        clear hh
        go_wp2_with fail
        refine HWC.out.mono ?_
        rintro e w3 ⟨v3, rfl, n3, h3⟩
        rw [HWT.out] at n3
        obtain ⟨e1, d1, e2, d2, e3, d3, ev⟩ := n3.form
        have ev : v3 = .agg #[.bool true, .slice e1 (insK l y).length d1, .slice e2 (insK l y).length d2, .slice e3 0 d3] := ev
        subst ev
        have HP := Hid.mk' (HT2.out.put h3 (n3.mono HT2.out.bl.size))
        have hat := (HT2.out.up h3).at_
        clear b0 b1 b2 b3 bf n3 h3 HWC
        obtain ⟨⟨b0, b1, b2, b3⟩, bf⟩ := cells4_get hat
        clear hat
        go_wp2_with fail
        go_roundw
        case rel => exact ⟨k + 1, by omega, by go_num, _, _, _, _, _, _, by rw [HL2.out]; exact HP.out⟩
        case measure => simp [intOf]; omega
    · obtain rfl : k = ks.length := by omega
      obtain ⟨⟨z0, z1', z2', z3'⟩, zf⟩ := cells4_get HT.out.z
      go_wp2_with fail
      have ho := four_wb wr w.heap.size (.bool true) (.slice z1 (bld ks f s ks.length).length y1) (.slice z2 (bld ks f s ks.length).length y2) (.slice z3 0 y3)
      refine bodyPost_ret (v := .agg #[.bool true, .slice z1 (bld ks f s ks.length).length y1, .slice z2 (bld ks f s ks.length).length y2, .slice z3 0 y3]) (by simp [results, Try.results40, go_sem, z0, z1', z2', z3']) rfl ?_
      exact ⟨_, rfl, HT.out.own.wbz HT.out.z ho, HT.out.bl.trans (ho.below HT.out.bl.size fun k hk => by subst hk; exact Nat.le_refl _)⟩
end Go.Proofs.Ytfmbbpfklhkljaa
