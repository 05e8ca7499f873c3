/- groynelaw08.LeafBuilds. -/
import Derived.Test.YtfmbbpfklhkljaaBU
import Derived.Test.YtfmbbpfklhkljaaFL
import Derived.Deep.CutBlock
set_option linter.unusedVariables false
set_option linter.unusedSimpArgs false
namespace Go.Proofs.Ytfmbbpfklhkljaa
open Go.RowKit
/-- the box that holds the keys -/
structure Kst (w0 : World) (a : Option Addr) (c : Nat) (ks : List (List UInt8)) (w : World) : Prop where
  bl : Below w0.heap.size w0 w
  at_ : w.heap[w0.heap.size]? = some (.cells #[.slice a ks.length c] 28 (0, 0))
  row : Bss (Lt w0.heap.size) w (.slice a ks.length c) ks
theorem Kst.up {w0 w w' : World} {a : Option Addr} {c : Nat} {ks : List (List UInt8)} (h : Kst w0 a c ks w) (hb : Below w.heap.size w w') : Kst w0 a c ks w' :=
  ⟨bt h.bl hb, by rw [hb.block _ (Array.getElem?_eq_some_iff.1 h.at_).1]; exact h.at_, h.row.up hb⟩
theorem cell1_get {w : World} {b : Nat} {x : Value} {e : TypeId} (h : w.heap[b]? = some (.cells #[x] e (0, 0))) : w.cell? ⟨b, 0, none⟩ = some x ∧ w.frozen? ⟨b, 0, none⟩ = false :=
  ⟨by simp only [World.cell?, h]; rfl, by simp only [World.frozen?, h]; simp⟩
theorem cell1_set {w : World} {b : Nat} {x u : Value} {e : TypeId} (h : w.heap[b]? = some (.cells #[x] e (0, 0))) : (w.setCell ⟨b, 0, none⟩ u).heap[b]? = some (.cells #[u] e (0, 0)) := by
  rw [heap_setCell_same w b 0 _ e u h]; rfl
/-- a node in a block of its own, with keys that are its values too -/
structure Cst (w0 : World) (nb : Nat) (l : List (List UInt8)) (z1 z2 z3 : Option Addr) (y1 y2 y3 : Nat) (w : World) : Prop where
  bl : Below w0.heap.size w0 w
  lo : w0.heap.size ≤ nb
  at_ : w.heap[nb]? = some (.cells #[.bool true, .slice z1 l.length y1, .slice z2 l.length y2, .slice z3 0 y3] 37 (0, 0))
  own : OwnN 0 w (.agg #[.bool true, .slice z1 l.length y1, .slice z2 l.length y2, .slice z3 0 y3]) (twn l)
theorem Cst.up {w0 w w' : World} {nb : Nat} {l : List (List UInt8)} {z1 z2 z3 : Option Addr} {y1 y2 y3 : Nat} (h : Cst w0 nb l z1 z2 z3 y1 y2 y3 w) (hb : Below w.heap.size w w') : Cst w0 nb l z1 z2 z3 y1 y2 y3 w' :=
  ⟨bt h.bl hb, h.lo, by rw [hb.block _ (Array.getElem?_eq_some_iff.1 h.at_).1]; exact h.at_, h.own.up hb⟩
theorem Cst.put {w0 w w' : World} {nb : Nat} {l m : List (List UInt8)} {z1 z2 z3 x1 x2 x3 : Option Addr} {y1 y2 y3 c1 c2 c3 : Nat} (h : Cst w0 nb l z1 z2 z3 y1 y2 y3 w) (hb : Below w.heap.size w w') (ho : OwnN 0 w' (.agg #[.bool true, .slice x1 m.length c1, .slice x2 m.length c2, .slice x3 0 c3]) (twn m)) :
    Cst w0 nb m x1 x2 x3 c1 c2 c3 ((((w'.setCell ⟨nb, 0, none⟩ (.bool true)).setCell ⟨nb, 1, none⟩ (.slice x1 m.length c1)).setCell ⟨nb, 2, none⟩ (.slice x2 m.length c2)).setCell ⟨nb, 3, none⟩ (.slice x3 0 c3)) := by
  have hu := h.up hb
  have q1 := cells4_set (o := 0) (u := .bool true) hu.at_
  have q2 := cells4_set (o := 1) (u := .slice x1 m.length c1) q1
  have q3 := cells4_set (o := 2) (u := .slice x2 m.length c2) q2
  have q4 := cells4_set (o := 3) (u := .slice x3 0 c3) q3
  have hs := four_wb w' nb (.bool true) (.slice x1 m.length c1) (.slice x2 m.length c2) (.slice x3 0 c3)
  exact ⟨hu.bl.trans (hs.below hu.bl.size fun k hk => by subst hk; exact h.lo), h.lo, q4, ho.wbz hu.at_ hs⟩
theorem twn_form {B : Nat} {w : World} {v : Value} {l : List (List UInt8)} (h : OwnN B w v (twn l)) : ∃ z1 z2 z3 y1 y2 y3, v = .agg #[.bool true, .slice z1 l.length y1, .slice z2 l.length y2, .slice z3 0 y3] := by
  obtain ⟨e1, d1, e2, d2, e3, d3, ev⟩ := h.form
  exact ⟨e1, e2, e3, d1, d2, d3, ev⟩
theorem twn_bss {B : Nat} {w : World} {l : List (List UInt8)} {z1 z2 z3 : Option Addr} {y1 y2 y3 : Nat} (h : OwnN B w (.agg #[.bool true, .slice z1 l.length y1, .slice z2 l.length y2, .slice z3 0 y3]) (twn l)) (hl : l.length ≤ 40) : Bss (Ty w) w (.slice z1 l.length y1) l := by
  obtain ⟨kv, _, _, e, h1, _⟩ := h.rn (Sm_twn hl)
  obtain ⟨_, rfl, _⟩ := e
  exact h1
theorem twn_two {B : Nat} {w : World} {l : List (List UInt8)} {z1 z2 z3 : Option Addr} {y1 y2 y3 : Nat} (h : OwnN B w (.agg #[.bool true, .slice z1 l.length y1, .slice z2 l.length y2, .slice z3 0 y3]) (twn l)) (hl : l.length ≤ 40) {i : Nat} (hi : i + 1 < l.length) :
    ∃ g o x, z1 = some ⟨g, o, none⟩ ∧ w.cell? ⟨g, o + i, none⟩ = some x ∧ ∃ y, w.cell? ⟨g, o + (i + 1), none⟩ = some y ∧ Bs (Ty w) w x l[i] ∧ Bs (Ty w) w y l[i + 1] := by
  obtain ⟨_, _, he, _, _, H⟩ := (twn_bss h hl).at
  cases he
  obtain ⟨g, o, x, e, _, h1, h2⟩ := H i (by omega)
  obtain ⟨g', o', y, e', _, h3, h4⟩ := H (i + 1) hi
  rw [e] at e'
  cases e'
  exact ⟨g, o, x, e, h1, y, h3, h2, h4⟩
theorem pw_next {l : List (List UInt8)} (h : Pw l) (i : Nat) (hi : i + 1 < l.length) : cmp l[i] l[i + 1] < 0 := List.pairwise_iff_getElem.1 h i (i + 1) (by omega) hi (by omega)
theorem dls_len' {l ks : List (List UInt8)} (h : l.length ≤ 40) (i : Nat) : (dls l ks i).length ≤ 40 := Nat.le_trans (dls_len l ks i) h
set_option maxRecDepth 100000 in
set_option maxHeartbeats 4000000 in
/-- groynelaw08.LeafBuilds -/
theorem leafBuilds_any {A : Nat → Prop} {w : World} {v : Value} {k0 : List (List UInt8)} {from0 : Int} (h : Bss A w v k0) (hr : -9223372036854775808 ≤ from0 ∧ from0 ≤ 9223372036854775807) : Calls Try.prog 7 #[v, .int .i64 from0] w fun e w' => e = .returned (.bool true) ∧ Below w.heap.size w w' := by
  obtain ⟨a0, c0, rfl, hc0, _, _⟩ := h.at
  have h : Bss (Lt w.heap.size) w (.slice a0 k0.length c0) k0 := by obtain ⟨us, r1, r2, r3⟩ := h; exact ⟨us, r1.toLt, ⟨r2.1, fun i a b => (r2.2 i a b).toLt⟩, r3⟩
  have HH := Hid.mk' h
  have HR := Hid.mk' hr
  clear h hr
  go_enter Try.func7, Try.ntmps7
  go_wp2_with fail
  obtain ⟨W, hW⟩ : ∃ W, W = w.alloc (.cells #[.slice a0 k0.length c0] 28) := ⟨_, rfl⟩
  have K0 : Hid (Kst w a0 c0 k0 W) := by
    refine ⟨?_, ?_, ?_⟩
    · rw [hW]; exact up_alloc _ _
    · rw [hW]; exact heap_alloc_new w _
    · rw [hW]; exact HH.out.up (up_alloc _ _)
  rw [← hW]
  clear hW
  refine (awake8_any W).mono ?_
  rintro e w1 ⟨rfl, h1⟩
  have K1 := Hid.mk' (K0.out.up h1)
  clear h1 K0
  obtain ⟨b0, bf⟩ := cell1_get K1.out.at_
  go_upto_if 19 with fail
  go_cut [5] (fun _ wx => ∃ (a : Option Addr) (c : Nat), Hid (Kst w a c (k0.take 40) wx))
  case first =>
    by_cases hlt : 40 < k0.length
    · have hlt' : (40 : Int) < (k0.length : Int) := by omega
      obtain ⟨a1, c1, _, _, us, _, S1, _, R1, E1, _, _⟩ := bss_cut HH.out 40 0 (by omega) (by omega)
      have S1 : ∀ w, (Instr.slice 28 (.slice a0 k0.length c0) none (some (.int .i64 40)) none).run Try.prog w = .ok (.slice a1 40 c1) w := S1
      have hl40 : (k0.take 40).length = 40 := by simp; omega
      have HX : Hid (Kst w a1 c1 (k0.take 40) (w1.setCell ⟨w.heap.size, 0, none⟩ (.slice a1 40 c1))) := by
        have hs := Wb.set (X := fun k => k = w.heap.size) w1 w.heap.size 0 (.slice a1 40 c1) rfl
        have hb := K1.out.bl.trans (hs.below K1.out.bl.size fun k hk => by subst hk; exact Nat.le_refl _)
        refine ⟨hb, by rw [hl40]; exact cell1_set K1.out.at_, ?_⟩
        rw [hl40]
        exact (show Bss (Lt w.heap.size) w (.slice a1 40 c1) (k0.take 40) from ⟨us, by rw [hl40] at R1 ⊢; exact R1, E1, by rw [hl40]; decide⟩).keep hb
      clear R1 E1 hl40
      go_wp2_with fail
      go_meet
      exact ⟨a1, c1, HX⟩
    · have hlt' : ¬ (40 : Int) < (k0.length : Int) := by omega
      have ht : k0.take 40 = k0 := List.take_of_length_le (by omega)
      have HT := Hid.mk' ht
      clear ht
      go_wp2_with fail
      go_meet
      exact ⟨a0, c0, by rw [HT.out]; exact K1⟩
  case rest =>
    obtain ⟨a, c, K1⟩ := hcut
    have hn : (k0.take 40).length ≤ 40 := by simp; omega
    clear HH hc0 b0 bf
    generalize k0.take 40 = ks at *
    obtain ⟨b0, bf⟩ := cell1_get K1.out.at_
    by_cases hz : ks.length = 0
    · have hz' : ((ks.length : Int) == 0) = true := by simp [hz]
      clear hz
      go_wp2_with fail
      go_ret
      exact ⟨rfl, K1.out.bl⟩
    · have hnz : ((ks.length : Int) == 0) = false := by rw [beq_eq_false_iff_ne]; omega
      have hpos1 : (1 : Int) ≤ (ks.length : Int) := by omega
      have hn' : (ks.length : Int) ≤ 40 := by omega
      have t1 : from0.tmod (ks.length : Int) < (ks.length : Int) := Int.tmod_lt_of_pos _ (by omega)
      have t2 : -(ks.length : Int) < from0.tmod (ks.length : Int) := by have := Int.lt_tmod_of_pos from0 (show (0 : Int) < (ks.length : Int) by omega); omega
      clear hz
      go_upto_if 31 with fail
      go_cut [6] (fun u wx => ∃ f : Nat, f < ks.length ∧ u = .int .i64 f ∧ Hid (wc = wx))
      case first =>
        by_cases hlt : from0.tmod (ks.length : Int) < 0
        · go_wp2_with fail
          go_meet
          exact ⟨(from0.tmod (ks.length : Int) + (ks.length : Int)).toNat, by omega, by congr 1; omega, rfl⟩
        · go_wp2_with fail
          go_meet
          exact ⟨(from0.tmod (ks.length : Int)).toNat, by omega, by congr 1; omega, rfl⟩
      case rest =>
        obtain ⟨f, hf, rfl, hwc⟩ := hcut
        obtain rfl := hwc.out
        obtain ⟨l, hl⟩ : ∃ l, l = bld ks 0 1 ks.length := ⟨_, rfl⟩
        have HLA := Hid.mk' hl
        have HLB : Hid (bld ks f 1 ks.length = l) := by show _ = _; rw [hl]; exact bld_one hf
        have HLC : Hid (bld ks (ks.length - 1) (ks.length - 1) ks.length = l) := by show _ = _; rw [hl]; exact bld_back (by omega)
        have HPW : Hid (Pw l) := by rw [hl]; exact bld_pw ks 0 1 _
        have HDE : Hid (dls l ks ks.length = []) := by show _ = _; rw [hl]; exact dls_end (by omega) 0 (by omega)
        have hll : l.length ≤ 40 := by rw [hl]; have := bld_len ks 0 1 ks.length; omega
        have B1 : Hid (Calls Try.prog 40 #[.int .i64 0, .int .i64 1, .pointer (some ⟨w.heap.size, 0, none⟩)] wc fun e w' => ∃ v', e = .returned v' ∧ OwnN wc.heap.size w' v' (twn l) ∧ Below wc.heap.size wc w') := by
          rw [hl]; exact build_any (f := 0) (s := 1) b0 K1.out.row hn (by omega) (by omega)
        clear hl t1 t2
        go_wp2_with fail
        refine B1.out.mono ?_
        rintro e w2 ⟨v2, rfl, n2, h2⟩
        have K2 := Hid.mk' (K1.out.up h2)
        have N2 := Hid.mk' n2
        obtain ⟨z1, z2, z3, y1, y2, y3, ev⟩ := twn_form n2
        subst ev
        clear n2 h2 B1 b0 bf
        obtain ⟨b0, bf⟩ := cell1_get K2.out.at_
        have B2 : Hid (Calls Try.prog 40 #[.int .i64 f, .int .i64 1, .pointer (some ⟨w.heap.size, 0, none⟩)] w2 fun e w' => ∃ v', e = .returned v' ∧ OwnN w2.heap.size w' v' (twn l) ∧ Below w2.heap.size w2 w') := by
          have := build_any (f := f) (s := 1) b0 K2.out.row hn hf (by omega)
          rw [HLB.out] at this; exact this
        go_wp2_with fail
        refine B2.out.mono ?_
        rintro e w3 ⟨v3, rfl, n3, h3⟩
        have K3 := Hid.mk' (K2.out.up h3)
        have N2 := Hid.mk' (N2.out.up h3)
        have N3 := Hid.mk' n3
        obtain ⟨x1, x2, x3, j1, j2, j3, ev⟩ := twn_form n3
        subst ev
        clear n3 h3 B2 b0 bf
        obtain ⟨b0, bf⟩ := cell1_get K3.out.at_
        have hlt3 : w.heap.size < w3.heap.size := (Array.getElem?_eq_some_iff.1 K3.out.at_).1
        have hn1 : IntKind.i64.wrap ((ks.length : Int) - 1) = ((ks.length - 1 : Nat) : Int) := by rw [IntKind.wrap_i64]; omega
        go_wp2_with fail
        obtain ⟨V, hV⟩ : ∃ V, V = ((w3.alloc (.cells #[.bool true, .slice z1 l.length y1, .slice z2 l.length y2, .slice z3 0 y3] 37)).alloc (.cells #[.bool true, .slice x1 l.length j1, .slice x2 l.length j2, .slice x3 0 j3] 37)) := ⟨_, rfl⟩
        have hbV : Below w3.heap.size w3 V := by rw [hV]; exact bt (up_alloc _ _) (up_alloc _ _)
        have hA : V.heap[w3.heap.size]? = some (.cells #[.bool true, .slice z1 l.length y1, .slice z2 l.length y2, .slice z3 0 y3] 37 (0, 0)) := by
          rw [hV, (up_alloc (w3.alloc _) _).block _ (by simp)]; exact heap_alloc_new w3 _
        have hB : V.heap[w3.heap.size + 1]? = some (.cells #[.bool true, .slice x1 l.length j1, .slice x2 l.length j2, .slice x3 0 j3] 37 (0, 0)) := by
          have := heap_alloc_new (w3.alloc (.cells #[.bool true, .slice z1 l.length y1, .slice z2 l.length y2, .slice z3 0 y3] 37)) (.cells #[.bool true, .slice x1 l.length j1, .slice x2 l.length j2, .slice x3 0 j3] 37)
          rw [hV]; simpa using this
        have hlo : w.heap.size ≤ w3.heap.size := K3.out.bl.size
        have CA : Hid (Cst w w3.heap.size l z1 z2 z3 y1 y2 y3 V) := ⟨bt K3.out.bl hbV, hlo, hA, (N2.out.up hbV).mono (Nat.zero_le _)⟩
        have CB : Hid (Cst w (w3.heap.size + 1) l x1 x2 x3 j1 j2 j3 V) := ⟨bt K3.out.bl hbV, by omega, hB, (N3.out.up hbV).mono (Nat.zero_le _)⟩
        have KV := Hid.mk' (K3.out.up hbV)
        have hlo1 : w3.heap.size + 1 < V.heap.size := (Array.getElem?_eq_some_iff.1 hB).1
        rw [← hV]
        clear hV hbV hA hB b0 bf hlt3 N2 N3 K3 K2 K1
        generalize w3.heap.size = pa at *
        obtain ⟨b0, bf⟩ := cell1_get KV.out.at_
        have B3 : Calls Try.prog 40 #[.int .i64 ((ks.length - 1 : Nat) : Int), .int .i64 ((ks.length - 1 : Nat) : Int), .pointer (some ⟨w.heap.size, 0, none⟩)] V fun e w' => ∃ v', e = .returned v' ∧ OwnN V.heap.size w' v' (twn l) ∧ Below V.heap.size V w' := by
          have := build_any (f := ks.length - 1) (s := ks.length - 1) b0 KV.out.row hn (by omega) (by omega)
          rw [HLC.out] at this; exact this
        refine B3.mono ?_
        rintro e w4 ⟨v4, rfl, n4, h4⟩
        obtain ⟨q1, q2, q3, i1, i2, i3, ev⟩ := twn_form n4
        subst ev
        obtain ⟨U, hU⟩ : ∃ U, U = w4.alloc (.cells #[.bool true, .slice q1 l.length i1, .slice q2 l.length i2, .slice q3 0 i3] 37) := ⟨_, rfl⟩
        have hbU : Below w4.heap.size w4 U := by rw [hU]; exact up_alloc _ _
        have hC : U.heap[w4.heap.size]? = some (.cells #[.bool true, .slice q1 l.length i1, .slice q2 l.length i2, .slice q3 0 i3] 37 (0, 0)) := by
          rw [hU]; exact heap_alloc_new w4 _
        have KU := Hid.mk' (KV.out.up (bt h4 hbU))
        have CA := Hid.mk' (CA.out.up (bt h4 hbU))
        have CB := Hid.mk' (CB.out.up (bt h4 hbU))
        have CC : Hid (Cst w w4.heap.size l q1 q2 q3 i1 i2 i3 U) := ⟨KU.out.bl, by have := KV.out.bl.size; have := h4.size; omega, hC, (n4.up hbU).mono (Nat.zero_le _)⟩
        clear b0 bf B3 n4 h4 hbU hC KV hn1
        obtain ⟨b0, bf⟩ := cell1_get KU.out.at_
        obtain ⟨⟨d0, d1, d2, d3⟩, df⟩ := cells4_get CA.out.at_
        obtain ⟨⟨g0, g1, g2, g3⟩, gf⟩ := cells4_get CB.out.at_
        obtain ⟨⟨m0, m1, m2, m3⟩, mf⟩ := cells4_get CC.out.at_
        go_wp2_with fail
        rw [← hU]
        clear hU
        generalize w4.heap.size = pc at *
        have r0 : ∀ q : Ups U, q.nx.cell? ⟨pa, 0, none⟩ = some _ := fun q => q.cell d0
        have r1 : ∀ q : Ups U, q.nx.cell? ⟨pa, 1, none⟩ = some _ := fun q => q.cell d1
        have r2 : ∀ q : Ups U, q.nx.cell? ⟨pa, 2, none⟩ = some _ := fun q => q.cell d2
        have r3 : ∀ q : Ups U, q.nx.cell? ⟨pa, 3, none⟩ = some _ := fun q => q.cell d3
        have r4 : ∀ q : Ups U, q.nx.cell? ⟨pa + 1, 0, none⟩ = some _ := fun q => q.cell g0
        have r5 : ∀ q : Ups U, q.nx.cell? ⟨pa + 1, 1, none⟩ = some _ := fun q => q.cell g1
        have r6 : ∀ q : Ups U, q.nx.cell? ⟨pa + 1, 2, none⟩ = some _ := fun q => q.cell g2
        have r7 : ∀ q : Ups U, q.nx.cell? ⟨pa + 1, 3, none⟩ = some _ := fun q => q.cell g3
        have r8 : ∀ q : Ups U, q.nx.cell? ⟨pc, 0, none⟩ = some _ := fun q => q.cell m0
        have r9 : ∀ q : Ups U, q.nx.cell? ⟨pc, 1, none⟩ = some _ := fun q => q.cell m1
        have r10 : ∀ q : Ups U, q.nx.cell? ⟨pc, 2, none⟩ = some _ := fun q => q.cell m2
        have r11 : ∀ q : Ups U, q.nx.cell? ⟨pc, 3, none⟩ = some _ := fun q => q.cell m3
        have r12 : ∀ q : Ups U, q.nx.cell? ⟨w.heap.size, 0, none⟩ = some _ := fun q => q.cell b0
        have RA := Hid.mk' (CA.out.own.rn (Sm_twn hll))
        have RB := Hid.mk' (CB.out.own.rn (Sm_twn hll))
        have RC := Hid.mk' (CC.out.own.rn (Sm_twn hll))
        cases hd : decide ((2 : Int) < (ks.length : Int)) with
        | true =>
          refine wp_region_free 19 Up (fun w' => ∃ q : Ups U, w' = q.nx) (ul [(50, UL.nd (twn l)), (52, UL.nd (twn l)), (53, UL.is (.bool true)), (61, UL.nd (twn l)), (63, UL.nd (twn l)), (64, UL.is (.bool true))]) (by kernel_rfl) (by kernel_rfl) (ul_ck _) (up_first U) ?_
          simp only [List.take_succ_cons, List.take_zero, List.drop_succ_cons, List.drop_zero]
          refine wf_take 1 rfl ?_
          simp only [List.take_succ_cons, List.take_zero, List.drop_succ_cons, List.drop_zero]
          repeat (go_big_quiet_step (fail))
          refine wpQuiet_nil ?_
          refine wf_call (V := (UL.nd (twn l)).1) (vals := [.agg #[.bool true, .slice z1 l.length y1, .slice z2 l.length y2, .slice z3 0 y3]]) Try.func28 (by kernel_rfl) rfl rfl (by kernel_rfl) (by kernel_rfl) (by kernel_rfl) (fun w1 hC hK => ?_) (fun u1 hu1 => ?_)
          · obtain ⟨q, rfl⟩ := hC; exact told_nd (RA.out.up q.ok)
          obtain ⟨e1, e2, e3, rfl⟩ := hu1
          simp only [Act.put, List.setIfInBounds_toArray, List.set_cons_succ, List.set_cons_zero]
          refine wf_take 1 rfl ?_
          simp only [List.take_succ_cons, List.take_zero, List.drop_succ_cons, List.drop_zero]
          repeat (go_big_quiet_step (fail))
          refine wpQuiet_nil ?_
          refine wf_call (V := (UL.nd (twn l)).1) (vals := [.agg #[.bool true, .slice x1 l.length j1, .slice x2 l.length j2, .slice x3 0 j3]]) Try.func28 (by kernel_rfl) rfl rfl (by kernel_rfl) (by kernel_rfl) (by kernel_rfl) (fun w1 hC hK => ?_) (fun u1 hu1 => ?_)
          · obtain ⟨q, rfl⟩ := hC; exact told_nd (RB.out.up q.ok)
          obtain ⟨e4, e5, e6, rfl⟩ := hu1
          simp only [Act.put, List.setIfInBounds_toArray, List.set_cons_succ, List.set_cons_zero]
          refine wf_call (V := (UL.is (.bool true)).1) (vals := [.agg #[.bool (twn l).leaf, e1, e2, e3], .agg #[.bool (twn l).leaf, e4, e5, e6]]) Try.func27 (by kernel_rfl) rfl rfl (by kernel_rfl) (by kernel_rfl) (by kernel_rfl) (fun w1 hC hK => ?_) (fun u1 hu1 => ?_)
          · obtain ⟨A1, g1⟩ := hK 50 _ _ (looks_of (by kernel_rfl)) (.inl (.inr ⟨rfl, rfl⟩)) rfl; obtain ⟨A2, g2⟩ := hK 52 _ _ (looks_of (by kernel_rfl)) (.inr ⟨rfl, rfl⟩) rfl; have hq := same_any g1 g2; rw [same_self] at hq; exact is_free hq
          obtain rfl : u1 = .bool true := hu1
          simp only [Act.put, List.setIfInBounds_toArray, List.set_cons_succ, List.set_cons_zero]
          refine wf_take 7 rfl ?_
          simp only [List.take_succ_cons, List.take_zero, List.drop_succ_cons, List.drop_zero]
          repeat (go_big_quiet_step (fail))
          refine wpQuiet_nil ?_
          refine wf_call (V := (UL.nd (twn l)).1) (vals := [.agg #[.bool true, .slice z1 l.length y1, .slice z2 l.length y2, .slice z3 0 y3]]) Try.func28 (by kernel_rfl) rfl rfl (by kernel_rfl) (by kernel_rfl) (by kernel_rfl) (fun w1 hC hK => ?_) (fun u1 hu1 => ?_)
          · obtain ⟨q, rfl⟩ := hC; exact told_nd (RA.out.up q.ok)
          obtain ⟨f1, f2, f3, rfl⟩ := hu1
          simp only [Act.put, List.setIfInBounds_toArray, List.set_cons_succ, List.set_cons_zero]
          refine wf_take 1 rfl ?_
          simp only [List.take_succ_cons, List.take_zero, List.drop_succ_cons, List.drop_zero]
          repeat (go_big_quiet_step (fail))
          refine wpQuiet_nil ?_
          refine wf_call (V := (UL.nd (twn l)).1) (vals := [.agg #[.bool true, .slice q1 l.length i1, .slice q2 l.length i2, .slice q3 0 i3]]) Try.func28 (by kernel_rfl) rfl rfl (by kernel_rfl) (by kernel_rfl) (by kernel_rfl) (fun w1 hC hK => ?_) (fun u1 hu1 => ?_)
          · obtain ⟨q, rfl⟩ := hC; exact told_nd (RC.out.up q.ok)
          obtain ⟨f4, f5, f6, rfl⟩ := hu1
          simp only [Act.put, List.setIfInBounds_toArray, List.set_cons_succ, List.set_cons_zero]
          refine wf_call (V := (UL.is (.bool true)).1) (vals := [.agg #[.bool (twn l).leaf, f1, f2, f3], .agg #[.bool (twn l).leaf, f4, f5, f6]]) Try.func27 (by kernel_rfl) rfl rfl (by kernel_rfl) (by kernel_rfl) (by kernel_rfl) (fun w1 hC hK => ?_) (fun u1 hu1 => ?_)
          · obtain ⟨A1, g1⟩ := hK 61 _ _ (looks_of (by kernel_rfl)) (.inl (.inr ⟨rfl, rfl⟩)) rfl; obtain ⟨A2, g2⟩ := hK 63 _ _ (looks_of (by kernel_rfl)) (.inr ⟨rfl, rfl⟩) rfl; have hq := same_any g1 g2; rw [same_self] at hq; exact is_free hq
          obtain rfl : u1 = .bool true := hu1
          simp only [Act.put, List.setIfInBounds_toArray, List.set_cons_succ, List.set_cons_zero]
          refine wf_take 3 rfl ?_
          simp only [List.take_succ_cons, List.take_zero, List.drop_succ_cons, List.drop_zero]
          repeat (go_big_quiet_step (fail))
          refine wpQuiet_nil ?_
          intro wE hC hK
          clear hK
          obtain ⟨q, rfl⟩ := hC
          have CA := Hid.mk' (CA.out.up q.ok)
          have CB := Hid.mk' (CB.out.up q.ok)
          have KU := Hid.mk' (KU.out.up q.ok)
          clear r0 r1 r2 r3 r4 r5 r6 r7 r8 r9 r10 r11 r12 RA RB RC CC d0 d1 d2 d3 df g0 g1 g2 g3 gf m0 m1 m2 m3 mf b0 bf
          generalize q.nx = wE at *
          clear q
          have CBL := Hid.mk' CB
          have h40 : (l.length : Int) ≤ 40 := by omega
          go_wp2_with fail
          go_loopw [10] (fun i wr => ∃ k : Nat, k ≤ l.length ∧ i = .int .i64 ((k : Int) + 1) ∧ Hid (Dn wE wr)) (fun i _ => l.length + 1 - (intOf i).toNat)
          case atStart => exact ⟨0, by omega, by simp, Dn.refl _⟩
          case round =>
            obtain ⟨k, hk, rfl, HD⟩ := hrel
            have HW := Hid.mk' (HD.out.below wE.heap.size)
            have CW := Hid.mk' (CA.out.up HW.out)
            obtain ⟨⟨b0, b1, b2, b3⟩, bf⟩ := cells4_get CW.out.at_
            by_cases hlt : k + 1 < l.length
            · have hlt' : (k : Int) + 1 < (l.length : Int) := by omega
              have hn1 : IntKind.i64.wrap ((k : Int) + 1 - 1) = (k : Int) := by rw [IntKind.wrap_i64]; omega
              obtain ⟨g, o, x, hx0, hx, y, hy, BX, BY⟩ := twn_two CW.out.own hll (i := k) hlt
              subst hx0
              have HC : Hid (∀ n, Calls Try.prog 33 #[x, y] (wr.drewN n) fun e w' => e = .returned (.int .i64 (cmp l[k] l[k + 1])) ∧ Dn (wr.drewN n) w') := fun n => cmp_any x y _ _ _ (BX.up ⟨rfl, rfl, rfl, Nat.le_refl _, fun _ _ => rfl⟩) (BY.up ⟨rfl, rfl, rfl, Nat.le_refl _, fun _ _ => rfl⟩)
              have hneg : cmp l[k] l[k + 1] < 0 := pw_next HPW.out k hlt
              have hge : decide ((0 : Int) ≤ cmp l[k] l[k + 1]) = false := by simp; omega
              generalize cmp l[k] l[k + 1] = z at *
              clear BX BY hneg
              go_wp2_with fail
              go_quiet ((go_at_call 33; exact quiet_dn (HC.out _)))
              go_wp2_with fail
              go_roundw
              case rel => exact ⟨k + 1, by omega, by go_num, HD.out.more _⟩
              case measure => simp [intOf]; omega
            · have hlt' : ¬ (k : Int) + 1 < (l.length : Int) := by omega
              have CB := Hid.mk' (CB.out.up HW.out)
              have KU := Hid.mk' (KU.out.up HW.out)
              obtain ⟨b4, bf4⟩ := cell1_get KU.out.at_
              go_wp2_with fail
              clear b0 b1 b2 b3 bf b4 bf4 CA HW CW hlt hlt' hk
              rename World => wv
              go_loopw [90] (fun i wr => ∃ k : Nat, k ≤ ks.length ∧ i = .int .i64 k ∧ Hid (Below w.heap.size wv wr ∧ ∃ z1 z2 z3 y1 y2 y3, Cst w (pa + 1) (dls l ks k) z1 z2 z3 y1 y2 y3 wr)) (fun i _ => ks.length - (intOf i).toNat)
              case atStart => exact ⟨0, by omega, by simp, Below.refl _ _, _, _, _, _, _, _, CB.out⟩
              case round =>
                obtain ⟨k, hk, rfl, HBT⟩ := hrel
                obtain ⟨HB, z1, z2, z3, y1, y2, y3, HT⟩ := HBT.out
                clear HBT
                have HT := Hid.mk' HT
                have HB := Hid.mk' HB
                obtain ⟨⟨b0, b1, b2, b3⟩, bf⟩ := cells4_get HT.out.at_
                by_cases hlt : k < ks.length
                · have hlt' : (k : Int) < (ks.length : Int) := by omega
                  obtain ⟨_, _, hke, _, _, HKL⟩ := (KU.out.row.keep HB.out).at
                  cases hke
                  obtain ⟨g, o, x, ha, _, hu1, hx⟩ := HKL k hlt
                  subst ha
                  have HX := Hid.mk' hx
                  clear HKL hx
                  have hml : (dls l ks k).length ≤ 40 := dls_len' hll k
                  have HL : Hid (dls l ks (k + 1) = delK (dls l ks k) (ks.getD k [])) := rfl
                  have HPM : Hid (Pw (dls l ks k)) := dls_pw HPW.out k
                  have hy : ks[k] = ks.getD k [] := by rw [List.getD_eq_getElem?_getD, List.getElem?_eq_getElem hlt]; rfl
                  rw [hy] at HX
                  clear hy
                  generalize ks.getD k [] = y at *
                  generalize dls l ks k = m at *
                  have HRN := Hid.mk' (HT.out.own.rn (Sm_twn hml))
                  obtain ⟨xa, xc, ex, _⟩ := HX.out.at
                  subst ex
                  have HF : Hid (Calls Try.prog 34 #[.agg #[.bool true, .slice z1 m.length y1, .slice z2 m.length y2, .slice z3 0 y3], .slice xa y.length xc] wr (FindPost wr m y)) := find_any HRN.out HX.out (asc_pw.2 HPM.out)
                  go_wp2_with fail
                  refine HF.out.mono ?_
                  rintro e w5 ⟨rfl, h5⟩
                  have HT2 := Hid.mk' (HT.out.up h5)
                  have HRN2 := Hid.mk' (HRN.out.up h5)
                  have HB2 := Hid.mk' (HB.out.trans (h5.mono HT.out.bl.size))
                  clear HF h5 b0 b1 b2 b3 bf HT HRN HX HB hu1
                  obtain ⟨⟨b0, b1, b2, b3⟩, bf⟩ := cells4_get HT2.out.at_
                  cases hh : hit m y with
                  | false =>
                    have HL2 : Hid (dls l ks (k + 1) = m) := HL.out.trans (delK_hit m y hh)
                    clear hh
                    go_wp2_with fail
                    go_roundw
                    case rel => exact ⟨k + 1, by omega, by go_num, HB2.out, _, _, _, _, _, _, by rw [HL2.out]; exact HT2.out⟩
                    case measure => simp [intOf]; omega
                  | true =>
                    have HWT := Hid.mk' (wout_twn m y hh)
                    have HWC := Hid.mk' (without_any (i := pos m y) HRN2.out (by show m.length * 24 ≤ lim; unfold lim; omega))
                    clear hh
                    go_wp2_with fail
                    refine HWC.out.mono ?_
                    rintro e w6 ⟨v6, rfl, n6, h6⟩
                    rw [HWT.out] at n6
                    obtain ⟨p1, d1, p2, d2, p3, d3, ev⟩ := n6.form
                    have ev : v6 = .agg #[.bool true, .slice p1 (delK m y).length d1, .slice p2 (delK m y).length d2, .slice p3 0 d3] := ev
                    subst ev
                    have HP := Hid.mk' (HT2.out.put h6 (n6.mono (Nat.zero_le _)))
                    have hat := (HT2.out.up h6).at_
                    have hs6 := (HT2.out.up h6).bl.size
                    have HB6 := Hid.mk' (HB2.out.trans (h6.mono HT2.out.bl.size))
                    clear b0 b1 b2 b3 bf n6 h6 HWC
                    obtain ⟨⟨b0, b1, b2, b3⟩, bf⟩ := cells4_get hat
                    clear hat
                    go_wp2_with fail
                    go_roundw
                    case rel => exact ⟨k + 1, by omega, by go_num, HB6.out.trans ((four_wb _ _ _ _ _ _).below hs6 fun j hj => by subst hj; omega), _, _, _, _, _, _, by rw [HL.out]; exact HP.out⟩
                    case measure => simp [intOf]; omega
                · obtain rfl : k = ks.length := by omega
                  have hd0 := HDE.out
                  rw [hd0] at HT b1 b2
                  clear hd0
                  go_wp2_with fail
                  go_ret
                  exact ⟨rfl, HT.out.bl⟩
        | false =>
          refine wp_region_free 19 Up (fun w' => ∃ q : Ups U, w' = q.nx) (ul [(50, UL.nd (twn l)), (52, UL.nd (twn l)), (53, UL.is (.bool true)), (61, UL.nd (twn l)), (63, UL.nd (twn l)), (64, UL.is (.bool true))]) (by kernel_rfl) (by kernel_rfl) (ul_ck _) (up_first U) ?_
          simp only [List.take_succ_cons, List.take_zero, List.drop_succ_cons, List.drop_zero]
          refine wf_take 1 rfl ?_
          simp only [List.take_succ_cons, List.take_zero, List.drop_succ_cons, List.drop_zero]
          repeat (go_big_quiet_step (fail))
          refine wpQuiet_nil ?_
          refine wf_call (V := (UL.nd (twn l)).1) (vals := [.agg #[.bool true, .slice z1 l.length y1, .slice z2 l.length y2, .slice z3 0 y3]]) Try.func28 (by kernel_rfl) rfl rfl (by kernel_rfl) (by kernel_rfl) (by kernel_rfl) (fun w1 hC hK => ?_) (fun u1 hu1 => ?_)
          · obtain ⟨q, rfl⟩ := hC; exact told_nd (RA.out.up q.ok)
          obtain ⟨e1, e2, e3, rfl⟩ := hu1
          simp only [Act.put, List.setIfInBounds_toArray, List.set_cons_succ, List.set_cons_zero]
          refine wf_take 1 rfl ?_
          simp only [List.take_succ_cons, List.take_zero, List.drop_succ_cons, List.drop_zero]
          repeat (go_big_quiet_step (fail))
          refine wpQuiet_nil ?_
          refine wf_call (V := (UL.nd (twn l)).1) (vals := [.agg #[.bool true, .slice x1 l.length j1, .slice x2 l.length j2, .slice x3 0 j3]]) Try.func28 (by kernel_rfl) rfl rfl (by kernel_rfl) (by kernel_rfl) (by kernel_rfl) (fun w1 hC hK => ?_) (fun u1 hu1 => ?_)
          · obtain ⟨q, rfl⟩ := hC; exact told_nd (RB.out.up q.ok)
          obtain ⟨e4, e5, e6, rfl⟩ := hu1
          simp only [Act.put, List.setIfInBounds_toArray, List.set_cons_succ, List.set_cons_zero]
          refine wf_call (V := (UL.is (.bool true)).1) (vals := [.agg #[.bool (twn l).leaf, e1, e2, e3], .agg #[.bool (twn l).leaf, e4, e5, e6]]) Try.func27 (by kernel_rfl) rfl rfl (by kernel_rfl) (by kernel_rfl) (by kernel_rfl) (fun w1 hC hK => ?_) (fun u1 hu1 => ?_)
          · obtain ⟨A1, g1⟩ := hK 50 _ _ (looks_of (by kernel_rfl)) (.inl (.inr ⟨rfl, rfl⟩)) rfl; obtain ⟨A2, g2⟩ := hK 52 _ _ (looks_of (by kernel_rfl)) (.inr ⟨rfl, rfl⟩) rfl; have hq := same_any g1 g2; rw [same_self] at hq; exact is_free hq
          obtain rfl : u1 = .bool true := hu1
          simp only [Act.put, List.setIfInBounds_toArray, List.set_cons_succ, List.set_cons_zero]
          refine wf_take 7 rfl ?_
          simp only [List.take_succ_cons, List.take_zero, List.drop_succ_cons, List.drop_zero]
          repeat (go_big_quiet_step (fail))
          refine wpQuiet_nil ?_
          refine wf_skip (by kernel_rfl) ?_
          simp only [Act.put, List.setIfInBounds_toArray, List.set_cons_succ, List.set_cons_zero]
          refine wf_take 1 rfl ?_
          simp only [List.take_succ_cons, List.take_zero, List.drop_succ_cons, List.drop_zero]
          repeat (go_big_quiet_step (fail))
          refine wpQuiet_nil ?_
          refine wf_skip (by kernel_rfl) ?_
          simp only [Act.put, List.setIfInBounds_toArray, List.set_cons_succ, List.set_cons_zero]
          refine wf_skip (by kernel_rfl) ?_
          simp only [Act.put, List.setIfInBounds_toArray, List.set_cons_succ, List.set_cons_zero]
          refine wf_take 3 rfl ?_
          simp only [List.take_succ_cons, List.take_zero, List.drop_succ_cons, List.drop_zero]
          repeat (go_big_quiet_step (fail))
          refine wpQuiet_nil ?_
          intro wE hC hK
          clear hK
          obtain ⟨q, rfl⟩ := hC
          have CA := Hid.mk' (CA.out.up q.ok)
          have CB := Hid.mk' (CB.out.up q.ok)
          have KU := Hid.mk' (KU.out.up q.ok)
          clear r0 r1 r2 r3 r4 r5 r6 r7 r8 r9 r10 r11 r12 RA RB RC CC d0 d1 d2 d3 df g0 g1 g2 g3 gf m0 m1 m2 m3 mf b0 bf
          generalize q.nx = wE at *
          clear q
          have CBL := Hid.mk' CB
          have h40 : (l.length : Int) ≤ 40 := by omega
          go_wp2_with fail
          go_loopw [10] (fun i wr => ∃ k : Nat, k ≤ l.length ∧ i = .int .i64 ((k : Int) + 1) ∧ Hid (Dn wE wr)) (fun i _ => l.length + 1 - (intOf i).toNat)
          case atStart => exact ⟨0, by omega, by simp, Dn.refl _⟩
          case round =>
            obtain ⟨k, hk, rfl, HD⟩ := hrel
            have HW := Hid.mk' (HD.out.below wE.heap.size)
            have CW := Hid.mk' (CA.out.up HW.out)
            obtain ⟨⟨b0, b1, b2, b3⟩, bf⟩ := cells4_get CW.out.at_
            by_cases hlt : k + 1 < l.length
            · have hlt' : (k : Int) + 1 < (l.length : Int) := by omega
              have hn1 : IntKind.i64.wrap ((k : Int) + 1 - 1) = (k : Int) := by rw [IntKind.wrap_i64]; omega
              obtain ⟨g, o, x, hx0, hx, y, hy, BX, BY⟩ := twn_two CW.out.own hll (i := k) hlt
              subst hx0
              have HC : Hid (∀ n, Calls Try.prog 33 #[x, y] (wr.drewN n) fun e w' => e = .returned (.int .i64 (cmp l[k] l[k + 1])) ∧ Dn (wr.drewN n) w') := fun n => cmp_any x y _ _ _ (BX.up ⟨rfl, rfl, rfl, Nat.le_refl _, fun _ _ => rfl⟩) (BY.up ⟨rfl, rfl, rfl, Nat.le_refl _, fun _ _ => rfl⟩)
              have hneg : cmp l[k] l[k + 1] < 0 := pw_next HPW.out k hlt
              have hge : decide ((0 : Int) ≤ cmp l[k] l[k + 1]) = false := by simp; omega
              generalize cmp l[k] l[k + 1] = z at *
              clear BX BY hneg
              go_wp2_with fail
              go_quiet ((go_at_call 33; exact quiet_dn (HC.out _)))
              go_wp2_with fail
              go_roundw
              case rel => exact ⟨k + 1, by omega, by go_num, HD.out.more _⟩
              case measure => simp [intOf]; omega
            · have hlt' : ¬ (k : Int) + 1 < (l.length : Int) := by omega
              have CB := Hid.mk' (CB.out.up HW.out)
              have KU := Hid.mk' (KU.out.up HW.out)
              obtain ⟨b4, bf4⟩ := cell1_get KU.out.at_
              go_wp2_with fail
              clear b0 b1 b2 b3 bf b4 bf4 CA HW CW hlt hlt' hk
              rename World => wv
              go_loopw [90] (fun i wr => ∃ k : Nat, k ≤ ks.length ∧ i = .int .i64 k ∧ Hid (Below w.heap.size wv wr ∧ ∃ z1 z2 z3 y1 y2 y3, Cst w (pa + 1) (dls l ks k) z1 z2 z3 y1 y2 y3 wr)) (fun i _ => ks.length - (intOf i).toNat)
              case atStart => exact ⟨0, by omega, by simp, Below.refl _ _, _, _, _, _, _, _, CB.out⟩
              case round =>
                obtain ⟨k, hk, rfl, HBT⟩ := hrel
                obtain ⟨HB, z1, z2, z3, y1, y2, y3, HT⟩ := HBT.out
                clear HBT
                have HT := Hid.mk' HT
                have HB := Hid.mk' HB
                obtain ⟨⟨b0, b1, b2, b3⟩, bf⟩ := cells4_get HT.out.at_
                by_cases hlt : k < ks.length
                · have hlt' : (k : Int) < (ks.length : Int) := by omega
                  obtain ⟨_, _, hke, _, _, HKL⟩ := (KU.out.row.keep HB.out).at
                  cases hke
                  obtain ⟨g, o, x, ha, _, hu1, hx⟩ := HKL k hlt
                  subst ha
                  have HX := Hid.mk' hx
                  clear HKL hx
                  have hml : (dls l ks k).length ≤ 40 := dls_len' hll k
                  have HL : Hid (dls l ks (k + 1) = delK (dls l ks k) (ks.getD k [])) := rfl
                  have HPM : Hid (Pw (dls l ks k)) := dls_pw HPW.out k
                  have hy : ks[k] = ks.getD k [] := by rw [List.getD_eq_getElem?_getD, List.getElem?_eq_getElem hlt]; rfl
                  rw [hy] at HX
                  clear hy
                  generalize ks.getD k [] = y at *
                  generalize dls l ks k = m at *
                  have HRN := Hid.mk' (HT.out.own.rn (Sm_twn hml))
                  obtain ⟨xa, xc, ex, _⟩ := HX.out.at
                  subst ex
                  have HF : Hid (Calls Try.prog 34 #[.agg #[.bool true, .slice z1 m.length y1, .slice z2 m.length y2, .slice z3 0 y3], .slice xa y.length xc] wr (FindPost wr m y)) := find_any HRN.out HX.out (asc_pw.2 HPM.out)
                  go_wp2_with fail
                  refine HF.out.mono ?_
                  rintro e w5 ⟨rfl, h5⟩
                  have HT2 := Hid.mk' (HT.out.up h5)
                  have HRN2 := Hid.mk' (HRN.out.up h5)
                  have HB2 := Hid.mk' (HB.out.trans (h5.mono HT.out.bl.size))
                  clear HF h5 b0 b1 b2 b3 bf HT HRN HX HB hu1
                  obtain ⟨⟨b0, b1, b2, b3⟩, bf⟩ := cells4_get HT2.out.at_
                  cases hh : hit m y with
                  | false =>
                    have HL2 : Hid (dls l ks (k + 1) = m) := HL.out.trans (delK_hit m y hh)
                    clear hh
                    go_wp2_with fail
                    go_roundw
                    case rel => exact ⟨k + 1, by omega, by go_num, HB2.out, _, _, _, _, _, _, by rw [HL2.out]; exact HT2.out⟩
                    case measure => simp [intOf]; omega
                  | true =>
                    have HWT := Hid.mk' (wout_twn m y hh)
                    have HWC := Hid.mk' (without_any (i := pos m y) HRN2.out (by show m.length * 24 ≤ lim; unfold lim; omega))
                    clear hh
                    go_wp2_with fail
                    refine HWC.out.mono ?_
                    rintro e w6 ⟨v6, rfl, n6, h6⟩
                    rw [HWT.out] at n6
                    obtain ⟨p1, d1, p2, d2, p3, d3, ev⟩ := n6.form
                    have ev : v6 = .agg #[.bool true, .slice p1 (delK m y).length d1, .slice p2 (delK m y).length d2, .slice p3 0 d3] := ev
                    subst ev
                    have HP := Hid.mk' (HT2.out.put h6 (n6.mono (Nat.zero_le _)))
                    have hat := (HT2.out.up h6).at_
                    have hs6 := (HT2.out.up h6).bl.size
                    have HB6 := Hid.mk' (HB2.out.trans (h6.mono HT2.out.bl.size))
                    clear b0 b1 b2 b3 bf n6 h6 HWC
                    obtain ⟨⟨b0, b1, b2, b3⟩, bf⟩ := cells4_get hat
                    clear hat
                    go_wp2_with fail
                    go_roundw
                    case rel => exact ⟨k + 1, by omega, by go_num, HB6.out.trans ((four_wb _ _ _ _ _ _).below hs6 fun j hj => by subst hj; omega), _, _, _, _, _, _, by rw [HL.out]; exact HP.out⟩
                    case measure => simp [intOf]; omega
                · obtain rfl : k = ks.length := by omega
                  have hd0 := HDE.out
                  rw [hd0] at HT b1 b2
                  clear hd0
                  go_wp2_with fail
                  go_ret
                  exact ⟨rfl, HT.out.bl⟩
end Go.Proofs.Ytfmbbpfklhkljaa
