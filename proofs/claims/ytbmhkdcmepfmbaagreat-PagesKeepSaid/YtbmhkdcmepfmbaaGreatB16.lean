/- Put of a pool. Get of a pool. Save of a pool. A pool takes what a meta file says. -/
import Derived.Test.YtbmhkdcmepfmbaaGreatB15
import Derived.Test.YtbmhkdcmepfmbaaGreatB04
import Derived.Test.YtbmhkdcmepfmbaaGreatB06
set_option linter.unusedVariables false
set_option linter.unusedSimpArgs false
namespace Go.Proofs.YtbmhkdcmepfmbaaGreat
open Go.RowKit
attribute [local go_sem ↓] Go.wp_at_zero Go.wp_at_succ
theorem Row.andLt {sz n : Nat} {A : Nat → Prop} {w : World} {v : Value} {vs : List Value} (h : Row sz A w v n vs) : Row sz (fun k => A k ∧ k < w.heap.size) w v n vs := by
  obtain ⟨hl, a, c, e, hc, ha, H⟩ := h
  refine ⟨hl, a, c, e, hc, ha, fun j u hj => ?_⟩
  obtain ⟨b, o, h1, h2, h3⟩ := H j u hj
  exact ⟨b, o, h1, ⟨h2, World.block_lt_of_cell? w ⟨b, o + j, none⟩ h3⟩, h3⟩
theorem Jp.back [Xcl] {T M : Nat → Prop} {w w1 w2 : World} {p b : Nat} {s : Ps} {d : Dm} (hb : Below w.heap.size w w1) (h : Jp T M w1 p b s d w2) : Jp T M w p b s d w2 := Jp.trans (Wb.of_below _ hb) (fun _ h => .inl h) (fun _ h => .inl h) h
theorem HoP.back [Xcl] {I : Ps → Dm → Prop} {J : Dm → Prop} {T M : Nat → Prop} {w w1 : World} {p b : Nat} {s : Ps} {d : Dm} {id : Int} {l : By} {dy : Bool} {e : Ending} {w' : World} (hb : Below w.heap.size w w1) (h : HoP I J T M w1 p b s d id l dy e w') : HoP I J T M w p b s d id l dy e w' := by
  rcases h with ⟨x, s1, d1, h1, h2, h3, h4⟩ | ⟨h1, s1, d1, h2, h3, h4, h5⟩
  · exact .inl ⟨x, s1, d1, h1, h2, h3, h4.back hb⟩
  · exact .inr ⟨h1, s1, d1, h2, h3, h4, h5.back hb⟩
set_option maxRecDepth 100000 in
set_option maxHeartbeats 4000000 in
theorem put_any [Xcl] {I : Ps → Dm → Prop} {J : Dm → Prop} {hand E : Int} (HV : Hv I J hand E) (hhand : 1 ≤ hand) (hE : E ≤ 900000000) {T M A : Nat → Prop} {w : World} {p b : Nat} {s : Ps} {d : Dm} (h : Jn T M w p b s d) (hI : I s d) (id : Int) (hid : Wi id) {v : Value} {l : By} (hv : Bs A w v l) :
    Calls Tryz.prog 13 #[.pointer (some ⟨p, 0, none⟩), .int .i64 id, v] w fun e w' =>
      (aget s.S id = none → e = .returned (.int .i64 1) ∧ w' = w) ∧ ((aget s.S id).isSome → l.length ≠ 512 → e = .returned (.int .i64 2) ∧ w' = w) ∧ ((aget s.S id).isSome → l.length = 512 → HoP I J T M w p b s d id l true e w') := by
  obtain ⟨va, vc, rfl, _⟩ := hv.at
  obtain ⟨D, Dd, ms, mf, ma, ff, nf, g, hJ⟩ := h.jx
  have HHAS := Hid.mk' (has_any hJ.P id hid)
  have hlim : (l.length : Int) ≤ 140737488351232 := by have := hv.2; unfold lim at this; omega
  have HCL := Hid.mk' (clone_any _ l w hv)
  have HLT := Hid.mk' h.lt
  have HHO : Hid (∀ w1 v1, Below w.heap.size w w1 → Ob 5 w.heap.size w1 v1 l → l.length = 512 → Calls Tryz.prog 34 #[.pointer (some ⟨p, 0, none⟩), .int .i64 id, v1, .bool true] w1 (HoP I J T M w p b s d id l true)) := fun w1 v1 hb ho hl => by
    refine (hold_any HV hhand hE (h.up hb) hI id hid (A := fun k => w.heap.size ≤ k ∧ k < w1.heap.size) ⟨Row.andLt (Row.of_ownB ho), by unfold lim; omega⟩ (fun k hk => ?_) (fun k hk hx => by have := h.xlt k hx; omega) true).mono fun e w' he => he.back hb
    have h1 := h.lt
    exact ⟨hk.2, fun h2 => by have := h1.2.2.1 k h2; omega, fun h2 => by have := h1.2.2.2 k h2; omega, fun h2 => by have := h1.2.1; omega⟩
  clear h hI hv hJ HV hhand hE
  by_cases hs : (aget s.S id).isSome = true
  · rw [hs] at HHAS
    have HS0 := Hid.mk' hs
    clear hs
    by_cases hl : l.length = 512
    · have HL := Hid.mk' hl
      have hl' : (l.length : Int) = 512 := by omega
      rw [hl]
      rw [hl] at HCL
      go_enter Tryz.func13, Tryz.ntmps13
      go_wp2_with fail
      refine HHAS.out.mono ?_
      rintro e w1 ⟨rfl, rfl⟩
      go_wp2_with fail
      refine HCL.out.mono ?_
      rintro e w2 ⟨v2, rfl, hb2, ho2⟩
      have HHO2 := Hid.mk' (HHO.out w2 v2 hb2 ho2 HL.out)
      obtain ⟨a2, c2, e2⟩ := own_slice ho2
      subst e2
      clear hb2 ho2
      rw [HL.out] at HHO2 ⊢
      go_wp2_with fail
      refine HHO2.out.mono ?_
      rintro e w3 hq
      have HQ := Hid.mk' hq
      have hret : ∃ x, e = .returned (.int .i64 x) := by
        rcases hq with ⟨x, _, _, _, rfl, _⟩ | ⟨rfl, _⟩
        · exact ⟨x, rfl⟩
        · exact ⟨0, rfl⟩
      obtain ⟨x, rfl⟩ := hret
      clear hq
      go_wp2_with fail
      go_ret
      exact ⟨fun h => (by rw [h] at HS0; cases HS0.out), fun _ h => absurd rfl h, fun _ _ => HQ.out⟩
    · have HL := Hid.mk' hl
      have hl' : ¬ (l.length : Int) = 512 := by omega
      have hl2 : ¬ l.length = 512 := hl
      go_enter Tryz.func13, Tryz.ntmps13
      go_wp2_with fail
      refine HHAS.out.mono ?_
      rintro e w1 ⟨rfl, rfl⟩
      go_wp2_with fail
      go_ret
      exact ⟨fun h => (by rw [h] at HS0; cases HS0.out), fun _ _ => ⟨rfl, rfl⟩, fun _ h => absurd h HL.out⟩
  · have hs' : (aget s.S id).isSome = false := by simpa using hs
    have HS0 := Hid.mk' hs'
    rw [hs'] at HHAS
    clear hs hs'
    go_enter Tryz.func13, Tryz.ntmps13
    go_wp2_with fail
    refine HHAS.out.mono ?_
    rintro e w1 ⟨rfl, rfl⟩
    go_wp2_with fail
    go_ret
    exact ⟨fun _ => ⟨rfl, rfl⟩, fun h => (by have := HS0.out; rw [h] at this; cases this), fun h => (by have := HS0.out; rw [h] at this; cases this)⟩
end Go.Proofs.YtbmhkdcmepfmbaaGreat
set_option linter.unusedVariables false
set_option linter.unusedSimpArgs false
namespace Go.Proofs.YtbmhkdcmepfmbaaGreat
open Go.RowKit
attribute [local go_sem ↓] Go.wp_at_zero Go.wp_at_succ
def zer : By := List.replicate 512 0
/-- what the drive has of a page that lies in a slot -/
def dsk (F : Fl) (sl : Int) : By := if 0 ≤ sl then ((foz F nmP).drop (sl.toNat * 512)).take 512 else zer
def giS (s : Ps) (id : Int) (f : Fr) : Ps := { s with H := aput s.H id { f with used := s.clock + 1 }, clock := s.clock + 1, hit := s.hit + 1 }
def gmS (s : Ps) (id : Int) (l : By) : Ps := { hoS s id l false with mis := s.mis + 1 }
/-- an answer: bytes of the call's own, made last -/
def GAns [Xcl] (T M : Nat → Prop) (w : World) (p b : Nat) (s' : Ps) (d' : Dm) (l : By) (e : Ending) (w' : World) : Prop :=
  ∃ v' w5, e = .returned (.tuple #[v', .int .i64 0]) ∧ Jp T M w p b s' d' w5 ∧ Below w5.heap.size w5 w' ∧ Ob 5 w5.heap.size w' v' l
def GeP [Xcl] (I : Ps → Dm → Prop) (J : Dm → Prop) (T M : Nat → Prop) (w : World) (p b : Nat) (s : Ps) (d : Dm) (id : Int) (e : Ending) (w' : World) : Prop :=
  (aget s.S id = none → e = .returned (.tuple #[.slice none 0 0, .int .i64 1]) ∧ w' = w) ∧
  (∀ sl f, aget s.S id = some sl → aget s.H id = some f → GAns T M w p b (giS s id f) d f.data e w') ∧
  (∀ sl, aget s.S id = some sl → aget s.H id = none →
    (0 ≤ sl → d.dead = true → ∃ x : Int, x ≠ 0 ∧ e = .returned (.tuple #[.slice none 0 0, .int .i64 x]) ∧ Jp T M w p b s d w') ∧
    ((sl < 0 ∨ d.dead = false) → (∃ (x : Int) (s1 : Ps) (d1 : Dm), x ≠ 0 ∧ e = .returned (.tuple #[.slice none 0 0, .int .i64 x]) ∧ J d1 ∧ Jp T M w p b s1 d1 w') ∨
      ∃ s1 d1, I s1 d1 ∧ aget s1.H id = none ∧ (s1.H.length : Int) < s1.hand ∧ GAns T M w p b (gmS s1 id (dsk d.seen sl)) d1 (dsk d.seen sl) e w'))
theorem bs_zeros (w : World) (n : Nat) (hn : n ≤ lim) : Bs (fun k => k = w.heap.size) (w.alloc (.cells (zeros n) 5)) (.slice (some ⟨w.heap.size, 0, none⟩) n n) (List.replicate n 0) := by
  have h2 := Row.of_own (ob_zeros n hn w 5)
  rw [List.length_replicate] at h2
  obtain ⟨hl, a, c, e, hc, ha, H⟩ := h2
  refine ⟨⟨by rw [List.length_replicate]; exact hl, a, c, by rw [List.length_replicate]; exact e, by rw [List.length_replicate]; exact hc, ha, fun j u hj => ?_⟩, by rw [List.length_replicate]; exact hn⟩
  obtain ⟨b, o, h1, h3, h4⟩ := H j u hj
  cases e
  cases h1
  exact ⟨_, _, rfl, rfl, h4⟩
theorem bs_cells {w : World} {g n : Nat} {l : By} (h : w.heap[g]? = some (.cells (bv l).toArray 5 (0, 0))) (hl : l.length = n) (hn : n ≤ lim) : Bs (fun k => k = g) w (.slice (some ⟨g, 0, none⟩) n n) l := by
  subst hl
  refine ⟨⟨by simp, _, _, rfl, Nat.le_refl _, by simp, fun j u hj => ⟨g, 0, rfl, rfl, ?_⟩⟩, hn⟩
  simp only [World.cell?, h, Nat.zero_add]
  simpa using hj
theorem zer_len : zer.length = 512 := List.length_replicate
set_option maxRecDepth 100000 in
set_option maxHeartbeats 4000000 in
theorem get_any [Xcl] {I : Ps → Dm → Prop} {J : Dm → Prop} {hand E : Int} (HV : Hv I J hand E) (hhand : 1 ≤ hand) (hE : E ≤ 900000000) {T M : Nat → Prop} {w : World} {p b : Nat} {s : Ps} {d : Dm} (h : Jn T M w p b s d) (hI : I s d) (id : Int) (hid : Wi id)
    (hin : ∀ sl, aget s.S id = some sl → sl ≤ 1000000 ∧ (0 ≤ sl → sl.toNat * 512 + 512 ≤ (foz d.seen nmP).length)) :
    Calls Tryz.prog 18 #[.pointer (some ⟨p, 0, none⟩), .int .i64 id] w (GeP I J T M w p b s d id) := by
  obtain ⟨D, Dd, ms, mf, ma, ff, nf, g, hJ⟩ := h.jx
  have HJ := Hid.mk' hJ
  have HI := Hid.mk' hI
  have HVV := Hid.mk' HV
  have HHD := Hid.mk' hhand
  have HEE := Hid.mk' hE
  have HID := Hid.mk' hid
  have HHAS := Hid.mk' (has_any hJ.P id hid)
  obtain ⟨⟨c0, c1, c2, c3, c4, c5, c6, c7, c8, c9⟩, cf⟩ := hJ.P.cells
  have hp := hJ.P.plt
  have hla := hJ.P.mH.look1 Tryz.underlying3 Tryz.underlying63 (z87 w) id hid
  have hls := hJ.P.mS.look1 Tryz.underlying3 Tryz.underlying62 (z3 w) id hid
  have HIN := Hid.mk' hin
  cases hsl : aget s.S id with
  | none =>
    have HSL := Hid.mk' hsl
    rw [hsl] at HHAS
    clear h hI HV hhand hE hid hJ hin hsl c0 c1 c2 c3 c4 c5 c6 c7 c8 c9 hla hls
    go_enter Tryz.func18, Tryz.ntmps18
    go_wp2_with fail
    refine HHAS.out.mono ?_
    rintro e w1 ⟨rfl, rfl⟩
    go_wp2_with fail
    go_ret2
    refine ⟨fun _ => ⟨rfl, rfl⟩, ?_, ?_⟩
    · intro sl f h; rw [HSL.out] at h; cases h
    · intro sl h; rw [HSL.out] at h; cases h
  | some sl =>
    have HSL := Hid.mk' hsl
    rw [hsl] at HHAS
    cases hf : aget s.H id with
    | some f =>
      have hl1 : (Instr.lookup 63 (.map (some ma)) (.int .i64 id) false).run Tryz.prog w = .ok (.pointer (some ⟨g id, 0, none⟩)) w := by
        rw [hla]; unfold hMap; rw [hf]; rfl
      have HF := Hid.mk' hf
      have hpb := HV.pb s d hI
      have hh1 : 0 ≤ s.hit ∧ s.hit ≤ 900000000 := ⟨hpb.2.2.2.2.2.2.1.1, by have := hpb.2.2.2.2.2.2.1.2; omega⟩
      have hk1 : 0 ≤ s.clock ∧ s.clock ≤ 900000000 := ⟨hpb.2.2.2.1.1, by have := hpb.2.2.2.1.2; omega⟩
      obtain ⟨hfr, hTg, hgp⟩ := hJ.P.fr id f hf
      obtain ⟨fv, hgx, hfv⟩ := hfr
      obtain ⟨fa, fc, rfl, _⟩ := hfv.at
      obtain ⟨d0, d1, d2⟩ := bx3 hgx
      -- behind hits++
      obtain ⟨W2, hW2⟩ : ∃ W2, W2 = w.setCell ⟨p, 7, none⟩ (.int .i64 (s.hit + 1)) := ⟨_, rfl⟩
      have hw2 := Wb.set (X := fun j => j = p) w p 7 (.int .i64 (s.hit + 1)) rfl
      rw [← hW2] at hw2
      have hbx2 := heap_setCell_same w p 7 _ 67 (.int .i64 (s.hit + 1)) hJ.P.bx
      rw [← hW2] at hbx2
      have hP2 := hJ.P.setP (s' := { s with hit := s.hit + 1 }) hw2 (by rw [hbx2]; rfl) rfl rfl rfl
      obtain ⟨⟨e0, e1, e2, e3, e4, e5, e6, e7, e8, e9⟩, ef⟩ := hP2.cells
      have hgx2 : W2.heap[g id]? = some (.cells #[.slice fa f.data.length fc, .bool f.dirty, .int .i64 f.used] 94 (0, 0)) := by
        rw [hw2.block _ (Array.getElem?_eq_some_iff.1 hgx).1 hgp]; exact hgx
      have hTO := touch_any e6 (ef 6) (bx3 hgx2).2.2 (bx3_fr hgx2 2) hgp hk1.1 (show s.clock ≤ 1000000000 by omega)
      obtain ⟨W3, hW3⟩ : ∃ W3, W3 = (W2.setCell ⟨p, 6, none⟩ (.int .i64 (s.clock + 1))).setCell ⟨g id, 2, none⟩ (.int .i64 (s.clock + 1)) := ⟨_, rfl⟩
      have hw3 := Wb.set (X := fun j => j = p) W2 p 6 (.int .i64 (s.clock + 1)) rfl
      have hbx3 := heap_setCell_same W2 p 6 _ 67 (.int .i64 (s.clock + 1)) hP2.bx
      have hP3 := hP2.setP (s' := { s with hit := s.hit + 1, clock := s.clock + 1 }) hw3 (by rw [hbx3]; rfl) rfl rfl rfl
      have hgx3 : (W2.setCell ⟨p, 6, none⟩ (.int .i64 (s.clock + 1))).heap[g id]? = some (.cells #[.slice fa f.data.length fc, .bool f.dirty, .int .i64 f.used] 94 (0, 0)) := by
        rw [hw3.block _ (Array.getElem?_eq_some_iff.1 hgx2).1 hgp]; exact hgx2
      have hw4 := Wb.set (X := fun j => j = g id) (W2.setCell ⟨p, 6, none⟩ (.int .i64 (s.clock + 1))) (g id) 2 (.int .i64 (s.clock + 1)) rfl
      rw [← hW3] at hw4
      have hgx4 : W3.heap[g id]? = some (.cells #[.slice fa f.data.length fc, .bool f.dirty, .int .i64 (s.clock + 1)] 94 (0, 0)) := by
        rw [hW3, bx3_set hgx3]; rfl
      have hD4 : ∀ j, j = g id → ¬ D j := fun j hj hd => (hJ.P.hD _ hd).2 (by rw [hj]; exact hTg)
      have hDp : ∀ j, j = p → ¬ D j := fun j hj hd => (hJ.P.hD _ hd).2 (by rw [hj]; exact hJ.P.tp)
      have hfv4 : Bs D W3 (.slice fa f.data.length fc) f.data := ((hfv.wb hw2 hDp).wb hw3 hDp).wb hw4 hD4
      have hP4 := hP3.setF (w' := W3) (i := id) (f := f) (f' := { f with used := s.clock + 1 }) hf hw4 ⟨_, hgx4, hfv4⟩
      have hwT : Wb T w W3 := ((hw2.mono fun j hj => by subst hj; exact hJ.P.tp).trans (hw3.mono fun j hj => by subst hj; exact hJ.P.tp)).trans (hw4.mono fun j hj => by subst hj; exact hTg)
      have HFIN : Hid (Jp T M w p b (giS s id f) d W3) := ⟨hwT.mono fun k hk => .inl hk, T, M, fun k hk => .inl hk, fun k hk => .inl hk, (hJ.pool hwT (s' := giS s id f) hP4).jn⟩
      have HCL := Hid.mk' (clone_any _ f.data W3 hfv4)
      have d04 := (bx3 hgx4).1
      rw [← hW3] at hTO
      have HTO := Hid.mk' hTO
      have HW2 := Hid.mk' hW2
      have hlf : (f.data.length : Int) ≤ 140737488351232 := by have := hfv4.2; unfold lim at this; omega
      have hg3 := (Array.getElem?_eq_some_iff.1 hgx4).1
      clear h hI HV hhand hE hid hJ hin hsl hf hla hls hpb hfv hgx hw2 hbx2 hP2 hgx2 hTO hw3 hbx3 hP3 hgx3 hw4 hgx4 hD4 hDp hfv4 hP4 hwT hW2 hW3 c0 c1 c2 c3 c4 c6 c8 c9 d0 d1 d2 e0 e1 e2 e3 e4 e5 e6 e7 e8 e9 ef hTg hgp
      go_enter Tryz.func18, Tryz.ntmps18
      go_wp2_with fail
      refine HHAS.out.mono ?_
      rintro e w1 ⟨rfl, rfl⟩
      go_wp2_with fail
      rw [← HW2.out]
      refine HTO.out.mono ?_
      rintro e w3 ⟨rfl, rfl⟩
      go_wp2_with fail
      refine HCL.out.mono ?_
      rintro e w4 ⟨v4, rfl, hb4, ho4⟩
      obtain ⟨a4, c4, e4⟩ := own_slice ho4
      subst e4
      have HO4 := Hid.mk' ho4
      have HB4 := Hid.mk' hb4
      clear ho4 hb4
      go_wp2_with fail
      go_ret2
      refine ⟨?_, ?_, ?_⟩
      · intro h; rw [HSL.out] at h; cases h
      · intro sl0 f0 h0 h1
        rw [HF.out] at h1
        cases h1
        exact ⟨_, _, rfl, HFIN.out, HB4.out, HO4.out⟩
      · intro sl0 h0 h1; rw [HF.out] at h1; cases h1
    | none =>
      have HF := Hid.mk' hf
      have hl1 : (Instr.lookup 63 (.map (some ma)) (.int .i64 id) false).run Tryz.prog w = .ok (.pointer none) w := by
        rw [hla]; unfold hMap; rw [hf]; rfl
      have hsb := hin sl hsl
      have HJN := Hid.mk' h
      obtain ⟨gd, hgd⟩ : ∃ gd, gd = w.heap.size := ⟨_, rfl⟩
      obtain ⟨W1, hW1⟩ : ∃ W1, W1 = w.alloc (.cells (zeros 512) 5) := ⟨_, rfl⟩
      have hb1 : Below w.heap.size w W1 := by rw [hW1]; exact up_alloc _ _
      have hmk : (Instr.makeSlice 22 (.int .i64 512) (.int .i64 512)).run Tryz.prog w = .ok (.slice (some ⟨gd, 0, none⟩) 512 512) W1 := by
        rw [hW1, hgd]; exact run_mk 22 Tryz.underlying22 Tryz.info5 512 (by unfold lim; omega) w
      have hx1 := hJ.up hb1
      have hls1 : (Instr.lookup 62 (.map (some ms)) (.int .i64 id) false).run Tryz.prog W1 = .ok (.int .i64 sl) W1 := by
        rw [hx1.P.mS.look1 Tryz.underlying3 Tryz.underlying62 (z3 _) id hid]; unfold sMap; rw [hsl]; rfl
      obtain ⟨⟨e0, e1, e2, e3, e4, e5, e6, e7, e8, e9⟩, ef⟩ := hx1.P.cells
      have hp1 := hx1.P.plt
      have hz1 : Bs (fun k => k = gd) W1 (.slice (some ⟨gd, 0, none⟩) 512 512) zer := by rw [hW1, hgd]; exact bs_zeros w 512 (by unfold lim; omega)
      have HZ1 := Hid.mk' hz1
      have HB1 := Hid.mk' hb1
      have HGW : Hid (W1.heap[gd]? = some (.cells (zeros 512) 5 (0, 0))) := by rw [hW1, hgd]; exact heap_alloc_new w _
      have HGD0 : Hid (w.heap.size ≤ gd ∧ gd < W1.heap.size) := ⟨by rw [hgd]; exact Nat.le_refl _, by rw [hW1, hgd]; simp⟩
      have HX1 := Hid.mk' hx1
      clear h hI HV hhand hE hid hJ hin hsl hf hla hls c0 c1 c2 c3 c4 c6 c7 c8 c9 e2 e4 e5 e6 e7 e8 e9 hx1 hz1 hb1 hgd hW1
      by_cases h0 : 0 ≤ sl
      case neg =>
        have HLD : Hid (dsk d.seen sl = zer) := if_neg h0
        have HBD : Hid (Bs (fun k => k = gd) W1 (.slice (some ⟨gd, 0, none⟩) 512 512) (dsk d.seen sl)) := by rw [HLD.out]; exact HZ1.out
        have HBW := HB1
        have HGD := HGD0
        have HAL : Hid (¬ (0 ≤ sl ∧ d.dead = true)) := fun h => h0 h.1
        go_enter Tryz.func18, Tryz.ntmps18
        go_wp2_with fail
        refine HHAS.out.mono ?_
        rintro e w1 ⟨rfl, hww⟩
        obtain rfl : w = w1 := hww.symm
        have HHO := Hid.mk' (hold_any HVV.out HHD.out HEE.out (HJN.out.up HBW.out) HI.out id HID.out HBD.out (A := fun k => k = gd) (fun k hk => by
          have h1 := HJN.out.lt
          have h2 := HGD.out
          have hk : k = gd := hk
          subst hk
          exact ⟨h2.2, fun h3 => by have := h1.2.2.1 _ h3; omega, fun h3 => by have := h1.2.2.2 _ h3; omega, fun h3 => by have := h1.2.1; omega⟩) (fun k hk hx => by
            have h1 := HJN.out.xlt k hx
            have h2 := HGD.out
            have hk : k = gd := hk
            omega) false)
        go_wp2_with fail
        refine HHO.out.mono ?_
        rintro e w5 hq
        rcases hq with ⟨x, s1, d1, hx, rfl, hj1, hjp⟩ | ⟨rfl, s1, d1, hI1, _, hc2, hjp⟩
        · have HX : Hid (x ≠ 0 ∧ J d1 ∧ Jp T M w p b s1 d1 w5) := ⟨hx, hj1, hjp.back HBW.out⟩
          have hx' : ¬ x = 0 := hx
          clear hx hj1 hjp
          go_wp2_with fail
          go_ret2
          refine ⟨?_, ?_, ?_⟩
          · intro h; rw [HSL.out] at h; cases h
          · intro sl0 f0 h0 h1; rw [HF.out] at h1; cases h1
          · intro sl0 h0 h1
            rw [HSL.out] at h0
            cases h0
            exact ⟨fun h2 h3 => absurd ⟨h2, h3⟩ HAL.out, fun _ => .inl ⟨x, s1, d1, HX.out.1, rfl, HX.out.2.1, HX.out.2.2⟩⟩
        · have hc3 := hc2 (by rw [HF.out]; rfl)
          have hpb1 := HVV.out.pb s1 d1 hI1
          have hm1 : 0 ≤ s1.mis ∧ s1.mis ≤ 900000000 := ⟨hpb1.2.2.2.2.2.2.2.1, by have := hpb1.2.2.2.2.2.2.2.2; have := HEE.out; omega⟩
          have hwj := hjp.1
          obtain ⟨_, T1, M1, hT1, hM1, hJN1⟩ := hjp
          obtain ⟨D1, Dd1, ms1, mf1, ma1, ff1, nf1, g1, hJ1⟩ := hJN1.jx
          obtain ⟨⟨e0, e1, e2, e3, e4, e5, e6, e7, e8a, e9⟩, ef⟩ := hJ1.P.cells
          have e8 : w5.cell? ⟨p, 8, none⟩ = some (.int .i64 s1.mis) := e8a
          clear e8a
          have hp5 := hJ1.P.plt
          have hgd5 : Bs (fun k => k = gd) w5 (.slice (some ⟨gd, 0, none⟩) 512 512) (dsk d.seen sl) := HBD.out.wb hwj fun k hk hk2 => by
            have h1 := HJN.out.lt
            have h2 := HGD.out
            have hk2 : k = gd := hk2
            subst hk2
            rcases hk with h3 | h3 | h3
            · have := h1.2.2.1 _ h3; omega
            · have := h1.2.2.2 _ h3; omega
            · have := h1.2.1; omega
          obtain ⟨W6, hW6⟩ : ∃ W6, W6 = w5.setCell ⟨p, 8, none⟩ (.int .i64 (s1.mis + 1)) := ⟨_, rfl⟩
          have hws := Wb.set (X := fun j => j = p) w5 p 8 (.int .i64 (s1.mis + 1)) rfl
          rw [← hW6] at hws
          have hbx6 := heap_setCell_same w5 p 8 _ 67 (.int .i64 (s1.mis + 1)) hJ1.P.bx
          rw [← hW6] at hbx6
          have hP6 := hJ1.P.setP (s' := gmS s1 id (dsk d.seen sl)) hws (by rw [hbx6]; rfl) rfl rfl rfl
          have hwT : Wb T1 w5 W6 := hws.mono fun j hj => by subst hj; exact hJ1.P.tp
          have HFIN : Hid (Jp T M w p b (gmS s1 id (dsk d.seen sl)) d1 W6) := by
            refine Jp.back HBW.out ⟨wb_comb hwj hT1 hM1 (hwT.mono fun k hk => .inl hk), T1, M1, hT1, hM1, (hJ1.pool hwT hP6).jn⟩
          have hgd6 : Bs (fun k => k = gd) W6 (.slice (some ⟨gd, 0, none⟩) 512 512) (dsk d.seen sl) := hgd5.wb hws fun j hj hj2 => by
            have h1 := HJN.out.lt
            have h2 := HGD.out
            have hj : j = p := hj
            have hj2 : j = gd := hj2
            omega
          have HCL := Hid.mk' (clone_any _ (dsk d.seen sl) W6 hgd6)
          have HC3 : Hid (I s1 d1 ∧ aget s1.H id = none ∧ (s1.H.length : Int) < s1.hand) := ⟨hI1, hc3⟩
          have hm2 := hm1.1
          have hm3 := hm1.2
          have ef8 := ef 8
          have HW6 := Hid.mk' hW6
          clear hc2 hc3 hpb1 hm1 hwj hT1 hM1 hJN1 hJ1 hgd5 hws hbx6 hP6 hwT hgd6 hW6 e0 e1 e2 e3 e4 e5 e6 e7 e9 hI1
          go_wp2_with fail
          rw [← HW6.out]
          refine HCL.out.mono ?_
          rintro e w7 ⟨v7, rfl, hb7, ho7⟩
          obtain ⟨a7, c7', e7'⟩ := own_slice ho7
          subst e7'
          have HO7 := Hid.mk' ho7
          have HB7 := Hid.mk' hb7
          clear ho7 hb7
          go_wp2_with fail
          go_ret2
          refine ⟨?_, ?_, ?_⟩
          · intro h; rw [HSL.out] at h; cases h
          · intro sl0 f0 h0 h1; rw [HF.out] at h1; cases h1
          · intro sl0 h0 h1
            rw [HSL.out] at h0
            cases h0
            exact ⟨fun h2 h3 => absurd ⟨h2, h3⟩ HAL.out, fun _ => .inr ⟨s1, d1, HC3.out.1, HC3.out.2.1, HC3.out.2.2, _, _, rfl, HFIN.out, HB7.out, HO7.out⟩⟩
      case pos =>
        obtain ⟨n, rfl⟩ : ∃ n : Nat, sl = n := ⟨sl.toNat, by omega⟩
        have hsz : n * 512 + 512 ≤ (foz d.seen nmP).length := by have := hsb.2 h0; rwa [Int.toNat_natCast] at this
        have hn1 : (n : Int) ≤ 1000000 := hsb.1
        have HSZ := Hid.mk' hsz
        have r0 : ∀ q : Kp (fun _ => False) W1, q.nx.cell? ⟨p, 0, none⟩ = some (.pointer (some ⟨b, 0, none⟩)) := fun q => q.cell e0 (fun h => h)
        have hdr := drew_blx W1 W1.heap.size
        have HFL := Hid.mk' (file_any (cell_up e0 hdr) (cell_up e1 hdr))
        have HRD : Hid (∀ W', Below W1.heap.size W1 W' → Calls Tryz.prog 29 #[.pointer (some ⟨b, 0, none⟩), .string ⟨nmP.toArray⟩] W' (ReadPost W' d nmP)) := fun W' hb => read_any nmP (HX1.out.Dr.below hb) (by decide)
        clear hsb hsz hdr
        go_enter Tryz.func18, Tryz.ntmps18
        go_wp2_with fail
        refine HHAS.out.mono ?_
        rintro e w1 ⟨rfl, hww⟩
        obtain rfl : w = w1 := hww.symm
        go_wp2_with fail
        refine wp_region_mix 12 (fun w' => ∃ q : Kp (fun _ => False) W1, w' = q.nx) (by kernel_rfl) (by kernel_rfl) (kp_first _ W1) ?_
        simp only [List.take_succ_cons, List.take_zero, List.drop_succ_cons, List.drop_zero]
        refine mx_take 6 rfl ?_
        simp only [List.take_succ_cons, List.take_zero, List.drop_succ_cons, List.drop_zero]
        repeat (go_big_quiet_step (fail))
        refine wpQuiet_nil ?_
        refine mx_call (vals := [.pointer (some ⟨p, 0, none⟩)]) Tryz.func44 (by kernel_rfl) rfl rfl (by kernel_rfl) (by kernel_rfl) HFL.out (fun e wa ha => ?_)
        obtain ⟨rfl, hba⟩ := ha
        have HBA : Hid (Below W1.heap.size W1 wa) := bt (drew_blx W1 _) hba
        refine ⟨_, rfl, kp_mk HBA.out.size fun k hk _ => HBA.out.block k hk, ?_⟩
        simp only [Act.put, List.setIfInBounds_toArray, List.set_cons_succ, List.set_cons_zero]
        refine mx_call (vals := [.pointer (some ⟨b, 0, none⟩), .string ⟨nmP.toArray⟩]) Tryz.func29 (by kernel_rfl) rfl rfl (by kernel_rfl) (by kernel_rfl) (HRD.out wa HBA.out) (fun e wb hb => ?_)
        obtain ⟨v9, rfl, hbb, ho9⟩ := hb
        have HBB : Hid (Below W1.heap.size W1 wb) := bt HBA.out hbb
        refine ⟨_, rfl, kp_mk HBB.out.size fun k hk _ => HBB.out.block k hk, ?_⟩
        simp only [Act.put, List.setIfInBounds_toArray, List.set_cons_succ, List.set_cons_zero]
        obtain ⟨a9, c9, e9⟩ := own_slice ho9
        subst e9
        have HO9 := Hid.mk' ho9
        refine mx_take 4 rfl ?_
        simp only [List.take_succ_cons, List.take_zero, List.drop_succ_cons, List.drop_zero]
        repeat (go_big_quiet_step (fail))
        refine wpQuiet_nil ?_
        simp only [wpMix]
        clear r0 HFL HRD hba hbb ho9 hls1 hmk e0 e1 e3 c5
        cases hdd : d.dead with
        | true =>
          have HR : Hid (rdE d nmP = 9) := by show _ = _; unfold rdE; rw [hdd]; rfl
          have HDD := Hid.mk' hdd
          have HBW2 := Hid.mk' (bt HB1.out HBB.out)
          rw [HR.out]
          clear hdd
          go_wp2_with fail
          go_ret2
          refine ⟨?_, ?_, ?_⟩
          · intro h; rw [HSL.out] at h; cases h
          · intro sl0 f0 h0 h1; rw [HF.out] at h1; cases h1
          · intro sl0 h0' h1
            rw [HSL.out] at h0'
            cases h0'
            refine ⟨fun _ _ => ⟨9, by decide, rfl, Jp.refl HJN.out HBW2.out⟩, fun h => ?_⟩
            rcases h with h | h
            · omega
            · rw [HDD.out] at h; cases h
        | false =>
          have hfz : (fget d.seen nmP).isSome = true := by
            cases hg : fget d.seen nmP with
            | none => have := HSZ.out; unfold foz at this; rw [hg] at this; simp at this
            | some x => rfl
          have HR : Hid (rdE d nmP = 0) := by show _ = _; unfold rdE thE; rw [hdd, hfz]; rfl
          have hrb : rdB d nmP = foz d.seen nmP := by unfold rdB; rw [hdd]; rfl
          have HAL : Hid (¬ (0 ≤ (n : Int) ∧ d.dead = true)) := fun h => by rw [hdd] at h; cases h.2
          rw [hrb] at HO9 ⊢
          rw [HR.out]
          have hbs9 : Bs (Lt wb.heap.size) wb (.slice a9 (foz d.seen nmP).length c9) (foz d.seen nmP) := ⟨Row.of_own HO9.out, by have h1 := foz_le d.seen nmP; have h2 := (HVV.out.pb s d HI.out).2.1.tot; unfold lim; omega⟩
          obtain ⟨a8, c8, S8, hs8⟩ := bs_lo hbs9 (n * 512) (by have := HSZ.out; omega)
          have S8 : ∀ w, (Instr.slice 22 (.slice a9 (foz d.seen nmP).length c9) (some (.int .i64 ((n : Int) * 512))) none none).run Tryz.prog w = .ok (.slice a8 ((foz d.seen nmP).length - n * 512) c8) w := fun w => by
            have := S8 w
            rwa [show ((n * 512 : Nat) : Int) = (n : Int) * 512 by omega] at this
          obtain ⟨pg, hpg⟩ : ∃ pg, pg = ((foz d.seen nmP).drop (n * 512)).take 512 := ⟨_, rfl⟩
          have hpl : pg.length = 512 := by rw [hpg, List.length_take, List.length_drop]; have := HSZ.out; omega
          have hgw : wb.heap[gd]? = some (.cells (bv zer).toArray 5 (0, 0)) := by
            rw [HBB.out.block gd HGD0.out.2, HGW.out]
            have := zeros_list 512
            rw [show (bv zer).toArray = zeros 512 by unfold zer; rw [← this]]
          have HAD : Hid (∃ ad, a8 = some ad ∧ ∀ j v, (bv pg)[j]? = some v → wb.cell? (ad.add j) = some v) := by
            have hrow := hs8.1
            rw [List.length_drop] at hrow
            obtain ⟨_, a', c', e', _, _, H⟩ := hrow
            cases e'
            have hd0 : 0 < ((foz d.seen nmP).drop (n * 512)).length := by rw [List.length_drop]; have := HSZ.out; omega
            obtain ⟨bb, oo, e1, _, _⟩ := H 0 _ (by rw [List.getElem?_eq_getElem (by rw [bv_length]; exact hd0)])
            subst e1
            refine ⟨_, rfl, fun j v hj => ?_⟩
            have hj2 : (bv ((foz d.seen nmP).drop (n * 512)))[j]? = some v := by
              rw [hpg] at hj
              unfold bv at hj ⊢
              rw [List.map_take, List.getElem?_take] at hj
              split at hj
              · exact hj
              · cases hj
            obtain ⟨b2, o2, e2, _, hc⟩ := H j v hj2
            cases e2
            rw [addr_add]
            exact hc
          obtain ⟨w6, hr6, hg6, hb6⟩ := run_cp (dp := some ⟨gd, 0, none⟩) (sp := a8) (dLen := 512) (dCap := 512) (sLen := (foz d.seen nmP).length - n * 512) (sCap := c8) (g := gd) (off := 0) (cur := bv zer) 3 hgw (bv pg) (by rw [bv_length, hpl]; have := HSZ.out; show 512 = min _ _; omega) (fun _ => ⟨rfl, HAD.out⟩) (by rw [bv_length, bv_length, hpl, zer_len]; omega) (bv_one _) (bt HB1.out HBB.out) HGD0.out.1
          rw [bv_length, hpl] at hr6
          have hspl : splice (bv zer) 0 (bv pg) = bv pg := by
            rw [spl_zero _ _ (by rw [bv_length, bv_length, hpl, zer_len]; omega), List.drop_eq_nil_of_le (by rw [bv_length, bv_length, hpl, zer_len]; omega), List.append_nil]
          rw [hspl] at hg6
          have HLD : Hid (pg = dsk d.seen n) := by rw [hpg]; unfold dsk; rw [if_pos h0, Int.toNat_natCast]; rfl
          have HBD : Hid (Bs (fun k => k = gd) w6 (.slice (some ⟨gd, 0, none⟩) 512 512) (dsk d.seen n)) := by rw [← HLD.out]; exact bs_cells hg6 hpl (by unfold lim; omega)
          have HBW : Hid (Below w.heap.size w w6) := hb6
          have HGD : Hid (w.heap.size ≤ gd ∧ gd < w6.heap.size) := ⟨HGD0.out.1, (Array.getElem?_eq_some_iff.1 hg6).1⟩
          clear hdd hfz hrb hbs9 hs8 hpg hpl hgw hg6 hb6 hspl
          have HHO := Hid.mk' (hold_any HVV.out HHD.out HEE.out (HJN.out.up HBW.out) HI.out id HID.out HBD.out (A := fun k => k = gd) (fun k hk => by
            have h1 := HJN.out.lt
            have h2 := HGD.out
            have hk : k = gd := hk
            subst hk
            exact ⟨h2.2, fun h3 => by have := h1.2.2.1 _ h3; omega, fun h3 => by have := h1.2.2.2 _ h3; omega, fun h3 => by have := h1.2.1; omega⟩) (fun k hk hx => by
            have h1 := HJN.out.xlt k hx
            have h2 := HGD.out
            have hk : k = gd := hk
            omega) false)
          go_wp2_with fail
          refine HHO.out.mono ?_
          rintro e w5 hq
          rcases hq with ⟨x, s1, d1, hx, rfl, hj1, hjp⟩ | ⟨rfl, s1, d1, hI1, _, hc2, hjp⟩
          · have HX : Hid (x ≠ 0 ∧ J d1 ∧ Jp T M w p b s1 d1 w5) := ⟨hx, hj1, hjp.back HBW.out⟩
            have hx' : ¬ x = 0 := hx
            clear hx hj1 hjp
            go_wp2_with fail
            go_ret2
            refine ⟨?_, ?_, ?_⟩
            · intro h; rw [HSL.out] at h; cases h
            · intro sl0 f0 h0 h1; rw [HF.out] at h1; cases h1
            · intro sl0 h0 h1
              rw [HSL.out] at h0
              cases h0
              exact ⟨fun h2 h3 => absurd ⟨h2, h3⟩ HAL.out, fun _ => .inl ⟨x, s1, d1, HX.out.1, rfl, HX.out.2.1, HX.out.2.2⟩⟩
          · have hc3 := hc2 (by rw [HF.out]; rfl)
            have hpb1 := HVV.out.pb s1 d1 hI1
            have hm1 : 0 ≤ s1.mis ∧ s1.mis ≤ 900000000 := ⟨hpb1.2.2.2.2.2.2.2.1, by have := hpb1.2.2.2.2.2.2.2.2; have := HEE.out; omega⟩
            have hwj := hjp.1
            obtain ⟨_, T1, M1, hT1, hM1, hJN1⟩ := hjp
            obtain ⟨D1, Dd1, ms1, mf1, ma1, ff1, nf1, g1, hJ1⟩ := hJN1.jx
            obtain ⟨⟨e0, e1, e2, e3, e4, e5, e6, e7, e8a, e9⟩, ef⟩ := hJ1.P.cells
            have e8 : w5.cell? ⟨p, 8, none⟩ = some (.int .i64 s1.mis) := e8a
            clear e8a
            have hp5 := hJ1.P.plt
            have hgd5 : Bs (fun k => k = gd) w5 (.slice (some ⟨gd, 0, none⟩) 512 512) (dsk d.seen n) := HBD.out.wb hwj fun k hk hk2 => by
              have h1 := HJN.out.lt
              have h2 := HGD.out
              have hk2 : k = gd := hk2
              subst hk2
              rcases hk with h3 | h3 | h3
              · have := h1.2.2.1 _ h3; omega
              · have := h1.2.2.2 _ h3; omega
              · have := h1.2.1; omega
            obtain ⟨W6, hW6⟩ : ∃ W6, W6 = w5.setCell ⟨p, 8, none⟩ (.int .i64 (s1.mis + 1)) := ⟨_, rfl⟩
            have hws := Wb.set (X := fun j => j = p) w5 p 8 (.int .i64 (s1.mis + 1)) rfl
            rw [← hW6] at hws
            have hbx6 := heap_setCell_same w5 p 8 _ 67 (.int .i64 (s1.mis + 1)) hJ1.P.bx
            rw [← hW6] at hbx6
            have hP6 := hJ1.P.setP (s' := gmS s1 id (dsk d.seen n)) hws (by rw [hbx6]; rfl) rfl rfl rfl
            have hwT : Wb T1 w5 W6 := hws.mono fun j hj => by subst hj; exact hJ1.P.tp
            have HFIN : Hid (Jp T M w p b (gmS s1 id (dsk d.seen n)) d1 W6) := by
              refine Jp.back HBW.out ⟨wb_comb hwj hT1 hM1 (hwT.mono fun k hk => .inl hk), T1, M1, hT1, hM1, (hJ1.pool hwT hP6).jn⟩
            have hgd6 : Bs (fun k => k = gd) W6 (.slice (some ⟨gd, 0, none⟩) 512 512) (dsk d.seen n) := hgd5.wb hws fun j hj hj2 => by
              have h1 := HJN.out.lt
              have h2 := HGD.out
              have hj : j = p := hj
              have hj2 : j = gd := hj2
              omega
            have HCL := Hid.mk' (clone_any _ (dsk d.seen n) W6 hgd6)
            have HC3 : Hid (I s1 d1 ∧ aget s1.H id = none ∧ (s1.H.length : Int) < s1.hand) := ⟨hI1, hc3⟩
            have hm2 := hm1.1
            have hm3 := hm1.2
            have ef8 := ef 8
            have HW6 := Hid.mk' hW6
            clear hc2 hc3 hpb1 hm1 hwj hT1 hM1 hJN1 hJ1 hgd5 hws hbx6 hP6 hwT hgd6 hW6 e0 e1 e2 e3 e4 e5 e6 e7 e9 hI1
            go_wp2_with fail
            rw [← HW6.out]
            refine HCL.out.mono ?_
            rintro e w7 ⟨v7, rfl, hb7, ho7⟩
            obtain ⟨a7, c7', e7'⟩ := own_slice ho7
            subst e7'
            have HO7 := Hid.mk' ho7
            have HB7 := Hid.mk' hb7
            clear ho7 hb7
            go_wp2_with fail
            go_ret2
            refine ⟨?_, ?_, ?_⟩
            · intro h; rw [HSL.out] at h; cases h
            · intro sl0 f0 h0 h1; rw [HF.out] at h1; cases h1
            · intro sl0 h0 h1
              rw [HSL.out] at h0
              cases h0
              exact ⟨fun h2 h3 => absurd ⟨h2, h3⟩ HAL.out, fun _ => .inr ⟨s1, d1, HC3.out.1, HC3.out.2.1, HC3.out.2.2, _, _, rfl, HFIN.out, HB7.out, HO7.out⟩⟩
end Go.Proofs.YtbmhkdcmepfmbaaGreat
set_option linter.unusedVariables false
set_option linter.unusedSimpArgs false
namespace Go.Proofs.YtbmhkdcmepfmbaaGreat
open Go.RowKit
attribute [local go_sem ↓] Go.wp_at_zero Go.wp_at_succ
/-- the invariant that Save's writes keep -/
structure Hs (I : Ps → Dm → Prop) (J : Dm → Prop) : Prop where
  pb : ∀ s d, I s d → Pb s ∧ Db d ∧ Srt d.seen ∧ d.queue.length ≤ 900 ∧ s.S.length ≤ 1000 ∧ s.H.length ≤ 100000
  z : ∀ s d, I s d → ∃ z : Nat, z ≤ 100000 ∧ s.c z = 0 ∧ cnt s.S z = 0 ∧
    ∀ id f sl, aget s.H id = some f → aget s.S id = some sl → f.dirty = true → ∀ n, Sl s sl z n → (pcE d n = 0 → I (pcS s id f n) (pcD d n f.data)) ∧ (pcE d n ≠ 0 → pcE d n = 9 ∧ J (pcD d n f.data))
def metaB (S : Al Int) (note : By) : By := wrp (jn [tabB S, note])
def saR (s : Ps) (d : Dm) (note : By) : Int × Dm := repD d nmM (metaB s.S note)
def saS (s : Ps) : Ps := { s with c := fun i => cnt s.S i }
def SaP [Xcl] (I : Ps → Dm → Prop) (J : Dm → Prop) (T M : Nat → Prop) (w : World) (p b : Nat) (s : Ps) (d : Dm) (note : By) (e : Ending) (w' : World) : Prop :=
  (d.dead = true → e = .returned (.int .i64 9) ∧ w' = w) ∧
  (d.dead = false → (∃ (x : Int) (s1 : Ps) (d1 : Dm), x = 9 ∧ e = .returned (.int .i64 x) ∧ J d1 ∧ Jp T M w p b s1 d1 w') ∨
    ∃ s1 d1, I s1 d1 ∧ (∀ i f, aget s1.H i = some f → f.dirty = false) ∧ e = .returned (.int .i64 (saR s1 d1 note).1) ∧ ((saR s1 d1 note).1 ≠ 0 → Jp T M w p b s1 (saR s1 d1 note).2 w') ∧ ((saR s1 d1 note).1 = 0 → Jp T M w p b (saS s1) (saR s1 d1 note).2 w'))
theorem aput_keys {α : Type} (F : Al α) (hF : ASrt F) (s : Int) (a : α) (h : (aget F s).isSome) : (aput F s a).map (·.1) = F.map (·.1) := by
  induction F with
  | nil => cases h
  | cons x r ih =>
    obtain ⟨n, m⟩ := x
    have h2 := (List.pairwise_cons.1 hF).1
    rw [aput]
    split
    · next e => subst e; rfl
    · next e =>
      split
      · next e' =>
        rw [aget, if_neg e, aget_ltn h2 e'] at h
        cases h
      · rw [aget, if_neg e] at h
        rw [List.map_cons, List.map_cons, ih hF.tail h]
section
variable {T D X : Nat → Prop} {w w' : World} {p b : Nat} {s : Ps} {ms mf ma : Nat} {ff : Int → Option Value} {nf : Nat} {g : Int → Nat}
/-- another map of what is safe -/
theorem Pi.swapF (h : Pi T D w p b s ms mf ma ff nf g) {mN k : Nat} {f' : Int → Option Value} {c' : Int → Nat} (hs : ∀ i, i < w.heap.size → ¬ i = p → w'.heap[i]? = w.heap[i]?) (hsz : w.heap.size ≤ w'.heap.size) (hbx : w'.heap[p]? = some (.cells (pCells b ms mN ma s) 67 (0, 0))) (hm : MapI Tryz.prog 3 w' mN f' k) (hc : ∀ i, (f' i).getD (.int .i64 0) = .int .i64 (c' i)) (hN : w.heap.size ≤ mN) (hNl : mN < w'.heap.size) :
    Pi (fun j => T j ∨ j = mN) D w' p b { s with c := c' } ms mN ma f' k g := by
  have hTp : ∀ i, T i → i ≠ mN := fun i hi e => by have := h.hT i hi; omega
  have hDr : ∀ i, D i → w'.heap[i]? = w.heap[i]? := fun i hi => hs i (h.hD i hi).1 fun e => (h.hD i hi).2 (by rw [e]; exact h.tp)
  exact { bx := hbx
          sS := h.sS
          sH := h.sH
          mS := h.mS.block (hs ms (h.hT _ h.tS.1) h.tS.2)
          mF := hm
          mH := h.mH.block (hs ma (h.hT _ h.tH.1) h.tH.2)
          cF := hc
          fr := fun i f hf => by
            obtain ⟨⟨v, h1, h2⟩, h3, h4⟩ := h.fr i f hf
            exact ⟨⟨v, by rw [hs _ (h.hT _ h3) h4]; exact h1, h2.keepS hDr⟩, .inl h3, h4⟩
          inj := h.inj
          tp := .inl h.tp
          tS := ⟨.inl h.tS.1, h.tS.2⟩
          tF := ⟨.inr rfl, fun e => hTp p h.tp e.symm⟩
          tH := ⟨.inl h.tH.1, h.tH.2⟩
          ne := ⟨hTp _ h.tS.1, h.ne.2.1, fun e => hTp _ h.tH.1 e.symm⟩
          hT := fun i hi => hi.elim (fun h1 => Nat.lt_of_lt_of_le (h.hT i h1) hsz) fun h1 => by rw [h1]; exact hNl
          hD := fun i hi => ⟨Nat.lt_of_lt_of_le (h.hD i hi).1 hsz, fun h1 => h1.elim (h.hD i hi).2 fun e => by have := (h.hD i hi).1; omega⟩ }
end
theorem bss_two {A : Nat → Prop} {w : World} {u v : Value} {l m : By} (hu : Bs A w u l) (hv : Bs A w v m) (hA : ∀ k, A k → k < w.heap.size) : Bss (Lt (w.alloc (.cells #[u, v] 22)).heap.size) (w.alloc (.cells #[u, v] 22)) (.slice (some ⟨w.heap.size, 0, none⟩) 2 2) [l, m] := by
  have hb := up_alloc w (.cells #[u, v] 22)
  have hsz : (w.alloc (.cells #[u, v] 22)).heap.size = w.heap.size + 1 := by simp
  have hA' : ∀ k, A k → Lt (w.alloc (.cells #[u, v] 22)).heap.size k := fun k hk => by have := hA k hk; show _ < _; omega
  refine ⟨[u, v], ⟨rfl, _, _, rfl, Nat.le_refl _, by simp, fun j x hj => ⟨w.heap.size, 0, rfl, by show _ < _; omega, ?_⟩⟩, ⟨rfl, fun i h h' => ?_⟩, by unfold lim; simp⟩
  · have h1 := heap_alloc_new w (.cells #[u, v] 22)
    simp only [World.cell?, h1, Nat.zero_add]
    match j, hj with
    | 0, hj => simpa using hj
    | 1, hj => simpa using hj
  · match i, h with
    | 0, _ => exact (hu.up hb).monoS hA'
    | 1, _ => exact (hv.up hb).monoS hA'
set_option maxRecDepth 100000 in
set_option maxHeartbeats 8000000 in
theorem save_any [Xcl] {I : Ps → Dm → Prop} {J : Dm → Prop} (HV : Hs I J) {T M A : Nat → Prop} {w : World} {p b : Nat} {s : Ps} {d : Dm} (h : Jn T M w p b s d) (hI : I s d) {v : Value} {note : By} (hv : Bs A w v note) (hA : ∀ k, A k → k < w.heap.size ∧ ¬ T k ∧ ¬ M k ∧ k ≠ b) (hnl : note.length ≤ 100000) :
    Calls Tryz.prog 14 #[.pointer (some ⟨p, 0, none⟩), v] w (SaP I J T M w p b s d note) := by
  obtain ⟨va, vc, rfl, _⟩ := hv.at
  obtain ⟨D, Dd, ms, mf, ma, ff, nf, g, hJ⟩ := h.jx
  obtain ⟨⟨c0, c1, c2, c3, c4, c5, c6, c7, c8, c9⟩, cf⟩ := hJ.P.cells
  have hp := hJ.P.plt
  have HDE := Hid.mk' (dead_any hJ.Dr)
  have HK := Hid.mk' (keys_37 (some ma) w)
  have hpb := HV.pb s d hI
  have HS := Hid.mk' (sorted_37 hJ.P.mH hJ.P.sH (fun s' => hMap_some (g := g) s.H s') (by have := hpb.2.2.2.2.2; omega))
  have HUP := Hid.mk' (up_alloc w (.cells #[.map (some ma)] 63))
  have HI := Hid.mk' hI
  have HVV := Hid.mk' HV
  have HJN := Hid.mk' h
  have HBN := Hid.mk' hv
  have HA := Hid.mk' hA
  have HNL := Hid.mk' hnl
  have HHL : Hid (s.H.length ≤ 100000) := hpb.2.2.2.2.2
  clear HV h hI hv hA hnl hJ hpb c2 c3 c4 c6 c7 c8 c9
  go_enter Tryz.func14, Tryz.ntmps14
  cases hdd : d.dead with
  | true =>
    have HDD := Hid.mk' hdd
    rw [hdd] at HDE
    clear hdd
    go_wp2_with fail
    refine HDE.out.mono ?_
    rintro e w1 ⟨rfl, hww⟩
    obtain rfl : w = w1 := hww
    go_wp2_with fail
    go_ret
    exact ⟨fun _ => ⟨rfl, rfl⟩, fun h => by rw [HDD.out] at h; cases h⟩
  | false =>
    have HDD := Hid.mk' hdd
    rw [hdd] at HDE
    clear hdd
    go_wp2_with fail
    refine HDE.out.mono ?_
    rintro e w1 ⟨rfl, hww⟩
    obtain rfl : w = w1 := hww
    go_wp2_with fail
    refine HK.out.mono ?_
    rintro e w1 ⟨rfl, rfl⟩
    go_wp2_with fail
    refine HS.out.mono ?_
    rintro e w2 ⟨v2, rfl, hio, hb2⟩
    have HB2 := Hid.mk' (bt HUP.out hb2)
    have hio2 : Io w.heap.size w2 v2 (s.H.map (·.1)) := own_mono hio HUP.out.size
    obtain ⟨ia, ic, rfl, hic, hat⟩ := hio2.at
    obtain ⟨L, hL⟩ : ∃ L, L = s.H.map (·.1) := ⟨_, rfl⟩
    rw [← hL] at hic hat ⊢
    have HLL : Hid (L.length ≤ 100000) := by rw [hL, List.length_map]; exact HHL.out
    have hli : (L.length : Int) ≤ 100000 := by have := HLL.out; omega
    have HAT : Hid (∀ wr, Wb (fun k => T k ∨ M k ∨ k = b) w2 wr → ∀ j (hj : j < L.length), ∃ g o, ia = some ⟨g, o, none⟩ ∧ wr.cell? ⟨g, o + j, none⟩ = some (.int .i64 L[j])) := fun wr hw j hj => by
      obtain ⟨g, o, e1, e2, e3⟩ := hat j hj
      refine ⟨g, o, e1, ?_⟩
      have hlt := HJN.out.lt
      have hgl : g < w2.heap.size := World.block_lt_of_cell? w2 ⟨g, o + j, none⟩ e3
      rw [World.cell?_of_block (w := w2) (a := ⟨g, o + j, none⟩) (hw.block g hgl fun h => ?_)]
      · exact e3
      · rcases h with h | h | h
        · have := hlt.2.2.1 g h; omega
        · have := hlt.2.2.2 g h; omega
        · have := hlt.2.1; omega
    have HKY : Hid (s.H.map (·.1) = L) := hL.symm
    have HCL0 : Hid (∀ j (hj : j < L.length), j < 0 → ∀ f, aget s.H L[j] = some f → f.dirty = false) := fun j hj h0 => absurd h0 (Nat.not_lt_zero _)
    have HJ0 : Hid (Wb (fun k => T k ∨ M k ∨ k = b) w2 w2 ∧ (∀ k, T k → T k ∨ w2.heap.size ≤ k) ∧ (∀ k, M k → M k ∨ w2.heap.size ≤ k) ∧ Jn T M w2 p b s d) := ⟨Wb.refl _ _, fun _ h => .inl h, fun _ h => .inl h, HJN.out.up HB2.out⟩
    have HBN2 := Hid.mk' (HBN.out.up HB2.out)
    clear hio hb2 hio2 hat hL c0 c1 c5 cf
    go_wp2_with fail
    go_loopw [25] (fun i wr => ∃ (k : Nat) (s1 : Ps) (d1 : Dm) (T1 M1 : Nat → Prop), k ≤ L.length ∧ i = .int .i64 k ∧ Hid (I s1 d1) ∧ Hid (s1.H.map (·.1) = L) ∧ Hid (∀ j (hj : j < L.length), j < k → ∀ f, aget s1.H L[j] = some f → f.dirty = false) ∧ Hid (Wb (fun k => T k ∨ M k ∨ k = b) w2 wr ∧ (∀ k, T1 k → T k ∨ w2.heap.size ≤ k) ∧ (∀ k, M1 k → M k ∨ w2.heap.size ≤ k) ∧ Jn T1 M1 wr p b s1 d1)) (fun i _ => L.length - (intOf i).toNat)
    case atStart => exact ⟨0, s, d, T, M, by omega, rfl, HI, HKY, HCL0, HJ0⟩
    case round =>
      clear HI HKY HCL0 HJ0
      obtain ⟨k, s1, d1, T1, M1, hk, rfl, HI1, HKY, HCL, HJ1⟩ := hrel
      by_cases hlt : k < L.length
      case pos =>
        have hlt' : (k : Int) < (L.length : Int) := by omega
        obtain ⟨lg, lo, rfl, l0⟩ := HAT.out wr HJ1.out.1 k hlt
        obtain ⟨id, hid⟩ : ∃ id, id = L[k] := ⟨_, rfl⟩
        rw [← hid] at l0
        have hmem : id ∈ s1.H.map (·.1) := by rw [HKY.out, hid]; exact List.getElem_mem hlt
        obtain ⟨D1, Dd1, ms1, mf1, ma1, ff1, nf1, g1, hJ1⟩ := HJ1.out.2.2.2.jx
        obtain ⟨x, hx1, hx2⟩ := List.mem_map.1 hmem
        have hf : aget s1.H id = some x.2 := by rw [← hx2]; exact aget_of_mem hJ1.P.sH hx1
        obtain ⟨f, hff⟩ : ∃ f, f = x.2 := ⟨_, rfl⟩
        rw [← hff] at hf
        have hpb := HVV.out.pb s1 d1 HI1.out
        obtain ⟨sl, hsl⟩ := Option.isSome_iff_exists.1 (hpb.1.ids id (by rw [hf]; rfl))
        obtain ⟨z, hz, hz1, hz2, hvic⟩ := HVV.out.z s1 d1 HI1.out
        have HCN := Hid.mk' (clean_any HJ1.out.2.2.2 hpb.1 hpb.2.1 hf hsl z hz hz1 hz2)
        have HVI := Hid.mk' (hvic id f sl hf hsl)
        have HF := Hid.mk' hf
        have HSH := Hid.mk' hJ1.P.sH
        have HID := Hid.mk' hid
        clear hmem hJ1 hx1 hx2 hf hff hpb hsl hz hz1 hz2 hvic hid
        clear x
        go_wp2_with fail
        refine HCN.out.mono ?_
        rintro e w5 ⟨hq1, hq2⟩
        cases hdy : f.dirty with
        | false =>
          obtain ⟨rfl, rfl⟩ := hq1 hdy
          have HC2 : Hid (∀ j (hj : j < L.length), j < k + 1 → ∀ f, aget s1.H L[j] = some f → f.dirty = false) := fun j hj hjk f' hf' => by
            by_cases e : j = k
            · subst e
              rw [← HID.out, HF.out] at hf'
              cases hf'
              exact hdy
            · exact HCL.out j hj (by omega) f' hf'
          clear hq1 hq2 hdy
          go_wp2_with fail
          go_roundw
          case rel => exact ⟨k + 1, s1, d1, T1, M1, by omega, by go_num, HI1, HKY, HC2, HJ1⟩
          case measure => simp [intOf]; omega
        | true =>
          obtain ⟨n, hSl, rfl, hj1, hj2⟩ := hq2 hdy
          obtain ⟨hv1, hv2⟩ := HVI.out hdy n hSl
          by_cases he : pcE d1 n = 0
          · obtain ⟨hwJ, T5, M5, hT5, hM5, hJN5⟩ := Jp.trans HJ1.out.1 HJ1.out.2.1 HJ1.out.2.2.1 (hj2 he)
            have HJ5 : Hid (Wb (fun k => T k ∨ M k ∨ k = b) w2 w5 ∧ (∀ k, T5 k → T k ∨ w2.heap.size ≤ k) ∧ (∀ k, M5 k → M k ∨ w2.heap.size ≤ k) ∧ Jn T5 M5 w5 p b (pcS s1 id f n) (pcD d1 n f.data)) := ⟨hwJ, hT5, hM5, hJN5⟩
            have HI5 := Hid.mk' (hv1 he)
            have HK5 : Hid ((pcS s1 id f n).H.map (·.1) = L) := by
              show (aput s1.H id _).map (·.1) = L
              rw [aput_keys _ HSH.out _ _ (by rw [HF.out]; rfl)]
              exact HKY.out
            have HC5 : Hid (∀ j (hj : j < L.length), j < k + 1 → ∀ f', aget (pcS s1 id f n).H L[j] = some f' → f'.dirty = false) := fun j hj hjk f' hf' => by
              have hf2 : aget (aput s1.H id { f with dirty := false }) L[j] = some f' := hf'
              rw [aget_put HSH.out] at hf2
              split at hf2
              · cases hf2; rfl
              · next hne =>
                refine HCL.out j hj ?_ f' hf2
                rcases Nat.lt_or_ge j k with h | h
                · exact h
                · obtain rfl : j = k := by omega
                  exact absurd HID.out.symm hne
            rw [he]
            clear hq1 hq2 hdy hSl hj1 hj2 hv1 hv2 he hwJ hT5 hM5 hJN5
            go_wp2_with fail
            go_roundw
            case rel => exact ⟨k + 1, _, _, T5, M5, by omega, by go_num, HI5, HK5, HC5, HJ5⟩
            case measure => simp [intOf]; omega
          · have HJP := Hid.mk' (Jp.back HB2.out (Jp.trans HJ1.out.1 HJ1.out.2.1 HJ1.out.2.2.1 (hj1 he)))
            have HJJ := Hid.mk' (hv2 he)
            have HE := Hid.mk' he
            have he' : ¬ pcE d1 n = 0 := he
            clear hq1 hq2 hdy hSl hj1 hj2 hv1 hv2 he
            generalize pcE d1 n = pe at *
            go_wp2_with fail
            go_ret
            exact ⟨fun h => (by rw [HDD.out] at h; cases h), fun _ => .inl ⟨pe, s1, _, HJJ.out.1, rfl, HJJ.out.2, HJP.out⟩⟩
      case neg =>
        obtain rfl : k = L.length := by omega
        have HCA : Hid (∀ i f, aget s1.H i = some f → f.dirty = false) := fun i f hf => by
          have hm : i ∈ L := by rw [← HKY.out]; exact List.mem_map.2 ⟨_, aget_mem hf, rfl⟩
          obtain ⟨j, hj, e⟩ := List.getElem_of_mem hm
          exact HCL.out j hj hj f (by rw [e]; exact hf)
        obtain ⟨D1, Dd1, ms1, mf1, ma1, ff1, nf1, g1, hJ1⟩ := HJ1.out.2.2.2.jx
        have hpb := HVV.out.pb s1 d1 HI1.out
        have HPB1 := Hid.mk' hpb
        have HX1 := Hid.mk' hJ1
        have HTB := Hid.mk' (table_any hJ1.P hpb.1.S hpb.1.len)
        have HNW : Hid (Bs A wr (.slice va note.length vc) note) := HBN2.out.wb HJ1.out.1 fun k hk hk2 => by
          have h1 := HA.out k hk2
          rcases hk with h | h | h
          · exact h1.2.1 h
          · exact h1.2.2.1 h
          · exact h1.2.2.2 h
        have HNA : Hid (∀ k, A k → k < wr.heap.size) := fun k hk => by
          have h1 := (HA.out k hk).1
          have h2 := HB2.out.size
          have h3 := HJ1.out.1.size
          omega
        have hno : (note.length : Int) ≤ 100000 := by have := HNL.out; omega
        have HTL : Hid ((tabB s1.S).length ≤ 18000) := by have h1 := tabB_len s1.S hpb.1.S; have h2 := hpb.2.2.2.2.1; show _ ≤ _; omega
        clear hJ1 hpb hlt hk
        go_wp2_with fail
        refine HTB.out.mono ?_
        rintro e w3 ⟨v3, rfl, ho3, hb3⟩
        obtain ⟨a3, c3, e3⟩ := own_slice ho3
        subst e3
        obtain ⟨tb, htb⟩ : ∃ tb, tb = tabB s1.S := ⟨_, rfl⟩
        rw [← htb] at ho3 HTL ⊢
        have HTE := Hid.mk' htb
        obtain ⟨W4, hW4⟩ : ∃ W4, W4 = w3.alloc (.cells #[.slice a3 tb.length c3, .slice va note.length vc] 22) := ⟨_, rfl⟩
        have hbs3 : Bs (fun k => k < w3.heap.size) w3 (.slice a3 tb.length c3) tb := ho3.bs (by have := HTL.out; unfold lim; omega)
        have hbn3 : Bs (fun k => k < w3.heap.size) w3 (.slice va note.length vc) note := (HNW.out.up hb3).monoS fun k hk => Nat.lt_of_lt_of_le (HNA.out k hk) hb3.size
        have hbss := bss_two hbs3 hbn3 fun k h => h
        rw [← hW4] at hbss
        have hb4 : Below w3.heap.size w3 W4 := by rw [hW4]; exact up_alloc _ _
        have HB4 := Hid.mk' (bt hb3 hb4)
        have hnm9 : ∀ n : Nat, n < 18446744073709551616 → (nm n).length ≤ 9 := fun n h => nm_len h
        have htx : (txt [tb, note]).length ≤ 119000 := by
          have h1 := HTL.out
          have h2 := HNL.out
          have h3 := hnm9 tb.length (by omega)
          have h4 := hnm9 note.length (by omega)
          simp only [txt, List.map_cons, List.map_nil, List.flatten_cons, List.flatten_nil, List.length_append, List.append_nil]
          omega
        have HPJ := Hid.mk' (pjoin_any hbss (fun k h => h) (by omega) (by simp))
        have HJL : Hid ((jn [tb, note]).length ≤ 119009) := by
          have h3 := hnm9 2 (by omega)
          show (nm 2 ++ txt [tb, note]).length ≤ _
          rw [List.length_append]; omega
        have HW4 := Hid.mk' hW4
        clear ho3 hb3 hb4 hbs3 hbn3 hbss hnm9 htx hW4 htb
        go_wp2_with fail
        rw [← HW4.out]
        refine HPJ.out.mono ?_
        rintro e w5 ⟨v5, rfl, ho5, hb5⟩
        obtain ⟨a5, c5, e5⟩ := own_slice ho5
        subst e5
        have HB5 := Hid.mk' (bt HB4.out hb5)
        have hbj : Bs (Lt w5.heap.size) w5 (.slice a5 (jn [tb, note]).length c5) (jn [tb, note]) := ho5.bs (by have := HJL.out; unfold lim; omega)
        have HWR := Hid.mk' (wrap_any hbj (fun k h => h) (by have := HJL.out; omega))
        clear ho5 hb5 hbj
        go_wp2_with fail
        refine HWR.out.mono ?_
        rintro e w6 ⟨v6, rfl, ho6, hb6⟩
        obtain ⟨a6, c6, e6⟩ := own_slice ho6
        subst e6
        obtain ⟨mb, hmb⟩ : ∃ mb, mb = wrp (jn [tb, note]) := ⟨_, rfl⟩
        rw [← hmb] at ho6 ⊢
        have HMB : Hid (mb = metaB s1.S note) := by show _ = _; rw [hmb, HTE.out]; rfl
        have HML : Hid (mb.length ≤ 1000000) := by have h1 := wrp_len _ (jn [tb, note]) (Nat.le_refl _); have h2 := HJL.out; show _ ≤ _; rw [hmb]; omega
        have HB6 := Hid.mk' (bt HB5.out hb6)
        have HO6 : Hid (Bs (fun k => wr.heap.size ≤ k) w6 (.slice a6 mb.length c6) mb) := ⟨(Row.of_ownB ho6).monoS fun k hk => Nat.le_trans HB5.out.size hk, by have := HML.out; unfold lim; omega⟩
        have hx6 := HX1.out.up HB6.out
        obtain ⟨⟨e0, e1, e2, e3, e4, e5, e6, e7, e8, e9⟩, ef⟩ := hx6.P.cells
        have hp6 := hx6.P.plt
        have hdr := drew_blx w6 w6.heap.size
        have HME := Hid.mk' (meta_any (cell_up e0 hdr) (cell_up e1 hdr))
        have r0 : ∀ q : Kp (fun k => k = b ∨ M1 k) w6, q.nx.cell? ⟨p, 0, none⟩ = some (.pointer (some ⟨b, 0, none⟩)) := fun q => q.cell e0 (fun h => h.elim (fun h => (hx6.tm p hx6.P.tp).2 h) fun h => (hx6.tm p hx6.P.tp).1 h)
        have HX6 := Hid.mk' hx6
        have HRP : Hid (∀ W', Below w6.heap.size w6 W' → Calls Tryz.prog 42 #[.pointer (some ⟨b, 0, none⟩), .string ⟨nmM.toArray⟩, .slice a6 mb.length c6] W' fun E w' => E = .returned (.int .i64 (saR s1 d1 note).1) ∧ Turned M1 Dd1 W' b (saR s1 d1 note).2 w') := fun W' hb => by
          have h1 := HPB1.out
          have hr := replace_any (M := M1) (D := Dd1) (b := b) (d := d1) nmM mb (HX6.out.Dr.below hb) (HO6.out.up hb) (fun k hk => ⟨fun h => by have h2 := (HX1.out.Dr.hM k h).1; have hk : wr.heap.size ≤ k := hk; omega, fun h => by have h2 := HX1.out.Dr.blt; have hk : wr.heap.size ≤ k := hk; omega⟩) (by decide) h1.2.2.1 h1.2.1.tot (by have := HML.out; omega) h1.2.1.room h1.2.1.len (by have := h1.2.2.2.1; omega)
          rw [HMB.out] at hr
          rw [HMB.out]
          exact hr
        clear hb6 ho6 hmb hx6 hdr e0 e1 e2 e3 e4 e5 e6 e7 e8 e9 ef
        go_wp2_with fail
        refine wp_region_mix 9 (fun w' => ∃ q : Kp (fun k => k = b ∨ M1 k) w6, w' = q.nx) (by kernel_rfl) (by kernel_rfl) (kp_first _ w6) ?_
        simp only [List.take_succ_cons, List.take_zero, List.drop_succ_cons, List.drop_zero]
        refine mx_take 6 rfl ?_
        simp only [List.take_succ_cons, List.take_zero, List.drop_succ_cons, List.drop_zero]
        repeat (go_big_quiet_step (fail))
        refine wpQuiet_nil ?_
        refine mx_call (vals := [.pointer (some ⟨p, 0, none⟩)]) Tryz.func30 (by kernel_rfl) rfl rfl (by kernel_rfl) (by kernel_rfl) HME.out (fun e wa ha => ?_)
        obtain ⟨rfl, hba⟩ := ha
        have HBA : Hid (Below w6.heap.size w6 wa) := bt (drew_blx w6 _) hba
        refine ⟨_, rfl, kp_mk HBA.out.size fun k hk _ => HBA.out.block k hk, ?_⟩
        simp only [Act.put, List.setIfInBounds_toArray, List.set_cons_succ, List.set_cons_zero]
        refine mx_take 1 rfl ?_
        simp only [List.take_succ_cons, List.take_zero, List.drop_succ_cons, List.drop_zero]
        repeat (go_big_quiet_step (fail))
        refine wpQuiet_nil ?_
        refine mx_call (vals := [.pointer (some ⟨b, 0, none⟩), .string ⟨nmM.toArray⟩, .slice a6 mb.length c6]) Tryz.func42 (by kernel_rfl) rfl rfl (by kernel_rfl) (by kernel_rfl) (HRP.out wa HBA.out) (fun e wb hb => ?_)
        obtain ⟨rfl, hT⟩ := hb
        have hT1 := hT.1
        have HWB : Hid (Wb (fun k => k = b ∨ M1 k) w6 wb) := (Wb.of_below _ HBA.out).trans hT1
        refine ⟨_, rfl, kp_mk HWB.out.size fun k hk hx => HWB.out.block k hk hx, ?_⟩
        simp only [Act.put, List.setIfInBounds_toArray, List.set_cons_succ, List.set_cons_zero, wpMix]
        obtain ⟨M', D', hM', hwB, hJB⟩ := HX1.out.drive (bt HB6.out HBA.out) hT
        have HM' := Hid.mk' hM'
        have HWX := Hid.mk' hwB
        have HJB := Hid.mk' hJB
        have HJP1 : Hid (Jp T M w p b s1 (saR s1 d1 note).2 wb) := by
          refine Jp.back HB2.out (Jp.trans HJ1.out.1 HJ1.out.2.1 HJ1.out.2.2.1 ?_)
          exact ⟨hwB.mono fun k hk => hk.elim (fun h => .inr (.inr h)) fun h => .inr (.inl h), T1, M', fun k hk => .inl hk, hM', hJB.jn⟩
        have hpb5 := hJB.P.plt
        obtain ⟨⟨e0, e1, e2, e3, e4, e5, e6, e7, e8, e9⟩, ef⟩ := hJB.P.cells
        clear r0 HME HRP hba hT hT1 hM' hwB hJB
        by_cases he : (saR s1 d1 note).1 = 0
        · have HE := Hid.mk' he
          rw [he]
          obtain ⟨mN, hmN⟩ : ∃ mN, mN = wb.heap.size := ⟨_, rfl⟩
          obtain ⟨W14, hW14⟩ : ∃ W14, W14 = (wb.setCell ⟨p, 4, none⟩ (.map (some mN))).alloc (.map #[] 0) := ⟨_, rfl⟩
          have hpl : p < wb.heap.size := hpb5
          have hmkm : (Instr.makeMap 62 none).run Tryz.prog wb = .ok (.map (some mN)) (wb.alloc (.map #[] 0)) := by rw [hmN]; rfl
          have hws := Wb.set (X := fun k => k = p) wb p 4 (.map (some mN)) rfl
          have hal := up_alloc (wb.setCell ⟨p, 4, none⟩ (.map (some mN))) (.map #[] 0)
          have hsz0 : (wb.setCell ⟨p, 4, none⟩ (.map (some mN))).heap.size = wb.heap.size := size_setCell _ _ _
          have hbx0 := heap_setCell_same wb p 4 _ 67 (.map (some mN)) HJB.out.P.bx
          have hbx1 : W14.heap[p]? = some (.cells (pCells b ms1 mN ma1 s1) 67 (0, 0)) := by rw [hW14, hal.block p (by rw [hsz0]; exact hpl), hbx0]; rfl
          have hwA : Wb (fun k => k = p) wb W14 := by rw [hW14]; exact hws.trans (Wb.of_below _ hal)
          have hmade := MapI.made Tryz.prog 3 (wb.setCell ⟨p, 4, none⟩ (.map (some mN)))
          rw [hsz0, ← hmN, ← hW14] at hmade
          have hC0 : CntIs W14 mN (0 + 0) (fun _ => 0) := ⟨fun _ => none, 0, hmade, Nat.le_refl _, fun i => rfl⟩
          have hmsl := HJB.out.P.hT _ HJB.out.P.tS.1
          have hmS14 : MapI Tryz.prog 3 W14 ms1 (sMap s1.S) s1.S.length := HJB.out.P.mS.wb hwA HJB.out.P.tS.2
          obtain ⟨DD, hown, hsz, hT, hf⟩ := hmS14
          have HF := Hid.mk' hf
          have HSS := Hid.mk' HJB.out.P.sS
          have HST : Hid (∀ i, rc s1.S (Maps.has DD) i = cnt s1.S i) := fun i => rc_all (fun a ha => by
            rw [(HF.out a.1).1, sMap_some, aget_of_mem HSS.out (s := a.1) (l := a.2) ha]; rfl) i
          have HSZ : Hid (Maps.size DD ≤ 100000) := by have := HPB1.out.1.len; show _ ≤ _; omega
          have HMS : Hid (ms1 < mN ∧ p < mN) := ⟨by rw [hmN]; exact hmsl, by rw [hmN]; exact hpl⟩
          have g3 : W14.cell? ⟨p, 3, none⟩ = some (.map (some ms1)) := by simp only [World.cell?, hbx1]; rfl
          have g4 : W14.cell? ⟨p, 4, none⟩ = some (.map (some mN)) := by simp only [World.cell?, hbx1]; rfl
          have hp14 : p < W14.heap.size := (Array.getElem?_eq_some_iff.1 hbx1).1
          have HBX := Hid.mk' hbx1
          have HWA := Hid.mk' hwA
          have HW14 := Hid.mk' hW14
          have HMN := Hid.mk' hmN
          have HS := Hid.mk' HPB1.out.1.S
          have HLS := Hid.mk' HPB1.out.1.len
          clear he hbx0 hal hws hmade hmN hsz0 hmsl hsz hT hf hbx1 hwA hW14 e0 e1 e2 e3 e5 e6 e7 e8 e9
          go_upto_region 15 with fail
          rw [← HW14.out]
          clear hmkm
          go_wp2_with (first | (at_range; refine wpList_range_own _ rfl (.tmp 61) 62 rfl 3 3 (Maps.int_keyed Tryz.underlying3) Tryz.underlying62 hR ms1 s1.S.length DD rfl hown ?_; intro w0 hrg0 hg0 hs0) | go_in)
          have hb0 : Below W14.heap.size W14 w0 := ⟨hg0.os, hg0.tape, hg0.output, hg0.size, fun i hi => hg0.block i hi (by simp)⟩
          have HR0 : Hid (CntIs w0 mN (0 + 0) (fun _ => 0)) := hC0.keep (Wb.of_below (fun _ => False) hb0) id
          have hmnl : mN < W14.heap.size := hC0.lt
          have HB0 : Hid (Below mN W14 w0) := hb0.mono (Nat.le_of_lt hmnl)
          have HE0 : Hid (∀ i, 0 + rc s1.S (Maps.has DD) i = cnt s1.S i) := fun i => by rw [HST.out i]; omega
          have HRG := Hid.mk' hrg0
          obtain ⟨r, hr⟩ : ∃ r, r = W14.heap.size := ⟨_, rfl⟩
          have HIT : Hid (mN < r) := by rw [hr]; exact hmnl
          rw [← hr] at HRG ⊢
          clear hC0 hb0 hg0 hs0 hrg0 hown hmnl hr
          go_frame
          go_loopw [11] (fun v wz => ∃ (left : Lit → Bool) (ct k : Nat) (C : Int → Nat), Hid (wz.ranges Tryz.prog 3 hR ms1 r s1.S.length DD left ct) ∧ Hid (CntIs wz mN (0 + k) C) ∧ Hid (∀ i, C i + rc s1.S left i = cnt s1.S i) ∧ Hid (k + ct ≤ 100000) ∧ Hid (Below mN W14 wz)) (fun _ wz => wz.rangeLeft ms1 r)
          case atStart => exact ⟨_, _, 0, _, HRG, HR0, HE0, (show 0 + Maps.size DD ≤ 100000 by have := HSZ.out; omega), HB0⟩
          case round =>
            clear HRG HR0 HE0 HB0
            obtain ⟨left, ct, k, C, HRG, HR, HE2, HK, HB⟩ := hrel
            rename World => wz
            go_wp2_with (first
              | (at_next; refine wpList_next_ranges _ rfl (.tmp 62) rfl 3 (Maps.int_keyed Tryz.underlying3) hR id id (fun key _ _ => ⟨key, rfl⟩) (fun v _ _ => ⟨v, rfl⟩) ms1 r s1.S.length _ _ _ rfl HRG.out ?_ ?_)
              | go_in)
            · intro hc0 hl0
              have HEQ : Hid (∀ i, C i = cnt s1.S i) := fun i => by have := HE2.out i; rw [rc_none hl0] at this; omega
              have HFN : Hid (Jp T M w p b (saS s1) (saR s1 d1 note).2 wz) := by
                obtain ⟨f', k', hm', hk', hc'⟩ := HR.out
                have hsz : W14.heap.size ≤ wz.heap.size := HB.out.size
                have hblk : ∀ i, i < wb.heap.size → ¬ i = p → wz.heap[i]? = wb.heap[i]? := fun i hi hip => by
                  rw [HB.out.block i (by have := HMN.out; omega), HWA.out.block i hi hip]
                have hPz := HJB.out.P.swapF (w' := wz) (mN := mN) (k := k') (f' := f') (c' := fun i => cnt s1.S i) hblk (Nat.le_trans HWA.out.size hsz) (by rw [HB.out.block p HMS.out.2]; exact HBX.out) hm' (fun i => by rw [hc' i, HEQ.out i]) (Nat.le_of_eq HMN.out.symm) HR.out.lt
                have hwA2 := HWA.out
                have hwB2 := HB.out
                have hwz : Wb (fun k => k = p) wb wz := ⟨by first | exact hwA2.os.trans hwB2.os | exact hwB2.os.trans hwA2.os, by first | exact hwA2.tape.trans hwB2.tape | exact hwB2.tape.trans hwA2.tape, by first | exact hwA2.output.trans hwB2.output | exact hwB2.output.trans hwA2.output, Nat.le_trans HWA.out.size hsz, hblk⟩
                refine Jp.back HB2.out (Jp.trans HJ1.out.1 HJ1.out.2.1 HJ1.out.2.2.1 ?_)
                have hDz := HJB.out.Dr.keep hwz fun k hk => by subst hk; exact ⟨(HJB.out.tm _ HJB.out.P.tp).1, fun hd => HJB.out.dd _ hd HJB.out.P.tp, (HJB.out.tm _ HJB.out.P.tp).2⟩
                refine ⟨(HWX.out.mono fun k hk => hk.elim (fun h => .inr (.inr h)) fun h => .inr (.inl h)).trans (hwz.mono fun k hk => by subst hk; exact .inl HX1.out.P.tp), fun j => T1 j ∨ j = mN, M', fun k hk => hk.elim .inl fun h => .inr ?_, HM'.out, ⟨⟨D1, D', ms1, mN, ma1, f', k', g1, hPz, hDz, by have := HK.out; omega, HJB.out.dm, fun k hk h => h.elim (HJB.out.dd k hk) fun e => ?_, HJB.out.xo.up hwz.size⟩, fun k hk => ?_⟩⟩
                · rw [h, HMN.out]; exact HWX.out.size
                · have h1 := (HJB.out.Dr.hD k hk).1; have := HMN.out; omega
                · rcases hk with hk | hk
                  · exact HJB.out.tm k hk
                  · refine ⟨fun h => ?_, fun h => ?_⟩
                    · have h1 := (HJB.out.Dr.hM k h).1; have := HMN.out; omega
                    · have h1 := HJB.out.Dr.blt; have := HMN.out; omega
              clear HE2 hl0 hc0 HRG
              go_wp2_with fail
              go_ret
              exact ⟨fun h => (by rw [HDD.out] at h; cases h), fun _ => .inr ⟨s1, d1, HI1.out, HCA.out, by rw [HE.out]; rfl, fun h => absurd HE.out h, fun _ => HFN.out⟩⟩
            · intro x c kl yd yp w1 cnt1 hkey hlk hv hat hrg1 hlt1 hg1 hs1 hen
              obtain ⟨id, rfl, rfl, hwf⟩ := Maps.keyOf_i64 Tryz.underlying3 hkey
              simp only [hR, Option.some.injEq, Prod.mk.injEq] at hv
              obtain ⟨rfl, rfl⟩ := hv
              have f1 := (HF.out id).2 (.bool true)
              have f2 := (HF.out id).2 (.bool false)
              rw [hat] at f1 f2
              obtain ⟨v, hgv, rfl⟩ : ∃ v, aget s1.S id = some v ∧ c = .int .i64 v := by
                cases hg : aget s1.S id with
                | none =>
                  unfold sMap at f1 f2
                  rw [hg] at f1 f2
                  simp only [Option.map_none, Option.getD_none, DataW.held.injEq] at f1 f2
                  rw [f1] at f2; cases f2
                | some v =>
                  unfold sMap at f1
                  rw [hg] at f1
                  simp only [Option.map_some, Option.getD_some, DataW.held.injEq] at f1
                  exact ⟨v, rfl, f1⟩
              have hbd := HS.out _ (aget_mem hgv)
              simp only at hbd
              have hb1 : Below mN W14 w1 := HB.out.grown hg1 (by have := HR.out.lt; omega) (fun k hk => by cases hk; have := HIT.out; omega)
              have hc1 : CntIs w1 mN (0 + k) C := HR.out.keep (Wb.of_map hg1) (fun e => by have := HIT.out; omega)
              have hwv : Wi v := Wi.of (by omega) (by omega)
              have hlk2 := hc1.look v hwv
              obtain ⟨w9, hr9, hc9, hg9⟩ := hc1.inc v hwv (by have := HK.out; omega)
              have hCb : (C v : Int) ≤ 200000 := by
                have h1 := HE2.out v
                have h3 := cnt_le s1.S v
                have := HLS.out
                omega
              have q4 : w1.cell? ⟨p, 4, none⟩ = some (.map (some mN)) := (World.cell?_of_block (w := W14) (a := ⟨p, 4, none⟩) (hb1.block p HMS.out.2)).trans g4
              have hp1 : p < w1.heap.size := World.block_lt_of_cell? w1 ⟨p, 4, none⟩ q4
              have HR9 : Hid (CntIs w9 mN (0 + (k + 1)) (fun j => C j + if v = j then 1 else 0)) := hc9
              have HRG9 : Hid (w9.ranges Tryz.prog 3 hR ms1 r s1.S.length DD (fun z => left z && !z.sameKey (.int .i64 id)) cnt1) := hrg1.kept hg9 (by simp; have := HMS.out; omega) (by simp; have := HIT.out; omega)
              have HE9 : Hid (∀ i, (C i + if v = i then 1 else 0) + rc s1.S (fun z => left z && !z.sameKey (.int .i64 id)) i = cnt s1.S i) := fun i => by
                have h1 := HE2.out i
                have h2 := rc_step HSS.out hgv hlk i
                omega
              have HB9 : Hid (Below mN W14 w9) := hb1.grown hg9 (Nat.le_of_lt hc1.lt) (fun k hk => by cases hk; exact Nat.le_refl _)
              have HK9 : Hid (k + 1 + cnt1 ≤ 100000) := by have := HK.out; show _ ≤ _; omega
              have HLT : Hid (cnt1 < ct) := hlt1
              have HRG0 := Hid.mk' HRG.out
              clear f1 f2 hat hkey hlk hrg1 hg1 hbd hb1 hc1 hc9 hg9 hgv hlt1
              go_wp2_with fail
              refine ⟨⟨_, cnt1, k + 1, _, HRG9, HR9, HE9, HK9, HB9⟩, ?_⟩
              rw [HRG9.out.left_eq, HRG0.out.left_eq]; exact HLT.out
        · have HE := Hid.mk' he
          generalize hpe : (saR s1 d1 note).1 = pe at *
          have HPE := Hid.mk' hpe
          have he' : ¬ pe = 0 := he
          clear hpe he e0 e1 e2 e3 e4 e5 e6 e7 e8 e9 ef
          go_wp2_with fail
          go_ret
          exact ⟨fun h => (by rw [HDD.out] at h; cases h), fun _ => .inr ⟨s1, d1, HI1.out, HCA.out, by rw [HPE.out]; rfl, fun _ => HJP1.out, fun h => absurd (HPE.out.symm.trans h) HE.out⟩⟩
end Go.Proofs.YtbmhkdcmepfmbaaGreat
set_option linter.unusedVariables false
set_option linter.unusedSimpArgs false
namespace Go.Proofs.YtbmhkdcmepfmbaaGreat
open Go.RowKit
attribute [local go_sem ↓] Go.wp_at_zero Go.wp_at_succ
theorem aget_none_of_lt {α : Type} {F : Al α} {i : Int} (h : ∀ a ∈ F, a.1 < i) : aget F i = none := by
  induction F with
  | nil => rfl
  | cons x r ih =>
    obtain ⟨n, m⟩ := x
    have h1 := h (n, m) (List.mem_cons_self ..)
    rw [aget, if_neg (fun e => by simp only at h1; omega)]
    exact ih fun a ha => h a (List.mem_cons_of_mem _ ha)
/-- the last of a rising list is put -/
theorem aput_last {α : Type} {F : Al α} {i : Int} {a : α} (h : ∀ x ∈ F, x.1 < i) : aput F i a = F ++ [(i, a)] := by
  induction F with
  | nil => rfl
  | cons x r ih =>
    obtain ⟨n, m⟩ := x
    have h1 := h (n, m) (List.mem_cons_self ..)
    simp only at h1
    rw [aput, if_neg (by omega), if_neg (by omega), ih fun y hy => h y (List.mem_cons_of_mem _ hy)]
    rfl
theorem take_put {S : Al Int} (hS : ASrt S) {k : Nat} (hk : k < S.length) : aput (S.take k) S[k].1 S[k].2 = S.take (k + 1) := by
  rw [aput_last, List.take_succ_eq_append_getElem hk]
  intro x hx
  obtain ⟨j, hj, rfl⟩ := List.getElem_of_mem hx
  rw [List.getElem_take]
  rw [List.length_take] at hj
  exact List.pairwise_iff_getElem.1 hS j k (by omega) hk (by omega)
theorem cnt_take {S : Al Int} {k : Nat} (hk : k < S.length) (i : Int) : cnt (S.take (k + 1)) i = cnt (S.take k) i + if S[k].2 = i then 1 else 0 := by
  unfold cnt
  rw [List.take_succ_eq_append_getElem hk, List.filter_append, List.length_append, List.filter_cons]
  split <;> simp_all
theorem tabB_at {S : Al Int} {k : Nat} (hk : k < S.length) : tabB S = tabB (S.take k) ++ (nm S[k].1.toNat ++ (nm (S[k].2 + 1).toNat ++ tabB (S.drop (k + 1)))) := by
  have h : S = S.take k ++ (S[k] :: S.drop (k + 1)) := by rw [← List.drop_eq_getElem_cons hk, List.take_append_drop]
  have e : ∀ (A B : Al Int), tabB (A ++ B) = tabB A ++ tabB B := fun A B => by simp [tabB]
  have e2 : ∀ (x : Int × Int) (B : Al Int), tabB (x :: B) = nm x.1.toNat ++ (nm (x.2 + 1).toNat ++ tabB B) := fun x B => by simp [tabB]
  conv => lhs; rw [h, e, e2]
/-- a pool without pages -/
def s00 (hand : Int) : Ps := ⟨[], fun _ => 0, [], hand, 0, 0, 0, 0⟩
/-- behind some entries -/
def s0k (hand : Int) (S : Al Int) : Ps := ⟨S, fun i => cnt S i, [], hand, 0, 0, 0, 0⟩
section
variable {T D X : Nat → Prop} {w w' : World} {p b : Nat} {s : Ps} {ms mf ma : Nat} {ff : Int → Option Value} {nf : Nat} {g : Int → Nat}
theorem Pi.setFm (h : Pi T D w p b s ms mf ma ff nf g) {k : Nat} {f' : Int → Option Value} {c' : Int → Nat} (hw : Wb (fun k => k = mf) w w') (hm : MapI Tryz.prog 3 w' mf f' k) (hc : ∀ i, (f' i).getD (.int .i64 0) = .int .i64 (c' i)) : Pi T D w' p b { s with c := c' } ms mf ma f' k g :=
  have hX : ∀ k, k = mf → ¬ D k := fun k hk hd => by subst hk; exact (h.hD _ hd).2 h.tF.1
  { bx := by rw [hw.block p (h.hT _ h.tp) fun e => h.tF.2 e.symm]; exact h.bx
    sS := h.sS
    sH := h.sH
    mS := h.mS.wb hw h.ne.1
    mF := hm
    mH := h.mH.wb hw fun e => h.ne.2.2 e.symm
    cF := hc
    fr := fun i f hf => ⟨(h.fr i f hf).1.keep hw hX (fun e => by
      obtain ⟨v, h1, _⟩ := (h.fr i f hf).1
      obtain ⟨es, c, h2⟩ := h.mF.is
      rw [e, h2] at h1
      cases h1), (h.fr i f hf).2⟩
    inj := h.inj
    tp := h.tp
    tS := h.tS
    tF := h.tF
    tH := h.tH
    ne := h.ne
    hT := fun k hk => Nat.lt_of_lt_of_le (h.hT k hk) hw.size
    hD := fun k hk => ⟨Nat.lt_of_lt_of_le (h.hD k hk).1 hw.size, (h.hD k hk).2⟩ }
end
theorem Jx.pool2 [Xcl] {T D M Dd : Nat → Prop} {w w' : World} {p b : Nat} {s s' : Ps} {d : Dm} {ms mf ma ms' mf' ma' : Nat} {ff ff' : Int → Option Value} {nf nf' : Nat} {g g' : Int → Nat} (h : Jx T D M Dd w p b s d ms mf ma ff nf g) (hw : Wb T w w') (hP : Pi T D w' p b s' ms' mf' ma' ff' nf' g') (hn : nf' ≤ 100000) : Jx T D M Dd w' p b s' d ms' mf' ma' ff' nf' g' :=
  { P := hP, Dr := h.Dr.keep hw fun k hk => ⟨(h.tm k hk).1, fun hd => h.dd k hd hk, (h.tm k hk).2⟩, nf := hn, dm := h.dm, dd := h.dd, tm := h.tm, xo := h.xo.up hw.size }
theorem Jx.cnt [Xcl] {T D M Dd : Nat → Prop} {w : World} {p b : Nat} {s : Ps} {d : Dm} {ms mf ma : Nat} {ff : Int → Option Value} {nf : Nat} {g : Int → Nat} (h : Jx T D M Dd w p b s d ms mf ma ff nf g) : CntIs w mf nf s.c := ⟨ff, nf, h.P.mF, Nat.le_refl _, h.P.cF⟩
set_option maxRecDepth 100000 in
set_option maxHeartbeats 8000000 in
theorem load_any [Xcl] {T D M Dd A : Nat → Prop} {w : World} {p b : Nat} {d : Dm} {ms mf ma : Nat} {ff : Int → Option Value} {nf : Nat} {g : Int → Nat} {hand : Int} (hJ : Jx T D M Dd w p b (s00 hand) d ms mf ma ff nf g) (hnf : nf = 0) {v : Value} {S : Al Int} {note : By} (hv : Bs A w v (metaB S note)) (hS : Sbd S) (hSs : ASrt S) (hl : S.length ≤ 1000) (hnl : note.length ≤ 100000) (hdd : d.dead = false) (htt : tot d.seen ≤ 100000000) (hsz : ∀ x ∈ S, (x.2 + 1) * 512 ≤ ((foz d.seen nmP).length : Int)) :
    Calls Tryz.prog 31 #[.pointer (some ⟨p, 0, none⟩), v] w fun e w' => ∃ v' ff' nf', e = .returned (.tuple #[v', .bool true]) ∧ Jx T D M Dd w' p b (s0k hand S) d ms mf ma ff' nf' g ∧ Ob 5 w.heap.size w' v' note ∧ Wb (fun k => k = ms ∨ k = mf) w w' := by
  obtain ⟨va, vc, rfl, _⟩ := hv.at
  have HTL := tabB_len S hS
  have htl : (tabB S).length ≤ 18000 := by omega
  have hjl : (jn [tabB S, note]).length ≤ 119009 := by
    have h3 := nm_len (n := (tabB S).length) (by omega)
    have h4 := nm_len (n := note.length) (by omega)
    have h5 := nm_len (n := 2) (by omega)
    show (nm 2 ++ txt [tabB S, note]).length ≤ _
    simp only [txt, List.map_cons, List.map_nil, List.flatten_cons, List.flatten_nil, List.length_append, List.append_nil]
    omega
  have HUW := Hid.mk' (unwrap_any (l := jn [tabB S, note]) hv (by omega))
  have HJ0 := Hid.mk' hJ
  have HNF := Hid.mk' hnf
  have HS := Hid.mk' hS
  have HSS := Hid.mk' hSs
  have HLS := Hid.mk' hl
  have HNL := Hid.mk' hnl
  have HDD := Hid.mk' hdd
  have HTT := Hid.mk' htt
  have HSZ := Hid.mk' hsz
  have HJL := Hid.mk' hjl
  have HTB := Hid.mk' htl
  clear hJ hnf hv hS hSs hl hnl hdd htt hsz hjl htl HTL
  go_enter Tryz.func31, Tryz.ntmps31
  go_wp2_with fail
  refine HUW.out.mono ?_
  rintro e w1 ⟨v1, rfl, ho1, hb1⟩
  obtain ⟨a1, c1', e1⟩ := own_slice ho1
  subst e1
  have HB1 := Hid.mk' hb1
  have HSP := Hid.mk' (split_any (ls := [tabB S, note]) (ho1.bs (by have := HJL.out; unfold lim; omega)) (by simp) (fun x hx => by
    rcases List.mem_cons.1 hx with rfl | hx
    · have := HTB.out; unfold lim; omega
    · rcases List.mem_cons.1 hx with rfl | hx
      · have := HNL.out; unfold lim; omega
      · cases hx))
  clear ho1 hb1
  go_wp2_with fail
  refine HSP.out.mono ?_
  rintro e w2 ⟨v2, vs, rfl, ho2, he2, hb2⟩
  have hvl : vs.length = 2 := he2.1
  match vs, hvl with
  | [u0, u1], _ =>
  have hu0 : Ob 5 w1.heap.size w2 u0 (tabB S) := he2.2 0 (by simp) (by simp)
  have hu1 : Ob 5 w1.heap.size w2 u1 note := he2.2 1 (by simp) (by simp)
  obtain ⟨a2, c2', e2⟩ := own_sliceN ho2
  subst e2
  obtain ⟨_, a', c', e', _, _, H⟩ := Row.of_ownB ho2
  cases e'
  obtain ⟨rg, ro, hr0, hrB, k0⟩ := H 0 u0 rfl
  subst hr0
  obtain ⟨rg', ro', hr1, _, k1⟩ := H 1 u1 rfl
  cases hr1
  obtain ⟨x0, y0, e0⟩ := own_slice hu0
  subst e0
  obtain ⟨x1, y1, e1⟩ := own_slice hu1
  subst e1
  have HB2 := Hid.mk' (bt HB1.out hb2)
  have HX2 := Hid.mk' (HJ0.out.up HB2.out)
  have HU0 := Hid.mk' hu0
  have HU1 : Hid (Ob 5 w.heap.size w2 (.slice x1 note.length y1) note) := own_mono hu1 HB1.out.size
  have HRG : Hid (w.heap.size ≤ rg ∧ w2.cell? ⟨rg, ro + 0, none⟩ = some (.slice x0 (tabB S).length y0) ∧ w2.cell? ⟨rg, ro + 1, none⟩ = some (.slice x1 note.length y1)) := ⟨Nat.le_trans HB1.out.size hrB, k0, k1⟩
  obtain ⟨⟨e0, e1, e2, e3, e4, e5, e6, e7, e8, e9⟩, ef⟩ := HX2.out.P.cells
  have hp2 := HX2.out.P.plt
  have r0 : ∀ q : Kp (fun _ => False) w2, q.nx.cell? ⟨p, 0, none⟩ = some (.pointer (some ⟨b, 0, none⟩)) := fun q => q.cell e0 (fun h => h)
  have hdr := drew_blx w2 w2.heap.size
  have HFL := Hid.mk' (file_any (cell_up e0 hdr) (cell_up e1 hdr))
  have HSI : Hid (∀ W', Below w2.heap.size w2 W' → Calls Tryz.prog 59 #[.pointer (some ⟨b, 0, none⟩), .string ⟨nmP.toArray⟩] W' fun E w' => E = .returned (.int .i64 (szD d nmP)) ∧ W' = w') := fun W' hb => size_any nmP (HX2.out.Dr.below hb) (by decide)
  have hszd : szD d nmP = ((foz d.seen nmP).length : Int) := by unfold szD; rw [HDD.out]; rfl
  rw [hszd] at HSI
  have hfl : ((foz d.seen nmP).length : Int) ≤ 100000000 := by have h1 := foz_le d.seen nmP; have := HTT.out; omega
  have htbi : ((tabB S).length : Int) ≤ 18000 := by have := HTB.out; omega
  obtain ⟨fl, hfle⟩ : ∃ fl, fl = (foz d.seen nmP).length := ⟨_, rfl⟩
  rw [← hfle] at HSI hfl HSZ
  clear ho2 he2 hb2 hvl hu0 hu1 hrB k0 k1 H hdr hszd hfle e0 e1 e2 e5 e6 e7 e8 e9
  go_wp2_with fail
  refine wp_region_mix 9 (fun w' => ∃ q : Kp (fun _ => False) w2, w' = q.nx) (by kernel_rfl) (by kernel_rfl) (kp_first _ w2) ?_
  simp only [List.take_succ_cons, List.take_zero, List.drop_succ_cons, List.drop_zero]
  refine mx_take 6 rfl ?_
  simp only [List.take_succ_cons, List.take_zero, List.drop_succ_cons, List.drop_zero]
  repeat (go_big_quiet_step (fail))
  refine wpQuiet_nil ?_
  refine mx_call (vals := [.pointer (some ⟨p, 0, none⟩)]) Tryz.func44 (by kernel_rfl) rfl rfl (by kernel_rfl) (by kernel_rfl) HFL.out (fun e wa ha => ?_)
  obtain ⟨rfl, hba⟩ := ha
  have HBA : Hid (Below w2.heap.size w2 wa) := bt (drew_blx w2 _) hba
  refine ⟨_, rfl, kp_mk HBA.out.size fun k hk _ => HBA.out.block k hk, ?_⟩
  simp only [Act.put, List.setIfInBounds_toArray, List.set_cons_succ, List.set_cons_zero]
  refine mx_call (vals := [.pointer (some ⟨b, 0, none⟩), .string ⟨nmP.toArray⟩]) Tryz.func59 (by kernel_rfl) rfl rfl (by kernel_rfl) (by kernel_rfl) (HSI.out wa HBA.out) (fun e wb hb => ?_)
  obtain ⟨rfl, hwb⟩ := hb
  obtain rfl : wa = wb := hwb
  refine ⟨_, rfl, kp_mk HBA.out.size fun k hk _ => HBA.out.block k hk, ?_⟩
  simp only [Act.put, List.setIfInBounds_toArray, List.set_cons_succ, List.set_cons_zero]
  refine mx_take 1 rfl ?_
  simp only [List.take_succ_cons, List.take_zero, List.drop_succ_cons, List.drop_zero]
  repeat (go_big_quiet_step (fail))
  refine wpQuiet_nil ?_
  simp only [wpMix]
  clear r0 HFL HSI hba e3 e4 ef
  have hq1 : (0 : Int) ≤ (fl : Int) / 512 := by omega
  have hq2 : (fl : Int) / 512 ≤ 100000000 := by omega
  have HWA : Hid (Wb (fun k => k = ms ∨ k = mf) wa wa) := Wb.refl _ _
  have hXA := HX2.out.up HBA.out
  have HX0 : Hid (∃ ff' nf', Jx T D M Dd wa p b (s0k hand (S.take 0)) d ms mf ma ff' nf' g ∧ nf' ≤ 0) := ⟨ff, nf, hXA, Nat.le_of_eq HNF.out⟩
  have HBW := Hid.mk' (bt HB2.out HBA.out)
  have HGT : Hid (∀ wr, Wb (fun k => k = ms ∨ k = mf) wa wr → wr.cell? ⟨rg, ro, none⟩ = some (.slice x0 (tabB S).length y0) ∧ wr.cell? ⟨rg, ro + 1, none⟩ = some (.slice x1 note.length y1) ∧ Bs (fun k => ¬ T k) wr (.slice x0 (tabB S).length y0) (tabB S)) := fun wr hw => by
    have hT1 : ∀ k, w.heap.size ≤ k → ¬ T k := fun k hk h => by have := HJ0.out.P.hT k h; omega
    have hne : ¬ (rg = ms ∨ rg = mf) := fun h => by
      rcases h with h | h
      · exact hT1 rg HRG.out.1 (by rw [h]; exact HJ0.out.P.tS.1)
      · exact hT1 rg HRG.out.1 (by rw [h]; exact HJ0.out.P.tF.1)
    have hrl : rg < wa.heap.size := by have h1 := World.block_lt_of_cell? w2 _ HRG.out.2.1; have := HBA.out.size; exact Nat.lt_of_lt_of_le h1 this
    have hcc : ∀ o, wr.cell? ⟨rg, o, none⟩ = wa.cell? ⟨rg, o, none⟩ := fun o => World.cell?_of_block (w := wa) (a := ⟨rg, o, none⟩) (hw.block rg hrl hne)
    refine ⟨by rw [hcc]; exact cell_up HRG.out.2.1 HBA.out, by rw [hcc]; exact cell_up HRG.out.2.2 HBA.out, ?_⟩
    have h1 : Bs (fun k => w1.heap.size ≤ k) w2 (.slice x0 (tabB S).length y0) (tabB S) := ⟨Row.of_ownB HU0.out, by have := HTB.out; unfold lim; omega⟩
    have h2 : Bs (fun k => ¬ T k) wa (.slice x0 (tabB S).length y0) (tabB S) := (h1.up HBA.out).monoS fun k hk => hT1 k (Nat.le_trans HB1.out.size hk)
    exact h2.wb hw fun k hk hk2 => by
      rcases hk with h | h
      · exact hk2 (by rw [h]; exact HJ0.out.P.tS.1)
      · exact hk2 (by rw [h]; exact HJ0.out.P.tF.1)
  clear hXA
  go_wp2_with fail
  go_loopw [10] (fun a wr => ∃ k : Nat, k ≤ S.length ∧ a = .int .i64 ((tabB (S.take k)).length : Nat) ∧ Hid (∃ ff' nf', Jx T D M Dd wr p b (s0k hand (S.take k)) d ms mf ma ff' nf' g ∧ nf' ≤ k) ∧ Hid (Wb (fun k => k = ms ∨ k = mf) wa wr)) (fun a _ => (tabB S).length - (intOf a).toNat)
  case atStart => exact ⟨0, Nat.zero_le _, rfl, HX0, HWA⟩
  case round =>
    clear HX0 HWA
    obtain ⟨k, hk, rfl, HX, HW⟩ := hrel
    obtain ⟨g0, g1, hbsT⟩ := HGT.out _ HW.out
    have HBT := Hid.mk' hbsT
    have hrgl : rg < wr.heap.size := World.block_lt_of_cell? wr _ g0
    obtain ⟨ff', nf', hX, hnf'⟩ := HX.out
    have HXX := Hid.mk' hX
    by_cases hlt : k < S.length
    case neg =>
      obtain rfl : k = S.length := by omega
      rw [List.take_length] at HXX ⊢
      have hni : ((note.length : Nat) : Int) ≤ 100000 := by have := HNL.out; omega
      have HFIN : Hid (Ob 5 w.heap.size wr (.slice x1 note.length y1) note ∧ Wb (fun k => k = ms ∨ k = mf) w wr) := by
        refine ⟨?_, (Wb.of_below _ HBW.out).trans HW.out⟩
        refine own_wb (HU1.out.keep HBA.out (Nat.le_refl _)) HW.out fun j hj e => ?_
        have h1 := (HU1.out.lt j e.symm).1
        rcases hj with h | h
        · have := HJ0.out.P.hT _ HJ0.out.P.tS.1; omega
        · have := HJ0.out.P.hT _ HJ0.out.P.tF.1; omega
      clear hX hnf' hbsT
      go_wp2_with fail
      go_ret2
      exact ⟨_, ff', nf', rfl, HXX.out, HFIN.out.1, HFIN.out.2⟩
    obtain ⟨x, hxe⟩ : ∃ x, x = S[k] := ⟨_, rfl⟩
    have hx := HS.out _ (List.getElem_mem hlt)
    have hxs := HSZ.out _ (List.getElem_mem hlt)
    have htat := tabB_at hlt
    have htak := tabB_take hlt
    have htp := take_put HSS.out hlt
    have hct := fun i => cnt_take hlt i
    rw [← hxe] at hx hxs htat htak htp
    obtain ⟨id, sl⟩ := x
    simp only at hx hxs htat htak htp
    have hsl2 : S[k].2 = sl := by rw [← hxe]
    rw [hsl2] at hct
    obtain ⟨z1, hz1⟩ : ∃ z1 : Nat, z1 = id.toNat := ⟨_, rfl⟩
    obtain ⟨z2, hz2⟩ : ∃ z2 : Nat, z2 = (sl + 1).toNat := ⟨_, rfl⟩
    rw [← hz1, ← hz2] at htat htak
    obtain rfl : id = (z1 : Int) := by omega
    obtain rfl : sl = (z2 : Int) - 1 := by omega
    have hb1 : (z1 : Int) < 65536 := by omega
    have hb2 : (z2 : Int) ≤ 1000001 := by omega
    have hge : ¬ (65536 : Int) ≤ (z1 : Int) := by omega
    have hcmp : ¬ ((fl : Int) / 512 < (z2 : Int)) := by omega
    obtain ⟨q, hqe⟩ : ∃ q, q = tabB (S.take k) := ⟨_, rfl⟩
    obtain ⟨rest, hre⟩ : ∃ rest, rest = tabB (S.drop (k + 1)) := ⟨_, rfl⟩
    rw [← hqe] at htat htak ⊢
    rw [← hre] at htat
    have hT1 : tkP (tabB S) q.length = (z1, q.length + (nm z1).length, 0) := by rw [htat]; exact tk_nm q _ (by omega)
    have hT2 : tkP (tabB S) (q.length + (nm z1).length) = (z2, q.length + (nm z1).length + (nm z2).length, 0) := by
      have e : tabB S = (q ++ nm z1) ++ (nm z2 ++ rest) := by rw [htat]; simp
      have := tk_nm (q ++ nm z1) rest (n := z2) (by omega)
      rw [List.length_append] at this
      rw [e]; exact this
    have hql : q.length + (nm z1).length + (nm z2).length + rest.length = (tabB S).length := by rw [htat]; simp only [List.length_append]; omega
    have HNX : Hid ((tabB (S.take (k + 1))).length = q.length + (nm z1).length + (nm z2).length) := by show _ = _; rw [htak]; simp only [List.length_append]
    have hp1 := nm_pos z1
    obtain ⟨n1, hn1⟩ : ∃ n1, n1 = q.length + (nm z1).length := ⟨_, rfl⟩
    obtain ⟨n2, hn2⟩ : ∃ n2, n2 = n1 + (nm z2).length := ⟨_, rfl⟩
    rw [← hn1] at hT1 hT2 HNX hql
    rw [← hn2] at hT2 HNX hql
    have HN12 : Hid (q.length < n1 ∧ n1 < n2) := ⟨by omega, by have := nm_pos z2; omega⟩
    have hn2i : (n2 : Int) ≤ 18000 := by omega
    have hn1i : (n1 : Int) ≤ 18000 := by omega
    have HTA := Hid.mk' (take_any hbsT q.length (by have := HTB.out; unfold lim; omega))
    have HTC := Hid.mk' (take_any hbsT n1 (by have := HTB.out; unfold lim; omega))
    rw [hT1] at HTA
    rw [hT2] at HTC
    have hwi : Wi (z1 : Int) := Wi.of (by omega) (by omega)
    have hws : Wi ((z2 : Int) - 1) := Wi.of (by omega) (by omega)
    obtain ⟨⟨f0, f1, f2, f3, f4, f5, f6, f7, f8, f9⟩, f10⟩ := hX.P.cells
    have hpr := hX.P.plt
    obtain ⟨w8, hr8, hm8, hg8⟩ := hX.P.mS.store Tryz.underlying3 Tryz.underlying62 z1 hwi (.int .i64 ((z2 : Int) - 1)) (by
      have h1 : (s0k hand (S.take k)).S.length ≤ S.length := List.length_take_le' _ _
      have h2 := HLS.out
      unfold maxLen; omega)
    have hput : sMap (aput (S.take k) z1 ((z2 : Int) - 1)) = sMap (S.take (k + 1)) := by rw [htp]
    have hsr : ASrt (s0k hand (S.take k)).S := hX.P.sS
    rw [sMap_some, sMap_put _ hsr] at hm8
    have hP8 := hX.P.setS (S' := S.take (k + 1)) (Wb.of_map hg8) (by
      have e1 := len_aput (S.take k) hsr (z1 : Int) ((z2 : Int) - 1)
      have e2 : (aput (S.take k) (z1 : Int) ((z2 : Int) - 1)).length = (S.take (k + 1)).length := by rw [htp]
      have h9 := hm8
      show MapI Tryz.prog 3 w8 ms (sMap (S.take (k + 1))) (S.take (k + 1)).length
      rw [← hput, ← e2, e1]
      exact h9) (by rw [← htp]; exact hsr.put _ _)
    have hwT8 : Wb T wr w8 := (Wb.of_map hg8).mono fun k hk => by subst hk; exact hX.P.tS.1
    have hX8 := hX.pool hwT8 hP8
    obtain ⟨⟨d0, d1, d2, d3, d4, d5, d6, d7, d8, d9⟩, d10⟩ := hP8.cells
    have hp8 := hP8.plt
    have hc8 : CntIs w8 mf nf' (fun i => cnt (S.take k) i) := hX8.cnt
    have hlk8 := hc8.look ((z2 : Int) - 1) hws
    obtain ⟨w9, hr9, hc9, hg9⟩ := hc8.inc ((z2 : Int) - 1) hws (by have := HLS.out; omega)
    have hcb : ((cnt (S.take k) ((z2 : Int) - 1) : Nat) : Int) ≤ 1000 := by
      have h1 := cnt_le (S.take k) ((z2 : Int) - 1)
      have h2 : (S.take k).length ≤ S.length := List.length_take_le' _ _
      have h3 := HLS.out
      omega
    obtain ⟨fN, kN, hmN, hkN, hcN⟩ := hc9
    have hP9 := hP8.setFm (w' := w9) (c' := fun i => cnt (S.take (k + 1)) i) (Wb.of_map hg9) hmN fun i => by rw [hcN i]; simp only [hct i]
    have hwT9 : Wb T w8 w9 := (Wb.of_map hg9).mono fun k hk => by subst hk; exact hX.P.tF.1
    have HX9 : Hid (∃ ff' nf', Jx T D M Dd w9 p b (s0k hand (S.take (k + 1))) d ms mf ma ff' nf' g ∧ nf' ≤ k + 1) := ⟨fN, kN, hX8.pool2 hwT9 hP9 (by have := HLS.out; omega), by omega⟩
    have HW9 : Hid (Wb (fun k => k = ms ∨ k = mf) wa w9) := (HW.out.trans ((Wb.of_map hg8).mono fun k hk => .inl hk)).trans ((Wb.of_map hg9).mono fun k hk => .inr hk)
    have hqi1 : (q.length : Int) < ((tabB S).length : Int) := by omega
    have hg8' : w8.cell? ⟨rg, ro, none⟩ = some (.slice x0 (tabB S).length y0) := (HGT.out _ (HW.out.trans ((Wb.of_map hg8).mono fun k hk => .inl hk))).1
    have HHQ := Hid.mk' hql
    have HPO := Hid.mk' hp1
    clear hn1 hn2 hX hnf' hbsT hxe hx hxs htat htak htp hct hsl2 hz1 hz2 hqe hre hT1 hT2 hm8 hput hsr hP8 hwT8 hX8 hc8 hmN hkN hcN hP9 hwT9 hg8 hg9 f0 f1 f2 f5 f6 f7 f8 f9 d0 d1 d2 d5 d6 d7 d8 d9 hql hp1 g1
    have hgd : decide ((65536 : Int) ≤ (z1 : Int)) = false := by simpa using hb1
    have hgn : ¬ 65536 ≤ z1 := by omega
    have hgc : decide ((fl : Int) / 512 < (z2 : Int)) = false := by simpa using hcmp
    clear hb1 hge
    unfold tkV at HTA HTC
    simp only at HTA HTC
    go_wp2_with fail
    refine HTA.out.mono ?_
    rintro e w5 ⟨rfl, hww⟩
    obtain rfl : wr = w5 := hww
    go_wp2_with fail
    refine HTC.out.mono ?_
    rintro e w5 ⟨rfl, hww⟩
    obtain rfl : wr = w5 := hww
    go_wp2_with fail
    refine ⟨⟨k + 1, by omega, by rw [HNX.out], HX9, HW9⟩, ?_⟩
    have h1 := HN12.out
    have h2 := HHQ.out
    simp only [intOf, Int.toNat_natCast]
    omega
end Go.Proofs.YtbmhkdcmepfmbaaGreat
