/- slices.IndexFunc, slices.ContainsFunc at ranges by a closure with one variable; clashes and its closures. -/
import Derived.Test.YteejlmeinndlhaaLD
import Derived.Test.YteejlmeinndlhaaLV
set_option linter.unusedVariables false
set_option linter.unusedSimpArgs false
namespace Go.Proofs.Yteejlmeinndlhaa
open Go.RowKit
attribute [local go_sem ↓] Go.wp_at_zero Go.wp_at_succ
/-- a range in a box -/
def BoxR (A : Nat → Prop) (w : World) (b : Nat) (r : Rg) : Prop := ∃ fa fc ta tc, (w.cell? ⟨b, 0, none⟩ = some (.slice fa r.lo.length fc) ∧ w.cell? ⟨b, 1, none⟩ = some (.slice ta r.hi.length tc) ∧ w.cell? ⟨b, 2, none⟩ = some (.bool r.xc)) ∧ Bs A w (.slice fa r.lo.length fc) r.lo ∧ Bs A w (.slice ta r.hi.length tc) r.hi
theorem cell_up {w w' : World} {b o : Nat} {v : Value} (h : w.cell? ⟨b, o, none⟩ = some v) (hb : Below w.heap.size w w') : w'.cell? ⟨b, o, none⟩ = some v :=
  (World.cell?_of_block (w := w) (a := ⟨b, o, none⟩) (hb.block b (World.block_lt_of_cell? w ⟨b, o, none⟩ h))).trans h
theorem BoxR.up {A : Nat → Prop} {w w' : World} {b : Nat} {r : Rg} (h : BoxR A w b r) (hb : Below w.heap.size w w') : BoxR A w' b r := by
  obtain ⟨fa, fc, ta, tc, ⟨h0, h1, h2⟩, h3, h4⟩ := h
  exact ⟨fa, fc, ta, tc, ⟨cell_up h0 hb, cell_up h1 hb, cell_up h2 hb⟩, h3.up hb, h4.up hb⟩
theorem boxr_new {A : Nat → Prop} {w : World} {fa ta : Option Addr} {fc tc : Nat} {r : Rg} (h1 : Bs A w (.slice fa r.lo.length fc) r.lo) (h2 : Bs A w (.slice ta r.hi.length tc) r.hi) : BoxR A (w.alloc (.cells #[.slice fa r.lo.length fc, .slice ta r.hi.length tc, .bool r.xc] 24)) w.heap.size r :=
  ⟨fa, fc, ta, tc, box3 (heap_alloc_new w _), h1.up (up_alloc w _), h2.up (up_alloc w _)⟩
def PrG (A : Nat → Prop) (w : World) (f : Nat) (bx : Nat) (p : Rg → Bool) : Prop := ∀ wz, Below w.heap.size w wz → ∀ u r, RgIs A wz u r → Calls Try.prog f #[u, .pointer (some ⟨bx, 0, none⟩)] wz fun e w' => e = .returned (.bool (p r)) ∧ Below wz.heap.size wz w'
set_option maxHeartbeats 1000000 in
theorem ix_59 {A : Nat → Prop} {w : World} {v : Value} {l : List Rg} {bx : Nat} {p : Rg → Bool} (h : Rgs A w v l) (hp : PrG A w 59 bx p) :
    Calls Try.prog 60 #[v, .func (.func 59) #[] #[.pointer (some ⟨bx, 0, none⟩)]] w fun e w' => (∃ k : Int, e = .returned (.int .i64 k) ∧ Hid (decide (0 ≤ k) = l.any p)) ∧ Below w.heap.size w w' := by
  obtain ⟨a, c, rfl, hc, _, hz, H⟩ := h.at
  have H := Hid.mk' H
  have HP := Hid.mk' hp
  have hlz : (l.length : Int) ≤ 140737488351232 := by unfold lim at hz; omega
  clear h hp hz
  go_enter Try.func60, Try.ntmps60
  go_wp2_with fail
  go_loopw [8] (fun i wr => ∃ k : Nat, k ≤ l.length ∧ i = .int .i64 k ∧ Hid (l.any p = (l.drop k).any p) ∧ Hid (Below w.heap.size w wr)) (fun i _ => l.length - (intOf i).toNat)
  case atStart => exact ⟨0, by omega, rfl, rfl, Below.refl _ _⟩
  case round =>
    obtain ⟨k, hk, rfl, HF, HB⟩ := hrel
    by_cases hlt : k < l.length
    · have hlt' : (k : Int) < (l.length : Int) := by omega
      obtain ⟨b, o, fa, fc, ta, tc, rfl, _, ⟨c0, c1, c2⟩, h3, h4⟩ := H.out k hlt
      have c0 := cell_up c0 HB.out
      have c1 := cell_up c1 HB.out
      have c2 := cell_up c2 HB.out
      have HC := Hid.mk' (HP.out wr HB.out _ l[k] ⟨_, _, rfl, h3.up HB.out, h4.up HB.out⟩)
      have HD : Hid (l.any p = (p l[k] || (l.drop (k + 1)).any p)) := by show _ = _; rw [HF.out, List.drop_eq_getElem_cons hlt, List.any_cons]
      clear h3 h4 HF
      generalize l[k].lo.length = n at *
      generalize l[k].hi.length = m at *
      generalize l[k].xc = xc at *
      generalize p l[k] = d at *
      cases d with
      | true =>
        have HR : Hid (decide ((0 : Int) ≤ (k : Int)) = l.any p) := by show _ = _; rw [HD.out, decide_eq_true (by omega)]; rfl
        go_wp2_with fail
        refine HC.out.mono ?_
        rintro e w' ⟨rfl, hb⟩
        have HB2 := Hid.mk' (bt HB.out hb)
        clear hb
        go_wp2_with fail
        go_ret
        exact ⟨⟨_, rfl, HR⟩, HB2.out⟩
      | false =>
        have HT2 : Hid (l.any p = (l.drop (k + 1)).any p) := by show _ = _; rw [HD.out]; rfl
        go_wp2_with fail
        refine HC.out.mono ?_
        rintro e w' ⟨rfl, hb⟩
        have HB2 := Hid.mk' (bt HB.out hb)
        clear hb
        go_wp2_with fail
        go_roundw
        case rel => exact ⟨k + 1, by omega, by go_num, HT2, HB2⟩
        case measure => simp [intOf]; omega
    · obtain rfl : k = l.length := by omega
      have HR : Hid (decide ((0 : Int) ≤ (-1 : Int)) = l.any p) := by show _ = _; rw [HF.out, List.drop_length]; rfl
      go_wp2_with fail
      go_ret
      exact ⟨⟨_, rfl, HR⟩, HB.out⟩
theorem has_59 {A : Nat → Prop} {w : World} {v : Value} {l : List Rg} {bx : Nat} {p : Rg → Bool} (h : Rgs A w v l) (hp : PrG A w 59 bx p) :
    Calls Try.prog 47 #[v, .func (.func 59) #[] #[.pointer (some ⟨bx, 0, none⟩)]] w fun e w' => e = .returned (.bool (l.any p)) ∧ Below w.heap.size w w' := by
  have HI := Hid.mk' (ix_59 h hp)
  obtain ⟨a, c, rfl, hc, _, hz, H⟩ := h.at
  clear h hp H
  go_enter Try.func47, Try.ntmps47
  go_wp2_with fail
  refine HI.out.mono ?_
  rintro e w' ⟨⟨k, rfl, HK⟩, hb⟩
  have HB := Hid.mk' hb
  clear hb HI
  go_wp2_with fail
  go_ret
  exact ⟨by rw [← HK.out] <;> rfl, HB.out⟩
set_option maxHeartbeats 1000000 in
/-- the inner closure of clashes -/
theorem c59 {A A' : Nat → Prop} {w : World} {bx : Nat} {a b : Rg} {u : Value} (h : BoxR A w bx a) (h' : RgIs A' w u b) : Calls Try.prog 59 #[u, .pointer (some ⟨bx, 0, none⟩)] w fun e w' => e = .returned (.bool (clhB a b)) ∧ Below w.heap.size w w' := by
  obtain ⟨fa, fc, ta, tc, ⟨h0, h1, h2⟩, h3, h4⟩ := h
  obtain ⟨ga, gc, sa, sc, rfl, h5, h6⟩ := h'.form
  have hw : ∀ W, W = w.alloc (.cells #[.slice ga b.lo.length gc, .slice sa b.hi.length sc, .bool b.xc] 24) → (Below w.heap.size w W ∧ (W.cell? ⟨bx, 0, none⟩ = some (.slice fa a.lo.length fc) ∧ W.cell? ⟨bx, 1, none⟩ = some (.slice ta a.hi.length tc) ∧ W.cell? ⟨bx, 2, none⟩ = some (.bool a.xc)) ∧ (W.cell? ⟨w.heap.size, 0, none⟩ = some (.slice ga b.lo.length gc) ∧ W.cell? ⟨w.heap.size, 1, none⟩ = some (.slice sa b.hi.length sc) ∧ W.cell? ⟨w.heap.size, 2, none⟩ = some (.bool b.xc))) ∧
      Calls Try.prog 9 #[.agg #[.slice fa a.lo.length fc, .slice ta a.hi.length tc, .bool a.xc], .agg #[.slice ga b.lo.length gc, .slice sa b.hi.length sc, .bool b.xc]] W fun e w' => e = .returned (.bool (clhB a b)) ∧ Below W.heap.size W w' := by
    rintro W rfl
    have hb := up_alloc w (.cells #[.slice ga b.lo.length gc, .slice sa b.hi.length sc, .bool b.xc] 24)
    exact ⟨⟨hb, ⟨cell_up h0 hb, cell_up h1 hb, cell_up h2 hb⟩, box3 (heap_alloc_new w _)⟩, clash_any ⟨_, _, rfl, h3.up hb, h4.up hb⟩ ⟨_, _, rfl, h5.up hb, h6.up hb⟩⟩
  obtain ⟨W, hW⟩ : ∃ W, W = w.alloc (.cells #[.slice ga b.lo.length gc, .slice sa b.hi.length sc, .bool b.xc] 24) := ⟨_, rfl⟩
  obtain ⟨⟨hb, ⟨x0, x1, x2⟩, ⟨y0, y1, y2⟩⟩, hc⟩ := hw W hW
  have HB := Hid.mk' hb
  have HC := Hid.mk' hc
  have hlt : bx < w.heap.size := World.block_lt_of_cell? w ⟨bx, 0, none⟩ h0
  clear hw hb hc h3 h4 h5 h6 h' x0 x1 x2 y0 y1 y2
  generalize clhB a b = R at *
  generalize a.lo.length = n1 at *
  generalize a.hi.length = n2 at *
  generalize b.lo.length = n3 at *
  generalize b.hi.length = n4 at *
  generalize a.xc = p at *
  generalize b.xc = q at *
  go_enter Try.func59, Try.ntmps59
  go_wp2_with fail
  rw [← hW]
  clear hW
  refine HC.out.mono ?_
  rintro e w1 ⟨rfl, b1⟩
  have HB1 := Hid.mk' (bt HB.out b1)
  clear b1
  go_wp2_with fail
  go_ret
  exact ⟨rfl, HB1.out⟩
set_option maxHeartbeats 1000000 in
/-- the outer closure of clashes -/
theorem c58 {A A' : Nat → Prop} {w : World} {bo : Nat} {a : Rg} {M : List Rg} {u v : Value} (hc : w.cell? ⟨bo, 0, none⟩ = some v) (h : Rgs A w v M) (h' : RgIs A' w u a) : Calls Try.prog 58 #[u, .pointer (some ⟨bo, 0, none⟩)] w fun e w' => e = .returned (.bool (M.any fun b => clhB a b)) ∧ Below w.heap.size w w' := by
  obtain ⟨ga, gc, sa, sc, rfl, h5, h6⟩ := h'.form
  obtain ⟨W, hW⟩ : ∃ W, W = w.alloc (.cells #[.slice ga a.lo.length gc, .slice sa a.hi.length sc, .bool a.xc] 24) := ⟨_, rfl⟩
  have hb : Below w.heap.size w W := by rw [hW]; exact up_alloc w _
  have hx : W.cell? ⟨bo, 0, none⟩ = some v := cell_up hc hb
  have hbx : BoxR A' W w.heap.size a := by rw [hW]; exact boxr_new h5 h6
  have HH := Hid.mk' (has_59 (h.up hb) (p := fun b => clhB a b) fun wz hz uu r hr => c59 (hbx.up hz) hr)
  have HB := Hid.mk' hb
  obtain ⟨ao, co, rfl, _⟩ := h.at
  generalize (M.any fun b => clhB a b) = R at *
  generalize a.lo.length = n1 at *
  generalize a.hi.length = n2 at *
  generalize a.xc = p at *
  have hlt : bo < w.heap.size := World.block_lt_of_cell? w ⟨bo, 0, none⟩ hc
  clear hb hbx h h' h5 h6 hx
  go_enter Try.func58, Try.ntmps58
  go_wp2_with fail
  rw [← hW]
  clear hW
  refine HH.out.mono ?_
  rintro e w1 ⟨rfl, b1⟩
  have HB1 := Hid.mk' (bt HB.out b1)
  clear b1
  go_wp2_with fail
  go_ret
  exact ⟨rfl, HB1.out⟩
set_option maxHeartbeats 1000000 in
theorem ix_58 {A : Nat → Prop} {w : World} {v : Value} {l : List Rg} {bx : Nat} {p : Rg → Bool} (h : Rgs A w v l) (hp : PrG A w 58 bx p) :
    Calls Try.prog 60 #[v, .func (.func 58) #[] #[.pointer (some ⟨bx, 0, none⟩)]] w fun e w' => (∃ k : Int, e = .returned (.int .i64 k) ∧ Hid (decide (0 ≤ k) = l.any p)) ∧ Below w.heap.size w w' := by
  obtain ⟨a, c, rfl, hc, _, hz, H⟩ := h.at
  have H := Hid.mk' H
  have HP := Hid.mk' hp
  have hlz : (l.length : Int) ≤ 140737488351232 := by unfold lim at hz; omega
  clear h hp hz
  go_enter Try.func60, Try.ntmps60
  go_wp2_with fail
  go_loopw [8] (fun i wr => ∃ k : Nat, k ≤ l.length ∧ i = .int .i64 k ∧ Hid (l.any p = (l.drop k).any p) ∧ Hid (Below w.heap.size w wr)) (fun i _ => l.length - (intOf i).toNat)
  case atStart => exact ⟨0, by omega, rfl, rfl, Below.refl _ _⟩
  case round =>
    obtain ⟨k, hk, rfl, HF, HB⟩ := hrel
    by_cases hlt : k < l.length
    · have hlt' : (k : Int) < (l.length : Int) := by omega
      obtain ⟨b, o, fa, fc, ta, tc, rfl, _, ⟨c0, c1, c2⟩, h3, h4⟩ := H.out k hlt
      have c0 := cell_up c0 HB.out
      have c1 := cell_up c1 HB.out
      have c2 := cell_up c2 HB.out
      have HC := Hid.mk' (HP.out wr HB.out _ l[k] ⟨_, _, rfl, h3.up HB.out, h4.up HB.out⟩)
      have HD : Hid (l.any p = (p l[k] || (l.drop (k + 1)).any p)) := by show _ = _; rw [HF.out, List.drop_eq_getElem_cons hlt, List.any_cons]
      clear h3 h4 HF
      generalize l[k].lo.length = n at *
      generalize l[k].hi.length = m at *
      generalize l[k].xc = xc at *
      generalize p l[k] = d at *
      cases d with
      | true =>
        have HR : Hid (decide ((0 : Int) ≤ (k : Int)) = l.any p) := by show _ = _; rw [HD.out, decide_eq_true (by omega)]; rfl
        go_wp2_with fail
        refine HC.out.mono ?_
        rintro e w' ⟨rfl, hb⟩
        have HB2 := Hid.mk' (bt HB.out hb)
        clear hb
        go_wp2_with fail
        go_ret
        exact ⟨⟨_, rfl, HR⟩, HB2.out⟩
      | false =>
        have HT2 : Hid (l.any p = (l.drop (k + 1)).any p) := by show _ = _; rw [HD.out]; rfl
        go_wp2_with fail
        refine HC.out.mono ?_
        rintro e w' ⟨rfl, hb⟩
        have HB2 := Hid.mk' (bt HB.out hb)
        clear hb
        go_wp2_with fail
        go_roundw
        case rel => exact ⟨k + 1, by omega, by go_num, HT2, HB2⟩
        case measure => simp [intOf]; omega
    · obtain rfl : k = l.length := by omega
      have HR : Hid (decide ((0 : Int) ≤ (-1 : Int)) = l.any p) := by show _ = _; rw [HF.out, List.drop_length]; rfl
      go_wp2_with fail
      go_ret
      exact ⟨⟨_, rfl, HR⟩, HB.out⟩
theorem has_58 {A : Nat → Prop} {w : World} {v : Value} {l : List Rg} {bx : Nat} {p : Rg → Bool} (h : Rgs A w v l) (hp : PrG A w 58 bx p) :
    Calls Try.prog 47 #[v, .func (.func 58) #[] #[.pointer (some ⟨bx, 0, none⟩)]] w fun e w' => e = .returned (.bool (l.any p)) ∧ Below w.heap.size w w' := by
  have HI := Hid.mk' (ix_58 h hp)
  obtain ⟨a, c, rfl, hc, _, hz, H⟩ := h.at
  clear h hp H
  go_enter Try.func47, Try.ntmps47
  go_wp2_with fail
  refine HI.out.mono ?_
  rintro e w' ⟨⟨k, rfl, HK⟩, hb⟩
  have HB := Hid.mk' hb
  clear hb HI
  go_wp2_with fail
  go_ret
  exact ⟨by rw [← HK.out] <;> rfl, HB.out⟩
def clsB (l m : List Rg) : Bool := l.any fun a => m.any fun b => clhB a b
set_option maxHeartbeats 1000000 in
/-- clashes -/
theorem clashes_any {A A' : Nat → Prop} {w : World} {v u : Value} {l m : List Rg} (h : Rgs A w v l) (h' : Rgs A' w u m) : Calls Try.prog 43 #[v, u] w fun e w' => e = .returned (.bool (clsB l m)) ∧ Below w.heap.size w w' := by
  obtain ⟨W, hW⟩ : ∃ W, W = w.alloc (.cells #[u] 40) := ⟨_, rfl⟩
  have hb : Below w.heap.size w W := by rw [hW]; exact up_alloc w _
  have hx : W.cell? ⟨w.heap.size, 0, none⟩ = some u := by rw [hW]; simp
  have HH : Hid (Calls Try.prog 47 #[v, .func (.func 58) #[] #[.pointer (some ⟨w.heap.size, 0, none⟩)]] W fun e w' => e = .returned (.bool (clsB l m)) ∧ Below W.heap.size W w') := has_58 (h.up hb) (p := fun a => m.any fun b => clhB a b) fun wz hz uu r hr => c58 (cell_up hx hz) ((h'.up hb).up hz) hr
  have HB := Hid.mk' hb
  obtain ⟨ao, co, rfl, _⟩ := h.at
  obtain ⟨ao', co', rfl, _⟩ := h'.at
  generalize clsB l m = R at *
  clear hb h h' hx
  go_enter Try.func43, Try.ntmps43
  go_wp2_with fail
  rw [← hW]
  clear hW
  go_wp2_with fail
  refine HH.out.mono ?_
  rintro e w1 ⟨rfl, b1⟩
  have HB1 := Hid.mk' (bt HB.out b1)
  clear b1
  go_wp2_with fail
  go_ret
  exact ⟨rfl, HB1.out⟩
set_option maxHeartbeats 1000000 in
/-- the closure of Ask: does this one cover that in the box? -/
theorem c48 {A A' : Nat → Prop} {w : World} {bx : Nat} {a b : Rg} {u : Value} (h : BoxR A w bx a) (h' : RgIs A' w u b) : Calls Try.prog 48 #[u, .pointer (some ⟨bx, 0, none⟩)] w fun e w' => e = .returned (.bool (cvB b a)) ∧ Below w.heap.size w w' := by
  obtain ⟨fa, fc, ta, tc, ⟨h0, h1, h2⟩, h3, h4⟩ := h
  obtain ⟨ga, gc, sa, sc, rfl, h5, h6⟩ := h'.form
  have hw : ∀ W, W = w.alloc (.cells #[.slice ga b.lo.length gc, .slice sa b.hi.length sc, .bool b.xc] 24) → (Below w.heap.size w W ∧ (W.cell? ⟨bx, 0, none⟩ = some (.slice fa a.lo.length fc) ∧ W.cell? ⟨bx, 1, none⟩ = some (.slice ta a.hi.length tc) ∧ W.cell? ⟨bx, 2, none⟩ = some (.bool a.xc)) ∧ (W.cell? ⟨w.heap.size, 0, none⟩ = some (.slice ga b.lo.length gc) ∧ W.cell? ⟨w.heap.size, 1, none⟩ = some (.slice sa b.hi.length sc) ∧ W.cell? ⟨w.heap.size, 2, none⟩ = some (.bool b.xc))) ∧
      Calls Try.prog 11 #[.agg #[.slice ga b.lo.length gc, .slice sa b.hi.length sc, .bool b.xc], .agg #[.slice fa a.lo.length fc, .slice ta a.hi.length tc, .bool a.xc]] W fun e w' => e = .returned (.bool (cvB b a)) ∧ Below W.heap.size W w' := by
    rintro W rfl
    have hb := up_alloc w (.cells #[.slice ga b.lo.length gc, .slice sa b.hi.length sc, .bool b.xc] 24)
    exact ⟨⟨hb, ⟨cell_up h0 hb, cell_up h1 hb, cell_up h2 hb⟩, box3 (heap_alloc_new w _)⟩, covers_any ⟨_, _, rfl, h5.up hb, h6.up hb⟩ ⟨_, _, rfl, h3.up hb, h4.up hb⟩⟩
  obtain ⟨W, hW⟩ : ∃ W, W = w.alloc (.cells #[.slice ga b.lo.length gc, .slice sa b.hi.length sc, .bool b.xc] 24) := ⟨_, rfl⟩
  obtain ⟨⟨hb, ⟨x0, x1, x2⟩, ⟨y0, y1, y2⟩⟩, hc⟩ := hw W hW
  have HB := Hid.mk' hb
  have HC := Hid.mk' hc
  have hlt : bx < w.heap.size := World.block_lt_of_cell? w ⟨bx, 0, none⟩ h0
  clear hw hb hc h3 h4 h5 h6 h' x0 x1 x2 y0 y1 y2
  generalize cvB b a = R at *
  generalize a.lo.length = n1 at *
  generalize a.hi.length = n2 at *
  generalize b.lo.length = n3 at *
  generalize b.hi.length = n4 at *
  generalize a.xc = p at *
  generalize b.xc = q at *
  go_enter Try.func48, Try.ntmps48
  go_wp2_with fail
  rw [← hW]
  clear hW
  refine HC.out.mono ?_
  rintro e w1 ⟨rfl, b1⟩
  have HB1 := Hid.mk' (bt HB.out b1)
  clear b1
  go_wp2_with fail
  go_ret
  exact ⟨rfl, HB1.out⟩
set_option maxHeartbeats 1000000 in
theorem ix_48 {A : Nat → Prop} {w : World} {v : Value} {l : List Rg} {bx : Nat} {p : Rg → Bool} (h : Rgs A w v l) (hp : PrG A w 48 bx p) :
    Calls Try.prog 60 #[v, .func (.func 48) #[] #[.pointer (some ⟨bx, 0, none⟩)]] w fun e w' => (∃ k : Int, e = .returned (.int .i64 k) ∧ Hid (decide (0 ≤ k) = l.any p)) ∧ Below w.heap.size w w' := by
  obtain ⟨a, c, rfl, hc, _, hz, H⟩ := h.at
  have H := Hid.mk' H
  have HP := Hid.mk' hp
  have hlz : (l.length : Int) ≤ 140737488351232 := by unfold lim at hz; omega
  clear h hp hz
  go_enter Try.func60, Try.ntmps60
  go_wp2_with fail
  go_loopw [8] (fun i wr => ∃ k : Nat, k ≤ l.length ∧ i = .int .i64 k ∧ Hid (l.any p = (l.drop k).any p) ∧ Hid (Below w.heap.size w wr)) (fun i _ => l.length - (intOf i).toNat)
  case atStart => exact ⟨0, by omega, rfl, rfl, Below.refl _ _⟩
  case round =>
    obtain ⟨k, hk, rfl, HF, HB⟩ := hrel
    by_cases hlt : k < l.length
    · have hlt' : (k : Int) < (l.length : Int) := by omega
      obtain ⟨b, o, fa, fc, ta, tc, rfl, _, ⟨c0, c1, c2⟩, h3, h4⟩ := H.out k hlt
      have c0 := cell_up c0 HB.out
      have c1 := cell_up c1 HB.out
      have c2 := cell_up c2 HB.out
      have HC := Hid.mk' (HP.out wr HB.out _ l[k] ⟨_, _, rfl, h3.up HB.out, h4.up HB.out⟩)
      have HD : Hid (l.any p = (p l[k] || (l.drop (k + 1)).any p)) := by show _ = _; rw [HF.out, List.drop_eq_getElem_cons hlt, List.any_cons]
      clear h3 h4 HF
      generalize l[k].lo.length = n at *
      generalize l[k].hi.length = m at *
      generalize l[k].xc = xc at *
      generalize p l[k] = d at *
      cases d with
      | true =>
        have HR : Hid (decide ((0 : Int) ≤ (k : Int)) = l.any p) := by show _ = _; rw [HD.out, decide_eq_true (by omega)]; rfl
        go_wp2_with fail
        refine HC.out.mono ?_
        rintro e w' ⟨rfl, hb⟩
        have HB2 := Hid.mk' (bt HB.out hb)
        clear hb
        go_wp2_with fail
        go_ret
        exact ⟨⟨_, rfl, HR⟩, HB2.out⟩
      | false =>
        have HT2 : Hid (l.any p = (l.drop (k + 1)).any p) := by show _ = _; rw [HD.out]; rfl
        go_wp2_with fail
        refine HC.out.mono ?_
        rintro e w' ⟨rfl, hb⟩
        have HB2 := Hid.mk' (bt HB.out hb)
        clear hb
        go_wp2_with fail
        go_roundw
        case rel => exact ⟨k + 1, by omega, by go_num, HT2, HB2⟩
        case measure => simp [intOf]; omega
    · obtain rfl : k = l.length := by omega
      have HR : Hid (decide ((0 : Int) ≤ (-1 : Int)) = l.any p) := by show _ = _; rw [HF.out, List.drop_length]; rfl
      go_wp2_with fail
      go_ret
      exact ⟨⟨_, rfl, HR⟩, HB.out⟩
theorem has_48 {A : Nat → Prop} {w : World} {v : Value} {l : List Rg} {bx : Nat} {p : Rg → Bool} (h : Rgs A w v l) (hp : PrG A w 48 bx p) :
    Calls Try.prog 47 #[v, .func (.func 48) #[] #[.pointer (some ⟨bx, 0, none⟩)]] w fun e w' => e = .returned (.bool (l.any p)) ∧ Below w.heap.size w w' := by
  have HI := Hid.mk' (ix_48 h hp)
  obtain ⟨a, c, rfl, hc, _, hz, H⟩ := h.at
  clear h hp H
  go_enter Try.func47, Try.ntmps47
  go_wp2_with fail
  refine HI.out.mono ?_
  rintro e w' ⟨⟨k, rfl, HK⟩, hb⟩
  have HB := Hid.mk' hb
  clear hb HI
  go_wp2_with fail
  go_ret
  exact ⟨by rw [← HK.out] <;> rfl, HB.out⟩
end Go.Proofs.Yteejlmeinndlhaa
