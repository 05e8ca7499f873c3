/- drive.Crash. -/
import Derived.Test.YtpgpncngamagdaaDT
set_option linter.unusedVariables false
set_option linter.unusedSimpArgs false
namespace Go.Proofs.Ytpgpncngamagdaa
open Go.RowKit
attribute [local go_sem ↓] Go.wp_at_zero Go.wp_at_succ
/-- deeds that can be done one behind the other -/
def Qok : Fl → List Dd → Prop
  | _, [] => True
  | F, x :: r => Dok F x ∧ Qok (ddo F x x.units) r
theorem QueueIs.elem {D : Nat → Prop} {w : World} {qa : Option Addr} {qc : Nat} {Q : List Dd} (h : QueueIs D w (.slice qa Q.length qc) Q) (k : Nat) (hk : k < Q.length) : ∃ qb qo v, qa = some ⟨qb, qo, none⟩ ∧ w.cell? ⟨qb, qo + k, none⟩ = some v ∧ DdIs D w v Q[k] := by
  obtain ⟨vs, hr, hel⟩ := h
  have hl : vs.length = Q.length := by have := hr.1; omega
  obtain ⟨_, a, c, e, _, _, H⟩ := hr
  cases e
  obtain ⟨b, o, ha, _, hc⟩ := H k (vs[k]'(by omega)) (by simp)
  exact ⟨b, o, _, ha, hc, hel k hk (by omega)⟩
theorem units_take (Q : List Dd) (k : Nat) (hk : k < Q.length) : units (Q.take (k + 1)) = units (Q.take k) + Q[k].units := by
  unfold units
  rw [List.take_succ_eq_append_getElem hk, List.map_append, List.sum_append]
  simp only [List.map_cons, List.map_nil, List.sum_cons, List.sum_nil, Nat.add_zero]
theorem units_take_le (Q : List Dd) (k : Nat) : units (Q.take k) ≤ units Q := by
  have : units Q = units (Q.take k) + units (Q.drop k) := by
    unfold units
    rw [← List.sum_append, ← List.map_append, List.take_append_drop]
  omega
theorem after_zero (F : Fl) (q : List Dd) : after F q 0 = F := by
  cases q with
  | nil => rfl
  | cons x r => simp [after]
theorem after_nil (F : Fl) (j : Nat) : after F [] j = F := rfl
theorem after_step (F : Fl) (Q : List Dd) (i j : Nat) (hi : i < Q.length) (hj : 0 < j) : after F (Q.drop i) j = after (ddo F Q[i] (min j Q[i].units)) (Q.drop (i + 1)) (j - min j Q[i].units) := by
  rw [List.drop_eq_getElem_cons hi, after, if_neg (by have := Q[i].pos; omega)]
theorem ddo_len (F : Fl) (hF : Srt F) (x : Dd) (k : Nat) : (ddo F x k).length ≤ F.length + 1 := by
  cases x with
  | write n i l => simp only [ddo]; rw [len_put F hF]; split <;> omega
  | trim n sz => simp only [ddo]; rw [len_put F hF]; split <;> omega
  | ren a b => simp only [ddo]; rw [len_put _ (hF.del _), len_del]; split <;> split <;> omega
  | rem n => simp only [ddo]; rw [len_del]; split <;> omega
/-- within the second loop -/
structure Cs (w : World) (D0 : Nat → Prop) (b kf : Nat) (F0 : Fl) (Q : List Dd) (K : Nat) (i j : Nat) (D : Nat → Prop) (F : Fl) (wr : World) : Prop where
  bl : Below w.heap.size w wr
  fi : FI D wr kf F
  up : ∀ k, D0 k → D k
  dn : ∀ k, D k → k < wr.heap.size ∧ k ≠ kf ∧ (D0 k ∨ w.heap.size ≤ k)
  af : after F (Q.drop i) j = after F0 Q K
  qo : Qok F (Q.drop i) ∨ j = 0
  ln : F.length ≤ F0.length + i
  kw : w.heap.size ≤ kf
theorem Cs.up' {w wr w2 : World} {D0 D : Nat → Prop} {b kf K i j : Nat} {F0 F : Fl} {Q : List Dd} (h : Cs w D0 b kf F0 Q K i j D F wr) (hb : Below wr.heap.size wr w2) : Cs w D0 b kf F0 Q K i j D F w2 :=
  ⟨h.bl.trans (hb.mono h.bl.size), h.fi.wb (Wb.of_below (fun _ => False) hb) (fun _ h => h.elim) id, h.up, fun k hk => ⟨Nat.lt_of_lt_of_le (h.dn k hk).1 hb.size, (h.dn k hk).2⟩, h.af, h.qo, h.ln, h.kw⟩
theorem Cs.step {w wr w2 : World} {D0 D : Nat → Prop} {b kf K i j m : Nat} {F0 F F' : Fl} {Q : List Dd} {e : Ending} (h : Cs w D0 b kf F0 Q K i j D F wr) (hi : i < Q.length) (hj : 0 < j) (hm : m = min j Q[i].units) (hF : F' = ddo F Q[i] m) (hp : DoPost D wr kf F' e w2) : ∃ D', Cs w D0 b kf F0 Q K (i + 1) (j - m) D' F' w2 := by
  obtain ⟨_, hw, D', h1, h2, h3⟩ := hp
  have hkl := h.fi.lt
  refine ⟨D', h.bl.trans (hw.below h.bl.size fun k hk => by subst hk; exact h.kw), h3, fun k hk => h1 k (h.up k hk), fun k hk => ?_, ?_, ?_, ?_, h.kw⟩
  · rcases h2 k hk with hd | ⟨hd1, hd2⟩
    · exact ⟨Nat.lt_of_lt_of_le (h.dn k hd).1 hw.size, (h.dn k hd).2⟩
    · exact ⟨hd2, by omega, .inr (Nat.le_trans h.bl.size hd1)⟩
  · rw [← h.af, after_step F Q i j hi hj, hF, hm]
  · rcases h.qo with hq | hq
    · by_cases hx : j ≤ Q[i].units
      · right; omega
      · left
        rw [List.drop_eq_getElem_cons hi] at hq
        have : m = Q[i].units := by omega
        rw [hF, this]; exact hq.2
    · omega
  · have := ddo_len F h.fi.1 Q[i] m
    have h4 := h.ln
    rw [hF]; omega
theorem Cs.ok {w wr : World} {D0 D : Nat → Prop} {b kf K i j : Nat} {F0 F : Fl} {Q : List Dd} (h : Cs w D0 b kf F0 Q K i j D F wr) (hi : i < Q.length) (hj : 0 < j) : Dok F Q[i] := by
  rcases h.qo with hq | hq
  · rw [List.drop_eq_getElem_cons hi] at hq
    exact hq.1
  · omega
theorem rem_run {U : Nat} (keep : Int) : -((U : Int) + 1) < keep.tmod ((U : Int) + 1) ∧ keep.tmod ((U : Int) + 1) < (U : Int) + 1 ∧ ((keep % ((U : Int) + 1)).toNat : Int) = if keep.tmod ((U : Int) + 1) < 0 then keep.tmod ((U : Int) + 1) + ((U : Int) + 1) else keep.tmod ((U : Int) + 1) := by
  have hn : (0 : Int) < (U : Int) + 1 := by omega
  have h1 := Int.lt_tmod_of_pos keep hn
  have h2 := Int.tmod_lt_of_pos keep hn
  refine ⟨h1, h2, ?_⟩
  have e : keep % ((U : Int) + 1) = keep.tmod ((U : Int) + 1) % ((U : Int) + 1) := by
    conv => lhs; rw [← Int.mul_tdiv_add_tmod keep ((U : Int) + 1)]
    rw [Int.mul_add_emod_self_left]
  rw [e]
  generalize keep.tmod ((U : Int) + 1) = R at *
  rw [Int.toNat_of_nonneg (Int.emod_nonneg _ (by omega))]
  split
  · rw [← Int.add_emod_right]
    exact Int.emod_eq_of_lt (by omega) (by omega)
  · exact Int.emod_eq_of_lt (by omega) (by omega)
theorem Cs.first {w wx : World} {D0 : Nat → Prop} {b kf K : Nat} {F0 : Fl} {Q : List Dd} (hb : Below w.heap.size w wx) (hf : FI D0 wx kf F0) (hk : w.heap.size ≤ kf) (hD : ∀ k, D0 k → k < w.heap.size) (hQ : Qok F0 Q) : Cs w D0 b kf F0 Q K 0 K D0 F0 wx :=
  ⟨hb, hf, fun _ h => h, fun k hk' => ⟨Nat.lt_of_lt_of_le (hD k hk') hb.size, by have := hD k hk'; omega, .inl hk'⟩, rfl, .inl hQ, by omega, hk⟩
theorem Cs.fin0 {w wr : World} {D0 D : Nat → Prop} {b kf K i : Nat} {F0 F : Fl} {Q : List Dd} (h : Cs w D0 b kf F0 Q K i 0 D F wr) : ∃ D i j, Cs w D0 b kf F0 Q K i j D (after F0 Q K) wr := by
  have e : F = after F0 Q K := by have := h.af; rwa [after_zero] at this
  rw [← e]
  exact ⟨D, i, 0, h.bl, h.fi, h.up, h.dn, by rw [after_zero]; exact e, .inr rfl, h.ln, h.kw⟩
theorem Cs.finn {w wr : World} {D0 D : Nat → Prop} {b kf K j : Nat} {F0 F : Fl} {Q : List Dd} (h : Cs w D0 b kf F0 Q K Q.length j D F wr) : ∃ D i j, Cs w D0 b kf F0 Q K i j D (after F0 Q K) wr := by
  have e : F = after F0 Q K := by have := h.af; rwa [List.drop_length, after_nil] at this
  exact ⟨D, Q.length, 0, h.bl, by rw [← e]; exact h.fi, h.up, h.dn, by rw [after_zero], .inr rfl, by rw [← e]; exact h.ln, h.kw⟩
theorem Cs.done {M D0 D : Nat → Prop} {w we w2 : World} {b kf K i j : Nat} {d : Dm} {keep : Int} {ms mv : Option Nat} {q : Value} (h : DrIs M D0 w b d) (hb : w.heap[b]? = some (.cells #[.map ms, .map mv, q, .int .i64 d.room, .bool d.armed, .int .i64 d.left, .bool d.dead] 46 (0, 0)))
    (hc : Cs w D0 b kf d.safe d.queue K i j D (after d.safe d.queue K) we) (hb2 : Below we.heap.size we w2) (hf2 : FI D w2 we.heap.size (after d.safe d.queue K))
    (hK : crD d keep = { safe := after d.safe d.queue K, seen := after d.safe d.queue K, queue := [], room := d.room, armed := false, left := 0, dead := false }) :
    Turned M D0 w b (crD d keep) ((((((w2.setCell ⟨b, 0, none⟩ (.map (some kf))).setCell ⟨b, 1, none⟩ (.map (some we.heap.size))).setCell ⟨b, 2, none⟩ (.slice none 0 0)).setCell ⟨b, 6, none⟩ (.bool false)).setCell ⟨b, 4, none⟩ (.bool false)).setCell ⟨b, 5, none⟩ (.int .i64 0)) := by
  rw [hK]
  have hbl : b < w.heap.size := (Array.getElem?_eq_some_iff.1 hb).1
  have hw2 : Below w.heap.size w w2 := hc.bl.trans (hb2.mono hc.bl.size)
  have hs1 := hc.bl.size
  have hs2 := hb2.size
  have hkl := hc.fi.lt
  have hl2 := hf2.lt
  have hkw := hc.kw
  have hbx : w2.heap[b]? = some (.cells #[.map ms, .map mv, q, .int .i64 d.room, .bool d.armed, .int .i64 d.left, .bool d.dead] 46 (0, 0)) := by rw [hw2.block b hbl]; exact hb
  have hw3 : Wb (fun k => k = b) w2 ((((((w2.setCell ⟨b, 0, none⟩ (.map (some kf))).setCell ⟨b, 1, none⟩ (.map (some we.heap.size))).setCell ⟨b, 2, none⟩ (.slice none 0 0)).setCell ⟨b, 6, none⟩ (.bool false)).setCell ⟨b, 4, none⟩ (.bool false)).setCell ⟨b, 5, none⟩ (.int .i64 0)) :=
    (((((Wb.set (X := fun k => k = b) _ _ _ _ rfl).trans (Wb.set _ _ _ _ rfl)).trans (Wb.set _ _ _ _ rfl)).trans (Wb.set _ _ _ _ rfl)).trans (Wb.set _ _ _ _ rfl)).trans (Wb.set _ _ _ _ rfl)
  refine ⟨((Wb.of_below (fun k => k = b) hw2).trans hw3).mono fun k hk => .inl hk, fun k => k = kf ∨ k = we.heap.size, D, fun k hk => .inr (by rcases hk with rfl | rfl <;> omega), fun k hk => (hc.dn k hk).2.2, ?_⟩
  refine DrIs.boxed (ms := some kf) (mv := some we.heap.size) (q := .slice none 0 0) hw3 (by rw [box7_set (box7_set (box7_set (box7_set (box7_set (box7_set hbx _) _) _) _) _)]; rfl) (.inr ⟨kf, rfl, .inl rfl, hc.fi.wb (Wb.of_below (fun _ => False) hb2) (fun _ h => h.elim) id⟩) (.inr ⟨_, rfl, .inr rfl, hf2⟩) (QueueIs.nil _ _) (fun k hk e => by cases hk; cases e; omega) (fun k hk => ?_) (fun k hk => ?_) (fun h => by cases h)
  · have h1 := hc.dn k hk
    refine ⟨by omega, fun hm => ?_, ?_⟩
    · rcases hm with hm | hm
      · exact h1.2.1 hm
      · omega
    · rcases h1.2.2 with h2 | h2
      · exact (h.hD k h2).2.2
      · omega
  · rcases hk with rfl | rfl
    · exact ⟨by omega, by omega⟩
    · exact ⟨hl2, by omega⟩
set_option maxRecDepth 100000 in
set_option maxHeartbeats 8000000 in
/-- drive.Crash -/
theorem crash_any {M D : Nat → Prop} {w : World} {b : Nat} {d : Dm} (keep : Int) (h : DrIs M D w b d) (hQ : Qok d.safe d.queue) (hl : d.safe.length + d.queue.length < maxLen) (hu : (units d.queue : Int) + 1 ≤ 4611686018427387904) (hk1 : -9223372036854775808 ≤ keep) (hk2 : keep ≤ 9223372036854775807) (hql : d.queue.length * 16 ≤ 140737488355328) :
    Calls Try.prog 23 #[.pointer (some ⟨b, 0, none⟩), .int .i64 keep] w fun E w' => E = .returned (.tuple #[]) ∧ Turned M D w b (crD d keep) w' := by
  obtain ⟨ms, mv, q, hb, h1, h2, h3, h4⟩ := h.ex
  obtain ⟨⟨c0, c1, c2, c3, c4, c5, c6⟩, c7⟩ := box7 hb
  obtain ⟨qa, qc, rfl⟩ : ∃ qa qc, q = .slice qa d.queue.length qc := by obtain ⟨vs, hr, _⟩ := h3; obtain ⟨_, a, c, e, _⟩ := hr; exact ⟨a, c, e⟩
  have hbl : b < w.heap.size := (Array.getElem?_eq_some_iff.1 hb).1
  have HB := Hid.mk' hb
  have HH := Hid.mk' h
  have H1 := Hid.mk' h1
  have HEL := Hid.mk' (fun k hk => h3.elem k hk)
  have HQ := Hid.mk' hQ
  have HL := Hid.mk' hl
  have hn : (d.queue.length : Int) ≤ 140737488355328 := by omega
  have HUL := Hid.mk' (units_take_le d.queue)
  have HUT := Hid.mk' (units_take d.queue)
  clear h h1 h2 h3 h4 hb hQ hl c0 c1 c3 c4 c5 c6 c7 hql
  have hmm := @run_makeMap Try.prog
  have hmn := fun w r => run_eql_map_nil (P := Try.prog) w 43 9 22 r Try.underlying43
  go_enter Try.func23, Try.ntmps23
  go_wp2_with fail
  go_loopw [4, 16] (fun a i wr => ∃ k : Nat, k ≤ d.queue.length ∧ i = .int .i64 k ∧ a = .int .i64 ((units (d.queue.take k) : Int) + 1) ∧ Hid (Below w.heap.size w wr)) (fun _ i _ => d.queue.length - (intOf i).toNat)
  case atStart => exact ⟨0, by omega, rfl, rfl, Below.refl _ _⟩
  case round =>
    obtain ⟨k, hk, rfl, rfl, HW⟩ := hrel
    by_cases hlt : k < d.queue.length
    · have hlt' : (k : Int) < (d.queue.length : Int) := by omega
      obtain ⟨qb, qo, v, rfl, hc, hx⟩ := HEL.out k hlt
      have hc2 : wr.cell? ⟨qb, qo + k, none⟩ = some v := (HW.out.cell (p := ⟨qb, qo + k, none⟩) (World.block_lt_of_cell? w ⟨qb, qo + k, none⟩ hc)).trans hc
      have hut := HUT.out k hlt
      have hle := HUL.out (k + 1)
      rw [hut] at hle
      have hu0 : (0 : Int) ≤ (units (d.queue.take k) : Int) := by omega
      have hu1 : (units (d.queue.take k) : Int) + (d.queue[k].units : Int) ≤ 4611686018427387903 := by omega
      have HUT2 : Hid ((units (d.queue.take (k + 1)) : Int) = (units (d.queue.take k) : Int) + (d.queue[k].units : Int)) := by show _ = _; omega
      generalize d.queue[k] = x at *
      generalize units (d.queue.take k) = U at *
      have HX := Hid.mk' hx
      clear hut hle hx hc
      cases x with
      | write n i l =>
        obtain ⟨u, rfl, hu3, hnl⟩ := HX.out
        have HU3 := Hid.mk' hu3
        clear hu3
        have hub : (U : Int) + ((l.length : Int) + 1) ≤ 4611686018427387903 := by simp only [Dd.units] at hu1; omega
        go_wp2_with fail
        refine (un_write n i u l wr (HU3.out.wb (Wb.of_below (fun _ => False) HW.out) (fun _ h => h.elim))).mono ?_
        rintro E w1 ⟨rfl, hb1⟩
        have HW2 := Hid.mk' (HW.out.trans (hb1.mono HW.out.size))
        clear hb1
        go_wp2_with fail
        go_roundw
        case rel => exact ⟨k + 1, by omega, by go_num, by rw [HUT2.out]; simp only [Dd.units]; go_num, HW2⟩
        case measure => simp [intOf]; omega
      | trim n z =>
        obtain ⟨rfl, hnl⟩ := HX.out
        have hub : (U : Int) + 1 ≤ 4611686018427387903 := by simp only [Dd.units] at hu1; omega
        go_wp2_with fail
        refine (un_trim n z wr).mono ?_
        rintro E w1 ⟨rfl, hb1⟩
        have HW2 := Hid.mk' (HW.out.trans (hb1.mono HW.out.size))
        clear hb1
        go_wp2_with fail
        go_roundw
        case rel => exact ⟨k + 1, by omega, by go_num, by rw [HUT2.out]; simp only [Dd.units]; go_num, HW2⟩
        case measure => simp [intOf]; omega
      | ren n m =>
        obtain ⟨rfl, hnl, hml⟩ := HX.out
        have hub : (U : Int) + 1 ≤ 4611686018427387903 := by simp only [Dd.units] at hu1; omega
        go_wp2_with fail
        refine (un_ren n m wr).mono ?_
        rintro E w1 ⟨rfl, hb1⟩
        have HW2 := Hid.mk' (HW.out.trans (hb1.mono HW.out.size))
        clear hb1
        go_wp2_with fail
        go_roundw
        case rel => exact ⟨k + 1, by omega, by go_num, by rw [HUT2.out]; simp only [Dd.units]; go_num, HW2⟩
        case measure => simp [intOf]; omega
      | rem n =>
        obtain ⟨rfl, hnl⟩ := HX.out
        have hub : (U : Int) + 1 ≤ 4611686018427387903 := by simp only [Dd.units] at hu1; omega
        go_wp2_with fail
        refine (un_rem n wr).mono ?_
        rintro E w1 ⟨rfl, hb1⟩
        have HW2 := Hid.mk' (HW.out.trans (hb1.mono HW.out.size))
        clear hb1
        go_wp2_with fail
        go_roundw
        case rel => exact ⟨k + 1, by omega, by go_num, by rw [HUT2.out]; simp only [Dd.units]; go_num, HW2⟩
        case measure => simp [intOf]; omega
    · obtain rfl : k = d.queue.length := by omega
      have hlt' : ¬ ((d.queue.length : Int) < (d.queue.length : Int)) := by omega
      rw [List.take_length]
      obtain ⟨U, hUU⟩ : ∃ U : Nat, U = units d.queue := ⟨_, rfl⟩
      rw [← hUU] at hu ⊢
      have HUU := Hid.mk' hUU
      clear hUU
      have hu0 : (1 : Int) ≤ (U : Int) + 1 := by omega
      obtain ⟨hR1, hR2, hRK⟩ := rem_run (U := U) keep
      obtain ⟨K, hK⟩ : ∃ K : Nat, K = (keep % ((U : Int) + 1)).toNat := ⟨_, rfl⟩
      rw [← hK] at hRK
      have HK : Hid (crD d keep = { safe := after d.safe d.queue K, seen := after d.safe d.queue K, queue := [], room := d.room, armed := false, left := 0, dead := false }) := by
        show _ = _
        unfold crD crK; rw [← HUU.out, ← hK]
      clear hK hk1 hk2
      go_upto_if 29 with fail
      generalize keep.tmod ((U : Int) + 1) = R at *
      go_cut [1] (fun u wx => u = .int .i64 (K : Int) ∧ Hid (Below w.heap.size w wx))
      case first =>
        by_cases hneg : R < 0
        · rw [if_pos hneg] at hRK
          have HRK2 := Hid.mk' hRK
          have hx1 : 0 ≤ R + ((U : Int) + 1) := by omega
          have hx2 : R + ((U : Int) + 1) ≤ 9223372036854775807 := by omega
          clear hRK hR1 hR2 hu hu0
          go_wp2_with fail
          go_meet
          exact ⟨by rw [HRK2.out], HW⟩
        · have hneg' : 0 ≤ R := by omega
          clear hneg
          rw [if_neg (by omega)] at hRK
          have HRK2 := Hid.mk' hRK
          clear hRK hR1 hR2 hu hu0
          go_wp2_with fail
          go_meet
          exact ⟨by rw [HRK2.out], HW⟩
      case rest =>
        obtain ⟨rfl, HWc⟩ := hcut
        have hKb : (K : Int) ≤ 4611686018427387904 := by rw [hRK]; split <;> omega
        clear HW hRK hR1 hR2 hu hu0
        rename World => wc
        have hbc : wc.heap[b]? = w.heap[b]? := HWc.out.block b hbl
        rw [HB.out] at hbc
        obtain ⟨⟨z0, z1, z2, z3, z4, z5, z6⟩, z7⟩ := box7 hbc
        clear c2 hbc z1 z3 z4 z5 z6
        have HDL := Hid.mk' (fun k hk => (HH.out.hD k hk).1)
        go_wp2_with fail
        refine (FilesIs.cloned (H1.out.wb (Wb.of_below (fun _ => False) HWc.out) (fun _ h => h.elim) (fun _ _ h => h))).mono ?_
        rintro E w1 ⟨m1, rfl, hba, hf1, hk1⟩
        have HBA := Hid.mk' (HWc.out.trans (hba.mono HWc.out.size))
        have HF1 := Hid.mk' hf1
        have HK1 := Hid.mk' hk1
        clear hba hf1 hk1
        go_upto_if 39 with fail
        go_cut [7] (fun u wx => ∃ kf, u = .map (some kf) ∧ Hid (Cs w D b kf d.safe d.queue K 0 K D d.safe wx))
        case first =>
          cases m1 with
          | none =>
            have HC : Hid (Cs w D b w1.heap.size d.safe d.queue K 0 K D d.safe (w1.alloc (.map #[] 0))) := by
              have e : d.safe = [] := by
                rcases HF1.out with ⟨_, e⟩ | ⟨k, e, _⟩
                · exact e
                · cases e
              refine Cs.first (HBA.out.trans ((up_alloc _ _).mono HBA.out.size)) ?_ HBA.out.size HDL.out HQ.out
              rw [e]
              exact ⟨Srt.nil, (fun _ => none), MapF.made Try.prog 9 w1, fun s => .inl ⟨rfl, rfl⟩⟩
            go_wp2_with fail
            go_meet
            exact ⟨_, rfl, HC⟩
          | some kf =>
            have HC : Hid (Cs w D b kf d.safe d.queue K 0 K D d.safe w1) := by
              obtain ⟨k', e, _, hF⟩ : ∃ k, some kf = some k ∧ k = wc.heap.size ∧ FI D w1 k d.safe := by
                rcases HF1.out with ⟨e, _⟩ | h
                · cases e
                · exact h
              cases e
              exact Cs.first HBA.out hF (by rw [HK1.out _ rfl]; exact HWc.out.size) HDL.out HQ.out
            go_wp2_with fail
            go_meet
            exact ⟨_, rfl, HC⟩
        case rest =>
          obtain ⟨kf, rfl, HC⟩ := hcut
          clear HBA HF1 HK1 z0 z2 z7 HWc
          rename World => wd
          have hbd : wd.heap[b]? = w.heap[b]? := HC.out.bl.block b hbl
          rw [HB.out] at hbd
          obtain ⟨⟨z0, z1, z2, z3, z4, z5, z6⟩, z7⟩ := box7 hbd
          clear hbd z0 z1 z3 z4 z5 z6 z7
          go_upto_block 2 with fail
          go_cut [1] (fun _ wx => ∃ D' i j, Hid (Cs w D b kf d.safe d.queue K i j D' (after d.safe d.queue K) wx))
          case first =>
            go_wp2_with fail
            go_loopw [1, 46] (fun u i wr => ∃ (k j : Nat) (D' : Nat → Prop) (F : Fl), k ≤ d.queue.length ∧ i = .int .i64 k ∧ u = .int .i64 j ∧ (j : Int) ≤ 4611686018427387904 ∧ Hid (Cs w D b kf d.safe d.queue K k j D' F wr)) (fun _ i _ => d.queue.length - (intOf i).toNat)
            case atStart => exact ⟨0, K, D, d.safe, by omega, rfl, rfl, hKb, HC⟩
            case round =>
              clear HC hKb z2
              obtain ⟨k, j, D', F, hk, rfl, rfl, hj, HC⟩ := hrel
              by_cases hlt : k < d.queue.length
              · have hlt' : (k : Int) < (d.queue.length : Int) := by omega
                obtain ⟨qb, qo, v, rfl, hc, hx⟩ := HEL.out k hlt
                have hc2 : wr.cell? ⟨qb, qo + k, none⟩ = some v := (HC.out.bl.cell (p := ⟨qb, qo + k, none⟩) (World.block_lt_of_cell? w ⟨qb, qo + k, none⟩ hc)).trans hc
                have HLN : Hid (F.length < maxLen) := by have h1 := HC.out.ln; have h2 := HL.out; show _ < _; omega
                have HOK := Hid.mk' (fun hjp : 0 < j => HC.out.ok hlt hjp)
                obtain ⟨x, hxe⟩ : ∃ x, d.queue[k] = x := ⟨_, rfl⟩
                rw [hxe] at hx
                have HXE := Hid.mk' hxe
                have HX := Hid.mk' hx
                clear hx hc hxe
                cases x with
                  | write n i l =>
                    obtain ⟨u, rfl, hu3, hnl⟩ := HX.out
                    have HU3 := Hid.mk' hu3
                    clear hu3
                    rcases Nat.eq_zero_or_pos j with rfl | hjp
                    · go_wp2_with fail
                      refine (un_write n i u l wr (HU3.out.wb (Wb.of_below (fun _ => False) HC.out.bl) (fun _ h => h.elim))).mono ?_
                      rintro E w1 ⟨rfl, hb1⟩
                      have HC2 := Hid.mk' (HC.out.up' hb1)
                      clear hb1
                      go_wp2_with fail
                      go_meet
                      exact HC2.out.fin0
                    · have hj1 : (1 : Int) ≤ (j : Int) := by omega
                      have hll : (l.length : Int) ≤ 140737488351232 := by have := HU3.out.2; unfold lim at this; omega
                      by_cases hjl : (j : Int) ≤ (l.length : Int) + 1
                      · go_wp2_with fail
                        refine (un_write n i u l wr (HU3.out.wb (Wb.of_below (fun _ => False) HC.out.bl) (fun _ h => h.elim))).mono ?_
                        rintro E w1 ⟨rfl, hb1⟩
                        have HC2 := Hid.mk' (HC.out.up' hb1)
                        clear hb1
                        go_wp2_with fail
                        refine (do_write n l i (j - 1) u _ HC2.out.fi hnl (fun hd => (HC2.out.dn _ hd).2.1 rfl) ((HU3.out.wb (Wb.of_below (fun _ => False) HC2.out.bl) (fun _ h => h.elim)).monoS HC2.out.up) (by omega) (by omega) (by have := HOK.out hjp; rw [HXE.out] at this; exact this.1) (by have := HOK.out hjp; rw [HXE.out] at this; have := this.2.2; omega) HLN.out).mono ?_
                        rintro E w2 hp
                        obtain ⟨D2, hs⟩ := HC2.out.step hlt hjp (m := j) (by rw [HXE.out]; simp only [Dd.units]; omega) (by rw [HXE.out]; rfl) hp
                        cases hp.1
                        have HC3 := Hid.mk' hs
                        clear hs hp
                        go_wp2_with fail
                        go_roundw
                        case rel => exact ⟨k + 1, j - j, D2, _, by omega, by go_num, by go_num, by omega, HC3⟩
                        case measure => simp [intOf]; omega
                      · have hjl' : (l.length : Int) + 1 < (j : Int) := by omega
                        clear hjl
                        go_wp2_with fail
                        refine (un_write n i u l wr (HU3.out.wb (Wb.of_below (fun _ => False) HC.out.bl) (fun _ h => h.elim))).mono ?_
                        rintro E w1 ⟨rfl, hb1⟩
                        have HC2 := Hid.mk' (HC.out.up' hb1)
                        clear hb1
                        go_wp2_with fail
                        refine (do_write n l i l.length u _ HC2.out.fi hnl (fun hd => (HC2.out.dn _ hd).2.1 rfl) ((HU3.out.wb (Wb.of_below (fun _ => False) HC2.out.bl) (fun _ h => h.elim)).monoS HC2.out.up) (Nat.le_refl l.length) (by omega) (by have := HOK.out hjp; rw [HXE.out] at this; exact this.1) (by have := HOK.out hjp; rw [HXE.out] at this; exact this.2.2) HLN.out).mono ?_
                        rintro E w2 hp
                        obtain ⟨D2, hs⟩ := HC2.out.step hlt hjp (m := (l.length + 1)) (by rw [HXE.out]; simp only [Dd.units]; omega) (by rw [HXE.out]; rfl) hp
                        cases hp.1
                        have HC3 := Hid.mk' hs
                        clear hs hp
                        go_wp2_with fail
                        go_roundw
                        case rel => exact ⟨k + 1, j - (l.length + 1), D2, _, by omega, by go_num, by go_num, by omega, HC3⟩
                        case measure => simp [intOf]; omega
                  | trim n z =>
                    obtain ⟨rfl, hnl⟩ := HX.out
                    rcases Nat.eq_zero_or_pos j with rfl | hjp
                    · go_wp2_with fail
                      refine (un_trim n z wr).mono ?_
                      rintro E w1 ⟨rfl, hb1⟩
                      have HC2 := Hid.mk' (HC.out.up' hb1)
                      clear hb1
                      go_wp2_with fail
                      go_meet
                      exact HC2.out.fin0
                    · have hj1 : (1 : Int) ≤ (j : Int) := by omega
                      go_wp2_with fail
                      refine (un_trim n z wr).mono ?_
                      rintro E w1 ⟨rfl, hb1⟩
                      have HC2 := Hid.mk' (HC.out.up' hb1)
                      clear hb1
                      go_wp2_with fail
                      refine (do_trim n z _ HC2.out.fi hnl (fun hd => (HC2.out.dn _ hd).2.1 rfl) HLN.out (by have := HOK.out hjp; rw [HXE.out] at this; exact this)).mono ?_
                      rintro E w2 hp
                      obtain ⟨D2, hs⟩ := HC2.out.step hlt hjp (m := 1) (by rw [HXE.out]; simp only [Dd.units]; omega) (by rw [HXE.out]; rfl) hp
                      cases hp.1
                      have HC3 := Hid.mk' hs
                      clear hs hp
                      go_wp2_with fail
                      go_roundw
                      case rel => exact ⟨k + 1, j - 1, D2, _, by omega, by go_num, by go_num, by omega, HC3⟩
                      case measure => simp [intOf]; omega
                  | ren n m =>
                    obtain ⟨rfl, hnl, hml⟩ := HX.out
                    rcases Nat.eq_zero_or_pos j with rfl | hjp
                    · go_wp2_with fail
                      refine (un_ren n m wr).mono ?_
                      rintro E w1 ⟨rfl, hb1⟩
                      have HC2 := Hid.mk' (HC.out.up' hb1)
                      clear hb1
                      go_wp2_with fail
                      go_meet
                      exact HC2.out.fin0
                    · have hj1 : (1 : Int) ≤ (j : Int) := by omega
                      go_wp2_with fail
                      refine (un_ren n m wr).mono ?_
                      rintro E w1 ⟨rfl, hb1⟩
                      have HC2 := Hid.mk' (HC.out.up' hb1)
                      clear hb1
                      go_wp2_with fail
                      refine (do_ren n m _ HC2.out.fi hnl hml (fun hd => (HC2.out.dn _ hd).2.1 rfl) HLN.out).mono ?_
                      rintro E w2 hp
                      obtain ⟨D2, hs⟩ := HC2.out.step hlt hjp (m := 1) (by rw [HXE.out]; simp only [Dd.units]; omega) (by rw [HXE.out]; rfl) hp
                      cases hp.1
                      have HC3 := Hid.mk' hs
                      clear hs hp
                      go_wp2_with fail
                      go_roundw
                      case rel => exact ⟨k + 1, j - 1, D2, _, by omega, by go_num, by go_num, by omega, HC3⟩
                      case measure => simp [intOf]; omega
                  | rem n =>
                    obtain ⟨rfl, hnl⟩ := HX.out
                    rcases Nat.eq_zero_or_pos j with rfl | hjp
                    · go_wp2_with fail
                      refine (un_rem n wr).mono ?_
                      rintro E w1 ⟨rfl, hb1⟩
                      have HC2 := Hid.mk' (HC.out.up' hb1)
                      clear hb1
                      go_wp2_with fail
                      go_meet
                      exact HC2.out.fin0
                    · have hj1 : (1 : Int) ≤ (j : Int) := by omega
                      go_wp2_with fail
                      refine (un_rem n wr).mono ?_
                      rintro E w1 ⟨rfl, hb1⟩
                      have HC2 := Hid.mk' (HC.out.up' hb1)
                      clear hb1
                      go_wp2_with fail
                      refine (do_rem n _ HC2.out.fi hnl (fun hd => (HC2.out.dn _ hd).2.1 rfl)).mono ?_
                      rintro E w2 hp
                      obtain ⟨D2, hs⟩ := HC2.out.step hlt hjp (m := 1) (by rw [HXE.out]; simp only [Dd.units]; omega) (by rw [HXE.out]; rfl) hp
                      cases hp.1
                      have HC3 := Hid.mk' hs
                      clear hs hp
                      go_wp2_with fail
                      go_roundw
                      case rel => exact ⟨k + 1, j - 1, D2, _, by omega, by go_num, by go_num, by omega, HC3⟩
                      case measure => simp [intOf]; omega
              · obtain rfl : k = d.queue.length := by omega
                have hlt' : ¬ ((d.queue.length : Int) < (d.queue.length : Int)) := by omega
                go_wp2_with fail
                go_meet
                exact HC.out.finn
          case rest =>
            obtain ⟨D', i, j, HC2⟩ := hcut
            clear HC z2
            go_wp2_with fail
            refine (FI.cloned HC2.out.fi).mono ?_
            rintro E w2 ⟨rfl, hb2, hf2⟩
            have HT := Hid.mk' (HC2.out.done HH.out HB.out hb2 hf2 HK.out)
            have hbe : w2.heap[b]? = w.heap[b]? := (HC2.out.bl.trans (hb2.mono HC2.out.bl.size)).block b hbl
            rw [HB.out] at hbe
            obtain ⟨⟨z0, z1, z2, z3, z4, z5, z6⟩, z7⟩ := box7 hbe
            clear hbe hb2 hf2
            go_wp2_with fail
            go_end0
            exact ⟨rfl, HT.out⟩
end Go.Proofs.Ytpgpncngamagdaa
