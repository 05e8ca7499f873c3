/- drive.Clear -/
import Derived.Test.YtpgpncngamagdaaCEw
import Derived.Test.YtpgpncngamagdaaCEq
set_option linter.unusedVariables false
set_option linter.unusedSimpArgs false
namespace Go.Proofs.Ytpgpncngamagdaa
open Go.RowKit
theorem Turned.behind {M D : Nat → Prop} {w w1 w2 : World} {b : Nat} {d : Dm} (hb : Below w.heap.size w w1) (h : Turned M D w1 b d w2) : Turned M D w b d w2 :=
  Turned.trans (Wb.of_below _ hb) (fun _ h => .inl h) (fun _ h => .inl h) h
theorem nmsl (F : Fl) : (nms F []).length ≤ F.length := by
  unfold nms
  exact Nat.le_trans (List.length_filter_le _ _) (by simp)
theorem clL_cons (d : Dm) (n : By) (r : List By) : clL d (n :: r) = if rawE d (thE d n) ≠ 0 then (rawE d (thE d n), rawD d (.rem n) (thE d n)) else clL (rawD d (.rem n) (thE d n)) r := rfl
/-- amid the loop of Clear -/
def Clo (M D : Nat → Prop) (w : World) (b : Nat) (R : Int × Dm) (L : List By) (rm : Int) (k : Nat) (wr : World) : Prop :=
  ∃ d', Turned M D w b d' wr ∧ R = clL d' (L.drop k) ∧ Bd 1000000 (1000 + k) (1000 + k) rm d'
theorem Ss.toLt {A : Nat → Prop} {w : World} {v : Value} {l : List By} (h : Ss A w v l) : Ss (Lt w.heap.size) w v l := ⟨h.1.toLtN, h.2⟩
set_option maxRecDepth 100000 in
set_option maxHeartbeats 8000000 in
theorem clear_any {M D A : Nat → Prop} {w : World} {b : Nat} {d : Dm} {v : Value} (first : List By) (h : DrIs M D w b d) (hv : Ss A w v first) (hbd : Bd 1000000 1000 1000 d.room d) (hnm : ∀ s ∈ nms d.seen [], s.length ≤ maxLen) :
    Calls Try.prog 33 #[.pointer (some ⟨b, 0, none⟩), v] w fun E w' => E = .returned (.int .i64 (clD d first).1) ∧ Turned M D w b (clD d first).2 w' := by
  have hmf : ∀ (fn : Fn) (first cap : Array Value) (w : World), (Instr.makeFunc fn first cap).run Try.prog w = .ok (.func fn first cap) w := fun _ _ _ _ => rfl
  obtain ⟨va, vc, rfl, hx1⟩ := hv.at
  clear hx1
  have HH := Hid.mk' h
  have HV := Hid.mk' hv.toLt
  have HB := Hid.mk' hbd
  have HN := Hid.mk' hnm
  have HR : Hid (clD d first = if d.dead = true then (9, d) else clL d (ordC d.seen first)) := rfl
  obtain ⟨R, hR⟩ : ∃ R, R = clD d first := ⟨_, rfl⟩
  rw [← hR] at HR ⊢
  have HLN : Hid (∀ s ∈ ordC d.seen first, s.length ≤ maxLen) := fun s hs => by
    unfold ordC at hs
    rcases List.mem_append.1 hs with hs | hs
    · exact hnm s (List.mem_filter.1 hs).1
    · exact hnm s (List.mem_filter.1 hs).1
  clear h hv hbd hnm hR
  go_enter Try.func33, Try.ntmps33
  go_wp2_with fail
  obtain ⟨W, hW⟩ : ∃ W, W = w.alloc (.cells #[.slice va first.length vc] 60) := ⟨_, rfl⟩
  have HBW : Hid (Below w.heap.size w W) := by rw [hW]; exact up_alloc _ _
  have HC : Hid (W.cell? ⟨w.heap.size, 0, none⟩ = some (.slice va first.length vc)) := by show _ = _; rw [hW]; simp
  have HSZ : Hid (W.heap.size = w.heap.size + 1) := by show _ = _; rw [hW]; simp
  rw [← hW]
  clear hW
  have HD0 := Hid.mk' (HH.out.below HBW.out)
  have HDE := Hid.mk' (dead_any HD0.out)
  generalize hdd : d.dead = dd at *
  have HDD := Hid.mk' hdd
  clear hdd
  cases dd
  case true =>
    have HRR : Hid (R = (9, d)) := by show _ = _; rw [HR.out]; rfl
    refine HDE.out.mono ?_
    rintro E w1 ⟨rfl, rfl⟩
    go_wp2_with fail
    go_ret
    exact ⟨by rw [HRR.out]; rfl, by rw [HRR.out]; exact (Turned.refl HD0.out).behind HBW.out⟩
  case false =>
  have HRR : Hid (R = clL d (ordC d.seen first)) := by show _ = _; rw [HR.out]; rfl
  clear HR
  refine HDE.out.mono ?_
  rintro E w1 ⟨rfl, rfl⟩
  clear HDE
  have hls : lsD d [] = nms d.seen [] := by unfold lsD; rw [HDD.out]; rfl
  have HNL : Hid ((nms d.seen []).length * 16 ≤ lim ∧ (nms d.seen []).length ≤ 1000) := by
    have := nmsl d.seen; have := HB.out.len; show _ ∧ _; unfold lim; omega
  have HOC : Hid (ordC d.seen first = (nms d.seen []).filter (hasB first) ++ (nms d.seen []).filter fun s => !hasB first s) := rfl
  have hl1 := list_any [] HD0.out (by decide) (by have := HB.out.len; omega)
  rw [hls] at hl1
  have HL1 := Hid.mk' hl1
  clear hl1 hls
  obtain ⟨N, hN⟩ : ∃ N, N = nms d.seen [] := ⟨_, rfl⟩
  have HLS : Hid (lsD d [] = N) := by show _ = _; rw [hN]; unfold lsD; rw [HDD.out]; rfl
  rw [← hN] at HN HNL HOC HL1
  clear hN
  go_wp2_with fail
  refine HL1.out.mono ?_
  rintro E w1 ⟨v1, rfl, o1, b1⟩
  obtain ⟨a1, c1, rfl⟩ := o1.slice
  have B1 := Hid.mk' b1
  have HC1 : Hid (w1.cell? ⟨w.heap.size, 0, none⟩ = some (.slice va first.length vc)) := cell_later b1 HC.out
  have HV1 := Hid.mk' (HV.out.up (bt HBW.out b1))
  have HSW : Hid (W.heap.size ≤ w1.heap.size) := b1.size
  have HP1 : Hid (∀ w' : World, (∀ k, k < w1.heap.size → (Value.slice a1 N.length c1).ownBlock ≠ some k → w'.heap[k]? = w1.heap[k]?) → ∀ s ∈ N, Calls Try.prog 66 #[.string ⟨s.toArray⟩, .pointer (some ⟨w.heap.size, 0, none⟩)] w' fun e w'' => e = .returned (.bool (!(!hasB first s))) ∧ w' = w'') := by
    intro w' hw' s hs
    have hlt : ∀ k, k < W.heap.size → w'.heap[k]? = w1.heap[k]? := fun k hk => hw' k (by have := HSW.out; omega) fun e => by have := o1.lt k e; omega
    rw [Bool.not_not]
    refine c66 s (HV1.out.keepS fun k hk => hlt k (by have := HSZ.out; unfold Lt at hk; omega)) ?_
    rw [← HC1.out]
    exact World.cell?_of_block (w := w1) (a := ⟨w.heap.size, 0, none⟩) (hlt _ (by have := HSZ.out; show w.heap.size < _; omega))
  have HF1 := Hid.mk' (df66 (P := fun s => !hasB first s) o1 HNL.out.1 HN.out HP1.out trivial)
  have HO1 := Hid.mk' o1
  clear o1 b1 HL1 HP1
  go_wp2_with fail
  refine HF1.out.mono ?_
  rintro E w2 ⟨v2, rfl, o2, wb2⟩
  obtain ⟨a2, c2, rfl⟩ := o2.slice
  have HB2 : Hid (Below W.heap.size W w2) := B1.out.trans (wb2.below B1.out.size fun k hk => (HO1.out.lt k hk).1)
  have HO2 := Hid.mk' o2
  have HD2 := Hid.mk' (HD0.out.below HB2.out)
  have hl2 := list_any [] HD2.out (by decide) (by have := HB.out.len; omega)
  rw [HLS.out] at hl2
  have HL2 := Hid.mk' hl2
  clear hl2 o2 wb2 HF1 HO1 B1 HV1 HC1 HSW
  go_wp2_with fail
  refine HL2.out.mono ?_
  rintro E w3 ⟨v3, rfl, o3, b3⟩
  obtain ⟨a3, c3, rfl⟩ := o3.slice
  have B3 := Hid.mk' b3
  have HC3 : Hid (w3.cell? ⟨w.heap.size, 0, none⟩ = some (.slice va first.length vc)) := cell_later b3 (cell_later HB2.out HC.out)
  have HV3 := Hid.mk' (HV.out.up (bt (bt HBW.out HB2.out) b3))
  have HSW : Hid (W.heap.size ≤ w2.heap.size ∧ w2.heap.size ≤ w3.heap.size) := ⟨HB2.out.size, b3.size⟩
  have HP3 : Hid (∀ w' : World, (∀ k, k < w3.heap.size → (Value.slice a3 N.length c3).ownBlock ≠ some k → w'.heap[k]? = w3.heap[k]?) → ∀ s ∈ N, Calls Try.prog 68 #[.string ⟨s.toArray⟩, .pointer (some ⟨w.heap.size, 0, none⟩)] w' fun e w'' => e = .returned (.bool (!(hasB first s))) ∧ w' = w'') := by
    intro w' hw' s hs
    have hlt : ∀ k, k < W.heap.size → w'.heap[k]? = w3.heap[k]? := fun k hk => hw' k (by have := HSW.out; omega) fun e => by have := o3.lt k e; have := HSW.out; omega
    refine c68 s (HV3.out.keepS fun k hk => hlt k (by have := HSZ.out; unfold Lt at hk; omega)) ?_
    rw [← HC3.out]
    exact World.cell?_of_block (w := w3) (a := ⟨w.heap.size, 0, none⟩) (hlt _ (by have := HSZ.out; show w.heap.size < _; omega))
  have HF3 := Hid.mk' (df68 (P := fun s => hasB first s) o3 HNL.out.1 HN.out HP3.out trivial)
  have HO3 := Hid.mk' o3
  have HO2' := Hid.mk' (HO2.out.up b3)
  clear o3 b3 HL2 HP3 HC3 HV3
  go_wp2_with fail
  refine HF3.out.mono ?_
  rintro E w4 ⟨v4, rfl, o4, wb4⟩
  obtain ⟨a4, c4, rfl⟩ := o4.slice
  have HB4 : Hid (Below w2.heap.size w2 w4) := B3.out.trans (wb4.below B3.out.size fun k hk => (HO3.out.lt k hk).1)
  have HO24 : Hid (So 9 W.heap.size w4 (.slice a2 (N.filter fun s => !hasB first s).length c2) (N.filter fun s => !hasB first s)) := own_wb HO2'.out wb4 fun k hk e => by
    have h1 := (HO3.out.lt k hk).1
    have h2 := (HO2.out.lt k e.symm).2
    omega
  have HO4 := Hid.mk' o4
  have HFL : Hid ((N.filter (hasB first)).length ≤ 1000 ∧ (N.filter fun s => !hasB first s).length ≤ 1000) := by
    have h1 := List.length_filter_le (hasB first) N
    have h2 := List.length_filter_le (fun s => !hasB first s) N
    have := HNL.out
    exact ⟨by omega, by omega⟩
  clear o4 wb4 HF3 HO3 HO2' B3 HO2
  have HOC' : Hid (ordC d.seen first = (N.filter fun s => hasB first s) ++ N.filter fun s => !hasB first s) := HOC.out
  generalize (N.filter fun s => !hasB first s) = N2 at *
  generalize (N.filter fun s => hasB first s) = N1 at *
  have HSS := Hid.mk' (HO24.out.ss (by have := HFL.out; unfold lim; omega))
  clear HOC HO24
  obtain ⟨L, hL⟩ : ∃ L, L = N1 ++ N2 := ⟨_, rfl⟩
  have HLL : Hid (L.length ≤ 2000) := by show _ ≤ _; rw [hL, List.length_append]; have := HFL.out; omega
  have HO : Hid (ordC d.seen first = L) := by show _ = _; rw [HOC'.out, hL]
  rw [HO.out] at HLN
  have hLL : (L.length : Int) ≤ 2000 := by have := HLL.out; omega
  have HL := Hid.mk' hL
  clear hL
  go_wp2_with (at_builtin; refine app75 (B := w2.heap.size) (v := .slice a4 N1.length c4) rfl (.tmp 20) (.tmp 21) rfl rfl HO4.out rfl HSS.out (by have := HFL.out; unfold lim; omega) HB4.out.size ?_; intro v5 w5 o5 g5; rw [← HL.out] at o5; obtain ⟨a5, c5, rfl⟩ := o5.slice)
  have HB5 : Hid (Below w2.heap.size w2 w5) := below_appS HB4.out HO4.out g5 (Nat.le_refl _) HB4.out.size
  have HO5 := Hid.mk' o5
  have HD5 := Hid.mk' (HD2.out.below HB5.out)
  have HBW5 := Hid.mk' (bt (bt HBW.out HB2.out) HB5.out)
  have HW2 : Hid (w.heap.size < w2.heap.size) := by have := HB2.out.size; have := HSZ.out; show _ < _; omega
  clear o5 g5 HOC' HO4 HSS HFL HB4 HB5 HSW HD2 HB2 HC HSZ HLS HN HNL HD0 HDD hmf HV HBW HL
  go_loopw [24] (fun i wr => ∃ k : Nat, k ≤ L.length ∧ i = .int .i64 k ∧ Hid (Clo M D w5 b R L d.room k wr)) (fun i _ => L.length - (intOf i).toNat)
  case atStart => exact ⟨0, by omega, rfl, d, Turned.refl HD5.out, by rw [HRR.out, HO.out]; rfl, HB.out.mono (by omega) (by omega) (by omega)⟩
  case round =>
  obtain ⟨k, hk, rfl, HC⟩ := hrel
  obtain ⟨d', ht, hr, hbd⟩ := HC.out
  have HT := Hid.mk' ht
  have HR2 := Hid.mk' hr
  have HBD := Hid.mk' hbd
  clear HC ht hr hbd
  obtain ⟨hw5, M', D', i1, i2, hd'⟩ := HT.out
  have HDR := Hid.mk' hd'
  have HWI := Hid.mk' (⟨hw5, i1, i2⟩ : _ ∧ _ ∧ _)
  clear hw5 i1 i2 hd'
  by_cases hlt : k < L.length
  · have hlt' : (k : Int) < (L.length : Int) := by omega
    obtain ⟨g, cap, e5, _⟩ := HO5.out.form (by omega)
    cases e5
    have hcell := HO5.out.cell k hlt
    have hgl := HO5.out.lt g rfl
    have hu : wr.cell? ⟨g, k, none⟩ = some (.string ⟨L[k].toArray⟩) := by
      rw [← hcell]
      refine World.cell?_of_block (w := w5) (a := ⟨g, k, none⟩) (HWI.out.1.block g hgl.2 fun hx => ?_)
      have h2 := HW2.out
      rcases hx with hx | hx
      · have := (Array.getElem?_eq_some_iff.1 HH.out.ex.choose_spec.choose_spec.choose_spec.1).1; omega
      · have := (HH.out.hM g hx).1; omega
    have HSTEP := Hid.mk' (clL_cons d' L[k] (L.drop (k + 1)))
    rw [← List.drop_eq_getElem_cons hlt, ← HR2.out] at HSTEP
    have HLK : Hid (L[k].length ≤ maxLen) := HLN.out _ (List.getElem_mem hlt)
    clear HR2 hcell hgl
    generalize L[k] = x at *
    have HRE := Hid.mk' (remove_any x HDR.out HLK.out (by have := HBD.out.len; have := HLL.out; unfold maxLen; omega) (by have := HBD.out.que; have := HLL.out; omega))
    have HB2 := Hid.mk' (HBD.out.rem x (thE d' x))
    go_wp2_with fail
    refine HRE.out.mono ?_
    rintro E w6 ⟨rfl, hT⟩
    have HT6 := Hid.mk' (Turned.trans HWI.out.1 HWI.out.2.1 HWI.out.2.2 hT)
    clear hT hu HRE HT HDR HWI
    by_cases h0 : rawE d' (thE d' x) = 0
    · rw [if_neg (by rw [h0]; simp)] at HSTEP
      go_wp2_with fail
      go_roundw
      case rel => exact ⟨k + 1, by omega, by go_num, ⟨_, HT6.out, HSTEP.out, by have := HB2.out; rw [show 1000 + (k + 1) = 1000 + k + 1 by omega]; exact this⟩⟩
      case measure => simp [intOf]; omega
    · rw [if_pos h0] at HSTEP
      have h0' : (rawE d' (thE d' x) == 0) = false := by simpa using h0
      clear h0
      generalize rawE d' (thE d' x) = e0 at *
      go_wp2_with fail
      go_ret
      exact ⟨by rw [HSTEP.out]; rfl, by rw [HSTEP.out]; exact HT6.out.behind HBW5.out⟩
  · obtain rfl : k = L.length := by omega
    rw [List.drop_length] at HR2
    have HRN : Hid (R = (rawE d' 0, flD d')) := HR2.out
    have HFL := Hid.mk' (flush_any HDR.out)
    clear HR2 HBD hlt
    go_wp2_with fail
    refine HFL.out.mono ?_
    rintro E w6 ⟨rfl, hT⟩
    have HT6 := Hid.mk' (Turned.trans HWI.out.1 HWI.out.2.1 HWI.out.2.2 hT)
    clear hT HFL
    go_wp2_with fail
    go_ret
    exact ⟨by rw [HRN.out]; rfl, by rw [HRN.out]; exact HT6.out.behind HBW5.out⟩
end Go.Proofs.Ytpgpncngamagdaa
