/- The reference's pool: Alloc. The reference's pool: Free. The reference's pool: Put. -/
import Derived.Test.YtbmhkdcmepfmbaaGreatB18
import Derived.Test.YtbmhkdcmepfmbaaGreatB16
import Derived.Deep.CutBlock
set_option linter.unusedVariables false
set_option linter.unusedSimpArgs false
namespace Go.Proofs.YtbmhkdcmepfmbaaGreat
open Go.RowKit
attribute [local go_sem ↓] Go.wp_at_zero Go.wp_at_succ
/-- n is the least number that is free -/
def Fre (R : Al By) (n : Nat) : Prop := n ≤ R.length ∧ (∀ j (h : j < R.length), j < n → R[j].1 = j) ∧ ∀ h : n < R.length, R[n].1 ≠ n
def boxW (w : World) (vs vn : Value) : World := (w.alloc (.cells #[vs, vn] 50)).alloc (.cells #[.slice none 0 0, .slice none 0 0] 50)
theorem boxW_is (w : World) (vs vn : Value) : Below w.heap.size w (boxW w vs vn) ∧ (boxW w vs vn).heap.size = w.heap.size + 2 ∧ (boxW w vs vn).heap[w.heap.size]? = some (.cells #[vs, vn] 50 (0, 0)) ∧ (boxW w vs vn).heap[w.heap.size + 1]? = some (.cells #[.slice none 0 0, .slice none 0 0] 50 (0, 0)) := by
  obtain ⟨W1, h1⟩ : ∃ W1, W1 = w.alloc (.cells #[vs, vn] 50) := ⟨_, rfl⟩
  have z1 : W1.heap.size = w.heap.size + 1 := by rw [h1]; simp
  have e : boxW w vs vn = W1.alloc (.cells #[.slice none 0 0, .slice none 0 0] 50) := by rw [h1]; rfl
  have b1 : Below w.heap.size w W1 := by rw [h1]; exact up_alloc _ _
  have b2 : Below W1.heap.size W1 (boxW w vs vn) := by rw [e]; exact up_alloc _ _
  have x1 : W1.heap[w.heap.size]? = some (.cells #[vs, vn] 50 (0, 0)) := by rw [h1]; exact heap_alloc_new _ _
  refine ⟨bt b1 b2, by rw [e]; simp [z1], ?_, ?_⟩
  · rw [b2.block _ (by omega)]; exact x1
  · rw [e, ← z1]; exact heap_alloc_new _ _
theorem boxW_cells {W' : World} {b : Nat} {x0 x1 y0 y1 : Value} (h0 : W'.heap[b]? = some (.cells #[x0, x1] 50 (0, 0))) (h1 : W'.heap[b + 1]? = some (.cells #[y0, y1] 50 (0, 0))) (v : Value) :
    (W'.setCell ⟨b, 0, none⟩ v).cell? ⟨b, 0, none⟩ = some v ∧ (W'.setCell ⟨b, 0, none⟩ v).cell? ⟨b, 1, none⟩ = some x1 ∧ (((W'.setCell ⟨b, 0, none⟩ v).setCell ⟨b + 1, 0, none⟩ v).setCell ⟨b + 1, 1, none⟩ x1).cell? ⟨b + 1, 0, none⟩ = some v ∧ (((W'.setCell ⟨b, 0, none⟩ v).setCell ⟨b + 1, 0, none⟩ v).setCell ⟨b + 1, 1, none⟩ x1).cell? ⟨b + 1, 1, none⟩ = some x1 ∧
    ((W'.setCell ⟨b + 1, 0, none⟩ x0).setCell ⟨b + 1, 1, none⟩ x1).cell? ⟨b + 1, 0, none⟩ = some x0 ∧ ((W'.setCell ⟨b + 1, 0, none⟩ x0).setCell ⟨b + 1, 1, none⟩ x1).cell? ⟨b + 1, 1, none⟩ = some x1 ∧
    (W'.setCell ⟨b, 0, none⟩ v).cell? ⟨b + 1, 0, none⟩ = some y0 ∧ ((W'.setCell ⟨b, 0, none⟩ v).setCell ⟨b + 1, 0, none⟩ v).cell? ⟨b + 1, 1, none⟩ = some y1 ∧ W'.cell? ⟨b + 1, 0, none⟩ = some y0 ∧ (W'.setCell ⟨b + 1, 0, none⟩ x0).cell? ⟨b + 1, 1, none⟩ = some y1 := by
  have k0 : (W'.setCell ⟨b, 0, none⟩ v).heap[b]? = some (.cells #[v, x1] 50 (0, 0)) := by rw [heap_setCell_same W' b 0 _ 50 v h0]; rfl
  have k1 : (W'.setCell ⟨b, 0, none⟩ v).heap[b + 1]? = some (.cells #[y0, y1] 50 (0, 0)) := by rw [Below.heap_setCell _ _ _ _ (by show b + 1 ≠ b; omega)]; exact h1
  have k2 : ((W'.setCell ⟨b, 0, none⟩ v).setCell ⟨b + 1, 0, none⟩ v).heap[b + 1]? = some (.cells #[v, y1] 50 (0, 0)) := by rw [heap_setCell_same _ (b + 1) 0 _ 50 v k1]; rfl
  have k3 : (((W'.setCell ⟨b, 0, none⟩ v).setCell ⟨b + 1, 0, none⟩ v).setCell ⟨b + 1, 1, none⟩ x1).heap[b + 1]? = some (.cells #[v, x1] 50 (0, 0)) := by rw [heap_setCell_same _ (b + 1) 1 _ 50 x1 k2]; rfl
  have k4 : (W'.setCell ⟨b + 1, 0, none⟩ x0).heap[b + 1]? = some (.cells #[x0, y1] 50 (0, 0)) := by rw [heap_setCell_same _ (b + 1) 0 _ 50 x0 h1]; rfl
  have k5 : ((W'.setCell ⟨b + 1, 0, none⟩ x0).setCell ⟨b + 1, 1, none⟩ x1).heap[b + 1]? = some (.cells #[x0, x1] 50 (0, 0)) := by rw [heap_setCell_same _ (b + 1) 1 _ 50 x1 k4]; rfl
  refine ⟨?_, ?_, ?_, ?_, ?_, ?_, ?_, ?_, ?_, ?_⟩
  · simp only [World.cell?, k0]; rfl
  · simp only [World.cell?, k0]; rfl
  · simp only [World.cell?, k3]; rfl
  · simp only [World.cell?, k3]; rfl
  · simp only [World.cell?, k5]; rfl
  · simp only [World.cell?, k5]; rfl
  · simp only [World.cell?, k1]; rfl
  · simp only [World.cell?, k2]; rfl
  · simp only [World.cell?, h1]; rfl
  · simp only [World.cell?, k4]; rfl
theorem boxW_wb (W' : World) (b : Nat) (u v x : Value) : Wb (fun k => k = b ∨ k = b + 1) W' (((W'.setCell ⟨b, 0, none⟩ u).setCell ⟨b + 1, 0, none⟩ v).setCell ⟨b + 1, 1, none⟩ x) :=
  ((Wb.set (X := fun k => k = b ∨ k = b + 1) W' b 0 u (.inl rfl)).trans (Wb.set _ (b + 1) 0 v (.inr rfl))).trans (Wb.set _ (b + 1) 1 x (.inr rfl))
theorem boxW_wb2 (W' : World) (b : Nat) (v x : Value) : Wb (fun k => k = b ∨ k = b + 1) W' ((W'.setCell ⟨b + 1, 0, none⟩ v).setCell ⟨b + 1, 1, none⟩ x) :=
  (Wb.set (X := fun k => k = b ∨ k = b + 1) W' (b + 1) 0 v (.inr rfl)).trans (Wb.set _ (b + 1) 1 x (.inr rfl))
theorem fre_map {L : List Tq} {k : Nat} (h1 : k ≤ L.length) (h2 : ∀ j (h : j < L.length), j < k → L[j].1.1 = j) (h3 : ∀ h : k < L.length, L[k].1.1 ≠ k) : Fre (L.map (·.1)) k := by
  refine ⟨by simpa using h1, fun j h hj => ?_, fun h => ?_⟩
  · simp only [List.getElem_map]; exact h2 j (by simpa using h) hj
  · simp only [List.getElem_map]; exact h3 (by simpa using h)
theorem fz2 {W' : World} {b : Nat} {x0 x1 : Value} (h0 : W'.heap[b]? = some (.cells #[x0, x1] 50 (0, 0))) : W'.frozen? ⟨b, 0, none⟩ = false ∧ W'.frozen? ⟨b, 1, none⟩ = false :=
  ⟨by simp only [World.frozen?, h0]; simp, by simp only [World.frozen?, h0]; simp⟩
set_option maxRecDepth 100000 in
set_option maxHeartbeats 2000000 in
/-- groyneref07.Alloc -/
theorem ralloc_any {A : Nat → Prop} {w : World} {v : Value} {R : Al By} {nt : By} (h : Rp A w v R nt) (hl : R.length ≤ 100000) : Calls Tryz.prog 47 #[v] w fun e w' => (∃ v' n, e = .returned (.tuple #[v', .int .i64 (n : Nat)]) ∧ Fre R n ∧ Rp (fun k => A k ∨ w.heap.size ≤ k) w' v' (R.take n ++ [((n : Int), zer)] ++ R.drop n) nt) ∧ Below w.heap.size w w' := by
  obtain ⟨vs, vn, rfl, ht, hn⟩ := h
  obtain ⟨L, rfl, hrow, hel, hL⟩ := ht
  obtain ⟨na, nc, rfl, _⟩ := hn.at
  obtain ⟨_, a, c, rfl, hc, _, _⟩ := id hrow
  obtain ⟨hb, hsz, hx0, hx1⟩ := boxW_is w (.slice a L.length c) (.slice na nt.length nc)
  obtain ⟨W, hW⟩ : ∃ W, W = boxW w (.slice a L.length c) (.slice na nt.length nc) := ⟨_, rfl⟩
  rw [← hW] at hb hsz hx0 hx1
  have c0 : W.cell? ⟨w.heap.size, 0, none⟩ = some (.slice a L.length c) := by simp only [World.cell?, hx0]; rfl
  have c1 : W.cell? ⟨w.heap.size, 1, none⟩ = some (.slice na nt.length nc) := by simp only [World.cell?, hx0]; rfl
  have HR := Hid.mk' (hrow.up hb)
  have HE : Hid (∀ q ∈ L, Bs (fun k => A k ∧ k < w.heap.size) W q.2 q.1.2) := fun q hq => Bs.up (⟨Row.andLt (hel q hq).1, (hel q hq).2⟩ : Bs (fun k => A k ∧ k < w.heap.size) w q.2 q.1.2) hb
  have HN : Hid (Bs (fun k => A k ∧ k < w.heap.size) W (.slice na nt.length nc) nt) := Bs.up (⟨Row.andLt hn.1, hn.2⟩ : Bs (fun k => A k ∧ k < w.heap.size) w _ nt) hb
  have HB := Hid.mk' hb
  have HSZ := Hid.mk' hsz
  have HX0 := Hid.mk' hx0
  have HX1 := Hid.mk' hx1
  have HC0 : Hid (∀ W', Below W.heap.size W W' → W'.cell? ⟨w.heap.size, 0, none⟩ = some (.slice a L.length c) ∧ W'.cell? ⟨w.heap.size, 1, none⟩ = some (.slice na nt.length nc)) := fun W' hb => ⟨cell_up c0 hb, cell_up c1 hb⟩
  have HW : Hid (W = (w.alloc (.cells #[.slice a L.length c, .slice na nt.length nc] 50)).alloc (.cells #[.slice none 0 0, .slice none 0 0] 50)) := hW
  have hm' : (L.length : Int) ≤ 100000 := by simp at hl; omega
  clear hrow hel hn hb hsz hx0 hx1 hW hl hL hc
  go_enter Tryz.func47, Tryz.ntmps47
  go_upto_block 0 with fail
  rw [← HW.out]
  go_cut [4] (fun i wx => ∃ k : Nat, k ≤ L.length ∧ i = .int .i64 k ∧ Hid (Fre (L.map (·.1)) k) ∧ W = wx)
  case first =>
    go_wp2_with fail
    go_loop [4] (fun i => ∃ k : Nat, k ≤ L.length ∧ i = .int .i64 k ∧ Hid (∀ j (h : j < L.length), j < k → L[j].1.1 = j)) (fun i => L.length - (intOf i).toNat)
    case atStart => exact ⟨0, by omega, rfl, fun j _ h => by omega⟩
    case round =>
      obtain ⟨k, hk, rfl, HT⟩ := hrel
      have hk' : (k : Int) ≤ 100000 := by omega
      by_cases hlt : k < L.length
      · have hlt' : (k : Int) < (L.length : Int) := by omega
        obtain ⟨g1, g2⟩ := tcs_get L k hlt
        obtain ⟨_, _, _, ev, _, _, HC⟩ := HR.out
        cases ev
        obtain ⟨b, o, rfl, _, e3⟩ := HC _ _ g1
        clear g1 g2 HC
        by_cases hd : L[k].1.1 = k
        · have HV : Hid (∀ j (h : j < L.length), j < k + 1 → L[j].1.1 = j) := fun j h h2 => by
            by_cases e : j = k
            · subst e; exact hd
            · exact HT.out j h (by omega)
          rw [hd] at e3
          clear hd
          go_wp2_with fail
          refine ⟨⟨k + 1, by omega, by go_num, HV⟩, ?_⟩
          simp [intOf]; omega
        · have hd2 : (L[k].1.1 == (k : Int)) = false := by simpa using hd
          have HFR : Hid (Fre (L.map (·.1)) k) := fre_map hk HT.out (fun _ => hd)
          have HD := Hid.mk' hd
          clear hd
          generalize L[k].1.1 = y at *
          go_wp2_with fail
          go_meet
          exact ⟨k, by omega, rfl, HFR, rfl⟩
      · obtain rfl : k = L.length := by omega
        have HFR : Hid (Fre (L.map (·.1)) L.length) := fre_map (Nat.le_refl _) (fun j h _ => HT.out j h h) (fun h => absurd h (Nat.lt_irrefl _))
        go_wp2_with fail
        go_meet
        exact ⟨L.length, by omega, rfl, HFR, rfl⟩
  case rest =>
  obtain ⟨k, hk, rfl, HF, rfl⟩ := hcut
  clear c0 c1
  have HLK : Hid ((L.take k).length = k) := by show _ = _; rw [List.length_take]; omega
  have HLD : Hid ((L.drop k).length = L.length - k) := List.length_drop
  obtain ⟨sa, sc, S1, hr1⟩ := row_hiN (t := 48) (by kernel_rfl) Tryz.size48 (by decide) HR.out k hk
  obtain ⟨sb, sd, S2, hr2⟩ := row_loN (t := 48) (by kernel_rfl) Tryz.size48 (by decide) HR.out k hk
  have HR1 : Hid (Row 2 A W (.slice sa k sc) (L.take k).length (tcs (L.take k))) := by rw [HLK.out, ← tcs_take]; exact hr1
  have HR2 : Hid (Row 2 A W (.slice sb (L.length - k) sd) (L.drop k).length (tcs (L.drop k))) := by rw [HLD.out, ← tcs_drop]; exact hr2
  have hk' : (k : Int) ≤ 100000 := by omega
  have hkl : (k : Int) ≤ (L.length : Int) := by omega
  clear hr1 hr2
  have hu2 := up_alloc W (.cells #[] 105)
  obtain ⟨z0, z1⟩ := HC0.out _ hu2
  have HO2 : Hid ((W.alloc (.cells #[] 105)).ownsRow W.heap.size 105 2 (.slice (some ⟨W.heap.size, 0, none⟩) 0 0) ([] : List Tq).length (tcs [])) := own_empty2 (Nat.le_refl _)
  have HU2 := Hid.mk' hu2
  clear hu2
  have HSZ2 : Hid (W.heap.size = w.heap.size + 2) := HSZ
  go_wp2_with (
    at_builtin
    first
    | refine app48 (L := []) (M := L.take k) rfl (.tmp 23) (.tmp 27) rfl rfl HO2.out rfl (HR1.out.up HU2.out) (fun q hq => ⟨_, _, HE.out q (List.mem_of_mem_take hq)⟩) (by have := HLK.out; simp only [List.length_nil]; omega) HU2.out.size ?_
      intro v3 w3 ho3 hg3 _
      have HO3 := Hid.mk' ho3
      have HB3 := Hid.mk' (below_app HU2.out HO2.out hg3 (Nat.le_refl _) HU2.out.size)
      clear ho3 hg3 z0 z1
      obtain ⟨gz, hgz⟩ : ∃ gz, gz = w3.heap.size := ⟨_, rfl⟩
      obtain ⟨W4, hW4⟩ : ∃ W4, W4 = w3.alloc (.cells (zeros 512) 5) := ⟨_, rfl⟩
      have hmk : (Instr.makeSlice 22 (.int .i64 512) (.int .i64 512)).run Tryz.prog w3 = .ok (.slice (some ⟨gz, 0, none⟩) 512 512) W4 := by rw [hW4, hgz]; exact run_mk 22 Tryz.underlying22 Tryz.info5 512 (by unfold lim; omega) w3
      have hu4 : Below w3.heap.size w3 W4 := by rw [hW4]; exact up_alloc _ _
      have HZ : Hid (Bs (fun k => k = gz) W4 (.slice (some ⟨gz, 0, none⟩) 512 512) zer) := by rw [hW4, hgz]; exact bs_zeros w3 512 (by unfold lim; omega)
      obtain ⟨W5, hW5⟩ : ∃ W5, W5 = W4.alloc (.cells #[.int .i64 (k : Int), .slice (some ⟨gz, 0, none⟩) 512 512] 105) := ⟨_, rfl⟩
      have hu5 : Below W4.heap.size W4 W5 := by rw [hW5]; exact up_alloc _ _
      have HR5 : Hid (Row 2 (Lt (W4.heap.size + 1)) W5 (.slice (some ⟨W4.heap.size, 0, none⟩) 1 1) 1 (tcs [(((k : Int), zer), (.slice (some ⟨gz, 0, none⟩) 512 512))])) := by rw [hW5]; exact one_row2 (((k : Int), zer), (.slice (some ⟨gz, 0, none⟩) 512 512))
      have HO5 : Hid (W5.ownsRow W.heap.size 105 2 v3 (L.take k).length (tcs (L.take k))) := by rw [hW5, hW4]; exact World.ownsRow.alloc (World.ownsRow.alloc HO3.out _) _
      have HB5 : Hid (Below W.heap.size W W5) := bt (bt HB3.out hu4) hu5
      have HZ5 : Hid (Bs (fun k => k = gz) W5 (.slice (some ⟨gz, 0, none⟩) 512 512) zer) := HZ.out.up hu5
      have HS3 : Hid (W.heap.size ≤ gz) := by rw [hgz]; exact HB3.out.size
      have HWX : Hid (W5 = W4.alloc (.cells #[.int .i64 (k : Int), .slice (some ⟨gz, 0, none⟩) 512 512] 105)) := hW5
      have HX3 : Hid (∀ g, some g = v3.ownBlock → g < gz) := fun g hg => by rw [hgz]; exact (HO3.out.lt g hg.symm).2
      have HX5 : Hid (gz < W5.heap.size) := by rw [hW5, hW4, hgz]; show _ < _; simp; omega
      clear hW4 hW5 hu4 hu5 HZ hgz
    | rw [← HWX.out]
      refine app48 (L := L.take k) (M := [(((k : Int), zer), (.slice (some ⟨gz, 0, none⟩) 512 512))]) rfl (.tmp 29) (.tmp 33) rfl rfl HO5.out rfl HR5.out (fun q hq => by obtain rfl := List.mem_singleton.1 hq; exact ⟨_, _, HZ5.out⟩) (by have := HLK.out; rw [List.length_singleton]; omega) HB5.out.size ?_
      intro v6 w6 ho6 hg6 hk6
      have HO6 := Hid.mk' ho6
      have HB6 := Hid.mk' (below_app HB5.out HO5.out hg6 (Nat.le_refl _) HB5.out.size)
      have HZ6 : Hid (Bs (fun k => k = gz) w6 (.slice (some ⟨gz, 0, none⟩) 512 512) zer) := (HZ5.out.wb (Wb.of_grown hg6) (fun j hj hj2 => by have h1 := HX3.out j hj; have hj2 : j = _ := hj2; omega))
      have HB5W : Hid (Below W.heap.size W w6) := HB6.out
      obtain ⟨z0, z1⟩ := HC0.out _ HB6.out
      have HK6 : Hid (∀ g, some g = v6.ownBlock → g ≠ gz) := fun g hg e => by
        rcases hk6 with h | h
        · have := HX3.out g (hg.trans h); omega
        · rw [h] at hg; cases hg; have := HX5.out; omega
      clear ho6 hg6 hmk hk6
    | refine app48 (L := L.take k ++ [(((k : Int), zer), .slice (some ⟨gz, 0, none⟩) 512 512)]) (M := L.drop k) rfl (.tmp 35) (.tmp 39) rfl rfl HO6.out rfl (HR2.out.up HB6.out) (fun q hq => ⟨_, _, HE.out q (List.mem_of_mem_drop hq)⟩) (by have h1 := HLK.out; have h2 := HLD.out; rw [List.length_append, List.length_singleton]; omega) HB6.out.size ?_
      intro v7 w7 ho7 hg7 _
      have HO7 := Hid.mk' ho7
      have hb7 := below_app HB6.out HO6.out hg7 (Nat.le_refl _) HB6.out.size
      have HB7 := Hid.mk' hb7
      obtain ⟨q7, m7, n7, e7⟩ : ∃ a m c, v7 = .slice a m c := by obtain ⟨a, c, e⟩ := own_sliceN ho7; exact ⟨_, _, _, e⟩
      subst e7
      have HZ7 : Hid (Bs (fun k => W.heap.size ≤ k) w7 (.slice (some ⟨gz, 0, none⟩) 512 512) zer) := (HZ6.out.wb (Wb.of_grown hg7) (fun j hj hj2 => HK6.out j hj hj2)).monoS (fun j hj => by have hj : j = _ := hj; have := HS3.out; omega)
      clear z0 z1
      obtain ⟨z0, z1⟩ := HC0.out _ hb7
      have f0 : w7.heap[w.heap.size]? = some (.cells #[.slice a L.length c, .slice na nt.length nc] 50 (0, 0)) := by rw [hb7.block _ (by rw [HSZ.out]; omega)]; exact HX0.out
      have f1 : w7.heap[w.heap.size + 1]? = some (.cells #[.slice none 0 0, .slice none 0 0] 50 (0, 0)) := by rw [hb7.block _ (by rw [HSZ.out]; omega)]; exact HX1.out
      obtain ⟨y0, y1, y2, y3, _, _, y4, y5, y6, y7⟩ := boxW_cells f0 f1 (.slice q7 m7 n7)
      obtain ⟨e0, _⟩ := fz2 f0
      obtain ⟨e1, e2⟩ := fz2 f1
      clear ho7 hg7 hb7 f0 f1)
  refine bodyPost_ret (v := .tuple #[.agg #[.slice q7 m7 n7, .slice na nt.length nc], .int .i64 (k : Int)]) ?_ rfl ?_
  · simp [results, Tryz.results47, go_sem, y0, y1, y2, y3]
  have hbW := HB7.out
  have hwb := boxW_wb w7 w.heap.size (.slice q7 m7 n7) (.slice q7 m7 n7) (.slice na nt.length nc)
  have hX : ∀ j, j = w.heap.size ∨ j = w.heap.size + 1 → ¬ ((A j ∧ j < w.heap.size) ∨ W.heap.size ≤ j) := fun j hj h => by have := HSZ.out; omega
  have hA : ∀ j, ((A j ∧ j < w.heap.size) ∨ W.heap.size ≤ j) → A j ∨ w.heap.size ≤ j := fun j hj => by
    have := HSZ.out
    rcases hj with hj | hj
    · exact .inl hj.1
    · exact .inr (by omega)
  refine ⟨⟨_, k, rfl, HF.out, ⟨_, _, rfl, ?_, ?_⟩⟩, ?_⟩
  · have hmem : ∀ q ∈ L.take k ++ [(((k : Int), zer), Value.slice (some ⟨gz, 0, none⟩) 512 512)] ++ L.drop k, Bs (fun j => (A j ∧ j < w.heap.size) ∨ W.heap.size ≤ j) w7 q.2 q.1.2 := fun q hq => by
      simp only [List.mem_append, List.mem_singleton] at hq
      rcases hq with (hq | hq) | hq
      · exact ((HE.out q (List.mem_of_mem_take hq)).up hbW).monoS fun _ h => .inl h
      · subst hq; exact HZ7.out.monoS fun _ h => .inr h
      · exact ((HE.out q (List.mem_of_mem_drop hq)).up hbW).monoS fun _ h => .inl h
    have h1 : Ts (fun j => (A j ∧ j < w.heap.size) ∨ W.heap.size ≤ j) w7 (.slice q7 m7 n7) ((L.take k ++ [(((k : Int), zer), Value.slice (some ⟨gz, 0, none⟩) 512 512)] ++ L.drop k).map (·.1)) :=
      ⟨_, rfl, (Row.of_ownB HO7.out).monoS fun _ h => .inr h, hmem, by have h1 := HLK.out; have h2 := HLD.out; simp only [List.length_append, List.length_singleton]; omega⟩
    have h2 := (h1.wb hwb hX).monoS hA
    simp only [List.map_append, List.map_cons, List.map_nil, List.map_take, List.map_drop] at h2
    exact h2
  · exact (((HN.out.up hbW).monoS fun _ h => .inl h).wb hwb hX).monoS hA
  · exact (HB.out.trans (hbW.mono HB.out.size)).trans (hwb.below (Nat.le_trans HB.out.size hbW.size) fun j hj => by omega)
end Go.Proofs.YtbmhkdcmepfmbaaGreat
set_option linter.unusedVariables false
set_option linter.unusedSimpArgs false
namespace Go.Proofs.YtbmhkdcmepfmbaaGreat
open Go.RowKit
attribute [local go_sem ↓] Go.wp_at_zero Go.wp_at_succ
theorem adel_none {α : Type} {F : Al α} {s : Int} (h : aget F s = none) : adel F s = F := by
  induction F with
  | nil => rfl
  | cons x r ih =>
    obtain ⟨n, m⟩ := x
    rw [aget] at h
    rw [adel]
    split at h
    · cases h
    · rename_i hn
      rw [if_neg hn, ih h]
theorem adel_at {α : Type} {F : Al α} (hF : ASrt F) {s : Int} {k : Nat} (hk : k < F.length) (he : F[k].1 = s) : adel F s = F.take k ++ F.drop (k + 1) := by
  induction F generalizing k with
  | nil => simp at hk
  | cons x r ih =>
    obtain ⟨n, m⟩ := x
    have h2 := (List.pairwise_cons.1 hF).1
    rw [adel]
    cases k with
    | zero =>
      have he : n = s := he
      rw [if_pos he.symm]; rfl
    | succ k =>
      have hk' : k < r.length := by simpa using hk
      have he : r[k].1 = s := he
      have hlt : n < s := by rw [← he]; exact h2 _ (List.getElem_mem hk')
      rw [if_neg (by omega), ih hF.tail hk' he]; rfl
set_option maxRecDepth 100000 in
set_option maxHeartbeats 2000000 in
/-- groyneref07.Free -/
theorem rfree_any {A : Nat → Prop} {w : World} {v : Value} {R : Al By} {nt : By} (hR : ASrt R) (id : Int) (h : Rp A w v R nt) (hl : R.length ≤ 100000) : Calls Tryz.prog 48 #[v, .int .i64 id] w fun e w' => (∃ v', e = .returned (.tuple #[v', .int .i64 (gE R id)]) ∧ Rp (fun k => A k ∨ w.heap.size ≤ k) w' v' (adel R id) nt) ∧ Below w.heap.size w w' := by
  obtain ⟨vs, vn, rfl, ht, hn⟩ := h
  have ht0 := ht
  obtain ⟨L, rfl, hrow, hel, hL⟩ := ht
  obtain ⟨na, nc, rfl, _⟩ := hn.at
  obtain ⟨_, a, c, rfl, hc, _, _⟩ := And.intro hrow.1 hrow.2
  obtain ⟨hb, hsz, hx0, hx1⟩ := boxW_is w (.slice a L.length c) (.slice na nt.length nc)
  obtain ⟨W, hW⟩ : ∃ W, W = boxW w (.slice a L.length c) (.slice na nt.length nc) := ⟨_, rfl⟩
  rw [← hW] at hb hsz hx0 hx1
  have c0 : W.cell? ⟨w.heap.size, 0, none⟩ = some (.slice a L.length c) := by simp only [World.cell?, hx0]; rfl
  have c1 : W.cell? ⟨w.heap.size, 1, none⟩ = some (.slice na nt.length nc) := by simp only [World.cell?, hx0]; rfl
  have HR := Hid.mk' (hrow.up hb)
  have HRL : Hid (Row 2 (fun k => A k ∧ k < w.heap.size) W (.slice a L.length c) L.length (tcs L)) := Row.up (Row.andLt hrow) hb
  have HE : Hid (∀ q ∈ L, Bs (fun k => A k ∧ k < w.heap.size) W q.2 q.1.2) := fun q hq => Bs.up (⟨Row.andLt (hel q hq).1, (hel q hq).2⟩ : Bs (fun k => A k ∧ k < w.heap.size) w q.2 q.1.2) hb
  have HN : Hid (Bs (fun k => A k ∧ k < w.heap.size) W (.slice na nt.length nc) nt) := Bs.up (⟨Row.andLt hn.1, hn.2⟩ : Bs (fun k => A k ∧ k < w.heap.size) w _ nt) hb
  have HB := Hid.mk' hb
  have HSZ := Hid.mk' hsz
  have HX0 := Hid.mk' hx0
  have HX1 := Hid.mk' hx1
  have HC0 : Hid (∀ W', Below W.heap.size W W' → W'.cell? ⟨w.heap.size, 0, none⟩ = some (.slice a L.length c) ∧ W'.cell? ⟨w.heap.size, 1, none⟩ = some (.slice na nt.length nc)) := fun W' hb => ⟨cell_up c0 hb, cell_up c1 hb⟩
  have HW : Hid (W = (w.alloc (.cells #[.slice a L.length c, .slice na nt.length nc] 50)).alloc (.cells #[.slice none 0 0, .slice none 0 0] 50)) := hW
  have hm' : (L.length : Int) ≤ 100000 := by simp at hl; omega
  have HFI := Hid.mk' (find_any (vn := .slice na nt.length nc) id (ht0.up hb))
  have HRS := Hid.mk' hR
  clear ht0 hR hrow hel hn hb hsz hx0 hx1 hW hl hL hc
  go_enter Tryz.func48, Tryz.ntmps48
  go_wp2_with fail
  rw [← HW.out]
  refine HFI.out.mono ?_
  rintro e w1 ⟨⟨x, rfl, hf⟩, hb1⟩
  have HF := Hid.mk' hf
  have HB1 := Hid.mk' hb1
  have HN1 := Hid.mk' (fnd_none HRS.out hf)
  have hs1 := hb1.size
  have f0 : w1.heap[w.heap.size]? = some (.cells #[.slice a L.length c, .slice na nt.length nc] 50 (0, 0)) := by rw [hb1.block _ (by rw [HSZ.out]; omega)]; exact HX0.out
  have f1 : w1.heap[w.heap.size + 1]? = some (.cells #[.slice none 0 0, .slice none 0 0] 50 (0, 0)) := by rw [hb1.block _ (by rw [HSZ.out]; omega)]; exact HX1.out
  obtain ⟨z0, z1⟩ := HC0.out _ hb1
  clear c0 c1
  have hX : ∀ j, j = w.heap.size ∨ j = w.heap.size + 1 → ¬ ((A j ∧ j < w.heap.size) ∨ W.heap.size ≤ j) := fun j hj h => by have := HSZ.out; omega
  have hA : ∀ j, ((A j ∧ j < w.heap.size) ∨ W.heap.size ≤ j) → A j ∨ w.heap.size ≤ j := fun j hj => by
    have := HSZ.out
    rcases hj with hj | hj
    · exact .inl hj.1
    · exact .inr (by omega)
  have HX := Hid.mk' hX
  have HA := Hid.mk' hA
  clear hX hA hf
  by_cases hx : x < 0
  · have HXX := Hid.mk' hx
    obtain ⟨_, _, _, _, y0, y1, _, _, y2, y3⟩ := boxW_cells f0 f1 (.slice a L.length c)
    obtain ⟨e1, e2⟩ := fz2 f1
    have HF1 : Hid (Row 2 (fun k => A k ∧ k < w.heap.size) w1 (.slice a L.length c) L.length (tcs L)) := HRL.out.up hb1
    clear f0 f1 hb1 hs1
    go_wp2_with fail
    refine bodyPost_ret (v := .tuple #[.agg #[.slice a L.length c, .slice na nt.length nc], .int .i64 1]) ?_ rfl ?_
    · simp [results, Tryz.results48, go_sem, y0, y1, y2, y3]
    have hn := HN1.out.1.1 HXX.out
    have hwb := boxW_wb2 w1 w.heap.size (.slice a L.length c) (.slice na nt.length nc)
    refine ⟨⟨_, by rw [gE_none hn], ⟨_, _, rfl, ?_, ?_⟩⟩, ?_⟩
    · rw [adel_none hn]
      have h1 : Ts (fun j => (A j ∧ j < w.heap.size) ∨ W.heap.size ≤ j) w1 (.slice a L.length c) (L.map (·.1)) :=
        ⟨L, rfl, HF1.out.monoS fun _ h => .inl h, fun q hq => ((HE.out q hq).up HB1.out).monoS fun _ h => .inl h, by omega⟩
      exact (h1.wb hwb HX.out).monoS HA.out
    · exact (((HN.out.up HB1.out).monoS fun _ h => .inl h).wb hwb HX.out).monoS HA.out
    · exact (HB.out.trans (HB1.out.mono HB.out.size)).trans (hwb.below (Nat.le_trans HB.out.size HB1.out.size) fun j hj => by omega)
  · obtain ⟨k, rfl, hk0, he⟩ := fnd_some HF.out hx
    have hk : k < L.length := by simpa using hk0
    have HKE : Hid (L[k].1.1 = id) := by show _ = _; simpa using he
    clear hk0 he f0 f1
    have HLK : Hid ((L.take k).length = k) := by show _ = _; rw [List.length_take]; omega
    have HLD : Hid ((L.drop (k + 1)).length = L.length - (k + 1)) := List.length_drop
    obtain ⟨sa, sc, S1, hr1⟩ := row_hiN (t := 48) (by kernel_rfl) Tryz.size48 (by decide) HR.out k (by omega)
    obtain ⟨sb, sd, S2, hr2⟩ := row_loN (t := 48) (by kernel_rfl) Tryz.size48 (by decide) HR.out (k + 1) (by omega)
    have S2 : ∀ w, (Instr.slice 48 (.slice a L.length c) (some (.int .i64 ((k : Int) + 1))) none none).run Tryz.prog w = .ok (.slice sb (L.length - (k + 1)) sd) w := S2
    have HR1 : Hid (Row 2 A W (.slice sa k sc) (L.take k).length (tcs (L.take k))) := by rw [HLK.out, ← tcs_take]; exact hr1
    have HR2 : Hid (Row 2 A W (.slice sb (L.length - (k + 1)) sd) (L.drop (k + 1)).length (tcs (L.drop (k + 1)))) := by rw [HLD.out, ← tcs_drop]; exact hr2
    have hk' : (k : Int) ≤ 100000 := by omega
    have hkl : (k : Int) < (L.length : Int) := by omega
    clear hr1 hr2
    have HU1 : Hid (Below W.heap.size W (w1.alloc (.cells #[] 105))) := bt hb1 (up_alloc _ _)
    have hu2 := up_alloc w1 (.cells #[] 105)
    obtain ⟨z2, z3⟩ := HC0.out _ (bt hb1 hu2)
    have HO2 : Hid ((w1.alloc (.cells #[] 105)).ownsRow W.heap.size 105 2 (.slice (some ⟨w1.heap.size, 0, none⟩) 0 0) ([] : List Tq).length (tcs [])) := own_empty2 hs1
    clear hu2 hb1 hs1
    go_wp2_with (
      at_builtin
      first
      | refine app48 (L := []) (M := L.take k) rfl (.tmp 14) (.tmp 18) rfl rfl HO2.out rfl (HR1.out.up HU1.out) (fun q hq => ⟨_, _, HE.out q (List.mem_of_mem_take hq)⟩) (by have := HLK.out; simp only [List.length_nil]; omega) HU1.out.size ?_
        intro v6 w6 ho6 hg6 _
        have HO6 := Hid.mk' ho6
        have HB6 := Hid.mk' (below_app HU1.out HO2.out hg6 (Nat.le_refl _) HU1.out.size)
        clear z0 z1 z2 z3
        obtain ⟨z0, z1⟩ := HC0.out _ HB6.out
        clear ho6 hg6
      | refine app48 (L := L.take k) (M := L.drop (k + 1)) rfl (.tmp 20) (.tmp 25) rfl rfl HO6.out rfl (HR2.out.up HB6.out) (fun q hq => ⟨_, _, HE.out q (List.mem_of_mem_drop hq)⟩) (by have h1 := HLK.out; have h2 := HLD.out; omega) HB6.out.size ?_
        intro v7 w7 ho7 hg7 _
        have HO7 := Hid.mk' ho7
        have hb7 := below_app HB6.out HO6.out hg7 (Nat.le_refl _) HB6.out.size
        have HB7 := Hid.mk' hb7
        obtain ⟨q7, m7, n7, e7⟩ : ∃ a m c, v7 = .slice a m c := by obtain ⟨a, c, e⟩ := own_sliceN ho7; exact ⟨_, _, _, e⟩
        subst e7
        clear z0 z1
        obtain ⟨z0, z1⟩ := HC0.out _ hb7
        have f0 : w7.heap[w.heap.size]? = some (.cells #[.slice a L.length c, .slice na nt.length nc] 50 (0, 0)) := by rw [hb7.block _ (by rw [HSZ.out]; omega)]; exact HX0.out
        have f1 : w7.heap[w.heap.size + 1]? = some (.cells #[.slice none 0 0, .slice none 0 0] 50 (0, 0)) := by rw [hb7.block _ (by rw [HSZ.out]; omega)]; exact HX1.out
        obtain ⟨y0, y1, y2, y3, _, _, y4, y5, y6, y7⟩ := boxW_cells f0 f1 (.slice q7 m7 n7)
        obtain ⟨e0, _⟩ := fz2 f0
        obtain ⟨e1, e2⟩ := fz2 f1
        clear ho7 hg7 hb7 f0 f1)
    refine bodyPost_ret (v := .tuple #[.agg #[.slice q7 m7 n7, .slice na nt.length nc], .int .i64 0]) ?_ rfl ?_
    · simp [results, Tryz.results48, go_sem, y0, y1, y2, y3]
    have hbW := HB7.out
    have hwb := boxW_wb w7 w.heap.size (.slice q7 m7 n7) (.slice q7 m7 n7) (.slice na nt.length nc)
    have hg : aget (L.map (·.1)) id = some L[k].1.2 := aget_of_mem HRS.out (by rw [← HKE.out]; exact List.mem_map.2 ⟨_, List.getElem_mem hk, rfl⟩)
    refine ⟨⟨_, by rw [gE_some hg], ⟨_, _, rfl, ?_, ?_⟩⟩, ?_⟩
    · have hmem : ∀ q ∈ L.take k ++ L.drop (k + 1), Bs (fun j => (A j ∧ j < w.heap.size) ∨ W.heap.size ≤ j) w7 q.2 q.1.2 := fun q hq => by
        simp only [List.mem_append] at hq
        rcases hq with hq | hq
        · exact ((HE.out q (List.mem_of_mem_take hq)).up hbW).monoS fun _ h => .inl h
        · exact ((HE.out q (List.mem_of_mem_drop hq)).up hbW).monoS fun _ h => .inl h
      have h1 : Ts (fun j => (A j ∧ j < w.heap.size) ∨ W.heap.size ≤ j) w7 (.slice q7 m7 n7) ((L.take k ++ L.drop (k + 1)).map (·.1)) :=
        ⟨_, rfl, (Row.of_ownB HO7.out).monoS fun _ h => .inr h, hmem, by have h1 := HLK.out; have h2 := HLD.out; simp only [List.length_append]; omega⟩
      have h2 := (h1.wb hwb HX.out).monoS HA.out
      simp only [List.map_append, List.map_take, List.map_drop] at h2
      rw [adel_at HRS.out (k := k) (by simpa using hk) (by simpa using HKE.out)]
      exact h2
    · exact (((HN.out.up hbW).monoS fun _ h => .inl h).wb hwb HX.out).monoS HA.out
    · exact (HB.out.trans (hbW.mono HB.out.size)).trans (hwb.below (Nat.le_trans HB.out.size hbW.size) fun j hj => by omega)
end Go.Proofs.YtbmhkdcmepfmbaaGreat
set_option linter.unusedVariables false
set_option linter.unusedSimpArgs false
namespace Go.Proofs.YtbmhkdcmepfmbaaGreat
open Go.RowKit
attribute [local go_sem ↓] Go.wp_at_zero Go.wp_at_succ
theorem aput_at {α : Type} {F : Al α} (hF : ASrt F) {s : Int} {k : Nat} (hk : k < F.length) (he : F[k].1 = s) (l : α) : aput F s l = F.set k (s, l) := by
  induction F generalizing k with
  | nil => simp at hk
  | cons x r ih =>
    obtain ⟨n, m⟩ := x
    have h2 := (List.pairwise_cons.1 hF).1
    rw [aput]
    cases k with
    | zero =>
      have he : n = s := he
      rw [if_pos he.symm]; rfl
    | succ k =>
      have hk' : k < r.length := by simpa using hk
      have he : r[k].1 = s := he
      have hlt : n < s := by rw [← he]; exact h2 _ (List.getElem_mem hk')
      rw [if_neg (by omega), if_neg (by omega), ih hF.tail hk' he]; rfl
theorem tcs_set (L : List Tq) (k : Nat) (q : Tq) : tcs (L.set k q) = ((tcs L).set (k * 2) (.int .i64 q.1.1)).set (k * 2 + 1) q.2 := by
  induction L generalizing k with
  | nil => simp [tcs]
  | cons p L ih =>
    have e : ∀ (p : Tq) (L : List Tq), tcs (p :: L) = .int .i64 p.1.1 :: p.2 :: tcs L := fun p L => by simp [tcs, tc]
    cases k with
    | zero => rw [List.set_cons_zero, e, e]; rfl
    | succ k =>
      rw [List.set_cons_succ, e, e, ih, show (k + 1) * 2 = k * 2 + 1 + 1 by omega]
      rfl
theorem own_set2 {B : Nat} {w : World} {v : Value} {L : List Tq} (h : w.ownsRow B 105 2 v L.length (tcs L)) {k : Nat} (hk : k < L.length) (q : Tq) :
    ∃ g cap c0 c1, v = .slice (some ⟨g, 0, none⟩) L.length cap ∧ B ≤ g ∧ g < w.heap.size ∧ w.cell? ⟨g, k * 2, none⟩ = some c0 ∧ (w.setCell ⟨g, k * 2, none⟩ (.int .i64 q.1.1)).cell? ⟨g, k * 2 + 1, none⟩ = some c1 ∧ (∀ i, w.frozen? ⟨g, i, none⟩ = false) ∧
      ((w.setCell ⟨g, k * 2, none⟩ (.int .i64 q.1.1)).setCell ⟨g, k * 2 + 1, none⟩ q.2).ownsRow B 105 2 v L.length (tcs (L.set k q)) := by
  obtain ⟨hl, h | ⟨g, cap, cur, hv, hb, hg, hn, hm, hs, ht⟩⟩ := h
  · have := h.2; omega
  · have hlt := (Array.getElem?_eq_some_iff.1 hg).1
    have h1 : (w.setCell ⟨g, k * 2, none⟩ (.int .i64 q.1.1)).heap[g]? = some (.cells (cur.setIfInBounds (k * 2) (.int .i64 q.1.1)) 105 (0, 0)) := heap_setCell_same w g (k * 2) cur 105 _ hg
    have h2 : ((w.setCell ⟨g, k * 2, none⟩ (.int .i64 q.1.1)).setCell ⟨g, k * 2 + 1, none⟩ q.2).heap[g]? = some (.cells ((cur.setIfInBounds (k * 2) (.int .i64 q.1.1)).setIfInBounds (k * 2 + 1) q.2) 105 (0, 0)) := heap_setCell_same _ g (k * 2 + 1) _ 105 _ h1
    have hs2 : k * 2 + 1 < cur.size := by rw [hs]; omega
    refine ⟨g, cap, cur[k * 2]'(by omega), cur[k * 2 + 1]'hs2, hv, hb, hlt, ?_, ?_, fun i => by simp only [World.frozen?, hg]; simp, ?_, .inr ⟨g, cap, _, hv, hb, h2, hn, hm, by simpa using hs, ?_⟩⟩
    · simp only [World.cell?, hg]
      rw [Array.getElem?_eq_getElem (by omega)]; rfl
    · simp only [World.cell?, h1]
      rw [Array.getElem?_setIfInBounds_ne (by omega), Array.getElem?_eq_getElem hs2]; rfl
    · rw [tcs_set, List.length_set, List.length_set]; exact hl
    · rw [tcs_set, ← ht, Array.toList_setIfInBounds, Array.toList_setIfInBounds, List.take_set, List.take_set]
def pE (R : Al By) (id : Int) (l : By) : Int := if (aget R id).isSome then (if l.length = 512 then 0 else 2) else 1
def pR (R : Al By) (id : Int) (l : By) : Al By := if (aget R id).isSome ∧ l.length = 512 then aput R id l else R
set_option maxRecDepth 100000 in
set_option maxHeartbeats 2000000 in
/-- groyneref07.Put -/
theorem rput_any {A A2 : Nat → Prop} {w : World} {v u : Value} {R : Al By} {nt da : By} (hR : ASrt R) (id : Int) (h : Rp A w v R nt) (hu : Bs A2 w u da) (hl : R.length ≤ 100000) : Calls Tryz.prog 51 #[v, .int .i64 id, u] w fun e w' => (∃ v', e = .returned (.tuple #[v', .int .i64 (pE R id da)]) ∧ Rp (fun k => A k ∨ w.heap.size ≤ k) w' v' (pR R id da) nt) ∧ Below w.heap.size w w' := by
  obtain ⟨vs, vn, rfl, ht, hn⟩ := h
  have ht0 := ht
  obtain ⟨L, rfl, hrow, hel, hL⟩ := ht
  obtain ⟨na, nc, rfl, _⟩ := hn.at
  obtain ⟨_, a, c, rfl, hc, _, _⟩ := And.intro hrow.1 hrow.2
  obtain ⟨hb, hsz, hx0, hx1⟩ := boxW_is w (.slice a L.length c) (.slice na nt.length nc)
  obtain ⟨W, hW⟩ : ∃ W, W = boxW w (.slice a L.length c) (.slice na nt.length nc) := ⟨_, rfl⟩
  rw [← hW] at hb hsz hx0 hx1
  have c0 : W.cell? ⟨w.heap.size, 0, none⟩ = some (.slice a L.length c) := by simp only [World.cell?, hx0]; rfl
  have c1 : W.cell? ⟨w.heap.size, 1, none⟩ = some (.slice na nt.length nc) := by simp only [World.cell?, hx0]; rfl
  have HR := Hid.mk' (hrow.up hb)
  have HRL : Hid (Row 2 (fun k => A k ∧ k < w.heap.size) W (.slice a L.length c) L.length (tcs L)) := Row.up (Row.andLt hrow) hb
  have HE : Hid (∀ q ∈ L, Bs (fun k => A k ∧ k < w.heap.size) W q.2 q.1.2) := fun q hq => Bs.up (⟨Row.andLt (hel q hq).1, (hel q hq).2⟩ : Bs (fun k => A k ∧ k < w.heap.size) w q.2 q.1.2) hb
  have HN : Hid (Bs (fun k => A k ∧ k < w.heap.size) W (.slice na nt.length nc) nt) := Bs.up (⟨Row.andLt hn.1, hn.2⟩ : Bs (fun k => A k ∧ k < w.heap.size) w _ nt) hb
  have HB := Hid.mk' hb
  have HSZ := Hid.mk' hsz
  have HX0 := Hid.mk' hx0
  have HX1 := Hid.mk' hx1
  have HC0 : Hid (∀ W', Below W.heap.size W W' → W'.cell? ⟨w.heap.size, 0, none⟩ = some (.slice a L.length c) ∧ W'.cell? ⟨w.heap.size, 1, none⟩ = some (.slice na nt.length nc)) := fun W' hb => ⟨cell_up c0 hb, cell_up c1 hb⟩
  have HW : Hid (W = (w.alloc (.cells #[.slice a L.length c, .slice na nt.length nc] 50)).alloc (.cells #[.slice none 0 0, .slice none 0 0] 50)) := hW
  have hm' : (L.length : Int) ≤ 100000 := by simp at hl; omega
  have HFI := Hid.mk' (find_any (vn := .slice na nt.length nc) id (ht0.up hb))
  have HRS := Hid.mk' hR
  obtain ⟨ua, uc, rfl, _⟩ := hu.at
  have hlim : (da.length : Int) ≤ 140737488351232 := by have := hu.2; unfold lim at this; omega
  have HU := Hid.mk' (hu.up hb)
  clear ht0 hu hR hrow hel hn hb hsz hx0 hx1 hW hl hL hc
  go_enter Tryz.func51, Tryz.ntmps51
  go_wp2_with fail
  rw [← HW.out]
  refine HFI.out.mono ?_
  rintro e w1 ⟨⟨x, rfl, hf⟩, hb1⟩
  have HF := Hid.mk' hf
  have HB1 := Hid.mk' hb1
  have HN1 := Hid.mk' (fnd_none HRS.out hf)
  have hs1 := hb1.size
  have f0 : w1.heap[w.heap.size]? = some (.cells #[.slice a L.length c, .slice na nt.length nc] 50 (0, 0)) := by rw [hb1.block _ (by rw [HSZ.out]; omega)]; exact HX0.out
  have f1 : w1.heap[w.heap.size + 1]? = some (.cells #[.slice none 0 0, .slice none 0 0] 50 (0, 0)) := by rw [hb1.block _ (by rw [HSZ.out]; omega)]; exact HX1.out
  obtain ⟨z0, z1⟩ := HC0.out _ hb1
  clear c0 c1
  have hX : ∀ j, j = w.heap.size ∨ j = w.heap.size + 1 → ¬ ((A j ∧ j < w.heap.size) ∨ W.heap.size ≤ j) := fun j hj h => by have := HSZ.out; omega
  have hA : ∀ j, ((A j ∧ j < w.heap.size) ∨ W.heap.size ≤ j) → A j ∨ w.heap.size ≤ j := fun j hj => by
    have := HSZ.out
    rcases hj with hj | hj
    · exact .inl hj.1
    · exact .inr (by omega)
  have HX := Hid.mk' hX
  have HA := Hid.mk' hA
  clear hX hA hf
  by_cases hx : x < 0
  · have HXX := Hid.mk' hx
    obtain ⟨_, _, _, _, y0, y1, _, _, y2, y3⟩ := boxW_cells f0 f1 (.slice a L.length c)
    obtain ⟨e1, e2⟩ := fz2 f1
    have HF1 : Hid (Row 2 (fun k => A k ∧ k < w.heap.size) w1 (.slice a L.length c) L.length (tcs L)) := HRL.out.up hb1
    clear f0 f1 hb1 hs1
    go_wp2_with fail
    refine bodyPost_ret (v := .tuple #[.agg #[.slice a L.length c, .slice na nt.length nc], .int .i64 1]) ?_ rfl ?_
    · simp [results, Tryz.results51, go_sem, y0, y1, y2, y3]
    have hn := HN1.out.1.1 HXX.out
    have hwb := boxW_wb2 w1 w.heap.size (.slice a L.length c) (.slice na nt.length nc)
    refine ⟨⟨_, by show _ = _; unfold pE; rw [hn]; rfl, ⟨_, _, rfl, ?_, ?_⟩⟩, ?_⟩
    · have e : pR (L.map (·.1)) id da = L.map (·.1) := by unfold pR; rw [hn]; rfl
      rw [e]
      have h1 : Ts (fun j => (A j ∧ j < w.heap.size) ∨ W.heap.size ≤ j) w1 (.slice a L.length c) (L.map (·.1)) :=
        ⟨L, rfl, HF1.out.monoS fun _ h => .inl h, fun q hq => ((HE.out q hq).up HB1.out).monoS fun _ h => .inl h, by omega⟩
      exact (h1.wb hwb HX.out).monoS HA.out
    · exact (((HN.out.up HB1.out).monoS fun _ h => .inl h).wb hwb HX.out).monoS HA.out
    · exact (HB.out.trans (HB1.out.mono HB.out.size)).trans (hwb.below (Nat.le_trans HB.out.size HB1.out.size) fun j hj => by omega)
  · obtain ⟨k, rfl, hk0, he⟩ := fnd_some HF.out hx
    have hk : k < L.length := by simpa using hk0
    have HKE : Hid (L[k].1.1 = id) := by show _ = _; simpa using he
    clear hk0 he f0 f1
    have hg : aget (L.map (·.1)) id = some L[k].1.2 := aget_of_mem HRS.out (by rw [← HKE.out]; exact List.mem_map.2 ⟨_, List.getElem_mem hk, rfl⟩)
    have HG := Hid.mk' hg
    have hk' : (k : Int) ≤ 100000 := by omega
    have hkl : (k : Int) < (L.length : Int) := by omega
    have HR0 : Hid (Row 2 (fun k => A k ∧ k < w.heap.size) w1 (.slice a L.length c) L.length (tcs L)) := HRL.out.up hb1
    clear hg
    by_cases h5 : da.length = 512
    case neg =>
      have h5' : ((da.length : Int) == 512) = false := by simpa using (by omega : ¬ (da.length : Int) = 512)
      have h6 : ¬ (da.length : Int) = 512 := by omega
      have H5 := Hid.mk' h5
      have f1 : w1.heap[w.heap.size + 1]? = some (.cells #[.slice none 0 0, .slice none 0 0] 50 (0, 0)) := by rw [hb1.block _ (by rw [HSZ.out]; omega)]; exact HX1.out
      have f0 : w1.heap[w.heap.size]? = some (.cells #[.slice a L.length c, .slice na nt.length nc] 50 (0, 0)) := by rw [hb1.block _ (by rw [HSZ.out]; omega)]; exact HX0.out
      obtain ⟨_, _, _, _, y0, y1, _, _, y2, y3⟩ := boxW_cells f0 f1 (.slice a L.length c)
      obtain ⟨e1, e2⟩ := fz2 f1
      clear f0 f1 hb1 hs1 h5
      go_wp2_with fail
      refine bodyPost_ret (v := .tuple #[.agg #[.slice a L.length c, .slice na nt.length nc], .int .i64 2]) ?_ rfl ?_
      · simp [results, Tryz.results51, go_sem, y0, y1, y2, y3]
      have hwb := boxW_wb2 w1 w.heap.size (.slice a L.length c) (.slice na nt.length nc)
      refine ⟨⟨_, by show _ = _; unfold pE; rw [HG.out, if_neg H5.out]; rfl, ⟨_, _, rfl, ?_, ?_⟩⟩, ?_⟩
      · have e : pR (L.map (·.1)) id da = L.map (·.1) := by unfold pR; rw [if_neg fun h => H5.out h.2]
        rw [e]
        have h1 : Ts (fun j => (A j ∧ j < w.heap.size) ∨ W.heap.size ≤ j) w1 (.slice a L.length c) (L.map (·.1)) :=
          ⟨L, rfl, HR0.out.monoS fun _ h => .inl h, fun q hq => ((HE.out q hq).up HB1.out).monoS fun _ h => .inl h, by omega⟩
        exact (h1.wb hwb HX.out).monoS HA.out
      · exact (((HN.out.up HB1.out).monoS fun _ h => .inl h).wb hwb HX.out).monoS HA.out
      · exact (HB.out.trans (HB1.out.mono HB.out.size)).trans (hwb.below (Nat.le_trans HB.out.size HB1.out.size) fun j hj => by omega)
    case pos =>
      have h5' : (da.length : Int) = 512 := by omega
      have H5 := Hid.mk' h5
      have hda : da.length = 512 := h5
      clear h5
      have HU1 : Hid (Below W.heap.size W (w1.alloc (.cells #[] 105))) := bt hb1 (up_alloc _ _)
      have hu2 := up_alloc w1 (.cells #[] 105)
      obtain ⟨z2, z3⟩ := HC0.out _ (bt hb1 hu2)
      have HO2 : Hid ((w1.alloc (.cells #[] 105)).ownsRow W.heap.size 105 2 (.slice (some ⟨w1.heap.size, 0, none⟩) 0 0) ([] : List Tq).length (tcs [])) := own_empty2 hs1
      have HKK := Hid.mk' hk
      have HRW : Hid (Row 2 A (w1.alloc (.cells #[] 105)) (.slice a L.length c) L.length (tcs L)) := HR.out.up HU1.out
      clear hu2 hb1 hs1
      go_wp2_with (
        at_builtin
        refine app48 (L := []) (M := L) rfl (.tmp 20) (.tmp 22) rfl rfl HO2.out rfl HRW.out (fun q hq => ⟨_, _, HE.out q hq⟩) (by simp only [List.length_nil]; omega) HU1.out.size ?_
        intro v6 w6 ho6 hg6 _
        have HO6 : Hid (w6.ownsRow W.heap.size 105 2 v6 L.length (tcs L)) := ho6
        have hb6 := below_app HU1.out HO2.out hg6 (Nat.le_refl _) HU1.out.size
        have HB6 := Hid.mk' hb6
        clear z0 z1 z2 z3
        have HCP : Hid (Calls Tryz.prog 16 #[.slice ua 512 uc] w6 (RetOb 5 w6 da)) := by
          have h := copy_any _ da w6 (HU.out.up hb6)
          rwa [H5.out] at h
        obtain ⟨q7, m7, n7, e7⟩ : ∃ a m c, v6 = .slice a m c := by obtain ⟨a, c, e⟩ := own_sliceN ho6; exact ⟨_, _, _, e⟩
        clear ho6 hg6 hb6)
      refine HCP.out.mono ?_
      rintro e w8 ⟨v8, rfl, hb8, ho8⟩
      have HO8 := Hid.mk' ho8
      have HB8 := Hid.mk' (HB6.out.trans (hb8.mono HB6.out.size))
      have HX8 : Hid (w6.heap.size ≤ w8.heap.size) := hb8.size
      have hO8 : w8.ownsRow W.heap.size 105 2 v6 L.length (tcs L) := own_keep HO6.out hb8 (Nat.le_refl _)
      obtain ⟨a8, c8, e8⟩ := own_sliceN ho8
      rw [H5.out] at e8
      subst e8
      obtain ⟨g, cap, u0, u1, e6, hgB, hgl, t0, t1, tf, HON⟩ := own_set2 hO8 hk (((id, da), Value.slice a8 512 c8) : Tq)
      have HON := Hid.mk' HON
      simp only at t0 t1 HON
      rw [e7] at e6
      cases e6
      have tf0 := tf (k * 2)
      have tf1 := tf (k * 2 + 1)
      have HGB := Hid.mk' hgB
      have HGO : Hid (g < w6.heap.size) := by
        have := (HO6.out.lt g (by rw [e7]; rfl)).2
        exact this
      obtain ⟨E9, hE9⟩ : ∃ E9, E9 = (w8.setCell ⟨g, k * 2, none⟩ (.int .i64 id)).setCell ⟨g, k * 2 + 1, none⟩ (.slice a8 512 c8) := ⟨_, rfl⟩
      have hw9 : Wb (fun j => j = g) w8 E9 := by rw [hE9]; exact (Wb.set (X := fun j => j = g) w8 g _ _ rfl).trans (Wb.set _ g _ _ rfl)
      have hsz := HSZ.out
      have hB8 := HB8.out
      have f0 : E9.heap[w.heap.size]? = some (.cells #[.slice a L.length c, .slice na nt.length nc] 50 (0, 0)) := by rw [hw9.block _ (by have := hB8.size; omega) (by omega), hB8.block _ (by omega)]; exact HX0.out
      have f1 : E9.heap[w.heap.size + 1]? = some (.cells #[.slice none 0 0, .slice none 0 0] 50 (0, 0)) := by rw [hw9.block _ (by have := hB8.size; omega) (by omega), hB8.block _ (by omega)]; exact HX1.out
      have z0 : E9.cell? ⟨w.heap.size, 0, none⟩ = some (.slice a L.length c) := by simp only [World.cell?, f0]; rfl
      obtain ⟨y0, y1, y2, y3, _, _, y4, y5, y6, y7⟩ := boxW_cells f0 f1 (.slice (some ⟨g, 0, none⟩) L.length n7)
      obtain ⟨e0, _⟩ := fz2 f0
      obtain ⟨e1, e2⟩ := fz2 f1
      have HW9 := Hid.mk' hw9
      have HE9 := Hid.mk' hE9
      rw [hE9] at z0 e0 e1 e2 y0 y1 y2 y3 y4 y5 y6 y7
      simp only [World.frozen?_setCell] at e0 e1 e2
      clear hw9 f0 f1 tf hsz hB8 hE9 hO8 hb8
      go_wp2_with fail
      refine bodyPost_ret (v := .tuple #[.agg #[.slice (some ⟨g, 0, none⟩) L.length n7, .slice na nt.length nc], .int .i64 0]) ?_ rfl ?_
      · simp [results, Tryz.results51, go_sem, y0, y1, y2, y3]
      rw [← HE9.out]
      rw [← HE9.out] at HON
      have hbW := HB8.out
      have hw9 := HW9.out
      have hwb := boxW_wb E9 w.heap.size (.slice (some ⟨g, 0, none⟩) L.length n7) (.slice (some ⟨g, 0, none⟩) L.length n7) (.slice na nt.length nc)
      have hkey : ∀ {v' : Value} {l : By}, Bs (fun j => A j ∧ j < w.heap.size) W v' l → Bs (fun j => (A j ∧ j < w.heap.size) ∨ W.heap.size ≤ j) E9 v' l := fun h => ((h.up hbW).wb hw9 fun j hj hj2 => by
        have h1 := HGB.out; have h2 := HB.out.size; omega).monoS fun _ h => .inl h
      have hnew : Bs (fun j => (A j ∧ j < w.heap.size) ∨ W.heap.size ≤ j) E9 (.slice a8 512 c8) da := by
        have h0 := Row.of_ownB HO8.out
        rw [H5.out] at h0
        have h1 : Bs (fun j => w6.heap.size ≤ j) w8 (.slice a8 512 c8) da := ⟨by rw [H5.out]; exact h0, by rw [H5.out]; unfold lim; omega⟩
        exact (h1.wb hw9 fun j hj hj2 => by have h3 := HGO.out; omega).monoS fun j hj => .inr (Nat.le_trans HB6.out.size hj)
      refine ⟨⟨_, by show _ = _; unfold pE; rw [HG.out, if_pos H5.out]; rfl, ⟨_, _, rfl, ?_, ?_⟩⟩, ?_⟩
      · have hmem : ∀ q ∈ L.set k (((id, da), Value.slice a8 512 c8) : Tq), Bs (fun j => (A j ∧ j < w.heap.size) ∨ W.heap.size ≤ j) E9 q.2 q.1.2 := fun q hq => by
          rcases List.mem_or_eq_of_mem_set hq with hq | hq
          · exact hkey (HE.out q hq)
          · subst hq; exact hnew
        have h1 : Ts (fun j => (A j ∧ j < w.heap.size) ∨ W.heap.size ≤ j) E9 (.slice (some ⟨g, 0, none⟩) L.length n7) ((L.set k (((id, da), Value.slice a8 512 c8) : Tq)).map (·.1)) :=
          ⟨_, rfl, by rw [List.length_set]; have h0 := Row.of_ownB HON.out; rw [e7] at h0; exact h0.monoS fun _ h => Or.inr h, hmem, by rw [List.length_set]; omega⟩
        have h2 := (h1.wb hwb HX.out).monoS HA.out
        have e : pR (L.map (·.1)) id da = (L.set k (((id, da), Value.slice a8 512 c8) : Tq)).map (·.1) := by
          unfold pR
          rw [if_pos ⟨by rw [HG.out]; rfl, H5.out⟩, aput_at HRS.out (k := k) (by simpa using hk) (by simpa using HKE.out), List.map_set]
        rw [e]
        exact h2
      · exact ((hkey HN.out).wb hwb HX.out).monoS HA.out
      · exact ((HB.out.trans (hbW.mono HB.out.size)).trans (hw9.below (Nat.le_trans HB.out.size hbW.size) fun j hj => by have h1 := HGB.out; have h2 := HB.out.size; omega)).trans (hwb.below (Nat.le_trans (Nat.le_trans HB.out.size hbW.size) hw9.size) fun j hj => by omega)
end Go.Proofs.YtbmhkdcmepfmbaaGreat
