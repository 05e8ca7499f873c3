/- groynelaw07.same. A pool beside other memory; what groynelaw07.do does, in plain words. groynelaw07.do: no call. groynelaw07.do: Alloc. groynelaw07.do: Free. groynelaw07.do: Get. groynelaw07.do: Put. groynelaw07.do, whatever the kind. The pool, the reference's pool and the saved one, side by side. -/
import Derived.Test.YtbmhkdcmepfmbaaGreatB20
set_option linter.unusedVariables false
set_option linter.unusedSimpArgs false
namespace Go.Proofs.YtbmhkdcmepfmbaaGreat
open Go.RowKit
attribute [local go_sem ↓] Go.wp_at_zero Go.wp_at_succ
def SameP [Xcl] (C : Cx) (E : Int) (Q : Nat) (R R' : Al By) (T M : Nat → Prop) (w : World) (p b : Nat) (s : Ps) (e : Ending) (w' : World) : Prop :=
  ∃ s' d', (R = R' ∨ R ≠ R') ∧ (R = R' → e = .returned (.bool true)) ∧ (R ≠ R' → e = .returned (.bool false)) ∧ Iv C (E + R.length) Q R s' d' ∧ (R = R' → s'.hit + s'.mis = s.hit + s.mis + R.length) ∧ s.hit ≤ s'.hit ∧ s.mis ≤ s'.mis ∧ s.ev ≤ s'.ev ∧ Jp T M w p b s' d' w'
theorem SameP.no [Xcl] {C : Cx} {E : Int} {Q : Nat} {R R' : Al By} {T M : Nat → Prop} {w : World} {p b : Nat} {s s' : Ps} {d' : Dm} {w' : World} (hne : R ≠ R') (hI : Iv C (E + R.length) Q R s' d') (h1 : s.hit ≤ s'.hit) (h2 : s.mis ≤ s'.mis) (h3 : s.ev ≤ s'.ev) (hJ : Jp T M w p b s' d' w') :
    SameP C E Q R R' T M w p b s (.returned (.bool false)) w' := ⟨s', d', .inr hne, fun h => absurd h hne, fun _ => rfl, hI, fun h => absurd h hne, h1, h2, h3, hJ⟩
set_option maxRecDepth 100000 in
set_option maxHeartbeats 4000000 in
theorem same_any [Xcl] {C : Cx} {E : Int} {Q : Nat} {R R' : Al By} {s : Ps} {d : Dm} {T M A : Nat → Prop} {w : World} {p b : Nat} {v : Value} {nt : By} (h : Jn T M w p b s d) (hI : Iv C E Q R s d) (hc : C.cal = true) (hE : E + R.length ≤ 100000)
    (hr : Rp A w v R' nt) (hA : ∀ k, A k → k < w.heap.size ∧ ¬ T k ∧ ¬ M k ∧ k ≠ b) (hid : ∀ x ∈ R', Wi x.1) : Calls Tryz.prog 23 #[.pointer (some ⟨p, 0, none⟩), v] w (SameP C E Q R R' T M w p b s) := by
  obtain ⟨vs, vn, rfl, hts, hbn⟩ := hr
  obtain ⟨na, nc, rfl, _⟩ := hbn.at
  obtain ⟨va, vc, rfl, hvc, -, hmx, -⟩ := hts.at
  obtain ⟨W, hW⟩ : ∃ W, W = w.alloc (.cells #[.slice va R'.length vc, .slice na nt.length nc] 50) := ⟨_, rfl⟩
  have hb : Below w.heap.size w W := by rw [hW]; exact up_alloc _ _
  have hx : W.heap[w.heap.size]? = some (.cells #[.slice va R'.length vc, .slice na nt.length nc] 50 (0, 0)) := by rw [hW]; exact heap_alloc_new _ _
  have HSW : Hid (w.heap.size < W.heap.size) := (Array.getElem?_eq_some_iff.1 hx).1
  have c0 : W.cell? ⟨w.heap.size, 0, none⟩ = some (.slice va R'.length vc) := by simp only [World.cell?, hx]; rfl
  have HC := Hid.mk' c0
  have HT : Hid (Ts A W (.slice va R'.length vc) R') := hts.up hb
  have HJ : Hid (Jn T M W p b s d) := h.up hb
  have HLT := Hid.mk' h.lt
  have HJ0 := Hid.mk' h
  have HI := Hid.mk' hI
  have HB := Hid.mk' hb
  have HA := Hid.mk' hA
  have HW := Hid.mk' hW
  have HID := Hid.mk' hid
  have HCC := Hid.mk' hc
  have HV := Hid.mk' (vids HJ.out hI)
  have HE := Hid.mk' hE
  have hrl : (R.length : Int) ≤ 60 := by have := hI.rlen; have := hI.len; omega
  have hmx' : (R'.length : Int) ≤ 1000000 := by omega
  clear h hI hc hE hts hbn hA hb hx hid hW c0 hvc hmx
  go_enter Tryz.func23, Tryz.ntmps23
  go_wp2_with fail
  rw [← HW.out]
  refine HV.out.mono ?_
  rintro e w1 ⟨vi, rfl, hio, hb1⟩
  obtain ⟨ia, ic, rfl, hic, hat⟩ := hio.at
  rw [List.length_map] at hio hic
  have hat : ∀ j (hj : j < R.length), ∃ b o, ia = some ⟨b, o, none⟩ ∧ W.heap.size ≤ b ∧ w1.cell? ⟨b, o + j, none⟩ = some (.int .i64 R[j].1) := fun j hj => by
    obtain ⟨b', o', h1, h2, h3⟩ := hat j (by simpa using hj)
    exact ⟨b', o', h1, h2, by rw [h3]; simp⟩
  have HIO := Hid.mk' hio
  have HAI := Hid.mk' hat
  have HB1 := Hid.mk' hb1
  have HJ1 := Hid.mk' (HJ.out.up hb1)
  have HC1 : Hid (w1.cell? ⟨w.heap.size, 0, none⟩ = some (.slice va R'.length vc)) := cell_up HC.out hb1
  have HT1 := Hid.mk' (HT.out.up hb1)
  have HCN : Hid (∀ q : Ups w1, Calls Tryz.prog 53 #[.pointer (some ⟨p, 0, none⟩)] q.nx fun e w' => e = .returned (.int .i64 R.length) ∧ Below q.nx.heap.size q.nx w') := fun q => (vcount (HJ1.out.up q.ok) HI.out).mono fun e w' ⟨h1, h2⟩ => ⟨h1, by rw [h2]; exact Below.refl _ _⟩
  clear hio hat hb1 HV HJ HT
  go_wp2_with fail
  by_cases hlen : R.length = R'.length
  case neg =>
    have HNE : Hid (R ≠ R') := fun e => hlen (by rw [e])
    have n1 : ((R.length : Int) == (R'.length : Int)) = false := by simpa using (by omega : ¬ (R.length : Int) = R'.length)
    have n2 : ((R.length : Int) != (R'.length : Int)) = true := by simpa using (by omega : ¬ (R.length : Int) = R'.length)
    have n3 : ¬ (R.length : Int) = R'.length := by omega
    have r1 : ∀ q : Ups w1, q.nx.cell? ⟨w.heap.size, 0, none⟩ = some _ := fun q => q.cell HC1.out
    refine wp_region_up (by kernel_rfl) (by kernel_rfl) ?_
    repeat (go_big_quiet_step (exact ups_call (HCN.out _)))
    refine wpQuiet_nil ?_
    intro _ hw'
    obtain ⟨q, hw''⟩ := hw'
    subst hw''
    have HQ := Hid.mk' q.ok
    generalize q.nx = w2 at *
    clear q r1
    go_wp2_with fail
    go_ret
    exact SameP.no HNE.out (HI.out.more (by omega) (Nat.le_refl _) HE.out HI.out.hQ) (Int.le_refl _) (Int.le_refl _) (Int.le_refl _) (Jp.refl HJ0.out ((HB.out.trans (HB1.out.mono HB.out.size)).trans (HQ.out.mono (Nat.le_trans HB.out.size HB1.out.size))))
  case pos =>
    have HLEN := Hid.mk' hlen
    have HRL : Hid ((R.length : Int) ≤ 60) := hrl
    generalize hm : R'.length = m at *
    have HM := Hid.mk' hm
    have hlm : Hid (R.length = m) := hlen
    have n1 : ((R.length : Int) == (m : Int)) = true := by rw [hlen]; simp
    have n2 : ((R.length : Int) != (m : Int)) = false := by rw [hlen]; simp
    clear hlen hm hmx'
    have r1 : ∀ q : Ups w1, q.nx.cell? ⟨w.heap.size, 0, none⟩ = some _ := fun q => q.cell HC1.out
    refine wp_region_up (by kernel_rfl) (by kernel_rfl) ?_
    repeat (go_big_quiet_step (exact ups_call (HCN.out _)))
    refine wpQuiet_nil ?_
    intro _ hw'
    obtain ⟨q, hw''⟩ := hw'
    subst hw''
    have HQ := Hid.mk' q.ok
    generalize q.nx = w2 at *
    clear q r1
    have HC2 : Hid (w2.cell? ⟨w.heap.size, 0, none⟩ = some (.slice va m vc)) := cell_up HC1.out HQ.out
    have c0 := HC2.out
    have HB2 : Hid (Below w.heap.size w w2) := (HB.out.trans (HB1.out.mono HB.out.size)).trans (HQ.out.mono (Nat.le_trans HB.out.size HB1.out.size))
    have HJ2 := Hid.mk' (HJ0.out.up HB2.out)
    have HT2 := Hid.mk' (HT1.out.up HQ.out)
    have HI2 : Hid (∀ j (hj : j < R.length), ∃ b o, ia = some ⟨b, o, none⟩ ∧ W.heap.size ≤ b ∧ w2.cell? ⟨b, o + j, none⟩ = some (.int .i64 R[j].1)) := fun j hj => by
      obtain ⟨b', o', h1, h2, h3⟩ := HAI.out j hj
      exact ⟨b', o', h1, h2, cell_up h3 HQ.out⟩
    have HSZ : Hid (W.heap.size ≤ w2.heap.size) := Nat.le_trans HB1.out.size HQ.out.size
    have HBS := Hid.mk' HB.out.size
    clear HB1 HJ1 HC1 HT1 HQ HIO HAI HCN HC HB HW
    have HSAME : Hid (Pre R R' 0 ∧ Iv C (E + 0) Q R s d ∧ s.hit + s.mis = s.hit + s.mis + 0 ∧ Jp T M w2 p b s d w2) := ⟨fun j h h' hj => absurd hj (by omega), by rw [Int.add_zero]; exact HI.out, by omega, Jp.refl HJ2.out (Below.refl _ _)⟩
    go_wp2_with fail
    clear c0
    go_loopw [29] (fun i wr => ∃ (k : Nat) (s' : Ps) (d' : Dm), k ≤ m ∧ i = .int .i64 k ∧ Hid (Pre R R' k) ∧ Hid (Iv C (E + k) Q R s' d') ∧ Hid (s'.hit + s'.mis = s.hit + s.mis + k ∧ s.hit ≤ s'.hit ∧ s.mis ≤ s'.mis ∧ s.ev ≤ s'.ev) ∧ Hid (Jp T M w2 p b s' d' wr)) (fun i _ => m - (intOf i).toNat)
    case atStart => exact ⟨0, s, d, by omega, rfl, HSAME.out.1, HSAME.out.2.1, ⟨HSAME.out.2.2.1, Int.le_refl _, Int.le_refl _, Int.le_refl _⟩, HSAME.out.2.2.2⟩
    case round =>
      clear HSAME
      obtain ⟨k, s1, d1, hk, rfl, HP, HI1, HN, HJR⟩ := hrel
      have HFIN : Hid (∀ {s2 d2 w'}, Jp T M w2 p b s2 d2 w' → Jp T M w p b s2 d2 w') := fun hj => Jp.trans (Wb.of_below _ HB2.out) (fun _ h => .inl h) (fun _ h => .inl h) hj
      by_cases hkm : k < m
      case neg =>
        obtain rfl : k = m := by omega
        have HRR : Hid (R = R') := pre_eq (hlm.out.trans HM.out.symm) (by rw [hlm.out]; exact HP.out)
        go_wp2_with fail
        go_ret
        refine ⟨s1, d1, .inl HRR.out, fun _ => rfl, fun h => absurd HRR.out h, ?_, fun _ => ?_, HN.out.2.1, HN.out.2.2.1, HN.out.2.2.2, HFIN.out HJR.out⟩
        · rw [hlm.out]; exact HI1.out
        · rw [hlm.out]; exact HN.out.1
      have hkm' : (k : Int) < (m : Int) := by omega
      have hkR : k < R.length := by rw [hlm.out]; exact hkm
      have hkRi : (k : Int) < (R.length : Int) := by omega
      have hkR' : k < R'.length := by rw [HM.out]; exact hkm
      obtain ⟨hw, T1, M1, hT1, hM1, hJ1⟩ := HJR.out
      have HWR := Hid.mk' hw
      have HT1 := Hid.mk' hT1
      have HM1 := Hid.mk' hM1
      have HJ1 := Hid.mk' hJ1
      obtain ⟨_, _, _, _, _, _, hat⟩ := HT2.out.at
      obtain ⟨br, orr, u, eva, hAb, q0, q1, hbu⟩ := hat k hkR'
      obtain ⟨bi, oi, eia, hbi, q2⟩ := HI2.out k hkR
      have HABR := Hid.mk' hAb
      have hlt := HLT.out
      have hXA : ¬ (T br ∨ M br ∨ br = b) := fun e => (HA.out br hAb).2.elim fun h1 h2 => e.elim h1 fun e => e.elim h2.1 h2.2
      have hXI : ¬ (T bi ∨ M bi ∨ bi = b) := fun e => by
        have h1 := hlt.2.2.1 bi; have h2 := hlt.2.2.2 bi; have h3 := hlt.2.1; have h4 := HSW.out
        rcases e with e | e | e
        · have := h1 e; omega
        · have := h2 e; omega
        · omega
      have hbr1 : br < w2.heap.size := World.block_lt_of_cell? w2 ⟨br, _, none⟩ q0
      have hbi1 : bi < w2.heap.size := World.block_lt_of_cell? w2 ⟨bi, _, none⟩ q2
      have q0 := wb_cell hw hXA q0
      have q1 := wb_cell hw hXA q1
      have q2 := wb_cell hw hXI q2
      have HBU : Hid (Bs A wr u R'[k].2) := hbu.wb hw fun j hj hAj => (HA.out j hAj).2.elim fun h1 h2 => hj.elim h1 fun e => e.elim h2.1 h2.2
      have HID1 : Hid (Wi R'[k].1) := HID.out _ (List.getElem_mem hkR')
      have HPK : Hid (R[k] = R'[k] → Pre R R' (k + 1)) := fun e j h h' hj => by
        rcases Nat.lt_or_ge j k with h1 | h1
        · exact HP.out j h h' h1
        · obtain rfl : j = k := by omega
          exact e
      have HNK : Hid (R[k] ≠ R'[k] → R ≠ R') := fun e h => e (by simp only [h])
      have HGK : Hid (aget R R[k].1 = some R[k].2) := aget_of_mem HI1.out.sR (List.getElem_mem hkR)
      generalize hx1 : R[k] = x1 at *
      generalize hx2 : R'[k] = x2 at *
      obtain ⟨i1, l1⟩ := x1
      obtain ⟨i2, l2⟩ := x2
      simp only at q0 q1 q2 HBU HID1 HGK
      obtain ⟨ua, uc, rfl, _⟩ := hbu.at
      obtain ⟨W3, hW3⟩ : ∃ W3, W3 = wr.alloc (.cells #[.int .i64 i2, .slice ua l2.length uc] 105) := ⟨_, rfl⟩
      have hb3 : Below wr.heap.size wr W3 := by rw [hW3]; exact up_alloc _ _
      have hx3 : W3.heap[wr.heap.size]? = some (.cells #[.int .i64 i2, .slice ua l2.length uc] 105 (0, 0)) := by rw [hW3]; exact heap_alloc_new _ _
      have e0 : W3.cell? ⟨wr.heap.size, 0, none⟩ = some (.int .i64 i2) := by simp only [World.cell?, hx3]; rfl
      have e1 : W3.cell? ⟨wr.heap.size, 1, none⟩ = some (.slice ua l2.length uc) := by simp only [World.cell?, hx3]; rfl
      have HQ2 := Hid.mk' q2
      have HE0 := Hid.mk' e0
      have HE1 := Hid.mk' e1
      have HB3 := Hid.mk' hb3
      have HS3 : Hid (wr.heap.size < W3.heap.size) := (Array.getElem?_eq_some_iff.1 hx3).1
      have HJ3 : Hid (Jn T1 M1 W3 p b s1 d1) := HJ1.out.up hb3
      have hk60 : (k : Int) + 1 ≤ R.length := by omega
      have HG := Hid.mk' (cget HJ3.out HI1.out HCC.out (by have := HE.out; omega) i2 HID1.out)
      have HXB : Hid (br < w2.heap.size ∧ bi < w2.heap.size ∧ w.heap.size ≤ br + w.heap.size ∧ ¬ (T bi ∨ M bi ∨ bi = b)) := ⟨hbr1, hbi1, by omega, hXI⟩
      have HXA := Hid.mk' hXA
      have HWA : Hid (w2.heap.size ≤ wr.heap.size) := hw.size
      clear hw hT1 hM1 hJ1 hat hAb hbu hXA hXI hbr1 hbi1 hb3 hx3 hx1 hx2 q2 hlt hbi
      subst eva
      subst eia
      go_wp2_with fail
      rw [← hW3]
      clear q0 q1
      refine HG.out.mono ?_
      rintro e w6 ⟨s2, d2, v2, w5, rfl, hI2, hcnt, n1', n2', n3', hj2, hb6, ho6⟩
      have hw5 := hj2.1
      have hlt1 := HJ1.out.lt
      have hlt0 := HLT.out
      have hT1 := HT1.out
      have hM1 := HM1.out
      have hX1 : ∀ j, (T1 j ∨ M1 j ∨ j = b) → (T j ∨ M j ∨ j = b) ∨ w2.heap.size ≤ j := fun j hj => by
        rcases hj with h | h | h
        · exact (hT1 j h).elim (fun h => .inl (.inl h)) .inr
        · exact (hM1 j h).elim (fun h => .inl (.inr (.inl h))) .inr
        · exact .inl (.inr (.inr h))
      have hX2 : ¬ (T1 wr.heap.size ∨ M1 wr.heap.size ∨ wr.heap.size = b) := fun e => by
        rcases e with h | h | h
        · have := hlt1.2.2.1 _ h; omega
        · have := hlt1.2.2.2 _ h; omega
        · have := hlt1.2.1; omega
      have hX3 : ¬ (T1 bi ∨ M1 bi ∨ bi = b) := fun e => (hX1 _ e).elim HXB.out.2.2.2 fun h => by have := HXB.out.2.1; omega
      have y0 : w6.cell? ⟨wr.heap.size, 0, none⟩ = some (.int .i64 i2) := cell_up (wb_cell hw5 hX2 HE0.out) hb6
      have y1 : w6.cell? ⟨wr.heap.size, 1, none⟩ = some (.slice ua l2.length uc) := cell_up (wb_cell hw5 hX2 HE1.out) hb6
      have y2 : w6.cell? ⟨bi, oi + k, none⟩ = some (.int .i64 i1) := cell_up (wb_cell hw5 hX3 (cell_up HQ2.out HB3.out)) hb6
      have HBU6 : Hid (Bs A w6 (.slice ua l2.length uc) l2) := ((HBU.out.up HB3.out).wb hw5 fun j hj hAj => by
        have h1 := HA.out j hAj
        rcases hX1 j hj with h | h
        · exact h1.2.elim fun a c => h.elim a fun e => e.elim c.1 c.2
        · have := HB2.out.size; omega).up hb6
      obtain ⟨va2, vc2, rfl⟩ := own_sliceN ho6
      have HW5 := Hid.mk' hw5
      have HY0 := Hid.mk' y0
      have HX1 := Hid.mk' hX1
      have HO6 := Hid.mk' ho6
      have HB6 := Hid.mk' hb6
      have HI2' := Hid.mk' hI2
      have HJ5 : Hid (∀ w', Below w5.heap.size w5 w' → Jp T M w p b s2 d2 w') := fun w' hb => HFIN.out (Jp.trans (HWR.out.trans (Wb.of_below _ HB3.out)) HT1.out HM1.out (hj2.up hb))
      have HCT := Hid.mk' hcnt
      have HJ5b : Hid (∀ {w'}, Below w5.heap.size w5 w' → Jp T1 M1 W3 p b s2 d2 w') := fun hb => hj2.up hb
      have HNN : Hid (s1.hit ≤ s2.hit ∧ s1.mis ≤ s2.mis ∧ s1.ev ≤ s2.ev) := ⟨n1', n2', n3'⟩
      generalize hgl : (aget R i2).getD [] = gl at *
      have HGL := Hid.mk' hgl
      clear hgl
      generalize hge : gE R i2 = ge at *
      have HGE := Hid.mk' hge
      clear hge
      clear hw5 hlt1 hlt0 hT1 hM1 hX1 hX2 hX3 ho6 hb6 hI2 hcnt hj2 n1' n2' n3'
      by_cases hii : i1 = i2
      case neg =>
        have m1 : (i1 == i2) = false := by simpa using hii
        have m2 : (i1 != i2) = true := by simpa using hii
        have HNE : Hid (R ≠ R') := HNK.out (fun e => hii (by injection e))
        clear y1
        have r1 : ∀ q : Ups w6, q.nx.cell? ⟨wr.heap.size, 0, none⟩ = some _ := fun q => q.cell y0
        have r2 : ∀ q : Ups w6, q.nx.cell? ⟨bi, oi + k, none⟩ = some _ := fun q => q.cell y2
        go_wp2_with fail
        refine wp_region_up (by kernel_rfl) (by kernel_rfl) ?_
        repeat (go_big_quiet_step (fail))
        refine wpQuiet_nil ?_
        intro _ hw'
        obtain ⟨q, hw''⟩ := hw'
        subst hw''
        have HQ := Hid.mk' q.ok
        generalize q.nx = w7 at *
        clear q r1 r2 y0 y2
        go_wp2_with fail
        go_ret
        exact SameP.no HNE.out (HI2'.out.more (by omega) (Nat.le_refl _) HE.out HI2'.out.hQ) (by have := HN.out; have := HNN.out; omega) (by have := HN.out; have := HNN.out; omega) (by have := HN.out; have := HNN.out; omega) (HJ5.out _ (bt HB6.out HQ.out))
      case pos =>
        subst hii
        have hge : ge = 0 := HGE.out.symm.trans (gE_some HGK.out)
        subst hge
        have hgl : gl = l1 := by rw [← HGL.out, HGK.out]; rfl
        subst hgl
        have hl512 : gl.length = 512 := HI.out.dat _ _ HGK.out
        have HL5 := Hid.mk' hl512
        have HEQ : Hid (∀ q : Ups w6, Calls Tryz.prog 19 #[.slice va2 gl.length vc2, .slice ua l2.length uc] q.nx fun e w' => e = .returned (.bool (gl == l2)) ∧ Below q.nx.heap.size q.nx w') := fun q =>
          (requal_any _ _ gl l2 q.nx (Bs.up (Ob.bs HO6.out (by rw [hl512]; decide)) q.ok) (HBU6.out.up q.ok)).mono fun e w' ⟨h1, h2⟩ => ⟨h1, h2.below _⟩
        have HCT2 := (HCT.out (by rw [HGK.out]; rfl)).1
        have HCT3 := Hid.mk' HCT2
        clear hl512 HCT2
        have r1 : ∀ q : Ups w6, q.nx.cell? ⟨wr.heap.size, 0, none⟩ = some _ := fun q => q.cell y0
        have r2 : ∀ q : Ups w6, q.nx.cell? ⟨bi, oi + k, none⟩ = some _ := fun q => q.cell y2
        have r3 : ∀ q : Ups w6, q.nx.cell? ⟨wr.heap.size, 1, none⟩ = some _ := fun q => q.cell y1
        generalize hgg : (gl == l2) = gg at *
        cases gg
        case false =>
          have HNE : Hid (R ≠ R') := HNK.out (fun e => by injection e with _ e; simp [e] at hgg)
          clear hgg
          go_wp2_with fail
          refine wp_region_up (by kernel_rfl) (by kernel_rfl) ?_
          repeat (go_big_quiet_step (exact ups_call (HEQ.out _)))
          refine wpQuiet_nil ?_
          intro _ hw'
          obtain ⟨q, hw''⟩ := hw'
          subst hw''
          have HQ := Hid.mk' q.ok
          generalize q.nx = w7 at *
          clear q r1 r2 r3 y0 y1 y2
          go_wp2_with fail
          go_ret
          exact SameP.no HNE.out (HI2'.out.more (by omega) (Nat.le_refl _) HE.out HI2'.out.hQ) (by have := HN.out; have := HNN.out; omega) (by have := HN.out; have := HNN.out; omega) (by have := HN.out; have := HNN.out; omega) (HJ5.out _ (bt HB6.out HQ.out))
        case true =>
          have HP2 : Hid (Pre R R' (k + 1)) := HPK.out (by rw [show gl = l2 by simpa using hgg])
          clear hgg
          go_wp2_with fail
          refine wp_region_up (by kernel_rfl) (by kernel_rfl) ?_
          repeat (go_big_quiet_step (exact ups_call (HEQ.out _)))
          refine wpQuiet_nil ?_
          intro _ hw'
          obtain ⟨q, hw''⟩ := hw'
          subst hw''
          have HQ := Hid.mk' q.ok
          generalize q.nx = w7 at *
          clear q r1 r2 r3 y0 y1 y2
          have HOV := Hid.mk' (over_any (own_keep HO6.out HQ.out (Nat.le_refl _)) (by rw [HL5.out]; decide))
          have HOB := Hid.mk' (own_keep HO6.out HQ.out (Nat.le_refl _))
          go_wp2_with fail
          refine HOV.out.mono ?_
          rintro e w8 ⟨rfl, -, hwo⟩
          have hb8 : Below w5.heap.size w5 w8 := (bt HB6.out HQ.out).trans (hwo.below (bt HB6.out HQ.out).size fun j hj => (own_typed HOB.out j hj).1)
          have HJ8 : Hid (Jp T M w2 p b s2 d2 w8) := Jp.trans (HWR.out.trans (Wb.of_below _ HB3.out)) HT1.out HM1.out (HJ5b.out hb8)
          clear hb8 hwo HOV
          go_wp2_with fail
          go_roundw
          case rel => exact ⟨k + 1, s2, d2, by omega, by go_num, HP2, by have h := HI2'.out; rw [Int.add_assoc] at h; exact h, by have := HN.out; have := HNN.out; have := HCT3.out; show _ ∧ _; omega, HJ8⟩
          case measure => simp [intOf]; omega
end Go.Proofs.YtbmhkdcmepfmbaaGreat
set_option linter.unusedVariables false
set_option linter.unusedSimpArgs false
namespace Go.Proofs.YtbmhkdcmepfmbaaGreat
open Go.RowKit
theorem Jn.re {X X' T M : Nat → Prop} {w w' : World} {p b : Nat} {s : Ps} {d : Dm} (h : @Jn ⟨X⟩ T M w p b s d) (hb : Below w.heap.size w w') (h1 : ∀ k, X' k → X k ∨ w.heap.size ≤ k) (h2 : ∀ k, X' k → k < w'.heap.size) : @Jn ⟨X'⟩ T M w' p b s d := by
  obtain ⟨D, Dd, ms, mf, ma, ff, nf, g, k1, k2, k3, k4, k5, k6⟩ := @Jn.ex ⟨X⟩ _ _ _ _ _ _ _ h
  refine @Jn.mk ⟨X'⟩ _ _ _ _ _ _ _ ⟨D, Dd, ms, mf, ma, ff, nf, g, k1.up hb, k2.below hb, k3, k4, k5, h2, fun k hk hx => ?_, fun k hk hx => ?_⟩ (@Jn.tm ⟨X⟩ _ _ _ _ _ _ _ h)
  · rcases h1 k hx with h | h
    · exact k6.2.1 k hk h
    · have := (k1.hD k hk).1; omega
  · rcases h1 k hx with h | h
    · exact k6.2.2 k hk h
    · have := (k2.hD k hk).1; omega
theorem Jn.wbX {X Y T M : Nat → Prop} {w w' : World} {p b : Nat} {s : Ps} {d : Dm} (h : @Jn ⟨X⟩ T M w p b s d) (hw : Wb Y w w') (hY : ∀ k, Y k → X k ∧ ¬ T k ∧ ¬ M k ∧ k ≠ b) : @Jn ⟨X⟩ T M w' p b s d := by
  obtain ⟨D, Dd, ms, mf, ma, ff, nf, g, k1, k2, k3, k4, k5, k6⟩ := @Jn.ex ⟨X⟩ _ _ _ _ _ _ _ h
  exact @Jn.mk ⟨X⟩ _ _ _ _ _ _ _ ⟨D, Dd, ms, mf, ma, ff, nf, g, k1.keep hw fun k hk => ⟨(hY k hk).2.1, fun hd => k6.2.1 k hd (hY k hk).1⟩, k2.keep hw fun k hk => ⟨(hY k hk).2.2.1, fun hd => k6.2.2 k hd (hY k hk).1, (hY k hk).2.2.2⟩, k3, k4, k5, fun k hk => Nat.lt_of_lt_of_le (k6.1 k hk) hw.size, k6.2⟩ (@Jn.tm ⟨X⟩ _ _ _ _ _ _ _ h)
/-- beside what was made since -/
@[reducible] def XE [c : Xcl] (a z : Nat) : Xcl := ⟨fun k => c.X k ∨ (a ≤ k ∧ k < z)⟩
theorem Jn.ext [c : Xcl] {T M : Nat → Prop} {w w' : World} {p b : Nat} {s : Ps} {d : Dm} (h : Jn T M w p b s d) (hb : Below w.heap.size w w') : @Jn (XE w.heap.size w'.heap.size) T M w' p b s d :=
  Jn.re (X := c.X) h hb (fun k hk => hk.elim .inl fun h => .inr h.1) fun k hk => hk.elim (fun hx => Nat.lt_of_lt_of_le (h.xlt k hx) hb.size) fun h => h.2
theorem Jn.fin [c : Xcl] {T M : Nat → Prop} {w : World} {p b a z : Nat} {s : Ps} {d : Dm} (h : @Jn (XE a z) T M w p b s d) : Jn T M w p b s d :=
  Jn.re (X := (XE a z).X) (X' := c.X) h (Below.refl _ _) (fun k hk => .inl (.inl hk)) fun k hk => @Jn.xlt (XE a z) _ _ _ _ _ _ _ h k (.inl hk)
theorem Rp.andLt {A : Nat → Prop} {w : World} {v : Value} {R : Al By} {nt : By} (h : Rp A w v R nt) : Rp (fun k => A k ∧ k < w.heap.size) w v R nt := by
  obtain ⟨vs, vn, rfl, ⟨L, h1, h2, h3, h4⟩, h5⟩ := h
  exact ⟨vs, vn, rfl, ⟨L, h1, Row.andLt h2, fun q hq => ⟨Row.andLt (h3 q hq).1, (h3 q hq).2⟩, h4⟩, ⟨Row.andLt h5.1, h5.2⟩⟩
theorem Rp.form {A : Nat → Prop} {w : World} {v : Value} {R : Al By} {nt : By} (h : Rp A w v R nt) : ∃ a c a2 n2 c2, v = .agg #[.slice a R.length c, .slice a2 n2 c2] := by
  obtain ⟨vs, vn, rfl, h1, h2⟩ := h
  obtain ⟨a, c, rfl, _⟩ := h1.at
  obtain ⟨a2, c2, rfl, _⟩ := h2.at
  exact ⟨_, _, _, _, _, rfl⟩
/-- what comes of a call on the reference's pages -/
def nxR (R : Al By) (q : Ac) (R' : Al By) : Prop :=
  (q.kd = 1 ∧ ∃ n, Fre R n ∧ R' = aput R n zer) ∨ (q.kd = 2 ∧ R' = adel R q.id) ∨ (q.kd = 4 ∧ R' = pR R q.id (List.replicate (512 + q.ln).toNat q.fi)) ∨ (q.kd ≠ 1 ∧ q.kd ≠ 2 ∧ q.kd ≠ 4 ∧ R' = R)
theorem nxR.one {R R1 R2 : Al By} {q : Ac} (hR : ASrt R) (h0 : ∀ x ∈ R, 0 ≤ x.1) (h1 : nxR R q R1) (h2 : nxR R q R2) : R1 = R2 := by
  rcases h1 with ⟨k1, n, f1, rfl⟩ | ⟨k1, rfl⟩ | ⟨k1, rfl⟩ | ⟨k1, k2, k3, rfl⟩ <;> rcases h2 with ⟨j1, m, f2, rfl⟩ | ⟨j1, rfl⟩ | ⟨j1, rfl⟩ | ⟨j1, j2, j3, rfl⟩ <;> first | rfl | (exfalso; omega) | skip
  obtain ⟨_, a1, a2⟩ := fre_aput hR h0 f1
  obtain ⟨_, b1, b2⟩ := fre_aput hR h0 f2
  rw [fre_one a1 a2 b1 b2]
theorem nxR.len {R R' : Al By} {q : Ac} (hR : ASrt R) (h : nxR R q R') : R'.length ≤ R.length + 1 := by
  rcases h with ⟨k1, n, f1, rfl⟩ | ⟨k1, rfl⟩ | ⟨k1, rfl⟩ | ⟨k1, k2, k3, rfl⟩
  · rw [len_aput _ hR]; split <;> omega
  · rw [len_adel]; split <;> omega
  · unfold pR
    split
    · rename_i h
      rw [len_aput _ hR, if_pos h.1]; omega
    · omega
  · omega
section
variable {C : Cx} {E : Int} {Q : Nat} {R : Al By} {s : Ps} {d : Dm} {T M : Nat → Prop} {w : World} {p b : Nat}
/-- a Get that dies had a page to get -/
theorem vget2 [Xcl] (h : Jn T M w p b s d) (hI : Iv C E Q R s d) (hE : E + 1 ≤ 100000) (id : Int) (hid : Wi id) :
    Calls Tryz.prog 18 #[.pointer (some ⟨p, 0, none⟩), .int .i64 id] w fun e w' =>
      (∃ (x : Int) (s1 : Ps) (d1 : Dm), x ≠ 0 ∧ (aget R id).isSome ∧ e = .returned (.tuple #[.slice none 0 0, .int .i64 x]) ∧ Jv C Q d1 ∧ Jp T M w p b s1 d1 w') ∨ GetV C E Q R T M w p b s id e w' := by
  cases hg : aget R id with
  | some l =>
    refine (vget h hI hE id hid).mono fun e w' h => h.imp (fun ⟨x, s1, d1, h⟩ => ⟨x, s1, d1, h.1, rfl, h.2⟩) fun h => h
  | none =>
    have hin : ∀ sl, aget s.S id = some sl → sl ≤ 1000000 ∧ (0 ≤ sl → sl.toNat * 512 + 512 ≤ (foz d.seen nmP).length) := fun sl hsl => by
      have h1 := (hI.sb _ (aget_mem hsl)).2.2.2
      have h2 := hI.gs.lp
      have h3 := hI.hQ
      simp only at h1
      exact ⟨by omega, fun h0 => by omega⟩
    refine (get_any (hv_iv C E hI.hE Q R s) hI.ok.hand (by omega) h ⟨hI, St.refl s⟩ id hid hin).mono ?_
    rintro e w' ⟨h1, h2, h3⟩
    have hs := hI.some id
    rw [hg] at hs
    obtain ⟨rfl, rfl⟩ := h1 (by simpa using hs)
    refine .inr ⟨s, d, .slice none 0 0, w', by rw [gE_none hg], hI.more (by omega) (Nat.le_refl _) hE hI.hQ, fun h => (by rw [hg] at h; cases h), Int.le_refl _, Int.le_refl _, Int.le_refl _, Jp.refl h (Below.refl _ _), Below.refl _ _, ?_⟩
    rw [hg]; exact ob_nil
end
/-- what do leaves -/
def DoP [Xcl] (C : Cx) (E : Int) (Q : Nat) (R : Al By) (T M A : Nat → Prop) (w : World) (p b : Nat) (nt : By) (q : Ac) (e : Ending) (w' : World) : Prop :=
  ∃ (v' : Value) (ok : Bool) (R' : Al By) (A' T' M' : Nat → Prop), e = .returned (.tuple #[v', .bool ok]) ∧ nxR R q R' ∧ Wb (fun k => T k ∨ M k ∨ k = b) w w' ∧ (∀ k, T' k → T k ∨ w.heap.size ≤ k) ∧ (∀ k, M' k → M k ∨ w.heap.size ≤ k) ∧ (∀ k, A' k → A k ∨ w.heap.size ≤ k) ∧
    Rp A' w' v' R' nt ∧ (∀ k, A' k → k < w'.heap.size ∧ ¬ T' k ∧ ¬ M' k ∧ k ≠ b) ∧
    ((∃ s1 d1, Jv C Q d1 ∧ Jn T' M' w' p b s1 d1) ∨ (ok = true ∧ ∃ s' d', Iv C (E + 1) (Q + 1) R' s' d' ∧ Jn T' M' w' p b s' d'))
def boxD (w : World) (x0 x1 : Value) (q : Ac) (nv : Value) : World := ((w.alloc (.cells #[x0, x1] 50)).alloc (.cells (actV q.kd q.id q.ln q.fi nv q.ar q.kp) 36)).alloc (.cells #[.slice none 0 0, .slice none 0 0] 50)
theorem boxD_is (w : World) (x0 x1 : Value) (q : Ac) (nv : Value) : Below w.heap.size w (boxD w x0 x1 q nv) ∧ (boxD w x0 x1 q nv).heap.size = w.heap.size + 3 ∧ (boxD w x0 x1 q nv).heap[w.heap.size]? = some (.cells #[x0, x1] 50 (0, 0)) ∧
    (boxD w x0 x1 q nv).heap[w.heap.size + 1]? = some (.cells #[.int .i64 q.kd, .int .i64 q.id, .int .i64 q.ln, .int .u8 (q.fi.toNat : Int), nv, .int .i64 q.ar, .int .i64 q.kp] 36 (0, 0)) ∧ (boxD w x0 x1 q nv).heap[w.heap.size + 1 + 1]? = some (.cells #[.slice none 0 0, .slice none 0 0] 50 (0, 0)) := by
  obtain ⟨W1, h1⟩ : ∃ W1, W1 = w.alloc (.cells #[x0, x1] 50) := ⟨_, rfl⟩
  obtain ⟨W2, h2⟩ : ∃ W2, W2 = W1.alloc (.cells (actV q.kd q.id q.ln q.fi nv q.ar q.kp) 36) := ⟨_, rfl⟩
  have z1 : W1.heap.size = w.heap.size + 1 := by rw [h1]; simp
  have z2 : W2.heap.size = w.heap.size + 2 := by rw [h2]; simp [z1]
  have e : boxD w x0 x1 q nv = W2.alloc (.cells #[.slice none 0 0, .slice none 0 0] 50) := by rw [h2, h1]; rfl
  have b1 : Below w.heap.size w W1 := by rw [h1]; exact up_alloc _ _
  have b2 : Below W1.heap.size W1 W2 := by rw [h2]; exact up_alloc _ _
  have b3 : Below W2.heap.size W2 (boxD w x0 x1 q nv) := by rw [e]; exact up_alloc _ _
  have x1' : W1.heap[w.heap.size]? = some (.cells #[x0, x1] 50 (0, 0)) := by rw [h1]; exact heap_alloc_new _ _
  have x2' : W2.heap[W1.heap.size]? = some (.cells (actV q.kd q.id q.ln q.fi nv q.ar q.kp) 36 (0, 0)) := by rw [h2]; exact heap_alloc_new _ _
  have x3' : (boxD w x0 x1 q nv).heap[W2.heap.size]? = some (.cells #[.slice none 0 0, .slice none 0 0] 50 (0, 0)) := by rw [e]; exact heap_alloc_new _ _
  refine ⟨bt b1 (bt b2 b3), by rw [e]; simp [z2], ?_, ?_, by rw [z2] at x3'; exact x3'⟩
  · rw [b3.block _ (by omega), b2.block _ (by omega)]; exact x1'
  · rw [b3.block _ (by omega)]
    rw [z1] at x2'; exact x2'
/-- a pool's pages and note are stored into a block of two cells -/
theorem res2 {w : World} {b : Nat} {u0 u1 : Value} (h : w.heap[b]? = some (.cells #[u0, u1] 50 (0, 0))) (x y : Value) :
    w.cell? ⟨b, 0, none⟩ = some u0 ∧ w.frozen? ⟨b, 0, none⟩ = false ∧ w.frozen? ⟨b, 1, none⟩ = false ∧ (w.setCell ⟨b, 0, none⟩ x).cell? ⟨b, 1, none⟩ = some u1 ∧
    ((w.setCell ⟨b, 0, none⟩ x).setCell ⟨b, 1, none⟩ y).heap[b]? = some (.cells #[x, y] 50 (0, 0)) ∧ ((w.setCell ⟨b, 0, none⟩ x).setCell ⟨b, 1, none⟩ y).cell? ⟨b, 0, none⟩ = some x ∧ ((w.setCell ⟨b, 0, none⟩ x).setCell ⟨b, 1, none⟩ y).cell? ⟨b, 1, none⟩ = some y := by
  have k0 : (w.setCell ⟨b, 0, none⟩ x).heap[b]? = some (.cells #[x, u1] 50 (0, 0)) := by rw [heap_setCell_same w b 0 _ 50 x h]; rfl
  have k1 : ((w.setCell ⟨b, 0, none⟩ x).setCell ⟨b, 1, none⟩ y).heap[b]? = some (.cells #[x, y] 50 (0, 0)) := by rw [heap_setCell_same _ b 1 _ 50 y k0]; rfl
  refine ⟨by simp only [World.cell?, h]; rfl, by simp [World.frozen?, h], by simp [World.frozen?, h], by simp only [World.cell?, k0]; rfl, k1, by simp only [World.cell?, k1]; rfl, by simp only [World.cell?, k1]; rfl⟩
theorem res2_wb (w : World) (b : Nat) (x y : Value) : Wb (fun k => k = b) w ((w.setCell ⟨b, 0, none⟩ x).setCell ⟨b, 1, none⟩ y) :=
  (Wb.set (X := fun k => k = b) w b 0 x rfl).trans (Wb.set _ b 1 y rfl)
theorem exec_store50 {w : World} {o : Oper} {a : Act} {x y : Operand} {b : Nat} {u0 u1 : Value} {a1 a2 : Option Addr} {n1 n2 c1 c2 : Nat} (ho : o.op = .store 50 x y) (hx : a.eval x = .pointer (some ⟨b, 0, none⟩)) (hy : a.eval y = .agg #[.slice a1 n1 c1, .slice a2 n2 c2])
    (h : w.heap[b]? = some (.cells #[u0, u1] 50 (0, 0))) : (execOp a.eval o).run Tryz.prog w = .ok .skip ((w.setCell ⟨b, 0, none⟩ (.slice a1 n1 c1)).setCell ⟨b, 1, none⟩ (.slice a2 n2 c2)) := by
  obtain ⟨z0, f0, f1, z1, _⟩ := res2 h (.slice a1 n1 c1) (.slice a2 n2 c2)
  unfold execOp
  simp only [ho, hx, hy]
  simp [go_sem, z0, z1, f0, f1]
theorem wb_then {X Y : Nat → Prop} {a b c : World} (h : Wb X a b) (k : Wb Y b c) (hY : ∀ i, Y i → X i ∨ a.heap.size ≤ i) : Wb X a c :=
  ⟨k.os.trans h.os, k.tape.trans h.tape, k.output.trans h.output, Nat.le_trans h.size k.size, fun i hi hx => (k.block i (Nat.lt_of_lt_of_le hi h.size) fun e => (hY i e).elim hx fun h2 => by omega).trans (h.block i hi hx)⟩
theorem bx2 {w : World} {b : Nat} {c0 c1 : Value} {e : TypeId} (h : w.heap[b]? = some (.cells #[c0, c1] e (0, 0))) : w.cell? ⟨b, 0, none⟩ = some c0 ∧ w.cell? ⟨b, 1, none⟩ = some c1 := by
  refine ⟨?_, ?_⟩ <;> simp [World.cell?, h]
/-- the end of do -/
theorem DoP.fin [Xcl] {C : Cx} {E : Int} {Q : Nat} {R R' : Al By} {s1 : Ps} {d1 : Dm} {T M A T1 M1 A1 Y : Nat → Prop} {w Wa wb wz : World} {p b : Nat} {v' : Value} {nt : By} {q : Ac} {ok : Bool}
    (hA : ∀ k, A k → k < w.heap.size ∧ ¬ T k ∧ ¬ M k ∧ k ≠ b) (hlt : p < w.heap.size ∧ b < w.heap.size ∧ (∀ k, T k → k < w.heap.size) ∧ ∀ k, M k → k < w.heap.size)
    (hbW : Below w.heap.size w Wa) (hwb : Wb (fun k => T k ∨ M k ∨ k = b) Wa wb) (hT1 : ∀ k, T1 k → T k ∨ Wa.heap.size ≤ k) (hM1 : ∀ k, M1 k → M k ∨ Wa.heap.size ≤ k) (hJ : @Jn (XE w.heap.size Wa.heap.size) T1 M1 wb p b s1 d1)
    (hz : Wb Y wb wz) (hY : ∀ k, Y k → w.heap.size ≤ k ∧ k < Wa.heap.size) (hr : Rp A1 wz v' R' nt) (hA1 : ∀ k, A1 k → (A k ∧ k < w.heap.size) ∨ (w.heap.size ≤ k ∧ k < Wa.heap.size) ∨ (wb.heap.size ≤ k ∧ k < wz.heap.size)) (hn : nxR R q R')
    (he : Jv C Q d1 ∨ (ok = true ∧ Iv C (E + 1) (Q + 1) R' s1 d1)) : DoP C E Q R T M A w p b nt q (.returned (.tuple #[v', .bool ok])) wz := by
  have hs := hbW.size
  have hs2 := hwb.size
  have hs3 := hz.size
  have hjl := @Jn.lt (XE w.heap.size Wa.heap.size) _ _ _ _ _ _ _ hJ
  have hJz : Jn T1 M1 wz p b s1 d1 := Jn.fin (a := w.heap.size) (z := Wa.heap.size) (Jn.wbX hJ hz fun k hk => by
    obtain ⟨h1, h2⟩ := hY k hk
    refine ⟨.inr ⟨h1, h2⟩, fun h => ?_, fun h => ?_, fun h => ?_⟩
    · rcases hT1 k h with h | h
      · have := hlt.2.2.1 k h; omega
      · omega
    · rcases hM1 k h with h | h
      · have := hlt.2.2.2 k h; omega
      · omega
    · have := hlt.2.1; omega)
  refine ⟨v', ok, R', A1, T1, M1, rfl, hn, wb_then (wb_then (Wb.of_below _ hbW) hwb fun k hk => .inl hk) hz fun k hk => .inr (hY k hk).1, fun k hk => (hT1 k hk).imp id fun h => Nat.le_trans hs h, fun k hk => (hM1 k hk).imp id fun h => Nat.le_trans hs h, fun k hk => ?_, hr, fun k hk => ?_, ?_⟩
  · rcases hA1 k hk with h | h | h
    · exact .inl h.1
    · exact .inr h.1
    · exact .inr (by omega)
  · rcases hA1 k hk with h | h | h
    · obtain ⟨k1, k2, k3, k4⟩ := hA k h.1
      refine ⟨by omega, fun e => ?_, fun e => ?_, k4⟩
      · rcases hT1 k e with e | e
        · exact k2 e
        · omega
      · rcases hM1 k e with e | e
        · exact k3 e
        · omega
    · refine ⟨by omega, fun e => ?_, fun e => ?_, by have := hlt.2.1; omega⟩
      · rcases hT1 k e with e | e
        · have := hlt.2.2.1 k e; omega
        · omega
      · rcases hM1 k e with e | e
        · have := hlt.2.2.2 k e; omega
        · omega
    · refine ⟨h.2, fun e => ?_, fun e => ?_, by have := hlt.2.1; omega⟩
      · have := hjl.2.2.1 k e; omega
      · have := hjl.2.2.2 k e; omega
  · rcases he with he | ⟨he, hi⟩
    · exact .inl ⟨s1, d1, he, hJz⟩
    · exact .inr ⟨he, s1, d1, hi, hJz⟩
end Go.Proofs.YtbmhkdcmepfmbaaGreat
set_option linter.unusedVariables false
set_option linter.unusedSimpArgs false
namespace Go.Proofs.YtbmhkdcmepfmbaaGreat
open Go.RowKit
attribute [local go_sem ↓] Go.wp_at_zero Go.wp_at_succ
set_option maxRecDepth 100000 in
set_option maxHeartbeats 4000000 in
theorem do_KO [Xcl] {C : Cx} {E : Int} {Q : Nat} {R : Al By} {s : Ps} {d : Dm} {T M A A3 : Nat → Prop} {w : World} {p b : Nat} {v nv : Value} {nt : By} {q : Ac} (h : Jn T M w p b s d) (hI : Iv C E Q R s d) (hE : E + 1 ≤ 100000) (hQ : Q + 1 ≤ 200) (hR : R.length + 1 ≤ 60)
    (hr : Rp A w v R nt) (hA : ∀ k, A k → k < w.heap.size ∧ ¬ T k ∧ ¬ M k ∧ k ≠ b) (ha : Ain q) (hl : -512 ≤ q.ln ∧ q.ln ≤ 512) (hv : Bs A3 w nv q.nt) (hk : q.kd ≠ 1 ∧ q.kd ≠ 2 ∧ q.kd ≠ 3 ∧ q.kd ≠ 4) : Calls Tryz.prog 22 #[.pointer (some ⟨p, 0, none⟩), v, .agg (actV q.kd q.id q.ln q.fi nv q.ar q.kp)] w (DoP C E Q R T M A w p b nt q) := by
  obtain ⟨va, vc, na, nn, nc, rfl⟩ := hr.form
  obtain ⟨ua, uc, rfl, -⟩ := hv.at
  obtain ⟨hb, hsz, hx1, hx2, hx3⟩ := boxD_is w (.slice va R.length vc) (.slice na nn nc) q (.slice ua q.nt.length uc)
  obtain ⟨W, hW⟩ : ∃ W, W = boxD w (.slice va R.length vc) (.slice na nn nc) q (.slice ua q.nt.length uc) := ⟨_, rfl⟩
  rw [← hW] at hb hsz hx1 hx2 hx3
  have HRW0 := Hid.mk' hr.andLt
  have HRW := Hid.mk' (hr.andLt.up hb)
  have HB := Hid.mk' hb
  have HSZ := Hid.mk' hsz
  have HX1 := Hid.mk' hx1
  have HX2 := Hid.mk' hx2
  have HX3 := Hid.mk' hx3
  have HA := Hid.mk' hA
  have HJ := Hid.mk' h
  have HJW := Hid.mk' (h.ext hb)
  have HI := Hid.mk' hI
  have HLT := Hid.mk' h.lt
  have HRL := Hid.mk' hR
  have HEE := Hid.mk' hE
  have HQQ := Hid.mk' hQ
  have HID := Hid.mk' ha.1
  have HLN := Hid.mk' hl
  have HW : Hid (W = ((w.alloc (.cells #[.slice va R.length vc, .slice na nn nc] 50)).alloc (.cells #[.int .i64 q.kd, .int .i64 q.id, .int .i64 q.ln, .int .u8 (q.fi.toNat : Int), .slice ua q.nt.length uc, .int .i64 q.ar, .int .i64 q.kp] 36)).alloc (.cells #[.slice none 0 0, .slice none 0 0] 50)) := hW
  have HBO : Hid (∀ k, w.heap.size ≤ k → ¬ (T k ∨ M k ∨ k = b)) := fun k hk e => by
    have := HLT.out.2.2.1 k; have := HLT.out.2.2.2 k; have := HLT.out.2.1
    rcases e with e | e | e <;> first | omega | (have := HLT.out.2.2.1 k e; omega) | (have := HLT.out.2.2.2 k e; omega)
  have hrl : (R.length : Int) ≤ 59 := by omega
  unfold actV
  clear hr hA h hI hE hQ hR ha hl hv hb hW hsz hx3
  obtain ⟨x0, x1, x2, x3, x4, x5, x6⟩ := bx7 hx2
  obtain ⟨m0, m1⟩ := bx2 hx1
  clear hx1 hx2
  generalize hfn : (q.fi.toNat : Int) = fn at *
  have HFN := Hid.mk' hfn
  clear hfn
  have HWA : Hid (∀ k, (A k ∧ k < w.heap.size) → ¬ (T k ∨ M k ∨ k = b)) := fun k hk e => (HA.out k hk.1).2.elim fun h1 h2 => e.elim h1 fun e => e.elim h2.1 h2.2
  have k1 : (q.kd == 1) = false := by simpa using (by omega : ¬ q.kd = 1)
  have k2 : (q.kd == 2) = false := by simpa using (by omega : ¬ q.kd = 2)
  have k3 : (q.kd == 3) = false := by simpa using (by omega : ¬ q.kd = 3)
  have k4 : (q.kd == 4) = false := by simpa using (by omega : ¬ q.kd = 4)
  have HKD := Hid.mk' hk
  obtain ⟨Wz, hWz⟩ : ∃ Wz, Wz = ((w.alloc (.cells #[.slice va R.length vc, .slice na nn nc] 50)).alloc (.cells #[.int .i64 q.kd, .int .i64 q.id, .int .i64 q.ln, .int .u8 fn, .slice ua q.nt.length uc, .int .i64 q.ar, .int .i64 q.kp] 36)).alloc (.cells #[.slice va R.length vc, .slice na nn nc] 50) := ⟨_, rfl⟩
  have hbz : Below w.heap.size w Wz := by rw [hWz]; exact bt (bt (up_alloc _ _) (up_alloc _ _)) (up_alloc _ _)
  have hxz : Wz.heap[w.heap.size + 1 + 1]? = some (.cells #[.slice va R.length vc, .slice na nn nc] 50 (0, 0)) := by
    have h := heap_alloc_new ((w.alloc (.cells #[.slice va R.length vc, .slice na nn nc] 50)).alloc (.cells #[.int .i64 q.kd, .int .i64 q.id, .int .i64 q.ln, .int .u8 fn, .slice ua q.nt.length uc, .int .i64 q.ar, .int .i64 q.kp] 36)) (.cells #[.slice va R.length vc, .slice na nn nc] 50)
    rw [← hWz] at h
    simpa using h
  obtain ⟨r0, r1⟩ := bx2 hxz
  have HBZ := Hid.mk' hbz
  have HWZ := Hid.mk' hWz
  rw [hWz] at r0 r1
  clear hk x0 x1 x2 x3 x4 x5 x6 m0 m1 hbz hxz hWz
  go_enter Tryz.func22, Tryz.ntmps22
  go_wp2_with fail
  refine bodyPost_ret (v := .tuple #[.agg #[.slice va R.length vc, .slice na nn nc], .bool true]) ?_ rfl ?_
  · simp [results, Tryz.results22, go_sem, r0, r1]
  rw [← HWZ.out]
  exact DoP.fin HA.out HLT.out HBZ.out (Wb.refl _ _) (fun k h => .inl h) (fun k h => .inl h) (HJ.out.ext HBZ.out) (Y := fun _ => False) (Wb.refl _ _) (fun k hk => hk.elim) (HRW0.out.up HBZ.out) (fun k hk => .inl hk) (.inr (.inr (.inr ⟨HKD.out.1, HKD.out.2.1, HKD.out.2.2.2, rfl⟩))) (.inr ⟨rfl, HI.out.more (by omega) (by omega) HEE.out HQQ.out⟩)
end Go.Proofs.YtbmhkdcmepfmbaaGreat
set_option linter.unusedVariables false
set_option linter.unusedSimpArgs false
namespace Go.Proofs.YtbmhkdcmepfmbaaGreat
open Go.RowKit
attribute [local go_sem ↓] Go.wp_at_zero Go.wp_at_succ
set_option maxRecDepth 100000 in
set_option maxHeartbeats 4000000 in
theorem do_KA [Xcl] {C : Cx} {E : Int} {Q : Nat} {R : Al By} {s : Ps} {d : Dm} {T M A A3 : Nat → Prop} {w : World} {p b : Nat} {v nv : Value} {nt : By} {q : Ac} (h : Jn T M w p b s d) (hI : Iv C E Q R s d) (hE : E + 1 ≤ 100000) (hQ : Q + 1 ≤ 200) (hR : R.length + 1 ≤ 60)
    (hr : Rp A w v R nt) (hA : ∀ k, A k → k < w.heap.size ∧ ¬ T k ∧ ¬ M k ∧ k ≠ b) (ha : Ain q) (hl : -512 ≤ q.ln ∧ q.ln ≤ 512) (hv : Bs A3 w nv q.nt) (hk : q.kd = 1) : Calls Tryz.prog 22 #[.pointer (some ⟨p, 0, none⟩), v, .agg (actV q.kd q.id q.ln q.fi nv q.ar q.kp)] w (DoP C E Q R T M A w p b nt q) := by
  obtain ⟨va, vc, na, nn, nc, rfl⟩ := hr.form
  obtain ⟨ua, uc, rfl, -⟩ := hv.at
  obtain ⟨hb, hsz, hx1, hx2, hx3⟩ := boxD_is w (.slice va R.length vc) (.slice na nn nc) q (.slice ua q.nt.length uc)
  obtain ⟨W, hW⟩ : ∃ W, W = boxD w (.slice va R.length vc) (.slice na nn nc) q (.slice ua q.nt.length uc) := ⟨_, rfl⟩
  rw [← hW] at hb hsz hx1 hx2 hx3
  have HRW := Hid.mk' (hr.andLt.up hb)
  have HB := Hid.mk' hb
  have HSZ := Hid.mk' hsz
  have HX1 := Hid.mk' hx1
  have HX2 := Hid.mk' hx2
  have HX3 := Hid.mk' hx3
  have HA := Hid.mk' hA
  have HJ := Hid.mk' h
  have HJW := Hid.mk' (h.ext hb)
  have HI := Hid.mk' hI
  have HLT := Hid.mk' h.lt
  have HRL := Hid.mk' hR
  have HEE := Hid.mk' hE
  have HQQ := Hid.mk' hQ
  have HID := Hid.mk' ha.1
  have HLN := Hid.mk' hl
  have HW : Hid (W = ((w.alloc (.cells #[.slice va R.length vc, .slice na nn nc] 50)).alloc (.cells #[.int .i64 q.kd, .int .i64 q.id, .int .i64 q.ln, .int .u8 (q.fi.toNat : Int), .slice ua q.nt.length uc, .int .i64 q.ar, .int .i64 q.kp] 36)).alloc (.cells #[.slice none 0 0, .slice none 0 0] 50)) := hW
  have HBO : Hid (∀ k, w.heap.size ≤ k → ¬ (T k ∨ M k ∨ k = b)) := fun k hk e => by
    have := HLT.out.2.2.1 k; have := HLT.out.2.2.2 k; have := HLT.out.2.1
    rcases e with e | e | e <;> first | omega | (have := HLT.out.2.2.1 k e; omega) | (have := HLT.out.2.2.2 k e; omega)
  have hrl : (R.length : Int) ≤ 59 := by omega
  unfold actV
  clear hr hA h hI hE hQ hR ha hl hv hb hW hsz hx3
  obtain ⟨x0, x1, x2, x3, x4, x5, x6⟩ := bx7 hx2
  obtain ⟨m0, m1⟩ := bx2 hx1
  clear hx1 hx2
  generalize hfn : (q.fi.toNat : Int) = fn at *
  have HFN := Hid.mk' hfn
  clear hfn
  have HWA : Hid (∀ k, (A k ∧ k < w.heap.size) → ¬ (T k ∨ M k ∨ k = b)) := fun k hk e => (HA.out k hk.1).2.elim fun h1 h2 => e.elim h1 fun e => e.elim h2.1 h2.2
  have hkd : q.kd = 1 := hk
  have HKD := Hid.mk' hkd
  have k1 : (q.kd == 1) = true := by simpa using hkd
  clear hk hkd
  have HC := letI : Xcl := XE w.heap.size W.heap.size; Hid.mk' (valloc HJW.out HI.out HRL.out)
  go_enter Tryz.func22, Tryz.ntmps22
  go_wp2_with fail
  rw [← HW.out]
  refine HC.out.mono ?_
  rintro e w1 ⟨n, s1, rfl, g1, g2, g3, hI1, -, hw1, T1, M1, hT1, hM1, hJ1⟩
  have m0 := wb_cell hw1 (HBO.out _ (Nat.le_refl _)) m0
  have m1 := wb_cell hw1 (HBO.out _ (Nat.le_refl _)) m1
  have HX31 : Hid (w1.heap[w.heap.size + 1 + 1]? = some (.cells #[.slice none 0 0, .slice none 0 0] 50 (0, 0))) := by
    show _ = _
    rw [hw1.block _ (by rw [HSZ.out]; omega) (HBO.out _ (by omega))]; exact HX3.out
  have HRA := Hid.mk' (ralloc_any (HRW.out.wb hw1 fun k hk => fun hak => HWA.out k hak hk) (by have := HRL.out; omega))
  have HW1 := Hid.mk' hw1
  have HT1 := Hid.mk' hT1
  have HM1 := Hid.mk' hM1
  have HJ1 := Hid.mk' hJ1
  have HI1 := Hid.mk' hI1
  have HG : Hid (aget R n = none ∧ ∀ m : Nat, m < n → (aget R m).isSome) := ⟨g1, g2⟩
  have hnl : (n : Int) ≤ 59 := by omega
  clear x0 x1 x2 x3 x4 x5 x6 hw1 hT1 hM1 hJ1 hI1 g1 g2 g3 HC
  go_wp2_with fail
  refine HRA.out.mono ?_
  rintro e w2 ⟨⟨v2, n2, rfl, hf, hr2⟩, hb2⟩
  obtain ⟨e1, e2, e3⟩ := fre_aput HI.out.sR HI.out.nneg hf
  obtain rfl : n = n2 := fre_one HG.out.1 HG.out.2 e2 e3
  rw [e1] at hr2
  have HF := Hid.mk' hf
  obtain ⟨q1, k1, q2, l2, k2, rfl⟩ := hr2.form
  have HR2 := Hid.mk' hr2.andLt
  have HB2 := Hid.mk' hb2
  generalize hl1 : (aput R (n : Int) zer).length = l1 at *
  have hl1' : (l1 : Int) ≤ 60 := by have h := len_aput R HI.out.sR (n : Int) zer; have := HRL.out; split at h <;> omega
  obtain ⟨W3, hW3⟩ : ∃ W3, W3 = w2.alloc (.cells #[.slice q1 l1 k1, .slice q2 l2 k2] 50) := ⟨_, rfl⟩
  have hb3 : Below w2.heap.size w2 W3 := by rw [hW3]; exact up_alloc _ _
  have hx3 : W3.heap[w2.heap.size]? = some (.cells #[.slice q1 l1 k1, .slice q2 l2 k2] 50 (0, 0)) := by rw [hW3]; exact heap_alloc_new _ _
  obtain ⟨p0, p1⟩ := bx2 hx3
  have hsz3 := HSZ.out
  have hs1 := HW1.out.size
  have hs2 := hb2.size
  have hx4 : W3.heap[w.heap.size + 1 + 1]? = some (.cells #[.slice none 0 0, .slice none 0 0] 50 (0, 0)) := by rw [hb3.block _ (by omega), hb2.block _ (by omega)]; exact HX31.out
  obtain ⟨z0, f0, f1, z1, -, r0, r1⟩ := res2 hx4 (.slice q1 l1 k1) (.slice q2 l2 k2)
  have HB3 := Hid.mk' hb3
  clear hf e1 e2 e3 hr2 hb2 hl1 hb3 hx3 hx4 hsz3 hs1 hs2 m0 m1
  have HW3 := Hid.mk' hW3
  rw [hW3] at p0 p1 z0 f0 f1 z1 r0 r1
  clear hW3
  go_wp2_with fail
  refine bodyPost_ret (v := .tuple #[.agg #[.slice q1 l1 k1, .slice q2 l2 k2], .bool true]) ?_ rfl ?_
  · simp [results, Tryz.results22, go_sem, r0, r1]
  rw [← HW3.out]
  have hwz := res2_wb W3 (w.heap.size + 1 + 1) (.slice q1 l1 k1) (.slice q2 l2 k2)
  have hs1 := HW1.out.size
  have hs2 := HB2.out.size
  have hs3 := HB3.out.size
  have hs0 := HSZ.out
  have hsz := hwz.size
  refine DoP.fin HA.out HLT.out HB.out HW1.out HT1.out HM1.out HJ1.out (Y := fun k => k = w.heap.size + 1 + 1) (wb_then (Wb.of_below _ (bt HB2.out HB3.out)) hwz fun k hk => .inl hk) (fun k hk => by subst hk; omega) (((HR2.out).up HB3.out).wb hwz fun k hk hk2 => by omega) (fun k hk => ?_) (.inl ⟨HKD.out, n, HF.out, rfl⟩) (.inr ⟨rfl, HI1.out.more (by omega) (by omega) HEE.out HQQ.out⟩)
  rcases hk with ⟨h | h, h2⟩
  · exact .inl h
  · exact .inr (.inr ⟨h, by omega⟩)
end Go.Proofs.YtbmhkdcmepfmbaaGreat
set_option linter.unusedVariables false
set_option linter.unusedSimpArgs false
namespace Go.Proofs.YtbmhkdcmepfmbaaGreat
open Go.RowKit
attribute [local go_sem ↓] Go.wp_at_zero Go.wp_at_succ
set_option maxRecDepth 100000 in
set_option maxHeartbeats 4000000 in
theorem do_KF [Xcl] {C : Cx} {E : Int} {Q : Nat} {R : Al By} {s : Ps} {d : Dm} {T M A A3 : Nat → Prop} {w : World} {p b : Nat} {v nv : Value} {nt : By} {q : Ac} (h : Jn T M w p b s d) (hI : Iv C E Q R s d) (hE : E + 1 ≤ 100000) (hQ : Q + 1 ≤ 200) (hR : R.length + 1 ≤ 60)
    (hr : Rp A w v R nt) (hA : ∀ k, A k → k < w.heap.size ∧ ¬ T k ∧ ¬ M k ∧ k ≠ b) (ha : Ain q) (hl : -512 ≤ q.ln ∧ q.ln ≤ 512) (hv : Bs A3 w nv q.nt) (hk : q.kd = 2) : Calls Tryz.prog 22 #[.pointer (some ⟨p, 0, none⟩), v, .agg (actV q.kd q.id q.ln q.fi nv q.ar q.kp)] w (DoP C E Q R T M A w p b nt q) := by
  obtain ⟨va, vc, na, nn, nc, rfl⟩ := hr.form
  obtain ⟨ua, uc, rfl, -⟩ := hv.at
  obtain ⟨hb, hsz, hx1, hx2, hx3⟩ := boxD_is w (.slice va R.length vc) (.slice na nn nc) q (.slice ua q.nt.length uc)
  obtain ⟨W, hW⟩ : ∃ W, W = boxD w (.slice va R.length vc) (.slice na nn nc) q (.slice ua q.nt.length uc) := ⟨_, rfl⟩
  rw [← hW] at hb hsz hx1 hx2 hx3
  have HRW := Hid.mk' (hr.andLt.up hb)
  have HB := Hid.mk' hb
  have HSZ := Hid.mk' hsz
  have HX1 := Hid.mk' hx1
  have HX2 := Hid.mk' hx2
  have HX3 := Hid.mk' hx3
  have HA := Hid.mk' hA
  have HJ := Hid.mk' h
  have HJW := Hid.mk' (h.ext hb)
  have HI := Hid.mk' hI
  have HLT := Hid.mk' h.lt
  have HRL := Hid.mk' hR
  have HEE := Hid.mk' hE
  have HQQ := Hid.mk' hQ
  have HID := Hid.mk' ha.1
  have HLN := Hid.mk' hl
  have HW : Hid (W = ((w.alloc (.cells #[.slice va R.length vc, .slice na nn nc] 50)).alloc (.cells #[.int .i64 q.kd, .int .i64 q.id, .int .i64 q.ln, .int .u8 (q.fi.toNat : Int), .slice ua q.nt.length uc, .int .i64 q.ar, .int .i64 q.kp] 36)).alloc (.cells #[.slice none 0 0, .slice none 0 0] 50)) := hW
  have HBO : Hid (∀ k, w.heap.size ≤ k → ¬ (T k ∨ M k ∨ k = b)) := fun k hk e => by
    have := HLT.out.2.2.1 k; have := HLT.out.2.2.2 k; have := HLT.out.2.1
    rcases e with e | e | e <;> first | omega | (have := HLT.out.2.2.1 k e; omega) | (have := HLT.out.2.2.2 k e; omega)
  have hrl : (R.length : Int) ≤ 59 := by omega
  unfold actV
  clear hr hA h hI hE hQ hR ha hl hv hb hW hsz hx3
  obtain ⟨x0, x1, x2, x3, x4, x5, x6⟩ := bx7 hx2
  obtain ⟨m0, m1⟩ := bx2 hx1
  clear hx1 hx2
  generalize hfn : (q.fi.toNat : Int) = fn at *
  have HFN := Hid.mk' hfn
  clear hfn
  have HWA : Hid (∀ k, (A k ∧ k < w.heap.size) → ¬ (T k ∨ M k ∨ k = b)) := fun k hk e => (HA.out k hk.1).2.elim fun h1 h2 => e.elim h1 fun e => e.elim h2.1 h2.2
  have k1 : (q.kd == 1) = false := by simpa using (by omega : ¬ q.kd = 1)
  have k2 : (q.kd == 2) = true := by simpa using (by omega : q.kd = 2)
  have HKD : Hid (q.kd = 2) := hk
  have HRF := Hid.mk' (rfree_any HI.out.sR q.id HRW.out (by have := HRL.out; omega))
  clear hk x0 x2 x3 x4 x5 x6
  go_enter Tryz.func22, Tryz.ntmps22
  go_wp2_with fail
  rw [← HW.out]
  refine HRF.out.mono ?_
  rintro e w1 ⟨⟨v2, rfl, hr2⟩, hb1⟩
  obtain ⟨q1, l1, q2, n2, l2, rfl⟩ := hr2.form
  have HR2 := Hid.mk' hr2.andLt
  have HB1 := Hid.mk' hb1
  generalize hn1 : (adel R q.id).length = n1 at *
  have hn1' : (n1 : Int) ≤ 60 := by have h := len_adel R q.id; have := HRL.out; split at h <;> omega
  obtain ⟨W3, hW3⟩ : ∃ W3, W3 = w1.alloc (.cells #[.slice q1 n1 l1, .slice q2 n2 l2] 50) := ⟨_, rfl⟩
  have hb3 : Below w1.heap.size w1 W3 := by rw [hW3]; exact up_alloc _ _
  have hx3 : W3.heap[w1.heap.size]? = some (.cells #[.slice q1 n1 l1, .slice q2 n2 l2] 50 (0, 0)) := by rw [hW3]; exact heap_alloc_new _ _
  obtain ⟨p0, p1⟩ := bx2 hx3
  have x1 : W3.cell? ⟨w.heap.size + 1, 1, none⟩ = some (.int .i64 q.id) := cell_up (cell_up x1 hb1) hb3
  have hs0 := HSZ.out
  have hs1 := hb1.size
  have hs3 := hb3.size
  have HX4 : Hid (W3.heap[w.heap.size + 1 + 1]? = some (.cells #[.slice none 0 0, .slice none 0 0] 50 (0, 0))) := by show _ = _; rw [hb3.block _ (by omega), hb1.block _ (by omega)]; exact HX3.out
  have HBZ : Hid (Below w.heap.size w W3.drew) := (HB.out.trans (hb1.mono (by omega))).trans ((bt hb3 (drew_blx W3 _)).mono (by omega))
  have HJZ := Hid.mk' (HJ.out.ext HBZ.out)
  have HFR := letI : Xcl := XE w.heap.size W3.drew.heap.size; Hid.mk' (vfree HJZ.out HI.out q.id HID.out)
  have HB3 := Hid.mk' hb3
  have HS3 : Hid (w1.heap.size < W3.heap.size) := (Array.getElem?_eq_some_iff.1 hx3).1
  have hgx : ∀ k, w.heap.size ≤ k → k ≠ w.heap.size + 1 + 1 → ¬ (T k ∨ M k ∨ k = b ∨ k = w.heap.size + 1 + 1) := fun k h1 h2 e => by
    rcases e with e | e | e | e
    · exact HBO.out k h1 (.inl e)
    · exact HBO.out k h1 (.inr (.inl e))
    · exact HBO.out k h1 (.inr (.inr e))
    · exact h2 e
  have t0 : ∀ qq : Kp (fun k => T k ∨ M k ∨ k = b ∨ k = w.heap.size + 1 + 1) W3, qq.nx.cell? ⟨w1.heap.size, 0, none⟩ = some _ := fun qq => qq.cell p0 (hgx _ (by omega) (by omega))
  have t1 : ∀ qq : Kp (fun k => T k ∨ M k ∨ k = b ∨ k = w.heap.size + 1 + 1) W3, qq.nx.cell? ⟨w1.heap.size, 1, none⟩ = some _ := fun qq => qq.cell p1 (hgx _ (by omega) (by omega))
  have t2 : ∀ qq : Kp (fun k => T k ∨ M k ∨ k = b ∨ k = w.heap.size + 1 + 1) W3, qq.nx.cell? ⟨w.heap.size + 1, 1, none⟩ = some _ := fun qq => qq.cell x1 (hgx _ (by omega) (by omega))
  clear hr2 hb1 hn1 hb3 hx3 hs0 hs1 hs3 hgx m0 m1 HRF x1 p0 p1
  go_wp2_with fail
  rw [← hW3]
  clear hW3
  refine wp_region_mix 8 (fun w' => ∃ qq : Kp (fun k => T k ∨ M k ∨ k = b ∨ k = w.heap.size + 1 + 1) W3, w' = qq.nx) (by kernel_rfl) (by kernel_rfl) (kp_first _ W3) ?_
  simp only [List.take_succ_cons, List.take_zero, List.drop_succ_cons, List.drop_zero]
  refine mx_take 4 rfl ?_
  simp only [List.take_succ_cons, List.take_zero, List.drop_succ_cons, List.drop_zero]
  repeat (go_big_quiet_step (fail))
  refine wpQuiet_nil ?_
  refine mx_call (vals := [.pointer (some ⟨p, 0, none⟩), .int .i64 q.id]) Tryz.func49 (by kernel_rfl) rfl rfl (by kernel_rfl) (by kernel_rfl) HFR.out (fun e wa ha => ?_)
  obtain ⟨s1, rfl, hI1, -, hw1, T1, M1, hT1, hM1, hJ1⟩ := ha
  have HW1 := Hid.mk' hw1
  have HT1 := Hid.mk' hT1
  have HM1 := Hid.mk' hM1
  have HJ1 := Hid.mk' hJ1
  have HI1 := Hid.mk' hI1
  refine ⟨_, rfl, kp_mk hw1.size fun k hk hx => hw1.block k hk fun e => hx (e.imp id fun e => e.imp id .inl), ?_⟩
  simp only [Act.put, List.setIfInBounds_toArray, List.set_cons_succ, List.set_cons_zero]
  clear hw1 hT1 hM1 hJ1 hI1
  refine mx_take 2 rfl ?_
  simp only [List.take_succ_cons, List.take_zero, List.drop_succ_cons, List.drop_zero]
  repeat (go_big_quiet_step (fail))
  refine wpQuiet_nil ?_
  have hx5 : wa.heap[w.heap.size + 1 + 1]? = some (.cells #[.slice none 0 0, .slice none 0 0] 50 (0, 0)) := by
    rw [HW1.out.block _ (by have := (Array.getElem?_eq_some_iff.1 HX4.out).1; exact this) (HBO.out _ (by omega))]; exact HX4.out
  have hwz := res2_wb wa (w.heap.size + 1 + 1) (.slice q1 n1 l1) (.slice q2 n2 l2)
  obtain ⟨z0, f0, f1, z1, -, r0, r1⟩ := res2 hx5 (.slice q1 n1 l1) (.slice q2 n2 l2)
  refine mx_storex rfl (by kernel_rfl) (exec_store50 rfl rfl rfl hx5) (kp_mk (Nat.le_trans HW1.out.size hwz.size) fun k hk hx => (hwz.block k (Nat.lt_of_lt_of_le hk HW1.out.size) fun e => hx (.inr (.inr (.inr e)))).trans (HW1.out.block k hk fun e => hx (e.imp id fun e => e.imp id .inl))) ?_
  simp only [Act.put, List.setIfInBounds_toArray, List.set_cons_succ, List.set_cons_zero, wpMix]
  have HZ := Hid.mk' hwz
  clear hx5 hwz z0 f0 f1 z1 t0 t1 t2
  go_wp2_with fail
  refine bodyPost_ret (v := .tuple #[.agg #[.slice q1 n1 l1, .slice q2 n2 l2], .bool true]) ?_ rfl ?_
  · simp [results, Tryz.results22, go_sem, r0, r1]
  have hs0 := HSZ.out
  have hs1 := HB1.out.size
  have hs3 : w1.heap.size < W3.drew.heap.size := by have := (Array.getElem?_eq_some_iff.1 HX4.out).1; have := HB3.out.size; have e : W3.drew.heap.size = W3.heap.size := rfl; have e2 := HS3.out; omega
  have hs4 := HW1.out.size
  refine DoP.fin HA.out HLT.out HBZ.out HW1.out HT1.out HM1.out HJ1.out (Y := fun k => k = w.heap.size + 1 + 1) HZ.out (fun k hk => by subst hk; omega) (((((HR2.out).up HB3.out).up (drew_blx W3 _)).wb HW1.out fun k hk hk2 => ?_).wb HZ.out fun k hk hk2 => by omega) (fun k hk => ?_) (.inr (.inl ⟨HKD.out, rfl⟩)) (.inr ⟨rfl, HI1.out.more (by omega) (by omega) HEE.out HQQ.out⟩)
  · rcases hk2 with ⟨h | h, h2⟩
    · exact HWA.out k h hk
    · exact HBO.out k (by omega) hk
  · rcases hk with ⟨h | h, h2⟩
    · exact .inl h
    · exact .inr (.inl ⟨by omega, by omega⟩)
end Go.Proofs.YtbmhkdcmepfmbaaGreat
set_option linter.unusedVariables false
set_option linter.unusedSimpArgs false
namespace Go.Proofs.YtbmhkdcmepfmbaaGreat
open Go.RowKit
attribute [local go_sem ↓] Go.wp_at_zero Go.wp_at_succ
set_option maxRecDepth 100000 in
set_option maxHeartbeats 4000000 in
theorem do_KG [Xcl] {C : Cx} {E : Int} {Q : Nat} {R : Al By} {s : Ps} {d : Dm} {T M A A3 : Nat → Prop} {w : World} {p b : Nat} {v nv : Value} {nt : By} {q : Ac} (h : Jn T M w p b s d) (hI : Iv C E Q R s d) (hE : E + 1 ≤ 100000) (hQ : Q + 1 ≤ 200) (hR : R.length + 1 ≤ 60)
    (hr : Rp A w v R nt) (hA : ∀ k, A k → k < w.heap.size ∧ ¬ T k ∧ ¬ M k ∧ k ≠ b) (ha : Ain q) (hl : -512 ≤ q.ln ∧ q.ln ≤ 512) (hv : Bs A3 w nv q.nt) (hk : q.kd = 3) : Calls Tryz.prog 22 #[.pointer (some ⟨p, 0, none⟩), v, .agg (actV q.kd q.id q.ln q.fi nv q.ar q.kp)] w (DoP C E Q R T M A w p b nt q) := by
  obtain ⟨va, vc, na, nn, nc, rfl⟩ := hr.form
  obtain ⟨ua, uc, rfl, -⟩ := hv.at
  obtain ⟨hb, hsz, hx1, hx2, hx3⟩ := boxD_is w (.slice va R.length vc) (.slice na nn nc) q (.slice ua q.nt.length uc)
  obtain ⟨W, hW⟩ : ∃ W, W = boxD w (.slice va R.length vc) (.slice na nn nc) q (.slice ua q.nt.length uc) := ⟨_, rfl⟩
  rw [← hW] at hb hsz hx1 hx2 hx3
  have HRW0 := Hid.mk' hr.andLt
  have HRW := Hid.mk' (hr.andLt.up hb)
  have HB := Hid.mk' hb
  have HSZ := Hid.mk' hsz
  have HX1 := Hid.mk' hx1
  have HX2 := Hid.mk' hx2
  have HX3 := Hid.mk' hx3
  have HA := Hid.mk' hA
  have HJ := Hid.mk' h
  have HJW := Hid.mk' (h.ext hb)
  have HI := Hid.mk' hI
  have HLT := Hid.mk' h.lt
  have HRL := Hid.mk' hR
  have HEE := Hid.mk' hE
  have HQQ := Hid.mk' hQ
  have HID := Hid.mk' ha.1
  have HLN := Hid.mk' hl
  have HW : Hid (W = ((w.alloc (.cells #[.slice va R.length vc, .slice na nn nc] 50)).alloc (.cells #[.int .i64 q.kd, .int .i64 q.id, .int .i64 q.ln, .int .u8 (q.fi.toNat : Int), .slice ua q.nt.length uc, .int .i64 q.ar, .int .i64 q.kp] 36)).alloc (.cells #[.slice none 0 0, .slice none 0 0] 50)) := hW
  have HBO : Hid (∀ k, w.heap.size ≤ k → ¬ (T k ∨ M k ∨ k = b)) := fun k hk e => by
    have := HLT.out.2.2.1 k; have := HLT.out.2.2.2 k; have := HLT.out.2.1
    rcases e with e | e | e <;> first | omega | (have := HLT.out.2.2.1 k e; omega) | (have := HLT.out.2.2.2 k e; omega)
  have hrl : (R.length : Int) ≤ 59 := by omega
  unfold actV
  clear hr hA h hI hE hQ hR ha hl hv hb hW hsz hx3
  obtain ⟨x0, x1, x2, x3, x4, x5, x6⟩ := bx7 hx2
  obtain ⟨m0, m1⟩ := bx2 hx1
  clear hx1 hx2
  generalize hfn : (q.fi.toNat : Int) = fn at *
  have HFN := Hid.mk' hfn
  clear hfn
  have HWA : Hid (∀ k, (A k ∧ k < w.heap.size) → ¬ (T k ∨ M k ∨ k = b)) := fun k hk e => (HA.out k hk.1).2.elim fun h1 h2 => e.elim h1 fun e => e.elim h2.1 h2.2
  have k1 : (q.kd == 1) = false := by simpa using (by omega : ¬ q.kd = 1)
  have k2 : (q.kd == 2) = false := by simpa using (by omega : ¬ q.kd = 2)
  have k3 : (q.kd == 3) = true := by simpa using (by omega : q.kd = 3)
  have HKD : Hid (q.kd = 3) := hk
  have HTS : Hid (Ts (fun k => A k ∧ k < w.heap.size) W (.slice va R.length vc) R) := by
    obtain ⟨_, _, e, h1, _⟩ := HRW.out
    cases e
    exact h1
  have HC := letI : Xcl := XE w.heap.size W.heap.size; Hid.mk' (vget2 HJW.out HI.out HEE.out q.id HID.out)
  clear hk x0 x2 x3 x4 x5 x6
  go_enter Tryz.func22, Tryz.ntmps22
  go_wp2_with fail
  rw [← HW.out]
  refine HC.out.mono ?_
  rintro e w1 hpost
  clear HC
  have m0 : ∀ w', Wb (fun k => T k ∨ M k ∨ k = b) W w' → w'.cell? ⟨w.heap.size, 0, none⟩ = some (.slice va R.length vc) := fun w' hw => wb_cell hw (HBO.out _ (Nat.le_refl _)) m0
  have m1 : ∀ w', Wb (fun k => T k ∨ M k ∨ k = b) W w' → w'.cell? ⟨w.heap.size, 1, none⟩ = some (.slice na nn nc) := fun w' hw => wb_cell hw (HBO.out _ (Nat.le_refl _)) m1
  have x1 : ∀ w', Wb (fun k => T k ∨ M k ∨ k = b) W w' → w'.cell? ⟨w.heap.size + 1, 1, none⟩ = some (.int .i64 q.id) := fun w' hw => wb_cell hw (HBO.out _ (by omega)) x1
  have HM0 := Hid.mk' m0
  have HM1' := Hid.mk' m1
  have HX1' := Hid.mk' x1
  clear m0 m1 x1
  rcases hpost with ⟨x, s1, d1, hx0, hgs, rfl, hjv, hj1⟩ | ⟨s1, d1, v1, w5, rfl, hI1, -, -, -, -, hj5, hb6, ho6⟩
  case inl =>
    obtain ⟨hw1, T1, M1, hT1, hM1, hJ1⟩ := hj1
    have HIV : Hid (Jv C Q d1) := hjv
    have HG0 : Hid (gE R q.id = 0) := by show _ = _; unfold gE; rw [if_pos hgs]
    have hxx : (x == 0) = false := by simpa using hx0
    clear hx0 hgs hjv
    have HW1 := Hid.mk' hw1
    have HT1 := Hid.mk' hT1
    have HM1 := Hid.mk' hM1
    have HJ1 := Hid.mk' hJ1
    have HT2 : Hid (Ts (fun k => A k ∧ k < w.heap.size) w1 (.slice va R.length vc) R) := HTS.out.wb hw1 fun k hk hk2 => HWA.out k hk2 hk
    have HRG := Hid.mk' (rget_any (vn := .slice na nn nc) HI.out.sR q.id HT2.out)
    have a0 := HM0.out w1 hw1
    have a1 := HM1'.out w1 hw1
    have a2 := HX1'.out w1 hw1
    clear hw1 hT1 hM1 hJ1
    go_wp2_with fail
    refine HRG.out.mono ?_
    rintro e w2 ⟨⟨v2, rfl, hbs2⟩, hb2⟩
    have HB2 := Hid.mk' hb2
    obtain ⟨va2, vc2, rfl, -⟩ := hbs2.at
    have p0 := cell_up a0 hb2
    have p1 := cell_up a1 hb2
    have HW2 : Hid (Wb (fun k => T k ∨ M k ∨ k = b) W w2.drew) := HW1.out.trans (Wb.of_below _ (bt hb2 (drew_blx w2 _)))
    have HX4 : Hid (w2.drew.heap[w.heap.size + 1 + 1]? = some (.cells #[.slice none 0 0, .slice none 0 0] 50 (0, 0))) := by
      show _ = _
      rw [HW2.out.block _ (by rw [HSZ.out]; omega) (HBO.out _ (by omega))]; exact HX3.out
    rw [HG0.out]
    have hgx : ∀ k, k ≠ w.heap.size + 1 + 1 → ¬ (fun k => k = w.heap.size + 1 + 1) k := fun k h => h
    have t0 : ∀ qq : Kp (fun k => k = w.heap.size + 1 + 1) w2, qq.nx.cell? ⟨w.heap.size, 0, none⟩ = some _ := fun qq => qq.cell p0 (hgx _ (by omega))
    have t1 : ∀ qq : Kp (fun k => k = w.heap.size + 1 + 1) w2, qq.nx.cell? ⟨w.heap.size, 1, none⟩ = some _ := fun qq => qq.cell p1 (hgx _ (by omega))
    have HB5 : Hid (Below w2.heap.size w2 w2.drew) := drew_blx w2 _
    clear hb2 hbs2 hgx a0 a1 a2 p0 p1 HRG
    generalize ((aget R q.id).getD []) = gl at *
    go_wp2_with fail
    refine wp_region_mix 10 (fun w' => ∃ qq : Kp (fun k => k = w.heap.size + 1 + 1) w2, w' = qq.nx) (by kernel_rfl) (by kernel_rfl) (kp_first _ w2) ?_
    generalize hwd : w2.drew = wd at *
    clear hwd
    simp only [List.take_succ_cons, List.take_zero, List.drop_succ_cons, List.drop_zero]
    refine mx_take 7 rfl ?_
    simp only [List.take_succ_cons, List.take_zero, List.drop_succ_cons, List.drop_zero]
    repeat (go_big_quiet_step (fail))
    refine wpQuiet_nil ?_
    refine mx_skip (by kernel_rfl) ?_
    simp only [Act.put, List.setIfInBounds_toArray, List.set_cons_succ, List.set_cons_zero]
    have HX5 := HX4
    refine mx_take 1 rfl ?_
    simp only [List.take_succ_cons, List.take_zero, List.drop_succ_cons, List.drop_zero]
    repeat (go_big_quiet_step (fail))
    refine wpQuiet_nil ?_
    have hx5 := HX5.out
    have hwz := res2_wb wd (w.heap.size + 1 + 1) (.slice va R.length vc) (.slice na nn nc)
    obtain ⟨z0, f0, f1, z1, -, r0, r1⟩ := res2 hx5 (.slice va R.length vc) (.slice na nn nc)
    refine mx_storex rfl (by kernel_rfl) (exec_store50 rfl rfl rfl hx5) (kp_mk (Nat.le_trans HB5.out.size hwz.size) fun k hk hx => (hwz.block k (Nat.lt_of_lt_of_le hk HB5.out.size) hx).trans (HB5.out.block k hk)) ?_
    simp only [Act.put, List.setIfInBounds_toArray, List.set_cons_succ, List.set_cons_zero, wpMix]
    have HZ := Hid.mk' hwz
    clear hx5 hwz z0 f0 f1 z1 t0 t1
    go_wp2_with fail
    refine bodyPost_ret (v := .tuple #[.agg #[.slice va R.length vc, .slice na nn nc], .bool false]) ?_ rfl ?_
    · simp [results, Tryz.results22, go_sem, r0, r1]
    have hs0 := HSZ.out
    have hs1 := HW1.out.size
    have hs2 := HB2.out.size
    have hb15 : Below w1.heap.size w1 wd := bt HB2.out HB5.out
    have hs5 := hb15.size
    refine DoP.fin HA.out HLT.out HB.out HW1.out HT1.out HM1.out HJ1.out (Y := fun k => k = w.heap.size + 1 + 1) (wb_then (Wb.of_below _ hb15) HZ.out fun k hk => .inl hk) (fun k hk => by subst hk; omega) (((HRW.out.wb HW1.out fun k hk hk2 => HWA.out k hk2 hk).up hb15).wb HZ.out fun k hk hk2 => by omega) (fun k hk => .inl hk) (.inr (.inr (.inr ⟨by rw [HKD.out]; decide, by rw [HKD.out]; decide, by rw [HKD.out]; decide, rfl⟩))) (.inl HIV.out)
  case inr =>
    obtain ⟨hw1, T1, M1, hT1, hM1, hJ1⟩ := letI : Xcl := XE w.heap.size W.heap.size; Jp.up hj5 hb6
    have HIV : Hid (Iv C (E + 1) (Q + 1) R s1 d1) := hI1.more (Int.le_refl _) (by omega) HEE.out HQQ.out
    obtain ⟨va1, vc1, rfl⟩ := own_sliceN ho6
    have HO6 := Hid.mk' ho6
    clear hI1 hj5 hb6 ho6
    have HW1 := Hid.mk' hw1
    have HT1 := Hid.mk' hT1
    have HM1 := Hid.mk' hM1
    have HJ1 := Hid.mk' hJ1
    have HT2 : Hid (Ts (fun k => A k ∧ k < w.heap.size) w1 (.slice va R.length vc) R) := HTS.out.wb hw1 fun k hk hk2 => HWA.out k hk2 hk
    have HRG := Hid.mk' (rget_any (vn := .slice na nn nc) HI.out.sR q.id HT2.out)
    have a0 := HM0.out w1 hw1
    have a1 := HM1'.out w1 hw1
    have a2 := HX1'.out w1 hw1
    clear hw1 hT1 hM1 hJ1
    go_wp2_with fail
    refine HRG.out.mono ?_
    rintro e w2 ⟨⟨v2, rfl, hbs2⟩, hb2⟩
    have HB2 := Hid.mk' hb2
    obtain ⟨va2, vc2, rfl, -⟩ := hbs2.at
    have p0 := cell_up a0 hb2
    have p1 := cell_up a1 hb2
    have HW2 : Hid (Wb (fun k => T k ∨ M k ∨ k = b) W w2.drew) := HW1.out.trans (Wb.of_below _ (bt hb2 (drew_blx w2 _)))
    have HX4 : Hid (w2.drew.heap[w.heap.size + 1 + 1]? = some (.cells #[.slice none 0 0, .slice none 0 0] 50 (0, 0))) := by
      show _ = _
      rw [HW2.out.block _ (by rw [HSZ.out]; omega) (HBO.out _ (by omega))]; exact HX3.out
    have hgl5 : ((aget R q.id).getD []).length ≤ 512 := by
      cases hg : aget R q.id with
      | none => simp
      | some l => simpa using Nat.le_of_eq (HI.out.dat _ _ hg)
    have HEQ : Hid (Calls Tryz.prog 19 #[.slice va1 ((aget R q.id).getD []).length vc1, .slice va2 ((aget R q.id).getD []).length vc2] w2.drew fun e w' => e = .returned (.bool true) ∧ Dn w2.drew w') := by
      have hob := (Ob.bs HO6.out (by unfold lim; omega)).up (bt hb2 (drew_blx w2 _))
      refine (requal_any _ _ _ _ w2.drew hob (hbs2.up (drew_blx w2 _))).mono fun e w' h => ⟨by rw [h.1]; simp, h.2⟩
    clear hgl5
    have hgx : ∀ k, k ≠ w.heap.size + 1 + 1 → ¬ (fun k => k = w.heap.size + 1 + 1) k := fun k h => h
    have t0 : ∀ qq : Kp (fun k => k = w.heap.size + 1 + 1) w2, qq.nx.cell? ⟨w.heap.size, 0, none⟩ = some _ := fun qq => qq.cell p0 (hgx _ (by omega))
    have t1 : ∀ qq : Kp (fun k => k = w.heap.size + 1 + 1) w2, qq.nx.cell? ⟨w.heap.size, 1, none⟩ = some _ := fun qq => qq.cell p1 (hgx _ (by omega))
    clear hb2 hbs2 hgx a0 a1 a2 p0 p1 HRG
    generalize ((aget R q.id).getD []) = gl at *
    go_wp2_with fail
    refine wp_region_mix 10 (fun w' => ∃ qq : Kp (fun k => k = w.heap.size + 1 + 1) w2, w' = qq.nx) (by kernel_rfl) (by kernel_rfl) (kp_first _ w2) ?_
    simp only [List.take_succ_cons, List.take_zero, List.drop_succ_cons, List.drop_zero]
    refine mx_take 7 rfl ?_
    simp only [List.take_succ_cons, List.take_zero, List.drop_succ_cons, List.drop_zero]
    repeat (go_big_quiet_step (fail))
    refine wpQuiet_nil ?_
    refine mx_call (vals := [.slice va1 gl.length vc1, .slice va2 gl.length vc2]) Tryz.func19 (by kernel_rfl) rfl rfl (by kernel_rfl) (by kernel_rfl) HEQ.out (fun e wa ha => ?_)
    obtain ⟨rfl, hdn⟩ := ha
    have hba : Below w2.heap.size w2 wa := bt (drew_blx w2 _) (hdn.below _)
    refine ⟨_, rfl, kp_mk hba.size fun k hk hx => hba.block k hk, ?_⟩
    simp only [Act.put, List.setIfInBounds_toArray, List.set_cons_succ, List.set_cons_zero]
    have HB5 := Hid.mk' hba
    have HX5 : Hid (wa.heap[w.heap.size + 1 + 1]? = some (.cells #[.slice none 0 0, .slice none 0 0] 50 (0, 0))) := by
      show _ = _
      rw [(hdn.below w2.drew.heap.size).block _ (Array.getElem?_eq_some_iff.1 HX4.out).1]; exact HX4.out
    clear hdn hba
    refine mx_take 1 rfl ?_
    simp only [List.take_succ_cons, List.take_zero, List.drop_succ_cons, List.drop_zero]
    repeat (go_big_quiet_step (fail))
    refine wpQuiet_nil ?_
    have hx5 := HX5.out
    have hwz := res2_wb wa (w.heap.size + 1 + 1) (.slice va R.length vc) (.slice na nn nc)
    obtain ⟨z0, f0, f1, z1, -, r0, r1⟩ := res2 hx5 (.slice va R.length vc) (.slice na nn nc)
    refine mx_storex rfl (by kernel_rfl) (exec_store50 rfl rfl rfl hx5) (kp_mk (Nat.le_trans HB5.out.size hwz.size) fun k hk hx => (hwz.block k (Nat.lt_of_lt_of_le hk HB5.out.size) hx).trans (HB5.out.block k hk)) ?_
    simp only [Act.put, List.setIfInBounds_toArray, List.set_cons_succ, List.set_cons_zero, wpMix]
    have HZ := Hid.mk' hwz
    clear hx5 hwz z0 f0 f1 z1 t0 t1
    go_wp2_with fail
    refine bodyPost_ret (v := .tuple #[.agg #[.slice va R.length vc, .slice na nn nc], .bool true]) ?_ rfl ?_
    · simp [results, Tryz.results22, go_sem, r0, r1]
    have hs0 := HSZ.out
    have hs1 := HW1.out.size
    have hs2 := HB2.out.size
    have hb15 : Below w1.heap.size w1 wa := bt HB2.out HB5.out
    have hs5 := hb15.size
    refine DoP.fin HA.out HLT.out HB.out HW1.out HT1.out HM1.out HJ1.out (Y := fun k => k = w.heap.size + 1 + 1) (wb_then (Wb.of_below _ hb15) HZ.out fun k hk => .inl hk) (fun k hk => by subst hk; omega) (((HRW.out.wb HW1.out fun k hk hk2 => HWA.out k hk2 hk).up hb15).wb HZ.out fun k hk hk2 => by omega) (fun k hk => .inl hk) (.inr (.inr (.inr ⟨by rw [HKD.out]; decide, by rw [HKD.out]; decide, by rw [HKD.out]; decide, rfl⟩))) (.inr ⟨rfl, HIV.out⟩)
end Go.Proofs.YtbmhkdcmepfmbaaGreat
set_option linter.unusedVariables false
set_option linter.unusedSimpArgs false
namespace Go.Proofs.YtbmhkdcmepfmbaaGreat
open Go.RowKit
attribute [local go_sem ↓] Go.wp_at_zero Go.wp_at_succ
set_option maxRecDepth 100000 in
set_option maxHeartbeats 4000000 in
theorem do_KP [Xcl] {C : Cx} {E : Int} {Q : Nat} {R : Al By} {s : Ps} {d : Dm} {T M A A3 : Nat → Prop} {w : World} {p b : Nat} {v nv : Value} {nt : By} {q : Ac} (h : Jn T M w p b s d) (hI : Iv C E Q R s d) (hE : E + 1 ≤ 100000) (hQ : Q + 1 ≤ 200) (hR : R.length + 1 ≤ 60)
    (hr : Rp A w v R nt) (hA : ∀ k, A k → k < w.heap.size ∧ ¬ T k ∧ ¬ M k ∧ k ≠ b) (ha : Ain q) (hl : -512 ≤ q.ln ∧ q.ln ≤ 512) (hv : Bs A3 w nv q.nt) (hk : q.kd = 4) : Calls Tryz.prog 22 #[.pointer (some ⟨p, 0, none⟩), v, .agg (actV q.kd q.id q.ln q.fi nv q.ar q.kp)] w (DoP C E Q R T M A w p b nt q) := by
  obtain ⟨va, vc, na, nn, nc, rfl⟩ := hr.form
  obtain ⟨ua, uc, rfl, -⟩ := hv.at
  obtain ⟨hb, hsz, hx1, hx2, hx3⟩ := boxD_is w (.slice va R.length vc) (.slice na nn nc) q (.slice ua q.nt.length uc)
  obtain ⟨W, hW⟩ : ∃ W, W = boxD w (.slice va R.length vc) (.slice na nn nc) q (.slice ua q.nt.length uc) := ⟨_, rfl⟩
  rw [← hW] at hb hsz hx1 hx2 hx3
  have HRW0 := Hid.mk' hr.andLt
  have HRW := Hid.mk' (hr.andLt.up hb)
  have HB := Hid.mk' hb
  have HSZ := Hid.mk' hsz
  have HX1 := Hid.mk' hx1
  have HX2 := Hid.mk' hx2
  have HX3 := Hid.mk' hx3
  have HA := Hid.mk' hA
  have HJ := Hid.mk' h
  have HJW := Hid.mk' (h.ext hb)
  have HI := Hid.mk' hI
  have HLT := Hid.mk' h.lt
  have HRL := Hid.mk' hR
  have HEE := Hid.mk' hE
  have HQQ := Hid.mk' hQ
  have HID := Hid.mk' ha.1
  have HLN := Hid.mk' hl
  have HW : Hid (W = ((w.alloc (.cells #[.slice va R.length vc, .slice na nn nc] 50)).alloc (.cells #[.int .i64 q.kd, .int .i64 q.id, .int .i64 q.ln, .int .u8 (q.fi.toNat : Int), .slice ua q.nt.length uc, .int .i64 q.ar, .int .i64 q.kp] 36)).alloc (.cells #[.slice none 0 0, .slice none 0 0] 50)) := hW
  have HBO : Hid (∀ k, w.heap.size ≤ k → ¬ (T k ∨ M k ∨ k = b)) := fun k hk e => by
    have := HLT.out.2.2.1 k; have := HLT.out.2.2.2 k; have := HLT.out.2.1
    rcases e with e | e | e <;> first | omega | (have := HLT.out.2.2.1 k e; omega) | (have := HLT.out.2.2.2 k e; omega)
  have hrl : (R.length : Int) ≤ 59 := by omega
  unfold actV
  clear hr hA h hI hE hQ hR ha hl hv hb hW hsz hx3
  obtain ⟨x0, x1, x2, x3, x4, x5, x6⟩ := bx7 hx2
  obtain ⟨m0, m1⟩ := bx2 hx1
  clear hx1 hx2
  generalize hfn : (q.fi.toNat : Int) = fn at *
  have HFN := Hid.mk' hfn
  clear hfn
  have HWA : Hid (∀ k, (A k ∧ k < w.heap.size) → ¬ (T k ∨ M k ∨ k = b)) := fun k hk e => (HA.out k hk.1).2.elim fun h1 h2 => e.elim h1 fun e => e.elim h2.1 h2.2
  have k1 : (q.kd == 1) = false := by simpa using (by omega : ¬ q.kd = 1)
  have k2 : (q.kd == 2) = false := by simpa using (by omega : ¬ q.kd = 2)
  have k3 : (q.kd == 3) = false := by simpa using (by omega : ¬ q.kd = 3)
  have k4 : (q.kd == 4) = true := by simpa using (by omega : q.kd = 4)
  have HKD : Hid (q.kd = 4) := hk
  have hnn : ∃ n : Nat, 512 + q.ln = (n : Int) ∧ n ≤ 1024 := ⟨(512 + q.ln).toNat, by have := HLN.out; omega, by have := HLN.out; omega⟩
  obtain ⟨n, hn1, hn2⟩ := hnn
  have HPG := Hid.mk' (page_any q.kd q.id q.ln q.fi (.slice ua q.nt.length uc) q.ar q.kp hn1 hn2 W)
  have hnx : nxR R q (pR R q.id (List.replicate n q.fi)) := .inr (.inr (.inl ⟨hk, by rw [hn1]; rfl⟩))
  have HNX := Hid.mk' hnx
  unfold actV at HPG
  rw [HFN.out] at HPG
  have hpl : (List.replicate n q.fi).length ≤ 1024 := by rw [List.length_replicate]; exact hn2
  generalize hpg : List.replicate n q.fi = pg at *
  have HPL := Hid.mk' hpl
  clear hk hn1 hn2 hnx hpg hpl
  go_enter Tryz.func22, Tryz.ntmps22
  go_wp2_with fail
  rw [← HW.out]
  refine HPG.out.mono ?_
  rintro e w1 ⟨vg, rfl, hog, hb1⟩
  obtain ⟨ga, gc, rfl⟩ := own_sliceN hog
  have HOG := Hid.mk' hog
  have HB1 := Hid.mk' hb1
  have x1 := cell_up x1 hb1
  have m0 := cell_up m0 hb1
  have m1 := cell_up m1 hb1
  have HRP := Hid.mk' (rput_any HI.out.sR q.id (HRW.out.up hb1) (hog.bs (by have := HPL.out; unfold lim; omega)) (by have := HRL.out; omega))
  clear x0 x2 x3 x4 x5 x6 hog hb1 HPG
  go_wp2_with fail
  refine HRP.out.mono ?_
  rintro e w2 ⟨⟨v2, rfl, hr2⟩, hb2⟩
  obtain ⟨q1, l1, q2, n2, l2, rfl⟩ := hr2.form
  have HR2 := Hid.mk' hr2.andLt
  have HB2 := Hid.mk' hb2
  have hlen : (pR R q.id pg).length ≤ R.length := by
    unfold pR
    split
    · rename_i h
      rw [len_aput _ HI.out.sR, if_pos h.1]; omega
    · omega
  have hlen' : ((pR R q.id pg).length : Int) ≤ 60 := by omega
  generalize hpr : (pR R q.id pg).length = n1 at *
  generalize hpe : pE R q.id pg = pe at *
  have HPE := Hid.mk' hpe
  obtain ⟨W3, hW3⟩ : ∃ W3, W3 = w2.alloc (.cells #[.slice q1 n1 l1, .slice q2 n2 l2] 50) := ⟨_, rfl⟩
  have hb3 : Below w2.heap.size w2 W3 := by rw [hW3]; exact up_alloc _ _
  have hx3 : W3.heap[w2.heap.size]? = some (.cells #[.slice q1 n1 l1, .slice q2 n2 l2] 50 (0, 0)) := by rw [hW3]; exact heap_alloc_new _ _
  have hb13 : Below w1.heap.size w1 W3 := bt hb2 hb3
  have x1 : W3.cell? ⟨w.heap.size + 1, 1, none⟩ = some (.int .i64 q.id) := cell_up x1 hb13
  have hs0 := HSZ.out
  have hs1 := HB1.out.size
  have hs2 := hb2.size
  have HX4 : Hid (W3.heap[w.heap.size + 1 + 1]? = some (.cells #[.slice none 0 0, .slice none 0 0] 50 (0, 0))) := by show _ = _; rw [hb13.block _ (by omega), HB1.out.block _ (by omega)]; exact HX3.out
  have HBZ : Hid (Below w.heap.size w W3) := (HB.out.trans (HB1.out.mono (by omega))).trans (hb13.mono (by omega))
  have HJZ := Hid.mk' (HJ.out.ext HBZ.out)
  have HOG3 := Hid.mk' (own_keep HOG.out hb13 (Nat.le_refl _))
  have HVP := letI : Xcl := XE w.heap.size W3.heap.size; Hid.mk' (vput HJZ.out HI.out HEE.out HQQ.out q.id HID.out (Ob.bs HOG3.out (by have := HPL.out; unfold lim; omega)))
  have HX3' := Hid.mk' hx3
  have HB3 := Hid.mk' hb3
  have HS3 : Hid (w2.heap.size < W3.heap.size) := (Array.getElem?_eq_some_iff.1 hx3).1
  have HW3 := Hid.mk' hW3
  rw [hW3] at x1
  clear hr2 hb2 hlen hpr hpe hb3 hx3 hb13 hs0 hs1 hs2 m0 m1 HRP hW3
  go_wp2_with fail
  rw [← HW3.out]
  refine HVP.out.mono ?_
  rintro e wa hpost
  clear HVP x1
  have hu : ∃ (x : Int) (ok : Bool) (s1 : Ps) (d1 : Dm), e = .returned (.int .i64 x) ∧ (x == pe) = ok ∧ @Jp (XE w.heap.size W3.heap.size) T M W3 p b s1 d1 wa ∧ (Jv C Q d1 ∨ (ok = true ∧ Iv C (E + 1) (Q + 1) (pR R q.id pg) s1 d1)) := by
    rcases hpost with ⟨x, s1, d1, _, he, hjv, hj⟩ | ⟨he, s1, d1, hI1, _, _, hj⟩
    · exact ⟨x, x == pe, s1, d1, he, rfl, hj, .inl hjv⟩
    · exact ⟨pe, true, s1, d1, by rw [he, HPE.out], by simp, hj, .inr ⟨rfl, hI1⟩⟩
  obtain ⟨x, ok, s1, d1, rfl, hok, ⟨hw1, T1, M1, hT1, hM1, hJ1⟩, hc⟩ := hu
  have hown := own_typed HOG.out
  have hog : ∀ k, (Value.slice ga pg.length gc).ownBlock = some k → W.heap.size ≤ k ∧ k < w1.heap.size := fun k hk => ⟨(hown k hk).1, by
    obtain ⟨_, cur, fr, h⟩ := hown k hk
    exact (Array.getElem?_eq_some_iff.1 h).1⟩
  have hs0 := HSZ.out
  have hs1 := HB1.out.size
  have hs2 := HB2.out.size
  have HOGA := Hid.mk' (own_wb HOG3.out hw1 fun k hk e => HBO.out k (by have := (hog k e.symm).1; omega) hk)
  have HOV := Hid.mk' (over_any HOGA.out (by have := HPL.out; unfold lim; omega))
  obtain ⟨p0, p1⟩ := bx2 HX3'.out
  have p0 := wb_cell hw1 (HBO.out _ (by omega)) p0
  have p1 := wb_cell hw1 (HBO.out _ (by omega)) p1
  have HX5 : Hid (wa.heap[w.heap.size + 1 + 1]? = some (.cells #[.slice none 0 0, .slice none 0 0] 50 (0, 0))) := by show _ = _; rw [hw1.block _ (by have := HS3.out; omega) (HBO.out _ (by omega))]; exact HX4.out
  have HW1 := Hid.mk' hw1
  have HT1 := Hid.mk' hT1
  have HM1 := Hid.mk' hM1
  have HJ1 := Hid.mk' hJ1
  have HCC := Hid.mk' hc
  have HOW := Hid.mk' hog
  clear hpost hw1 hT1 hM1 hJ1 hc hog hown
  go_wp2_with fail
  refine HOV.out.mono ?_
  rintro e wc ⟨rfl, -, hwo⟩
  have p0 := wb_cell hwo (fun e => by have := (HOW.out _ e).2; omega) p0
  have p1 := wb_cell hwo (fun e => by have := (HOW.out _ e).2; omega) p1
  have hx6 : wc.heap[w.heap.size + 1 + 1]? = some (.cells #[.slice none 0 0, .slice none 0 0] 50 (0, 0)) := by rw [hwo.block _ (Array.getElem?_eq_some_iff.1 HX5.out).1 (fun e => by have := (HOW.out _ e).1; omega)]; exact HX5.out
  obtain ⟨z0, f0, f1, z1, -, r0, r1⟩ := res2 hx6 (.slice q1 n1 l1) (.slice q2 n2 l2)
  have HWO := Hid.mk' hwo
  clear hx6 hwo hs0 hs1 hs2
  go_wp2_with fail
  refine bodyPost_ret (v := .tuple #[.agg #[.slice q1 n1 l1, .slice q2 n2 l2], .bool ok]) ?_ rfl ?_
  · simp [results, Tryz.results22, go_sem, r0, r1]
  have hwz := res2_wb wc (w.heap.size + 1 + 1) (.slice q1 n1 l1) (.slice q2 n2 l2)
  have hs0 := HSZ.out
  have hs1 := HB1.out.size
  have hs2 := HB2.out.size
  have hs3 := HS3.out
  refine DoP.fin HA.out HLT.out HBZ.out HW1.out HT1.out HM1.out HJ1.out (Y := fun k => (Value.slice ga pg.length gc).ownBlock = some k ∨ k = w.heap.size + 1 + 1) ((HWO.out.mono fun k hk => .inl hk).trans (hwz.mono fun k hk => .inr hk)) (fun k hk => ?_) (((((HR2.out).up HB3.out).wb HW1.out fun k hk hk2 => ?_).wb HWO.out fun k hk hk2 => ?_).wb hwz fun k hk hk2 => by omega) (fun k hk => ?_) HNX.out HCC.out
  · rcases hk with hk | rfl
    · have := HOW.out k hk; omega
    · omega
  · rcases hk2 with ⟨h | h, h2⟩
    · exact HWA.out k h hk
    · exact HBO.out k (by omega) hk
  · have := HOW.out k hk
    rcases hk2 with ⟨h | h, h2⟩
    · have := h.2; omega
    · omega
  · rcases hk with ⟨h | h, h2⟩
    · exact .inl h
    · exact .inr (.inl ⟨by omega, by omega⟩)
end Go.Proofs.YtbmhkdcmepfmbaaGreat
set_option linter.unusedVariables false
set_option linter.unusedSimpArgs false
namespace Go.Proofs.YtbmhkdcmepfmbaaGreat
open Go.RowKit
theorem do_any [Xcl] {C : Cx} {E : Int} {Q : Nat} {R : Al By} {s : Ps} {d : Dm} {T M A A3 : Nat → Prop} {w : World} {p b : Nat} {v nv : Value} {nt : By} {q : Ac} (h : Jn T M w p b s d) (hI : Iv C E Q R s d) (hE : E + 1 ≤ 100000) (hQ : Q + 1 ≤ 200) (hR : R.length + 1 ≤ 60)
    (hr : Rp A w v R nt) (hA : ∀ k, A k → k < w.heap.size ∧ ¬ T k ∧ ¬ M k ∧ k ≠ b) (ha : Ain q) (hl : -512 ≤ q.ln ∧ q.ln ≤ 512) (hv : Bs A3 w nv q.nt) : Calls Tryz.prog 22 #[.pointer (some ⟨p, 0, none⟩), v, .agg (actV q.kd q.id q.ln q.fi nv q.ar q.kp)] w (DoP C E Q R T M A w p b nt q) := by
  by_cases h1 : q.kd = 1
  · exact do_KA h hI hE hQ hR hr hA ha hl hv h1
  by_cases h2 : q.kd = 2
  · exact do_KF h hI hE hQ hR hr hA ha hl hv h2
  by_cases h3 : q.kd = 3
  · exact do_KG h hI hE hQ hR hr hA ha hl hv h3
  by_cases h4 : q.kd = 4
  · exact do_KP h hI hE hQ hR hr hA ha hl hv h4
  exact do_KO h hI hE hQ hR hr hA ha hl hv ⟨h1, h2, h3, h4⟩
end Go.Proofs.YtbmhkdcmepfmbaaGreat
set_option linter.unusedVariables false
set_option linter.unusedSimpArgs false
namespace Go.Proofs.YtbmhkdcmepfmbaaGreat
open Go.RowKit
/-- g9: the box of the reference's pool, g10: the box of the saved one; va: the acts -/
structure Lz [Xcl] (B0 : Nat) (hnd : Int) (b g9 g10 n : Nat) (E : Int) (va : Value) (l : List Ac) (w : World) (p : Nat) (C : Cx) (R : Al By) (s : Ps) (d : Dm) (T M A : Nat → Prop) (x y x2 y2 : Value) (nw : By) : Prop where
  hand : C.hand = hnd
  cl : C.RL.length ≤ n
  rl : R.length ≤ n
  J : Jn T M w p b s d
  I : Iv C E n R s d
  h9 : w.heap[g9]? = some (.cells #[x, y] 50 (0, 0))
  r9 : Rp A w (.agg #[x, y]) R nw
  h10 : w.heap[g10]? = some (.cells #[x2, y2] 50 (0, 0))
  r10 : Rp A w (.agg #[x2, y2]) C.RL C.nt
  ac : As A w va l
  hA : ∀ k, A k → k < w.heap.size ∧ ¬ T k ∧ ¬ M k ∧ k ≠ b
  hG : ∀ k, (k = g9 ∨ k = g10) → ¬ T k ∧ ¬ M k ∧ k ≠ b ∧ ¬ A k
  ne : g9 ≠ g10
  lo : (∀ k, (T k ∨ M k ∨ k = b) → B0 ≤ k) ∧ B0 ≤ g9 ∧ B0 ≤ g10
  X : ∀ k, Xcl.X k ↔ (k = g9 ∨ k = g10)
theorem heap_lt {w : World} {k : Nat} {o : Obj} (h : w.heap[k]? = some o) : k < w.heap.size := (Array.getElem?_eq_some_iff.1 h).1
theorem heap_up {w w' : World} {k : Nat} {o : Obj} (h : w.heap[k]? = some o) (hb : Below w.heap.size w w') : w'.heap[k]? = some o := by rw [hb.block _ (heap_lt h)]; exact h
theorem heap_wb {X : Nat → Prop} {w w' : World} {k : Nat} {o : Obj} (h : w.heap[k]? = some o) (hb : Wb X w w') (hX : ¬ X k) : w'.heap[k]? = some o := by rw [hb.block _ (heap_lt h) hX]; exact h
theorem lt2 {k a b n : Nat} (hl : a < n ∧ b < n) (hk : k = a ∨ k = b) : k < n := by rcases hk with rfl | rfl <;> first | exact hl.1 | exact hl.2
theorem lo_up {B0 b n : Nat} {T M T' M' : Nat → Prop} (h : ∀ k, (T k ∨ M k ∨ k = b) → B0 ≤ k) (hn : B0 ≤ n) (hT : ∀ k, T' k → T k ∨ n ≤ k) (hM : ∀ k, M' k → M k ∨ n ≤ k) : ∀ k, (T' k ∨ M' k ∨ k = b) → B0 ≤ k := fun k hk => by
  rcases hk with e | e | e
  · exact (hT k e).elim (fun e => h k (.inl e)) fun e => Nat.le_trans hn e
  · exact (hM k e).elim (fun e => h k (.inr (.inl e))) fun e => Nat.le_trans hn e
  · exact h k (.inr (.inr e))
section
variable [Xcl] {B0 : Nat} {hnd : Int} {b g9 g10 n : Nat} {E : Int} {va : Value} {l : List Ac} {w w' : World} {p : Nat} {C : Cx} {R : Al By} {s : Ps} {d : Dm} {T M A : Nat → Prop} {x y x2 y2 : Value} {nw : By}
theorem Lz.up (h : Lz B0 hnd b g9 g10 n E va l w p C R s d T M A x y x2 y2 nw) (hb : Below w.heap.size w w') : Lz B0 hnd b g9 g10 n E va l w' p C R s d T M A x y x2 y2 nw :=
  { h with J := h.J.up hb, h9 := heap_up h.h9 hb, r9 := h.r9.up hb, h10 := heap_up h.h10 hb, r10 := h.r10.up hb, ac := h.ac.up hb, hA := fun k hk => ⟨Nat.lt_of_lt_of_le (h.hA k hk).1 hb.size, (h.hA k hk).2⟩ }
theorem Lz.lt9 (h : Lz B0 hnd b g9 g10 n E va l w p C R s d T M A x y x2 y2 nw) : g9 < w.heap.size ∧ g10 < w.heap.size := ⟨heap_lt h.h9, heap_lt h.h10⟩
theorem Lz.dis (h : Lz B0 hnd b g9 g10 n E va l w p C R s d T M A x y x2 y2 nw) {k : Nat} (hk : T k ∨ M k ∨ k = b) : ¬ A k ∧ k ≠ g9 ∧ k ≠ g10 := by
  refine ⟨fun ha => ?_, fun e => ?_, fun e => ?_⟩
  · obtain ⟨_, h1, h2, h3⟩ := h.hA k ha
    rcases hk with hk | hk | hk
    · exact h1 hk
    · exact h2 hk
    · exact h3 hk
  · obtain ⟨h1, h2, h3, _⟩ := h.hG k (.inl e)
    rcases hk with hk | hk | hk
    · exact h1 hk
    · exact h2 hk
    · exact h3 hk
  · obtain ⟨h1, h2, h3, _⟩ := h.hG k (.inr e)
    rcases hk with hk | hk | hk
    · exact h1 hk
    · exact h2 hk
    · exact h3 hk
/-- a call of the pool -/
theorem Lz.pool (h : Lz B0 hnd b g9 g10 n E va l w p C R s d T M A x y x2 y2 nw) {s' : Ps} {d' : Dm} (hj : Jp T M w p b s' d' w') {E' : Int} (hI : Iv C E' n R s' d') : ∃ T' M', Lz B0 hnd b g9 g10 n E' va l w' p C R s' d' T' M' A x y x2 y2 nw := by
  obtain ⟨hw, T', M', hT, hM, hJ⟩ := hj
  have hl := h.lt9
  refine ⟨T', M', { h with J := hJ, I := hI, h9 := heap_wb h.h9 hw fun e => (h.dis e).2.1 rfl, r9 := h.r9.wb hw fun k hk => (h.dis hk).1, h10 := heap_wb h.h10 hw fun e => (h.dis e).2.2 rfl, r10 := h.r10.wb hw fun k hk => (h.dis hk).1, ac := h.ac.wb hw fun k hk => (h.dis hk).1, hA := fun k hk => ?_, hG := fun k hk => ?_, lo := ⟨lo_up h.lo.1 (Nat.le_trans h.lo.2.1 (Nat.le_of_lt hl.1)) hT hM, h.lo.2⟩ }⟩
  · obtain ⟨h0, h1, h2, h3⟩ := h.hA k hk
    refine ⟨Nat.lt_of_lt_of_le h0 hw.size, fun e => ?_, fun e => ?_, h3⟩
    · rcases hT k e with e | e
      · exact h1 e
      · omega
    · rcases hM k e with e | e
      · exact h2 e
      · omega
  · obtain ⟨h1, h2, h3, h4⟩ := h.hG k hk
    have hlt : k < w.heap.size := lt2 hl hk
    refine ⟨fun e => ?_, fun e => ?_, h3, h4⟩
    · rcases hT k e with e | e
      · exact h1 e
      · omega
    · rcases hM k e with e | e
      · exact h2 e
      · omega
/-- a call of do that lives; its answer is stored -/
theorem Lz.step (h : Lz B0 hnd b g9 g10 n E va l w p C R s d T M A x y x2 y2 nw) {q : Ac} {e : Ending} (hd : DoP C E n R T M A w p b nw q e w') (hc : C.cal = true) :
    ∃ (a1 : Option Addr) (n1 c1 : Nat) (a2 : Option Addr) (n2 c2 : Nat) (R' : Al By) (s' : Ps) (d' : Dm) (T' M' A' : Nat → Prop), e = .returned (.tuple #[.agg #[.slice a1 n1 c1, .slice a2 n2 c2], .bool true]) ∧ n1 = R'.length ∧ nxR R q R' ∧ w'.heap[g9]? = some (.cells #[x, y] 50 (0, 0)) ∧ Wb (fun k => T k ∨ M k ∨ k = b) w w' ∧
      Lz B0 hnd b g9 g10 (n + 1) (E + 1) va l ((w'.setCell ⟨g9, 0, none⟩ (.slice a1 n1 c1)).setCell ⟨g9, 1, none⟩ (.slice a2 n2 c2)) p C R' s' d' T' M' A' (.slice a1 n1 c1) (.slice a2 n2 c2) x2 y2 nw ∧ (∀ {u : Value} {t : By}, Bs A w u t → Bs A' ((w'.setCell ⟨g9, 0, none⟩ (.slice a1 n1 c1)).setCell ⟨g9, 1, none⟩ (.slice a2 n2 c2)) u t) ∧ (∀ k, (T' k ∨ M' k ∨ k = b) → (T k ∨ M k ∨ k = b) ∨ w.heap.size ≤ k) := by
  obtain ⟨v', ok, R', A1, T', M', he, hn, hw, hT, hM, hA1, hr, hdis, hc2⟩ := hd
  rcases hc2 with ⟨s1, d1, hj, _⟩ | ⟨rfl, s', d', hI, hJ⟩
  · have := hj.2.1; rw [hc] at this; cases this
  obtain ⟨a1, c1, a2, n2, c2, rfl⟩ := hr.form
  have hl := h.lt9
  have h9 : w'.heap[g9]? = some (.cells #[x, y] 50 (0, 0)) := heap_wb h.h9 hw fun e => (h.dis e).2.1 rfl
  have hwz := res2_wb w' g9 (.slice a1 R'.length c1) (.slice a2 n2 c2)
  obtain ⟨-, -, -, -, hx, -, -⟩ := res2 h9 (.slice a1 R'.length c1) (.slice a2 n2 c2)
  have hs := hw.size
  have hA9 : ∀ k, (A k ∨ A1 k) → k ≠ g9 ∧ k ≠ g10 := fun k hk => by
    rcases hk with hk | hk
    · exact ⟨fun e => (h.hG k (.inl e)).2.2.2 hk, fun e => (h.hG k (.inr e)).2.2.2 hk⟩
    · rcases hA1 k hk with hk | hk
      · exact ⟨fun e => (h.hG k (.inl e)).2.2.2 hk, fun e => (h.hG k (.inr e)).2.2.2 hk⟩
      · exact ⟨by omega, by omega⟩
  have hTn : ∀ k, k < w.heap.size → ¬ T k → ¬ M k → ¬ T' k ∧ ¬ M' k := fun k hk h1 h2 => ⟨fun e => (hT k e).elim h1 fun e => by omega, fun e => (hM k e).elim h2 fun e => by omega⟩
  have hGn : ∀ k, (k = g9 ∨ k = g10) → ¬ T' k ∧ ¬ M' k ∧ k ≠ b := fun k hk => by
    obtain ⟨h1, h2, h3, _⟩ := h.hG k hk
    have hlt : k < w.heap.size := lt2 hl hk
    exact ⟨(hTn k hlt h1 h2).1, (hTn k hlt h1 h2).2, h3⟩
  refine ⟨a1, _, c1, a2, n2, c2, R', s', d', T', M', fun k => A k ∨ A1 k, he, rfl, hn, h9, hw, ?_, fun hu => ((hu.wb hw fun k hk => (h.dis hk).1).monoS fun _ hk => .inl hk).wb hwz fun k hk hk2 => (hA9 k hk2).1 hk, fun k hk => ?_⟩
  rotate_left
  · rcases hk with e | e | e
    · exact (hT k e).imp .inl id
    · exact (hM k e).imp (fun e => .inr (.inl e)) id
    · exact .inl (.inr (.inr e))
  exact { hand := h.hand, cl := Nat.le_succ_of_le h.cl, rl := by have := hn.len h.I.sR; have := h.rl; omega
          J := Jn.wbX (X := Xcl.X) hJ hwz fun k hk => by
            have hk : k = g9 := hk
            obtain ⟨h1, h2, h3⟩ := hGn k (.inl hk)
            exact ⟨(h.X k).2 (.inl hk), h1, h2, h3⟩
          I := hI
          h9 := hx
          r9 := (hr.monoS fun _ hk => .inr hk).wb hwz fun k hk hk2 => (hA9 k hk2).1 hk
          h10 := heap_wb (heap_wb h.h10 hw fun e => (h.dis e).2.2 rfl) hwz fun e => h.ne e.symm
          r10 := ((h.r10.wb hw fun k hk => (h.dis hk).1).monoS fun _ hk => .inl hk).wb hwz fun k hk hk2 => (hA9 k hk2).1 hk
          ac := ((h.ac.wb hw fun k hk => (h.dis hk).1).monoS fun _ hk => .inl hk).wb hwz fun k hk hk2 => (hA9 k hk2).1 hk
          hA := fun k hk => by
            rcases hk with hk | hk
            · obtain ⟨h0, h1, h2, h3⟩ := h.hA k hk
              obtain ⟨k1, k2⟩ := hTn k h0 h1 h2
              exact ⟨Nat.lt_of_lt_of_le h0 (Nat.le_trans hs hwz.size), k1, k2, h3⟩
            · obtain ⟨h0, h1, h2, h3⟩ := hdis k hk
              exact ⟨Nat.lt_of_lt_of_le h0 hwz.size, h1, h2, h3⟩
          hG := fun k hk => ⟨(hGn k hk).1, (hGn k hk).2.1, (hGn k hk).2.2, fun hk2 => by
            have := hA9 k hk2
            rcases hk with e | e
            · exact this.1 e
            · exact this.2 e⟩
          ne := h.ne
          lo := ⟨lo_up h.lo.1 (Nat.le_trans h.lo.2.1 (Nat.le_of_lt hl.1)) hT hM, h.lo.2⟩
          X := h.X }
/-- behind Save: the saved one is what the pool is, with another note -/
theorem Lz.saved (h : Lz B0 hnd b g9 g10 n E va l w p C R s d T M A x y x2 y2 nw) {S : Al Int} {s' : Ps} {d' : Dm} {nt : By} {u : Value} (hj : Jp T M w p b s' d' w') (hI : Iv (C.save S R nt) E n R s' d') (hu : Bs A w' u nt) :
    ∃ T' M', Lz B0 hnd b g9 g10 n E va l (((w'.setCell ⟨g10, 0, none⟩ x).setCell ⟨g10, 1, none⟩ y).setCell ⟨g10, 1, none⟩ u) p (C.save S R nt) R s' d' T' M' A x y x u nw := by
  obtain ⟨hw, T', M', hT, hM, hJ⟩ := hj
  have hl := h.lt9
  have h10 : w'.heap[g10]? = some (.cells #[x2, y2] 50 (0, 0)) := heap_wb h.h10 hw fun e => (h.dis e).2.2 rfl
  have hwz : Wb (fun k => k = g10) w' (((w'.setCell ⟨g10, 0, none⟩ x).setCell ⟨g10, 1, none⟩ y).setCell ⟨g10, 1, none⟩ u) := (res2_wb w' g10 x y).trans (Wb.set _ g10 1 u rfl)
  obtain ⟨-, -, -, -, hx, -, -⟩ := res2 h10 x y
  have hx2 : (((w'.setCell ⟨g10, 0, none⟩ x).setCell ⟨g10, 1, none⟩ y).setCell ⟨g10, 1, none⟩ u).heap[g10]? = some (.cells #[x, u] 50 (0, 0)) := by rw [heap_setCell_same _ g10 1 _ 50 u hx]; rfl
  have hA9 : ∀ k, A k → k ≠ g9 ∧ k ≠ g10 := fun k hk => ⟨fun e => (h.hG k (.inl e)).2.2.2 hk, fun e => (h.hG k (.inr e)).2.2.2 hk⟩
  have hTn : ∀ k, k < w.heap.size → ¬ T k → ¬ M k → ¬ T' k ∧ ¬ M' k := fun k hk h1 h2 => ⟨fun e => (hT k e).elim h1 fun e => by omega, fun e => (hM k e).elim h2 fun e => by omega⟩
  have hGn : ∀ k, (k = g9 ∨ k = g10) → ¬ T' k ∧ ¬ M' k ∧ k ≠ b := fun k hk => by
    obtain ⟨h1, h2, h3, _⟩ := h.hG k hk
    have hlt : k < w.heap.size := lt2 hl hk
    exact ⟨(hTn k hlt h1 h2).1, (hTn k hlt h1 h2).2, h3⟩
  have hr9 : Rp A w' (.agg #[x, y]) R nw := h.r9.wb hw fun k hk => (h.dis hk).1
  refine ⟨T', M', ?_⟩
  exact { hand := h.hand, cl := h.rl, rl := h.rl
          J := Jn.wbX (X := Xcl.X) hJ hwz fun k hk => by
            have hk : k = g10 := hk
            obtain ⟨h1, h2, h3⟩ := hGn k (.inr hk)
            exact ⟨(h.X k).2 (.inr hk), h1, h2, h3⟩
          I := hI
          h9 := heap_wb (heap_wb h.h9 hw fun e => (h.dis e).2.1 rfl) hwz fun e => h.ne e
          r9 := hr9.wb hwz fun k hk hk2 => (hA9 k hk2).2 hk
          h10 := hx2
          r10 := by
            obtain ⟨vs, vn, e, h1, _⟩ := hr9
            cases e
            exact ⟨_, _, rfl, h1.wb hwz fun k hk hk2 => (hA9 k hk2).2 hk, hu.wb hwz fun k hk hk2 => (hA9 k hk2).2 hk⟩
          ac := (h.ac.wb hw fun k hk => (h.dis hk).1).wb hwz fun k hk hk2 => (hA9 k hk2).2 hk
          hA := fun k hk => by
            obtain ⟨h0, h1, h2, h3⟩ := h.hA k hk
            obtain ⟨k1, k2⟩ := hTn k h0 h1 h2
            exact ⟨Nat.lt_of_lt_of_le h0 (Nat.le_trans hw.size hwz.size), k1, k2, h3⟩
          hG := fun k hk => ⟨(hGn k hk).1, (hGn k hk).2.1, (hGn k hk).2.2, (h.hG k hk).2.2.2⟩
          ne := h.ne
          lo := ⟨lo_up h.lo.1 (Nat.le_trans h.lo.2.1 (Nat.le_of_lt hl.1)) hT hM, h.lo.2⟩
          X := h.X }
/-- opened again: another pool, the reference's is the saved one -/
theorem Lz.opened (h : Lz B0 hnd b g9 g10 n E va l w p C R s d T M A x y x2 y2 nw) {Dd : Nat → Prop} {e : Ending} (ho : OpenV C M Dd w b n d e w') (hE : 0 ≤ E) (hE2 : E ≤ 100000) :
    ∃ (p' c : Nat) (v : Value), e = .returned (.tuple #[.pointer (some ⟨p', 0, none⟩), v, .int .i64 0]) ∧ Ob 5 c w' v C.nt ∧ Below w.heap.size w w' ∧
      ∀ w2, Below w'.heap.size w' w2 → ∃ s' T', Lz B0 hnd b g9 g10 n E va l ((w2.setCell ⟨g9, 0, none⟩ x2).setCell ⟨g9, 1, none⟩ y2) p' C C.RL s' d T' M A x2 y2 x2 y2 C.nt := by
  obtain ⟨p', c, v, T', ms, mf, ma, ff, nf, g, he, hJ, hI, hb, hT, hc, hob⟩ := ho
  have hl := h.lt9
  refine ⟨p', c, v, he, hob, hb, fun w2 hb2 => ?_⟩
  have hbb := bt hb hb2
  have h9 := heap_up h.h9 hbb
  have hwz := res2_wb w2 g9 x2 y2
  obtain ⟨-, -, -, -, hx, -, -⟩ := res2 h9 x2 y2
  have hA9 : ∀ k, A k → k ≠ g9 ∧ k ≠ g10 := fun k hk => ⟨fun e => (h.hG k (.inl e)).2.2.2 hk, fun e => (h.hG k (.inr e)).2.2.2 hk⟩
  have hTn : ∀ k, k < w.heap.size → ¬ T' k := fun k hk e => by have := (hT k e).1; omega
  refine ⟨s0k C.hand C.L, T', ?_⟩
  exact { hand := h.hand, cl := h.cl, rl := h.cl
          J := Jn.wbX (X := Xcl.X) (hJ.jn.up hb2) hwz fun k hk => by
            have hk : k = g9 := hk
            subst hk
            exact ⟨(h.X k).2 (.inl rfl), hTn k hl.1, (h.hG k (.inl rfl)).2.1, (h.hG k (.inl rfl)).2.2.1⟩
          I := hI.more hE (Nat.le_refl _) hE2 h.I.hQ
          h9 := hx
          r9 := (h.r10.up hbb).wb hwz fun k hk hk2 => (hA9 k hk2).1 hk
          h10 := heap_wb (heap_up h.h10 hbb) hwz fun e => h.ne e.symm
          r10 := (h.r10.up hbb).wb hwz fun k hk hk2 => (hA9 k hk2).1 hk
          ac := (h.ac.up hbb).wb hwz fun k hk hk2 => (hA9 k hk2).1 hk
          hA := fun k hk => by
            obtain ⟨h0, h1, h2, h3⟩ := h.hA k hk
            exact ⟨Nat.lt_of_lt_of_le h0 (Nat.le_trans hbb.size hwz.size), hTn k h0, h2, h3⟩
          hG := fun k hk => by
            obtain ⟨h1, h2, h3, h4⟩ := h.hG k hk
            exact ⟨hTn k (lt2 hl hk), h2, h3, h4⟩
          ne := h.ne
          lo := ⟨lo_up h.lo.1 (Nat.le_trans h.lo.2.1 (Nat.le_of_lt hl.1)) (fun k hk => .inr (hT k hk).1) (fun k hk => .inl hk), h.lo.2⟩
          X := h.X }
end
theorem small_ln {l : List Ac} {n : Nat} : ∀ q ∈ smallL l n, (-512 ≤ q.ln ∧ q.ln ≤ 512) ∧ q.nt.length ≤ 1000 := fun q hq => by
  obtain ⟨a, _, rfl⟩ := List.mem_map.1 hq
  refine ⟨?_, by show (a.nt.take 1000).length ≤ 1000; rw [List.length_take]; omega⟩
  show -512 ≤ (if a.ln < -512 ∨ 512 < a.ln then 0 else a.ln) ∧ (if a.ln < -512 ∨ 512 < a.ln then 0 else a.ln) ≤ 512
  split <;> omega
theorem small_len (l : List Ac) (n : Nat) : (smallL l n).length ≤ n := by unfold smallL; rw [List.length_map, List.length_take]; omega
def cx0 (cal : Bool) (rm hand : Int) : Cx := ⟨cal, rm, hand, none, [], [], []⟩
def dm0 (rm : Int) : Dm := ⟨[], [], [], rm, false, 0, false⟩
theorem cx0_dv (cal : Bool) (rm hand : Int) (hr : 400000 ≤ rm ∧ rm ≤ 9223372036854775807) (hh : 1 ≤ hand) : Dv (cx0 cal rm hand) 0 (dm0 rm) := by
  have hg : Gfl (cx0 cal rm hand) 0 [] := { srt := List.Pairwise.nil, nm := fun x hx => (by cases hx), lp := Nat.le_refl _, lm := by decide, lt := by decide, me := rfl, sl := fun x hx => (by cases hx), da := fun i s hi => (by cases hi) }
  exact ⟨{ m := .inl ⟨rfl, rfl, rfl⟩, S := fun x hx => (by cases hx), srt := List.Pairwise.nil, len := Nat.zero_le _, ntl := Nat.zero_le _, keys := rfl, dat := fun i l hi => (by cases hi), inj := fun i j sl _ hi => (by cases hi), rm := hr, hand := hh }, rfl, fun _ => rfl, rfl, by decide, Nat.le_refl _, ⟨fun k => by show Gfl _ _ (after [] [] k); rw [after_nil]; exact hg, rfl, trivial, Nat.le_refl _⟩⟩
/-- the same files under another name of what is at hand -/
theorem Gfl.to {C C' : Cx} {Q : Nat} {F : Fl} (h : Gfl C Q F) (h1 : C'.me = C.me) (h2 : C'.L = C.L) (h3 : C'.RL = C.RL) : Gfl C' Q F :=
  { srt := h.srt, nm := h.nm, lp := h.lp, lm := h.lm, lt := h.lt, me := by rw [h1]; exact h.me, sl := by rw [h2]; exact h.sl, da := by rw [h2, h3]; exact h.da }
theorem Cx.Ok.to {C : Cx} (h : C.Ok) (cal : Bool) (hand : Int) (hh : 1 ≤ hand) : Cx.Ok { C with cal := cal, hand := hand } :=
  { m := h.m, S := h.S, srt := h.srt, len := h.len, ntl := h.ntl, keys := h.keys, dat := h.dat, inj := h.inj, rm := h.rm, hand := hh }
theorem Dv.to {C : Cx} {Q : Nat} {d : Dm} (h : Dv C Q d) (cal : Bool) (hand : Int) (hh : 1 ≤ hand) (ha : cal = true → d.armed = false) : Dv { C with cal := cal, hand := hand } Q d :=
  ⟨h.ok.to cal hand hh, h.dead, ha, h.room, h.hQ, h.que, h.dq.mono fun F hF => hF.to rfl rfl rfl⟩
theorem Iv.to {C : Cx} {E : Int} {Q : Nat} {R : Al By} {s : Ps} {d : Dm} (h : Iv C E Q R s d) (cal : Bool) (ha : cal = true → d.armed = false) : Iv { C with cal := cal } E Q R s d :=
  { h with ok := h.ok.to cal C.hand h.ok.hand, arm := ha, room := h.room, dq := h.dq.mono fun F hF => hF.to rfl rfl rfl, c := h.c, hand := h.hand, hln := h.hln }
theorem As.andLt {A : Nat → Prop} {w : World} {v : Value} {l : List Ac} (h : As A w v l) : As (fun k => A k ∧ k < w.heap.size) w v l := by
  obtain ⟨L, h1, h2, h3, h4⟩ := h
  exact ⟨L, h1, Row.andLt h2, fun q hq => ⟨⟨Row.andLt (h3 q hq).1.1, (h3 q hq).1.2⟩, (h3 q hq).2⟩, h4⟩
end Go.Proofs.YtbmhkdcmepfmbaaGreat
