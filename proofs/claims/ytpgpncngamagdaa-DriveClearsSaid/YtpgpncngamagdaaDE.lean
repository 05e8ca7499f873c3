/- drive.Replace. -/
import Derived.Test.YtpgpncngamagdaaDD
import Derived.Test.YtpgpncngamagdaaDG
import Derived.Test.YtpgpncngamagdaaDA
set_option linter.unusedVariables false
set_option linter.unusedSimpArgs false
namespace Go.Proofs.Ytpgpncngamagdaa
open Go.RowKit
attribute [local go_sem ↓] Go.wp_at_zero Go.wp_at_succ
theorem Turned.refl {M D : Nat → Prop} {w : World} {b : Nat} {d : Dm} (h : DrIs M D w b d) : Turned M D w b d w := ⟨Wb.refl _ _, M, D, fun _ h => .inl h, fun _ h => .inl h, h⟩
theorem Turned.up {M D : Nat → Prop} {w w1 w2 : World} {b : Nat} {d : Dm} (h : Turned M D w b d w1) (hb : Below w1.heap.size w1 w2) : Turned M D w b d w2 := by
  obtain ⟨h1, M1, D1, h2, h3, h4⟩ := h
  exact ⟨h1.trans (Wb.of_below _ hb), M1, D1, h2, h3, h4.below hb⟩
theorem Turned.trans {M D M1 D1 : Nat → Prop} {w w1 w2 : World} {b : Nat} {d2 : Dm} (hw : Wb (fun k => k = b ∨ M k) w w1) (h2 : ∀ k, M1 k → M k ∨ w.heap.size ≤ k) (h3 : ∀ k, D1 k → D k ∨ w.heap.size ≤ k) (hT : Turned M1 D1 w1 b d2 w2) : Turned M D w b d2 w2 := by
  obtain ⟨g1, M2, D2, g2, g3, g4⟩ := hT
  have hs := hw.size
  refine ⟨⟨g1.os.trans hw.os, g1.tape.trans hw.tape, g1.output.trans hw.output, Nat.le_trans hs g1.size, fun k hk hx => ?_⟩, M2, D2, fun k hk => ?_, fun k hk => ?_, g4⟩
  · rw [g1.block k (Nat.lt_of_lt_of_le hk hs) (fun h => h.elim (fun e => hx (.inl e)) fun hm => (h2 k hm).elim (fun h => hx (.inr h)) fun h => by omega)]
    exact hw.block k hk hx
  · rcases g2 k hk with h | h
    · exact h2 k h
    · exact .inr (Nat.le_trans hs h)
  · rcases g3 k hk with h | h
    · exact h3 k h
    · exact .inr (Nat.le_trans hs h)
/-- the name that a file has while it is written -/
def frs (n : By) : By := n ++ [126]
def rp1 (d : Dm) (n : By) : Int × Dm := if (fget d.seen (frs n)).isSome then (rawE d (thE d (frs n)), rawD d (.rem (frs n)) (thE d (frs n))) else (0, d)
def rp2 (d : Dm) (n b : By) : Int × Dm := (rawE d (wrE d (frs n) ((foz d.seen (frs n)).length : Int) b.length), rawD d (.write (frs n) (foz d.seen (frs n)).length b) (wrE d (frs n) ((foz d.seen (frs n)).length : Int) b.length))
def rp3 (d : Dm) (n : By) : Int × Dm := (rawE d (thE d (frs n)), rawD d (.ren (frs n) n) (thE d (frs n)))
def repD (d : Dm) (n b : By) : Int × Dm :=
  if d.dead then (9, d) else
  if (rp1 d n).1 ≠ 0 then rp1 d n else
  if (rp2 (rp1 d n).2 n b).1 ≠ 0 then rp2 (rp1 d n).2 n b else
  if (rp3 (rp2 (rp1 d n).2 n b).2 n).1 ≠ 0 then rp3 (rp2 (rp1 d n).2 n b).2 n else
  (rawE (rp3 (rp2 (rp1 d n).2 n b).2 n).2 0, flD (rp3 (rp2 (rp1 d n).2 n b).2 n).2)
/-- a drive of bounded size -/
structure Bd (T L Q : Nat) (R : Int) (d : Dm) : Prop where
  srt : Srt d.seen
  tot : tot d.seen ≤ T
  len : d.seen.length ≤ L
  que : d.queue.length ≤ Q
  room : d.room = R
theorem Bd.mono {T L Q T' L' Q' : Nat} {R : Int} {d : Dm} (h : Bd T L Q R d) (h1 : T ≤ T') (h2 : L ≤ L') (h3 : Q ≤ Q') : Bd T' L' Q' R d := ⟨h.srt, Nat.le_trans h.tot h1, Nat.le_trans h.len h2, Nat.le_trans h.que h3, h.room⟩
theorem mayD_room (d : Dm) (e : Int) : (mayD d e).room = d.room ∧ (mayD d e).seen = d.seen ∧ (mayD d e).queue = d.queue := by
  unfold mayD
  repeat (first | exact ⟨rfl, rfl, rfl⟩ | split)
theorem Bd.raw {T L Q : Nat} {R : Int} {d : Dm} (h : Bd T L Q R d) (x : Dd) (e : Int) (k : Nat) (hx : Ytpgpncngamagdaa.tot (ddo d.seen x x.units) ≤ T + k) : Bd (T + k) (L + 1) (Q + 1) R (rawD d x e) := by
  unfold rawD
  split
  · exact ⟨h.srt.ddo _ _, hx, by have := ddo_len d.seen h.srt x x.units; have := h.len; show (ddo d.seen x x.units).length ≤ _; omega, by show (d.queue ++ [x]).length ≤ _; have := h.que; simp; omega, (mayD_room d e).1.trans h.room⟩
  · exact h.mono (by omega) (by omega) (by omega)
theorem Bd.rem {T L Q : Nat} {R : Int} {d : Dm} (h : Bd T L Q R d) (n : By) (e : Int) : Bd T (L + 1) (Q + 1) R (rawD d (.rem n) e) := by
  have := tot_ddo h.srt (.rem n) 1
  exact h.raw (.rem n) e 0 (Nat.le_trans this h.tot)
theorem Bd.ren {T L Q : Nat} {R : Int} {d : Dm} (h : Bd T L Q R d) (n m : By) (e : Int) : Bd T (L + 1) (Q + 1) R (rawD d (.ren n m) e) := by
  have := tot_ddo h.srt (.ren n m) 1
  exact h.raw (.ren n m) e 0 (Nat.le_trans this h.tot)
theorem Bd.app {T L Q : Nat} {R : Int} {d : Dm} (h : Bd T L Q R d) (n l : By) (e : Int) : Bd (T + l.length) (L + 1) (Q + 1) R (rawD d (.write n (foz d.seen n).length l) e) := by
  have := tot_ddo h.srt (.write n (foz d.seen n).length l) (l.length + 1)
  simp only at this
  exact h.raw (.write n (foz d.seen n).length l) e l.length (by have := h.tot; show Ytpgpncngamagdaa.tot (ddo d.seen _ (l.length + 1)) ≤ _; omega)
theorem Bd.rp1 {T L Q : Nat} {R : Int} {d : Dm} (h : Bd T L Q R d) (n : By) : Bd T (L + 1) (Q + 1) R (rp1 d n).2 := by
  unfold Go.Proofs.Ytpgpncngamagdaa.rp1
  split
  · exact h.rem _ _
  · exact h.mono (Nat.le_refl _) (by omega) (by omega)
theorem has_nms (F : Fl) (hF : Srt F) (t : By) : hasB (nms F t) t = (fget F t).isSome := by
  unfold hasB nms
  rw [Bool.eq_iff_iff, List.contains_iff_mem, List.mem_filter, List.mem_map]
  constructor
  · rintro ⟨⟨x, hx, rfl⟩, _⟩
    rw [fget_of_mem hF (s := x.1) (l := x.2) hx]; rfl
  · intro h
    obtain ⟨l, hl⟩ := Option.isSome_iff_exists.1 h
    exact ⟨⟨_, fget_mem hl, rfl⟩, by simp [pfx]⟩
set_option maxRecDepth 100000 in
set_option maxHeartbeats 8000000 in
/-- drive.Replace -/
theorem replace_any {M D A : Nat → Prop} {w : World} {b : Nat} {d : Dm} {v : Value} (n l : By) (h : DrIs M D w b d) (hv : Bs A w v l) (hA : ∀ k, A k → ¬ M k ∧ k ≠ b) (hn : n.length ≤ 1000) (hs : Srt d.seen) (ht : tot d.seen ≤ 100000000) (hl : l.length ≤ 100000000) (hr : 0 ≤ d.room ∧ d.room ≤ 9223372036854775807) (hsl : d.seen.length ≤ 1000) (hql : d.queue.length ≤ 1000) :
    Calls Try.prog 40 #[.pointer (some ⟨b, 0, none⟩), .string ⟨n.toArray⟩, v] w fun E w' => E = .returned (.int .i64 (repD d n l).1) ∧ Turned M D w b (repD d n l).2 w' := by
  obtain ⟨va, vc, rfl, hx1⟩ := hv.at
  clear hx1
  have HH := Hid.mk' h
  have HV := Hid.mk' hv
  have HS := Hid.mk' hs
  have HR : Hid (repD d n l = if d.dead = true then (9, d) else if (rp1 d n).1 ≠ 0 then rp1 d n else if (rp2 (rp1 d n).2 n l).1 ≠ 0 then rp2 (rp1 d n).2 n l else if (rp3 (rp2 (rp1 d n).2 n l).2 n).1 ≠ 0 then rp3 (rp2 (rp1 d n).2 n l).2 n else (rawE (rp3 (rp2 (rp1 d n).2 n l).2 n).2 0, flD (rp3 (rp2 (rp1 d n).2 n l).2 n).2)) := rfl
  have hcat : (⟨n.toArray⟩ : ByteArray) ++ ⟨#[126]⟩ = ⟨(frs n).toArray⟩ := ba_app n [126]
  have hsz : (⟨n.toArray⟩ : ByteArray).size = n.length := by simp [ByteArray.size]
  have HDD := Hid.mk' (dead_any h)
  obtain ⟨R, hR⟩ : ∃ R, R = repD d n l := ⟨_, rfl⟩
  rw [← hR] at HR ⊢
  clear hR h hv
  generalize hdd : d.dead = dd at *
  cases dd
  case true =>
    rw [if_pos rfl] at HR
    go_enter Try.func40, Try.ntmps40
    go_wp2_with fail
    refine HDD.out.mono ?_
    rintro E w1 ⟨rfl, rfl⟩
    go_wp2_with fail
    go_ret
    exact ⟨by rw [HR.out]; rfl, by rw [HR.out]; exact Turned.refl HH.out⟩
  case false =>
  have HDF := Hid.mk' hdd
  clear hdd
  simp only [Bool.false_eq_true, if_false] at HR
  go_enter Try.func40, Try.ntmps40
  go_wp2_with fail
  refine HDD.out.mono ?_
  rintro E w1 ⟨rfl, rfl⟩
  go_wp2_with fail
  have HBD : Hid (Bd 100000000 1000 1000 d.room d) := ⟨HS.out, ht, hsl, hql, rfl⟩
  have HRM := Hid.mk' hr
  have HLL := Hid.mk' hl
  have HNN := Hid.mk' hn
  have HFR : Hid ((frs n).length ≤ 1001) := by show _ ≤ _; unfold frs; simp; omega
  have HAA := Hid.mk' hA
  have hlim : lim = 140737488351232 := rfl
  have HLIM := Hid.mk' hlim
  clear ht hl hr hsl hql hA hlim
  refine (list_any (frs n) HH.out (by have := HFR.out; unfold maxLen; omega) (by have := HBD.out.len; omega)).mono ?_
  rintro E w2 ⟨u2, rfl, o2, b2⟩
  obtain ⟨la, lc, rfl⟩ := o2.slice
  have hls : lsD d (frs n) = nms d.seen (frs n) := by unfold lsD; rw [HDF.out]; rfl
  have HCO := Hid.mk' (contains_any (frs n) (o2.ss (by have h1 := nms_le d.seen (frs n); have := HBD.out.len; have := HLIM.out; rw [hls]; omega)))
  rw [hls, has_nms _ HS.out] at HCO
  have HR1 : Hid (rp1 d n = if (fget d.seen (frs n)).isSome = true then (rawE d (thE d (frs n)), rawD d (.rem (frs n)) (thE d (frs n))) else (0, d)) := rfl
  have HB1 := Hid.mk' (HBD.out.rp1 n)
  have HDR2 := Hid.mk' (HH.out.below b2)
  have B2 := Hid.mk' b2
  have HRE := Hid.mk' (remove_any (frs n) HDR2.out (by have := HFR.out; unfold maxLen; omega) (by have := HBD.out.len; unfold maxLen; omega) (by have := HBD.out.que; omega))
  rw [hls]
  clear o2 b2 hls
  generalize hi : (fget d.seen (frs n)).isSome = is at *
  have HIS := Hid.mk' hi
  clear hi
  go_wp2_with fail
  refine HCO.out.mono ?_
  rintro E w3 ⟨rfl, rfl⟩
  go_upto_if 18 with fail
  go_cut [7] (fun q7 wx => Hid ((rp1 d n).1 = 0) ∧ Hid (Turned M D w b (rp1 d n).2 wx))
  case first =>
    cases is
    · have HZ : Hid (rp1 d n = (0, d)) := by show _ = _; rw [HR1.out]; rfl
      go_wp2_with fail
      go_meet
      exact ⟨by show _ = _; rw [HZ.out], by show Turned _ _ _ _ _ _; rw [HZ.out]; exact (Turned.refl HH.out).up B2.out⟩
    · have HZ : Hid (rp1 d n = (rawE d (thE d (frs n)), rawD d (.rem (frs n)) (thE d (frs n)))) := by show _ = _; rw [HR1.out]; rfl
      go_wp2_with fail
      refine HRE.out.mono ?_
      rintro E w4 ⟨rfl, hT⟩
      have HT : Hid (Turned M D w b (rawD d (.rem (frs n)) (thE d (frs n))) w4) := Turned.trans (Wb.of_below _ B2.out) (fun _ h => .inl h) (fun _ h => .inl h) hT
      clear hT
      by_cases h0 : rawE d (thE d (frs n)) = 0
      · have HM1 : Hid ((rp1 d n).1 = 0) := by show _ = _; rw [HZ.out]; exact h0
        have HM2 : Hid (Turned M D w b (rp1 d n).2 w4) := by rw [HZ.out]; exact HT.out
        go_wp2_with fail
        go_meet
        exact ⟨HM1, HM2⟩
      · have h0' : (rawE d (thE d (frs n)) == 0) = false := by simpa using h0
        have HM : Hid (R = (rawE d (thE d (frs n)), rawD d (.rem (frs n)) (thE d (frs n)))) := by
          show _ = _
          rw [HR.out, HZ.out, if_pos h0]
        clear h0
        generalize rawE d (thE d (frs n)) = e0 at *
        go_wp2_with fail
        go_ret
        exact ⟨by rw [HM.out]; rfl, by rw [HM.out]; exact HT.out⟩
  case rest =>
    obtain ⟨HE0, HT1⟩ := hcut
    have HR2 : Hid (R = if (rp2 (rp1 d n).2 n l).1 ≠ 0 then rp2 (rp1 d n).2 n l else if (rp3 (rp2 (rp1 d n).2 n l).2 n).1 ≠ 0 then rp3 (rp2 (rp1 d n).2 n l).2 n else (rawE (rp3 (rp2 (rp1 d n).2 n l).2 n).2 0, flD (rp3 (rp2 (rp1 d n).2 n l).2 n).2)) := by
      show _ = _
      rw [HR.out, if_neg (by rw [HE0.out]; simp)]
    generalize (rp1 d n).2 = d1 at *
    clear HR HR1 HE0 HRE HCO HDR2 HIS
    rename World => wx
    obtain ⟨hw1, M1, D1, i1, i2, hd1⟩ := HT1.out
    have hvx : Bs A wx (.slice va l.length vc) l := HV.out.wb hw1 fun k hk hk2 => by
      have := HAA.out k hk2
      rcases hk with hk | hk
      · exact this.2 hk
      · exact this.1 hk
    have h3 := foz_le d1.seen (frs n)
    have AP := Hid.mk' (append_any (frs n) l _ hd1 (by have := HFR.out; unfold maxLen; omega) hvx (by have := HB1.out.tot; have := HLIM.out; omega) (by rw [HB1.out.room]; exact HRM.out) (fun _ => by have := HB1.out.tot; have := HLIM.out; have := HLL.out; omega) (by have := HB1.out.len; unfold maxLen; omega) (by have := HB1.out.que; omega))
    have HP2 : Hid (rp2 d1 n l = (rawE d1 (wrE d1 (frs n) ((foz d1.seen (frs n)).length : Int) l.length), rawD d1 (.write (frs n) (foz d1.seen (frs n)).length l) (wrE d1 (frs n) ((foz d1.seen (frs n)).length : Int) l.length))) := rfl
    have HB2 : Hid (Bd (100000000 + l.length) 1002 1002 d.room (rp2 d1 n l).2) := HB1.out.app (frs n) l _
    have HWI := Hid.mk' (⟨hw1, i1, i2⟩ : _ ∧ _ ∧ _)
    clear hvx h3 hw1 i1 i2 hd1
    go_wp2_with fail
    refine AP.out.mono ?_
    rintro E w5 ⟨rfl, hT⟩
    have HT2 := Hid.mk' (Turned.trans HWI.out.1 HWI.out.2.1 HWI.out.2.2 hT)
    rw [Int.toNat_natCast] at HT2
    clear hT AP HWI HT1 HB1
    by_cases h2 : (rp2 d1 n l).1 = 0
    case neg =>
      have HM : Hid (R = rp2 d1 n l) := by show _ = _; rw [HR2.out, if_pos h2]
      have HE2 : Hid (rawE d1 (wrE d1 (frs n) ((foz d1.seen (frs n)).length : Int) l.length) = (rp2 d1 n l).1) := by show _ = _; rw [HP2.out]
      have HD2 : Hid (rawD d1 (.write (frs n) (foz d1.seen (frs n)).length l) (wrE d1 (frs n) ((foz d1.seen (frs n)).length : Int) l.length) = (rp2 d1 n l).2) := by show _ = _; rw [HP2.out]
      have h2' : ((rp2 d1 n l).1 == 0) = false := by simpa using h2
      rw [HD2.out] at HT2
      rw [HE2.out]
      clear h2 HR2 HP2
      generalize (rp2 d1 n l) = p2 at *
      go_wp2_with fail
      go_ret
      exact ⟨by rw [HM.out]; rfl, by rw [HM.out]; exact HT2.out⟩
    case pos =>
    have HR3 : Hid (R = if (rp3 (rp2 d1 n l).2 n).1 ≠ 0 then rp3 (rp2 d1 n l).2 n else (rawE (rp3 (rp2 d1 n l).2 n).2 0, flD (rp3 (rp2 d1 n l).2 n).2)) := by show _ = _; rw [HR2.out, if_neg (by rw [h2]; simp)]
    have HE2 : Hid (rawE d1 (wrE d1 (frs n) ((foz d1.seen (frs n)).length : Int) l.length) = 0) := by show _ = _; rw [← h2, HP2.out]
    have HD2 : Hid (rawD d1 (.write (frs n) (foz d1.seen (frs n)).length l) (wrE d1 (frs n) ((foz d1.seen (frs n)).length : Int) l.length) = (rp2 d1 n l).2) := by show _ = _; rw [HP2.out]
    rw [HD2.out] at HT2
    rw [HE2.out]
    clear h2 HR2 HP2 HE2 HD2
    generalize (rp2 d1 n l).2 = d2 at *
    obtain ⟨hw1, M2, D2, i1, i2, hd2⟩ := HT2.out
    have RN := Hid.mk' (rename_any (frs n) n hd2 (by have := HFR.out; unfold maxLen; omega) (by have := HNN.out; unfold maxLen; omega) (by have := HB2.out.len; unfold maxLen; omega) (by have := HB2.out.que; omega))
    have HWI := Hid.mk' (⟨hw1, i1, i2⟩ : _ ∧ _ ∧ _)
    have HP3 : Hid (rp3 d2 n = (rawE d2 (thE d2 (frs n)), rawD d2 (.ren (frs n) n) (thE d2 (frs n)))) := rfl
    clear hw1 i1 i2 hd2
    rename World => wy
    go_wp2_with fail
    refine RN.out.mono ?_
    rintro E w6 ⟨rfl, hT⟩
    have HT3 := Hid.mk' (Turned.trans HWI.out.1 HWI.out.2.1 HWI.out.2.2 hT)
    clear hT RN HWI HT2
    by_cases h3 : (rp3 d2 n).1 = 0
    case neg =>
      have HM : Hid (R = rp3 d2 n) := by show _ = _; rw [HR3.out, if_pos h3]
      have HE3 : Hid (rawE d2 (thE d2 (frs n)) = (rp3 d2 n).1) := by show _ = _; rw [HP3.out]
      have HD3 : Hid (rawD d2 (.ren (frs n) n) (thE d2 (frs n)) = (rp3 d2 n).2) := by show _ = _; rw [HP3.out]
      have h3' : ((rp3 d2 n).1 == 0) = false := by simpa using h3
      rw [HD3.out] at HT3
      rw [HE3.out]
      clear h3 HR3 HP3
      generalize (rp3 d2 n) = p3 at *
      go_wp2_with fail
      go_ret
      exact ⟨by rw [HM.out]; rfl, by rw [HM.out]; exact HT3.out⟩
    case pos =>
    have HR4 : Hid (R = (rawE (rp3 d2 n).2 0, flD (rp3 d2 n).2)) := by show _ = _; rw [HR3.out, if_neg (by rw [h3]; simp)]
    have HE3 : Hid (rawE d2 (thE d2 (frs n)) = 0) := by show _ = _; rw [← h3, HP3.out]
    have HD3 : Hid (rawD d2 (.ren (frs n) n) (thE d2 (frs n)) = (rp3 d2 n).2) := by show _ = _; rw [HP3.out]
    rw [HD3.out] at HT3
    rw [HE3.out]
    clear h3 HR3 HP3 HE3 HD3
    generalize (rp3 d2 n).2 = d3 at *
    obtain ⟨hw1, M3, D3, i1, i2, hd3⟩ := HT3.out
    have FL := Hid.mk' (flush_any hd3)
    have HWI := Hid.mk' (⟨hw1, i1, i2⟩ : _ ∧ _ ∧ _)
    clear hw1 i1 i2 hd3
    rename World => wz
    go_wp2_with fail
    refine FL.out.mono ?_
    rintro E w7 ⟨rfl, hT⟩
    have HT4 := Hid.mk' (Turned.trans HWI.out.1 HWI.out.2.1 HWI.out.2.2 hT)
    clear hT FL HWI HT3
    go_wp2_with fail
    go_ret
    exact ⟨by rw [HR4.out]; rfl, by rw [HR4.out]; exact HT4.out⟩
end Go.Proofs.Ytpgpncngamagdaa
