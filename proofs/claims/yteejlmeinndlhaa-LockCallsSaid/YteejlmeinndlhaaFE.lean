/- groynelaw11.few. -/
import Derived.Test.YteejlmeinndlhaaOK
import Derived.Test.YteejlmeinndlhaaMT
set_option linter.unusedVariables false
set_option linter.unusedSimpArgs false
namespace Go.Proofs.Yteejlmeinndlhaa
open Go.RowKit Go.Maps
attribute [local go_sem ↓] Go.wp_at_zero Go.wp_at_succ
theorem akc_len (q : Kq) : (akc q).length = 8 := rfl
theorem akcs_get (L : List Kq) (i : Nat) (h : i < L.length) (j : Nat) (hj : j < 8) : (akcs L)[i * 8 + j]? = (akc L[i])[j]? := by
  induction L generalizing i with
  | nil => cases h
  | cons q L ih =>
    have e : akcs (q :: L) = akc q ++ akcs L := by simp [akcs]
    have hl : (akc q).length = 8 := rfl
    rw [e]
    cases i with
    | zero => rw [List.getElem?_append_left (by omega)]; simp
    | succ i =>
      rw [List.getElem?_append_right (by omega), hl, show (i + 1) * 8 + j - 8 = i * 8 + j by omega]
      exact ih i (by simpa using h)
theorem akcs_app (L M : List Kq) : akcs (L ++ M) = akcs L ++ akcs M := by simp [akcs]
theorem Aks.at {A : Nat → Prop} {w : World} {v : Value} {l : List Ak} (h : Aks A w v l) : ∃ (a : Option Addr) (c : Nat), v = .slice a l.length c ∧ l.length ≤ c ∧ l.length * 80 ≤ lim ∧
    ∀ j (hj : j < l.length), ∃ b o u, a = some ⟨b, o, none⟩ ∧ A b ∧ (w.cell? ⟨b, o + j * 8, none⟩ = some (.int .i64 l[j].kind) ∧ w.cell? ⟨b, o + j * 8 + 1, none⟩ = some (.int .u64 (l[j].x.1.toNat : Int)) ∧ w.cell? ⟨b, o + j * 8 + 2, none⟩ = some (.int .u64 (l[j].x.2.1.toNat : Int)) ∧ w.cell? ⟨b, o + j * 8 + 3, none⟩ = some (.int .u64 (l[j].x.2.2.toNat : Int)) ∧
      w.cell? ⟨b, o + j * 8 + 4, none⟩ = some (.int .u64 (l[j].y.1.toNat : Int)) ∧ w.cell? ⟨b, o + j * 8 + 5, none⟩ = some (.int .u64 (l[j].y.2.1.toNat : Int)) ∧ w.cell? ⟨b, o + j * 8 + 6, none⟩ = some (.int .u64 (l[j].y.2.2.toNat : Int)) ∧ w.cell? ⟨b, o + j * 8 + 7, none⟩ = some u) ∧ Rgs A w u l[j].rs := by
  obtain ⟨L, rfl, ⟨hl, a, c, hv, hc, ha, H⟩, h3, h4⟩ := h
  refine ⟨a, c, by rw [hv, List.length_map], by rw [List.length_map]; exact hc, by rw [List.length_map]; exact h4, fun j hj => ?_⟩
  have hj' : j < L.length := by simpa using hj
  have g := akcs_get L j hj'
  have g0 := g 0 (by decide)
  have g1 := g 1 (by decide)
  have g2 := g 2 (by decide)
  have g3 := g 3 (by decide)
  have g4 := g 4 (by decide)
  have g5 := g 5 (by decide)
  have g6 := g 6 (by decide)
  have g7 := g 7 (by decide)
  unfold akc tc at g0 g1 g2 g3 g4 g5 g6 g7
  obtain ⟨b, o, rfl, hA, e0⟩ := H _ _ g0
  obtain ⟨_, _, k, _, e1⟩ := H _ _ g1; cases k
  obtain ⟨_, _, k, _, e2⟩ := H _ _ g2; cases k
  obtain ⟨_, _, k, _, e3⟩ := H _ _ g3; cases k
  obtain ⟨_, _, k, _, e4⟩ := H _ _ g4; cases k
  obtain ⟨_, _, k, _, e5⟩ := H _ _ g5; cases k
  obtain ⟨_, _, k, _, e6⟩ := H _ _ g6; cases k
  obtain ⟨_, _, k, _, e7⟩ := H _ _ g7; cases k
  simp only [List.getElem_map]
  exact ⟨b, o, _, rfl, hA, ⟨e0, e1, e2, e3, e4, e5, e6, e7⟩, h3 L[j] (List.getElem_mem hj')⟩
theorem box8 {w : World} {b : Nat} {c0 c1 c2 c3 c4 c5 c6 c7 : Value} {e : TypeId} (h : w.heap[b]? = some (.cells #[c0, c1, c2, c3, c4, c5, c6, c7] e (0, 0))) : w.cell? ⟨b, 0, none⟩ = some c0 ∧ w.cell? ⟨b, 1, none⟩ = some c1 ∧ w.cell? ⟨b, 2, none⟩ = some c2 ∧ w.cell? ⟨b, 3, none⟩ = some c3 ∧
    w.cell? ⟨b, 4, none⟩ = some c4 ∧ w.cell? ⟨b, 5, none⟩ = some c5 ∧ w.cell? ⟨b, 6, none⟩ = some c6 ∧ w.cell? ⟨b, 7, none⟩ = some c7 := by
  refine ⟨?_, ?_, ?_, ?_, ?_, ?_, ?_, ?_⟩ <;> simp [World.cell?, h]
theorem box8_fr {w : World} {b : Nat} {c0 c1 c2 c3 c4 c5 c6 c7 : Value} {e : TypeId} (h : w.heap[b]? = some (.cells #[c0, c1, c2, c3, c4, c5, c6, c7] e (0, 0))) (j : Nat) : w.frozen? ⟨b, j, none⟩ = false := by simp [World.frozen?, h]
theorem box8_set {w : World} {b : Nat} {c0 c1 c2 c3 c4 c5 c6 c7 : Value} {e : TypeId} (h : w.heap[b]? = some (.cells #[c0, c1, c2, c3, c4, c5, c6, c7] e (0, 0))) (u : Value) : (w.setCell ⟨b, 7, none⟩ u).heap[b]? = some (.cells #[c0, c1, c2, c3, c4, c5, c6, u] e (0, 0)) := heap_setCell_same w b 7 _ e u h
theorem row_one8 {w : World} {c0 c1 c2 c3 c4 c5 c6 c7 : Value} {e : TypeId} : Row 8 (Lt (w.heap.size + 1)) (w.alloc (.cells #[c0, c1, c2, c3, c4, c5, c6, c7] e)) (.slice (some ⟨w.heap.size, 0, none⟩) 1 1) 1 [c0, c1, c2, c3, c4, c5, c6, c7] := by
  refine ⟨rfl, _, _, rfl, Nat.le_refl _, by simp, fun j u hj => ⟨_, _, rfl, Nat.lt_succ_self _, ?_⟩⟩
  match j, hj with
  | 0, hj => simp at hj; subst hj; simp
  | 1, hj => simp at hj; subst hj; simp
  | 2, hj => simp at hj; subst hj; simp
  | 3, hj => simp at hj; subst hj; simp
  | 4, hj => simp at hj; subst hj; simp
  | 5, hj => simp at hj; subst hj; simp
  | 6, hj => simp at hj; subst hj; simp
  | 7, hj => simp at hj; subst hj; simp
theorem Try.info42 : (Try.prog.info? 42).map (fun i => (i.zero, i.size, i.bytes)) = some (some (.agg #[.int .i64 0, .int .u64 0, .int .u64 0, .int .u64 0, .int .u64 0, .int .u64 0, .int .u64 0, .slice none 0 0]), 8, 80) := by kernel_rfl
def cutK (a : Ak) : Ak := { a with rs := a.rs.take 70 }
def fewK (l : List Ak) : List Ak := (l.take 30).map cutK
/-- acts in a row of the call's own, their ranges where they were -/
def Fw (A : Nat → Prop) (S0 : Nat) (w wz : World) (v : Value) (L : List Kq) : Prop := wz.ownsRow S0 42 8 v L.length (akcs L) ∧ ∀ q ∈ L, Rgs A w q.2 q.1.rs
def FwP (A : Nat → Prop) (w : World) (l : List Ak) (e : Ending) (w' : World) : Prop := ∃ v L, e = .returned v ∧ L.map (·.1) = fewK l ∧ Fw A w.heap.size w w' v L ∧ Below w.heap.size w w'
theorem fewK_take {l : List Ak} {k : Nat} (h : k < l.length) : (l.take k).map cutK ++ [cutK l[k]] = (l.take (k + 1)).map cutK := by
  rw [List.take_succ_eq_append_getElem h, List.map_append]; rfl
set_option maxRecDepth 100000 in
set_option maxHeartbeats 4000000 in
/-- few -/
theorem few_any {A : Nat → Prop} {w : World} {v : Value} {l : List Ak} (h : Aks A w v l) : Calls Try.prog 15 #[v, .int .i64 30] w (FwP A w l) := by
  obtain ⟨va, vc, rfl, hvc, hz, hat⟩ := h.at
  have HAT := Hid.mk' hat
  have hl' : (l.length : Int) ≤ 140737488351232 := by unfold lim at hz; omega
  have HZ : Hid (Below w.heap.size w w) := Below.refl _ _
  have HO0 : Hid (w.ownsRow w.heap.size 42 8 (.slice none 0 0) 0 (akcs [])) := World.ownsRow_nil w w.heap.size 42 8
  have HR0 : Hid (∀ q ∈ ([] : List Kq), Rgs A w q.2 q.1.rs) := fun q hq => by cases hq
  have HM0 : Hid (([] : List Kq).map (·.1) = (l.take 0).map cutK) := rfl
  clear h hat hz
  go_enter Try.func15, Try.ntmps15
  go_wp2_with fail
  go_loopw [5, 6] (fun y i wr => ∃ (k : Nat) (L : List Kq) (oa : Option Addr) (oc : Nat), k ≤ l.length ∧ k ≤ 30 ∧ i = .int .i64 k ∧ y = .slice oa k oc ∧ Hid (L.length = k) ∧ Hid (L.map (·.1) = (l.take k).map cutK) ∧ Hid (wr.ownsRow w.heap.size 42 8 (.slice oa k oc) L.length (akcs L)) ∧ Hid (∀ q ∈ L, Rgs A w q.2 q.1.rs) ∧ Hid (Below w.heap.size w wr)) (fun _ i _ => l.length - (intOf i).toNat)
  case atStart => exact ⟨0, [], none, 0, by omega, by omega, rfl, rfl, rfl, HM0, HO0, HR0, HZ⟩
  case round =>
    clear HO0 HZ HR0 HM0
    obtain ⟨k, L, oa, oc, hk, hk30, rfl, rfl, HLk, HM, HO, HR, HB3⟩ := hrel
    by_cases hlt : k < l.length
    case neg =>
      obtain rfl : k = l.length := by omega
      have HF : Hid (L.map (·.1) = fewK l) := by show _ = _; rw [HM.out]; unfold fewK; rw [List.take_of_length_le (by omega), List.take_of_length_le (by omega)]
      go_wp2_with fail
      go_ret
      exact ⟨_, L, rfl, HF.out, ⟨HO.out, HR.out⟩, HB3.out⟩
    have hlt' : (k : Int) < (l.length : Int) := by omega
    by_cases h30 : k < 30
    case neg =>
      have h30' : ¬ (k : Int) < 30 := by omega
      have HF : Hid (L.map (·.1) = fewK l) := by show _ = _; rw [HM.out]; unfold fewK; rw [show k = 30 by omega]
      go_wp2_with fail
      go_ret
      exact ⟨_, L, rfl, HF.out, ⟨HO.out, HR.out⟩, HB3.out⟩
    have h30' : (k : Int) < 30 := by omega
    obtain ⟨bb, of, u, rfl, _, ⟨c0, c1, c2, c3, c4, c5, c6, c7⟩, hrs⟩ := HAT.out k hlt
    have c0 := cell_up c0 HB3.out
    have c1 := cell_up c1 HB3.out
    have c2 := cell_up c2 HB3.out
    have c3 := cell_up c3 HB3.out
    have c4 := cell_up c4 HB3.out
    have c5 := cell_up c5 HB3.out
    have c6 := cell_up c6 HB3.out
    have c7 := cell_up c7 HB3.out
    have HTK := Hid.mk' (fewK_take hlt)
    generalize l[k] = ak at *
    obtain ⟨ua, uc, rfl, huc, _, hz, hat2⟩ := hrs.at
    have hrl : (ak.rs.length : Int) ≤ 140737488351232 := by unfold lim at hz; omega
    have HRS := Hid.mk' hrs
    have HA2 := Hid.mk' hat2
    obtain ⟨W3, hW3⟩ : ∃ W, W = wr.alloc (.cells #[.int .i64 ak.kind, .int .u64 (ak.x.1.toNat : Int), .int .u64 (ak.x.2.1.toNat : Int), .int .u64 (ak.x.2.2.toNat : Int), .int .u64 (ak.y.1.toNat : Int), .int .u64 (ak.y.2.1.toNat : Int), .int .u64 (ak.y.2.2.toNat : Int), .slice ua ak.rs.length uc] 42) := ⟨_, rfl⟩
    have HE3 : Hid (W3.heap[wr.heap.size]? = some (.cells #[.int .i64 ak.kind, .int .u64 (ak.x.1.toNat : Int), .int .u64 (ak.x.2.1.toNat : Int), .int .u64 (ak.x.2.2.toNat : Int), .int .u64 (ak.y.1.toNat : Int), .int .u64 (ak.y.2.1.toNat : Int), .int .u64 (ak.y.2.2.toNat : Int), .slice ua ak.rs.length uc] 42 (0, 0))) := by rw [hW3]; exact heap_alloc_new _ _
    have HW3 : Hid (Below wr.heap.size wr W3) := by rw [hW3]; exact up_alloc _ _
    have HCUT : Hid (cutK ak = ⟨ak.kind, ak.x, ak.y, ak.rs.take 70⟩) := rfl
    clear hrs hat2 hz
    generalize hn1 : (ak.x.1.toNat : Int) = n1 at *
    generalize hn2 : (ak.x.2.1.toNat : Int) = n2 at *
    generalize hn3 : (ak.x.2.2.toNat : Int) = n3 at *
    generalize hm1 : (ak.y.1.toNat : Int) = m1 at *
    generalize hm2 : (ak.y.2.1.toNat : Int) = m2 at *
    generalize hm3 : (ak.y.2.2.toNat : Int) = m3 at *
    have HN1 := Hid.mk' hn1
    have HN2 := Hid.mk' hn2
    have HN3 := Hid.mk' hn3
    have HM1 := Hid.mk' hm1
    have HM2 := Hid.mk' hm2
    have HM3 := Hid.mk' hm3
    clear hn1 hn2 hn3 hm1 hm2 hm3
    generalize hrsn : ak.rs = rs at *
    generalize hkd : ak.kind = kd at *
    have HRSN := Hid.mk' hrsn
    have HKD := Hid.mk' hkd
    clear hrsn hkd
    go_upto_if 26 with fail
    rw [← hW3]
    clear hW3 c0 c1 c2 c3 c4 c5 c6 c7
    go_cut [5] (fun y wx => y = .slice oa k oc ∧ ∃ (ua' : Option Addr) (uc' : Nat), Hid (wx.heap[wr.heap.size]? = some (.cells #[.int .i64 kd, .int .u64 n1, .int .u64 n2, .int .u64 n3, .int .u64 m1, .int .u64 m2, .int .u64 m3, .slice ua' (rs.take 70).length uc'] 42 (0, 0))) ∧ Hid (Rgs A w (.slice ua' (rs.take 70).length uc') (rs.take 70)) ∧ Hid (Below wr.heap.size wr wx))
    case first =>
      obtain ⟨x0, x1, x2, x3, x4, x5, x6, x7⟩ := box8 HE3.out
      have f7 := box8_fr HE3.out 7
      by_cases h70 : 70 < rs.length
      · have h70' : (70 : Int) < (rs.length : Int) := by omega
        obtain ⟨b0, o0, _, _, _, _, rfl, _⟩ := HA2.out 0 (by omega)
        have S1 : ∀ w, (Instr.slice 40 (.slice (some ⟨b0, o0, none⟩) rs.length uc) none (some (.int .i64 70)) none).run Try.prog w = .ok (.slice (some ⟨b0, o0, none⟩) 70 uc) w := fun w => s40_hio w b0 o0 rs.length uc 70 (by omega) huc (by omega)
        have hl70 : (rs.take 70).length = 70 := by rw [List.length_take]; omega
        have HX : Hid (Rgs A w (.slice (some ⟨b0, o0, none⟩) (rs.take 70).length uc) (rs.take 70)) := by rw [hl70]; exact HRS.out.cut 70 (by omega)
        have HY : Hid ((W3.setCell ⟨wr.heap.size, 7, none⟩ (.slice (some ⟨b0, o0, none⟩) 70 uc)).heap[wr.heap.size]? = some (.cells #[.int .i64 kd, .int .u64 n1, .int .u64 n2, .int .u64 n3, .int .u64 m1, .int .u64 m2, .int .u64 m3, .slice (some ⟨b0, o0, none⟩) (rs.take 70).length uc] 42 (0, 0))) := by rw [hl70]; exact box8_set HE3.out _
        have HBX : Hid (Below wr.heap.size wr (W3.setCell ⟨wr.heap.size, 7, none⟩ (.slice (some ⟨b0, o0, none⟩) 70 uc))) := HW3.out.trans ((Wb.set (X := fun k => k = wr.heap.size) W3 wr.heap.size 7 (.slice (some ⟨b0, o0, none⟩) 70 uc) rfl).below HW3.out.size fun k hk => by subst hk; exact Nat.le_refl _)
        clear hl70
        go_wp2_with fail
        go_meet
        exact ⟨rfl, _, _, HY, HX, HBX⟩
      · have h70' : ¬ (70 : Int) < (rs.length : Int) := by omega
        have HE : Hid (rs.take 70 = rs) := List.take_of_length_le (by omega)
        have HX : Hid (Rgs A w (.slice ua (rs.take 70).length uc) (rs.take 70)) := by rw [HE.out]; exact HRS.out
        have HY : Hid (W3.heap[wr.heap.size]? = some (.cells #[.int .i64 kd, .int .u64 n1, .int .u64 n2, .int .u64 n3, .int .u64 m1, .int .u64 m2, .int .u64 m3, .slice ua (rs.take 70).length uc] 42 (0, 0))) := by rw [HE.out]; exact HE3.out
        go_wp2_with fail
        go_meet
        exact ⟨rfl, _, _, HY, HX, HW3⟩
    case rest =>
    obtain ⟨rfl, u2, k2, HE4, HX, HW4⟩ := hcut
    clear HE3 HW3 HA2 HRS
    rename World => w4
    obtain ⟨x0, x1, x2, x3, x4, x5, x6, x7⟩ := box8 HE4.out
    have HO5 := Hid.mk' (own_keep (own_keep HO.out HW4.out (Nat.le_refl _)) (up_alloc w4 (.cells #[.int .i64 kd, .int .u64 n1, .int .u64 n2, .int .u64 n3, .int .u64 m1, .int .u64 m2, .int .u64 m3, .slice u2 (rs.take 70).length k2] 42)) (Nat.le_refl _))
    have HB4 := Hid.mk' (bt HB3.out HW4.out)
    generalize hr70 : rs.take 70 = r70 at *
    have HR70 := Hid.mk' hr70
    clear hr70
    go_wp2_with (at_builtin; go_must (refine wpl_app rfl (.tmp 31) (.tmp 33) 34 rfl Try.underlying34 Try.info42 rfl (by decide) rfl HO5.out rfl row_one8 (by intro u hu; simp only [List.mem_cons, List.not_mem_nil, or_false] at hu; rcases hu with rfl | rfl | rfl | rfl | rfl | rfl | rfl | rfl <;> rfl) (by have := HLk.out; unfold maxLen; omega) (by have := HLk.out; omega) (by have := HB4.out.size; simp; omega) ?_); intro v6 w6 ho hg hn hbb)
    have hup := up_alloc w4 (.cells #[.int .i64 kd, .int .u64 n1, .int .u64 n2, .int .u64 n3, .int .u64 m1, .int .u64 m2, .int .u64 m3, .slice u2 r70.length k2] 42)
    have e4 := HB4.out.size
    have HB6 : Hid (Below w.heap.size w w6) := below_app (HB4.out.trans (hup.mono e4)) HO5.out hg (Nat.le_refl _) (by simp; omega)
    have HAK : Hid (akc (cutK ak, .slice u2 r70.length k2) = [.int .i64 kd, .int .u64 n1, .int .u64 n2, .int .u64 n3, .int .u64 m1, .int .u64 m2, .int .u64 m3, .slice u2 r70.length k2]) := by
      show _ = _
      rw [HCUT.out]
      simp only [akc, tc, HN1.out, HN2.out, HN3.out, HM1.out, HM2.out, HM3.out, HKD.out]
      rfl
    have HO6 : Hid (w6.ownsRow w.heap.size 42 8 v6 (L ++ [((cutK ak, .slice u2 r70.length k2) : Kq)]).length (akcs (L ++ [((cutK ak, .slice u2 r70.length k2) : Kq)]))) := by
      rw [akcs_app, List.length_append, List.length_singleton, show akcs [((cutK ak, .slice u2 r70.length k2) : Kq)] = akc (cutK ak, .slice u2 r70.length k2) by simp [akcs], HAK.out]
      exact ho
    have HR6 : Hid (∀ q ∈ L ++ [((cutK ak, .slice u2 r70.length k2) : Kq)], Rgs A w q.2 q.1.rs) := fun q hq => by
      rw [List.mem_append, List.mem_singleton] at hq
      rcases hq with hq | rfl
      · exact HR.out q hq
      · show Rgs _ _ _ (cutK ak).rs
        rw [HCUT.out]
        exact HX.out
    have HM6 : Hid ((L ++ [((cutK ak, .slice u2 r70.length k2) : Kq)]).map (·.1) = (l.take (k + 1)).map cutK) := by
      show _ = _
      rw [List.map_append, HM.out, ← HTK.out]; rfl
    have HL6 : Hid ((L ++ [((cutK ak, .slice u2 r70.length k2) : Kq)]).length = k + 1) := by show _ = _; rw [List.length_append, HLk.out]; rfl
    obtain ⟨a6, c6, e6⟩ := own_sliceN ho
    have E6 : Hid (v6 = .slice a6 (k + 1) c6) := by show _ = _; rw [e6, HLk.out]
    rw [E6.out] at HO6
    clear ho hg hn hbb hup e4 e6 x0 x1 x2 x3 x4 x5 x6 x7
    go_wp2_with fail
    go_roundw
    case rel => exact ⟨k + 1, _, a6, c6, by omega, by omega, by go_num, E6.out, HL6, HM6, HO6, HR6, HB6⟩
    case measure => simp [intOf]; omega
end Go.Proofs.Yteejlmeinndlhaa
