/- slices.IndexFunc and DeleteFunc with the closure of Rivals; Rivals. -/
import Derived.Test.YteejlmeinndlhaaLY
set_option linter.unusedVariables false
set_option linter.unusedSimpArgs false
namespace Go.Proofs.Yteejlmeinndlhaa
open Go.RowKit Go.Maps
attribute [local go_sem ↓] Go.wp_at_zero Go.wp_at_succ
def PrT (X : Nat → Prop) (w : World) (px pt pr : Nat) (p : Tx → Bool) : Prop := ∀ wz, Wb X w wz → ∀ y : Tx, Calls Try.prog 42 #[tv y, .pointer (some ⟨px, 0, none⟩), .pointer (some ⟨pt, 0, none⟩), .pointer (some ⟨pr, 0, none⟩)] wz fun e w' => e = .returned (.bool (p y)) ∧ Below wz.heap.size wz w'
set_option maxHeartbeats 1000000 in
theorem ix42 {X : Nat → Prop} {B px pt pr : Nat} {w : World} {v : Value} {l : List Tx} {p : Tx → Bool} (h : Ot B w v l) (hp : PrT X w px pt pr p) (hlm : l.length ≤ 1000000) :
    Calls Try.prog 57 #[v, .func (.func 42) #[] #[.pointer (some ⟨px, 0, none⟩), .pointer (some ⟨pt, 0, none⟩), .pointer (some ⟨pr, 0, none⟩)]] w fun e w' => (∃ k : Int, e = .returned (.int .i64 k) ∧ Hid (k = -1 ∧ (∀ s ∈ l, p s = false) ∨ ∃ j : Nat, k = j ∧ ∃ h : j < l.length, p l[j] = true ∧ ∀ s ∈ l.take j, p s = false)) ∧ Below w.heap.size w w' := by
  obtain ⟨a, c, rfl, hc, H⟩ := h.at
  have H := Hid.mk' H
  have HP := Hid.mk' hp
  have hl' : (l.length : Int) ≤ 1000000 := by omega
  clear h hp hlm
  go_enter Try.func57, Try.ntmps57
  go_wp2_with fail
  go_loopw [8] (fun i wr => ∃ k : Nat, k ≤ l.length ∧ i = .int .i64 k ∧ Hid (∀ s ∈ l.take k, p s = false) ∧ Hid (Below w.heap.size w wr)) (fun i _ => l.length - (intOf i).toNat)
  case atStart => exact ⟨0, by omega, rfl, Hid.mk' (by simp), Below.refl _ _⟩
  case round =>
    obtain ⟨k, hk, rfl, HF, HB⟩ := hrel
    by_cases hlt : k < l.length
    · have hlt' : (k : Int) < (l.length : Int) := by omega
      obtain ⟨g, rfl, _, ⟨c0, c1, c2⟩⟩ := H.out k hlt
      have c0 := cell_up c0 HB.out
      have c1 := cell_up c1 HB.out
      have c2 := cell_up c2 HB.out
      have HC : Hid (Calls Try.prog 42 #[.agg #[.int .u64 (l[k].1.toNat : Int), .int .u64 (l[k].2.1.toNat : Int), .int .u64 (l[k].2.2.toNat : Int)], .pointer (some ⟨px, 0, none⟩), .pointer (some ⟨pt, 0, none⟩), .pointer (some ⟨pr, 0, none⟩)] wr fun e w' => e = .returned (.bool (p l[k])) ∧ Below wr.heap.size wr w') := HP.out wr (Wb.of_below _ HB.out) l[k]
      generalize (l[k].1.toNat : Int) = n1 at *
      generalize (l[k].2.1.toNat : Int) = n2 at *
      generalize (l[k].2.2.toNat : Int) = n3 at *
      cases hd : p l[k] with
      | true =>
        rw [hd] at HC
        have HR : Hid ((k : Int) = -1 ∧ (∀ s ∈ l, p s = false) ∨ ∃ j : Nat, (k : Int) = j ∧ ∃ h : j < l.length, p l[j] = true ∧ ∀ s ∈ l.take j, p s = false) := .inr ⟨k, rfl, hlt, hd, HF.out⟩
        clear hd
        go_wp2_with fail
        refine HC.out.mono ?_
        rintro e w' ⟨rfl, hb⟩
        have HB2 := Hid.mk' (bt HB.out hb)
        clear hb
        go_wp2_with fail
        go_ret
        exact ⟨⟨_, rfl, HR⟩, HB2.out⟩
      | false =>
        rw [hd] at HC
        have HT2 : Hid (∀ s ∈ l.take (k + 1), p s = false) := fun s hs => by
          rw [List.take_succ_eq_append_getElem hlt, List.mem_append, List.mem_singleton] at hs
          rcases hs with hs | rfl
          · exact HF.out s hs
          · exact hd
        clear hd
        go_wp2_with fail
        refine HC.out.mono ?_
        rintro e w' ⟨rfl, hb⟩
        have HB2 := Hid.mk' (bt HB.out hb)
        clear hb
        go_wp2_with fail
        go_roundw
        case rel => exact ⟨k + 1, by omega, by go_num, HT2, HB2⟩
        case measure => simp [intOf]; omega
    · obtain rfl : k = l.length := by omega
      have HL2 : Hid (∀ s ∈ l, p s = false) := by have := HF.out; rwa [List.take_length] at this
      go_wp2_with fail
      go_ret
      exact ⟨⟨_, rfl, Hid.mk' (.inl ⟨rfl, HL2.out⟩)⟩, HB.out⟩
theorem stay_all {p : Tx → Bool} {l : List Tx} (h : ∀ s ∈ l, p s = false) : Stay p l = l := List.filter_eq_self.2 fun s hs => by rw [h s hs]; rfl
theorem Ot.form {B : Nat} {w : World} {v : Value} {l : List Tx} (h : Ot B w v l) (hl : 0 < l.length) : ∃ g cap, v = .slice (some ⟨g, 0, none⟩) l.length cap ∧ l.length ≤ cap ∧ B ≤ g ∧ g < w.heap.size := by
  obtain ⟨a, c, e, hc, H⟩ := h.at
  obtain ⟨g, rfl, ⟨h1, h2⟩, _⟩ := H 0 hl
  exact ⟨g, c, e, hc, h1, h2⟩
theorem Ot.cells {B g n cap : Nat} {w : World} {l : List Tx} (h : Ot B w (.slice (some ⟨g, 0, none⟩) n cap) l) (j : Nat) (hj : j < l.length) : w.cell? ⟨g, j * 3, none⟩ = some (.int .u64 (l[j].1.toNat : Int)) ∧ w.cell? ⟨g, j * 3 + 1, none⟩ = some (.int .u64 (l[j].2.1.toNat : Int)) ∧ w.cell? ⟨g, j * 3 + 2, none⟩ = some (.int .u64 (l[j].2.2.toNat : Int)) := by
  obtain ⟨a, c, e, hc, H⟩ := h.at
  obtain ⟨g', he, _, H⟩ := H j hj
  simp only [Value.slice.injEq] at e
  obtain ⟨e1, _, _⟩ := e
  rw [he] at e1
  cases e1
  exact H
theorem wb3 (g a b c : Nat) (x y z : Value) (w : World) : Wb (fun k => k = g) w (((w.setCell ⟨g, a, none⟩ x).setCell ⟨g, b, none⟩ y).setCell ⟨g, c, none⟩ z) :=
  ((Wb.set (X := fun k => k = g) _ _ _ _ rfl).trans (Wb.set _ _ _ _ rfl)).trans (Wb.set _ _ _ _ rfl)
set_option maxRecDepth 100000 in
set_option maxHeartbeats 2000000 in
theorem del42 {B px pt pr : Nat} {w : World} {v : Value} {l : List Tx} {p : Tx → Bool} (h : Ot B w v l) (hp : PrT (fun k => v.ownBlock = some k) w px pt pr p) (hlm : l.length ≤ 1000000) :
    Calls Try.prog 41 #[v, .func (.func 42) #[] #[.pointer (some ⟨px, 0, none⟩), .pointer (some ⟨pt, 0, none⟩), .pointer (some ⟨pr, 0, none⟩)]] w fun e w' => ∃ v', e = .returned v' ∧ Ot B w' v' (Stay p l) ∧ Wb (fun k => v.ownBlock = some k) w w' := by
  have HI := Hid.mk' (ix42 h hp hlm)
  have HP := Hid.mk' hp
  have HS := Hid.mk' h
  obtain ⟨ao, c, rfl⟩ := own_sliceN h
  have hl' : (l.length : Int) ≤ 1000000 := by omega
  clear h hp
  go_enter Try.func41, Try.ntmps41
  go_wp2_with fail
  refine HI.out.mono ?_
  rintro e w1 ⟨⟨k, rfl, HK⟩, hb1⟩
  clear HI
  have HB1 := Hid.mk' hb1
  have HS1 := Hid.mk' (HS.out.up hb1)
  rcases HK.out with ⟨rfl, hall⟩ | ⟨j, rfl, hj, hjp, hbef⟩
  · have HA := Hid.mk' (stay_all hall)
    clear HK hall hb1
    go_wp2_with fail
    go_ret
    exact ⟨_, rfl, by rw [HA.out]; exact HS1.out, Wb.of_below _ HB1.out⟩
  · have HR : Hid (DelT p l l j (j + 1)) := ⟨rfl, by omega, by omega, by rw [List.take_succ_eq_append_getElem hj, Stay, List.filter_append]; have := stay_all hbef; unfold Stay at this; rw [this]; simp [hjp], rfl⟩
    have hj' : (j : Int) < (l.length : Int) := by omega
    have hne : ((j : Int) == -1) = false := by rw [beq_eq_false_iff_ne]; omega
    obtain ⟨g, cap, ef, hcap, hBg, hgw⟩ := HS.out.form (by omega)
    simp only [Value.slice.injEq, true_and] at ef
    obtain ⟨rfl, rfl⟩ := ef
    have HG : Hid (B ≤ g ∧ g < w.heap.size) := ⟨hBg, hgw⟩
    clear HK hbef hjp hb1 hBg hgw HS
    go_wp2_with fail
    go_loopw [5, 6] (fun i t wr => ∃ (i' t' : Nat) (l' : List Tx), i = .int .i64 i' ∧ t = .int .i64 t' ∧ t' ≤ l.length ∧ i' < t' ∧ Hid (DelT p l l' i' t') ∧ Hid (Ot B wr (.slice (some ⟨g, 0, none⟩) l.length c) l') ∧ Hid (Wb (fun k => k = g) w wr)) (fun _ t _ => l.length - (intOf t).toNat)
    case atStart => exact ⟨j, j + 1, l, rfl, by go_num, by omega, by omega, HR, HS1, Wb.of_below _ HB1.out⟩
    case round =>
      clear HR HS1 hj hj' hne HB1
      obtain ⟨i, t, l', rfl, rfl, hts, hit, HR, HS, HW⟩ := hrel
      by_cases hlt : t < l.length
      · have hlt' : (t : Int) < (l.length : Int) := by omega
        have hit' : (i : Int) < (l.length : Int) := by omega
        obtain ⟨h5, h6⟩ := HR.out.get hlt
        obtain ⟨c0, c1, c2⟩ := HS.out.cells t h5
        rw [h6] at c0 c1 c2
        have HLN : Hid (l'.length = l.length) := HR.out.1
        obtain ⟨W, hW, hbW, hcW⟩ := one_box wr (.int .u64 (l[t].1.toNat : Int)) (.int .u64 (l[t].2.1.toNat : Int)) (.int .u64 (l[t].2.2.toNat : Int)) 30
        have HBW := Hid.mk' hbW
        have HCW := Hid.mk' hcW
        have hgr : g < wr.heap.size := Nat.lt_of_lt_of_le HG.out.2 HW.out.size
        have HPQ : Hid (Calls Try.prog 42 #[.agg #[.int .u64 (l[t].1.toNat : Int), .int .u64 (l[t].2.1.toNat : Int), .int .u64 (l[t].2.2.toNat : Int)], .pointer (some ⟨px, 0, none⟩), .pointer (some ⟨pt, 0, none⟩), .pointer (some ⟨pr, 0, none⟩)] W fun e w' => e = .returned (.bool (p l[t])) ∧ Below W.heap.size W w') := HP.out W ((HW.out.trans (Wb.of_below _ hbW)).mono fun k hk => by subst hk; rfl) l[t]
        have HST : Hid (∀ wz, Below wr.heap.size wr wz → (∃ z0 z1 z2, wz.cell? ⟨g, i * 3, none⟩ = some z0 ∧ wz.cell? ⟨g, i * 3 + 1, none⟩ = some z1 ∧ wz.cell? ⟨g, i * 3 + 2, none⟩ = some z2) ∧ (∀ j, wz.frozen? ⟨g, j, none⟩ = false) ∧ Ot B (((wz.setCell ⟨g, i * 3, none⟩ (.int .u64 (l[t].1.toNat : Int))).setCell ⟨g, i * 3 + 1, none⟩ (.int .u64 (l[t].2.1.toNat : Int))).setCell ⟨g, i * 3 + 2, none⟩ (.int .u64 (l[t].2.2.toNat : Int))) (.slice (some ⟨g, 0, none⟩) l.length c) (l'.set i l[t])) := fun wz hz => by
          have hs := HS.out.up hz
          obtain ⟨z0, z1, z2⟩ := hs.cells i (by rw [HLN.out]; omega)
          exact ⟨⟨_, _, _, z0, z1, z2⟩, fun j => hs.frozen j, hs.set i (by rw [HLN.out]; omega) l[t]⟩
        have hpt : p l[t] = true ∨ p l[t] = false := by cases p l[t] <;> simp
        have HPUT : Hid (p l[t] = false → DelT p l (l'.set i l[t]) (i + 1) (t + 1)) := fun hd => HR.out.put hlt hd
        have HSKIP : Hid (p l[t] = true → DelT p l l' i (t + 1)) := fun hd => HR.out.skip hlt hd
        clear hbW hcW h6
        generalize l'.set i l[t] = l2 at *
        generalize p l[t] = d at *
        generalize (l[t].1.toNat : Int) = n1 at *
        generalize (l[t].2.1.toNat : Int) = n2 at *
        generalize (l[t].2.2.toNat : Int) = n3 at *
        go_wp2_with fail
        rw [← hW]
        clear hW
        obtain ⟨b0, b1, b2⟩ := HCW.out W (Below.refl _ _)
        go_wp2_with fail
        refine HPQ.out.mono ?_
        rintro e w2 ⟨rfl, hb2⟩
        have HB2 := Hid.mk' (bt HBW.out hb2)
        obtain ⟨b0, b1, b2⟩ := HCW.out w2 hb2
        obtain ⟨⟨z0, z1, z2, k0, k1, k2⟩, hfz, hot⟩ := HST.out w2 HB2.out
        have f0 := hfz (i * 3)
        have f1 := hfz (i * 3 + 1)
        have f2 := hfz (i * 3 + 2)
        have HOT := Hid.mk' hot
        have HSU := Hid.mk' (HS.out.up HB2.out)
        have HW2 := Hid.mk' (HW.out.trans (Wb.of_below (fun k => k = g) HB2.out))
        clear hb2 hfz hot HPQ HCW
        rcases hpt with rfl | rfl
        · have HR2 := Hid.mk' (HSKIP.out rfl)
          clear HPUT HSKIP
          go_wp2_with fail
          go_roundw
          case rel => exact ⟨i, t + 1, l', rfl, by go_num, by omega, by omega, HR2, HSU, HW2⟩
          case measure => simp [intOf]; omega
        · have HR2 := Hid.mk' (HPUT.out rfl)
          have HW3 := Hid.mk' (HW2.out.trans (wb3 g (i * 3) (i * 3 + 1) (i * 3 + 2) (.int .u64 n1) (.int .u64 n2) (.int .u64 n3) w2))
          clear HPUT HSKIP
          go_wp2_with fail
          go_roundw
          case rel => exact ⟨i + 1, t + 1, _, by go_num, by go_num, by omega, by omega, HR2, HOT, HW3⟩
          case measure => simp [intOf]; omega
      · obtain rfl : t = l.length := by omega
        have S1 := s25_lo wr g l.length c i hit hcap
        have HLN : Hid (l'.length = l.length) := HR.out.1
        have C1 : ∀ ty, (Builtin.clear_ #[25] ty #[.slice (some ⟨g, i * 3, none⟩) (l.length - i) (c - i)]).run Try.prog wr = .ok (.tuple #[]) (wr.setCells g (i * 3) (List.replicate ((l.length - i) * 3) (.int .u64 0))) := fun ty =>
          run_clear3 wr 25 30 ty (.int .u64 0) Try.underlying25 zero30 rfl g (i * 3) (l.length - i) (c - i) (by omega) (fun t ht => by
            have e := World.ownsRow.cellAt (show wr.ownsRow B 30 3 (.slice (some ⟨g, 0, none⟩) l.length c) l.length (txs l') by have := HS.out; unfold Ot at this; rw [HLN.out] at this; exact this) (i * 3 + t) (by omega)
            rw [e, List.getElem?_eq_getElem (by rw [txs_len, HLN.out]; omega)]; rfl) (fun t ht => HS.out.frozen _)
        have hsr : wr.ownsRow B 30 3 (.slice (some ⟨g, 0, none⟩) l.length c) l.length (txs l') := by have := HS.out; unfold Ot at this; rw [HLN.out] at this; exact this
        obtain ⟨xs, hs2, ht2⟩ := own_cleared (List.replicate ((l.length - i) * 3) (.int .u64 0)) wr (txs l') (i * 3) hsr
        have X2 := HW.out.trans (setCells_wb (b := g) (List.replicate ((l.length - i) * 3) (.int .u64 0)) (i * 3) wr)
        obtain ⟨W2, hW2⟩ : ∃ W2, W2 = wr.setCells g (i * 3) (List.replicate ((l.length - i) * 3) (.int .u64 0)) := ⟨_, rfl⟩
        rw [← hW2] at C1 hs2 X2
        have S2 := s25_hi W2 g l.length c i (by omega) hcap (by omega)
        have HF : Hid (Ot B W2 (.slice (some ⟨g, 0, none⟩) i c) (Stay p l)) := by
          have h7 := own_pre3 hs2 (m := i) (by omega)
          rw [ht2, txs_take, HR.out.2.2.2.1, List.take_length] at h7
          have h8 : (Stay p l).length = i := by
            have := congrArg List.length HR.out.2.2.2.1
            rw [List.length_take, HLN.out, List.take_length] at this
            omega
          unfold Ot
          rw [h8]
          exact h7
        have X2 := Hid.mk' X2
        clear hW2 hs2 ht2 hsr
        go_wp2_with fail
        go_ret
        exact ⟨_, rfl, HF.out, X2.out.mono fun k hk => by subst hk; rfl⟩
/-- the rivals -/
def rivT (T : Tb) (x : Tx) (l : List Rg) : List Tx := Stay (noRiv T x l) (T.map (·.1))
set_option maxRecDepth 100000 in
set_option maxHeartbeats 2000000 in
/-- Rivals -/
theorem rivals_any {M D A : Nat → Prop} {w : World} {b : Nat} {T : Tb} {x : Tx} {v : Value} {l : List Rg} (h : TbIs M D w b T) (hv : Rgs A w v l) (hn : T.length ≤ 1000000) :
    Calls Try.prog 18 #[.pointer (some ⟨b, 0, none⟩), tv x, v] w fun e w' => ∃ v', e = .returned v' ∧ Ot w.heap.size w' v' (rivT T x l) ∧ Below w.heap.size w w' := by
  obtain ⟨W, hW⟩ : ∃ W, W = ((w.alloc (.cells #[.pointer (some ⟨b, 0, none⟩)] 72)).alloc (.cells #[.int .u64 (x.1.toNat : Int), .int .u64 (x.2.1.toNat : Int), .int .u64 (x.2.2.toNat : Int)] 30)).alloc (.cells #[v] 40) := ⟨_, rfl⟩
  have hs : W.heap.size = w.heap.size + 1 + 1 + 1 := by rw [hW]; simp
  have hb : Below w.heap.size w W := by rw [hW]; exact bt (up_alloc _ _) (bt (up_alloc _ _) (up_alloc _ _))
  have e0 : W.heap[w.heap.size]? = some (.cells #[.pointer (some ⟨b, 0, none⟩)] 72 (0, 0)) := by
    rw [hW, (up_alloc _ _).block _ (by simp; omega), (up_alloc _ _).block _ (by simp)]; exact heap_alloc_new w _
  have e1 : W.heap[w.heap.size + 1]? = some (.cells #[.int .u64 (x.1.toNat : Int), .int .u64 (x.2.1.toNat : Int), .int .u64 (x.2.2.toNat : Int)] 30 (0, 0)) := by
    rw [hW, (up_alloc _ _).block _ (by simp)]; have := heap_alloc_new (w.alloc (.cells #[.pointer (some ⟨b, 0, none⟩)] 72)) (.cells #[.int .u64 (x.1.toNat : Int), .int .u64 (x.2.1.toNat : Int), .int .u64 (x.2.2.toNat : Int)] 30); rwa [World.size_alloc] at this
  have e2 : W.heap[w.heap.size + 1 + 1]? = some (.cells #[v] 40 (0, 0)) := by
    rw [hW]; have := heap_alloc_new ((w.alloc (.cells #[.pointer (some ⟨b, 0, none⟩)] 72)).alloc (.cells #[.int .u64 (x.1.toNat : Int), .int .u64 (x.2.1.toNat : Int), .int .u64 (x.2.2.toNat : Int)] 30)) (.cells #[v] 40); rwa [World.size_alloc, World.size_alloc] at this
  have hA := Hid.mk' (all_any (h.below hb) hn)
  have HP : Hid (∀ w1 va, Below W.heap.size W w1 → Ot W.heap.size w1 va (T.map (·.1)) → PrT (fun k => va.ownBlock = some k) w1 (w.heap.size + 1) w.heap.size (w.heap.size + 1 + 1) (noRiv T x l)) := by
    intro w1 va h1 h2 wz hz y
    have hX : ∀ k, va.ownBlock = some k → W.heap.size ≤ k := fun k hk => (World.ownsRow.lt h2 k hk).1
    have hwz : Below W.heap.size W wz := by
      refine ⟨hz.os.trans h1.os, hz.tape.trans h1.tape, hz.output.trans h1.output, Nat.le_trans h1.size hz.size, fun k hk => ?_⟩
      rw [hz.block k (Nat.lt_of_lt_of_le hk h1.size) fun e => by have := hX k e; omega, h1.block k hk]
    have hb' := bt hb hwz
    have c0 := (hwz.block _ (by omega)).trans e0
    have c1 := (hwz.block _ (by omega)).trans e1
    have c2 := (hwz.block _ (by omega)).trans e2
    exact c42 (h.below hb') (box3 c1) (cell_of_box_a c0).1 (cell_of_box_a c2).1 (hv.up hb')
  have HB := Hid.mk' hb
  have c0 := (cell_of_box_a e0).1
  obtain ⟨va, vc, rfl⟩ := hv.sl
  have HN := Hid.mk' hn
  clear h hv hb e0 e1 e2 hn
  generalize l.length = nl at *
  show Calls Try.prog 18 #[.pointer (some ⟨b, 0, none⟩), .agg #[.int .u64 (x.1.toNat : Int), .int .u64 (x.2.1.toNat : Int), .int .u64 (x.2.2.toNat : Int)], .slice va nl vc] w _
  generalize (x.1.toNat : Int) = n1 at *
  generalize (x.2.1.toNat : Int) = n2 at *
  generalize (x.2.2.toNat : Int) = n3 at *
  go_enter Try.func18, Try.ntmps18
  go_wp2_with fail
  rw [← hW]
  clear hW
  refine hA.out.mono ?_
  rintro e w1 ⟨u, rfl, ho, hb1⟩
  have HPR := HP.out w1 u hb1 ho
  have HD := Hid.mk' (del42 ho HPR (by rw [List.length_map]; exact HN.out))
  have HX := Hid.mk' (show ∀ k, u.ownBlock = some k → W.heap.size ≤ k from fun k hk => (World.ownsRow.lt ho k hk).1)
  have HB1 := Hid.mk' (bt HB.out hb1)
  obtain ⟨ua, uc, eu⟩ := own_sliceN ho
  rw [List.length_map] at eu
  subst eu
  clear ho HPR hb1 HP hA
  go_wp2_with fail
  refine HD.out.mono ?_
  rintro e w2 ⟨u2, rfl, ho, hw2⟩
  have HO : Hid (Ot w.heap.size w2 u2 (rivT T x l)) := ho.mono (by omega)
  have HB2 : Hid (Below w.heap.size w w2) := HB1.out.trans (hw2.below HB1.out.size fun k hk => by have := HX.out k hk; omega)
  obtain ⟨ub, ud, eu⟩ := own_sliceN ho
  subst eu
  clear ho hw2 HD
  go_wp2_with fail
  go_ret
  exact ⟨_, rfl, HO.out, HB2.out⟩
end Go.Proofs.Yteejlmeinndlhaa
