/- pack.Reader: Read, Left, Close. pack.Reader.Num. pack, plain: what was put is read back. pack.Reader.Text. pack.Split of what was joined. -/
import Derived.Test.YtbmhkdcmepfmbaaGreatB04
import Derived.Test.YtbmhkdcmepfmbaaGreatB05
set_option linter.unusedVariables false
set_option linter.unusedSimpArgs false
namespace Go.Proofs.YtbmhkdcmepfmbaaGreat
open Go.RowKit
attribute [local go_sem ↓] Go.wp_at_zero Go.wp_at_succ
/-- a reader at block g: its bytes, its place, its error -/
def Rdr (w : World) (g : Nat) (l : List UInt8) (at' : Nat) (er : Int) : Prop := ∃ a c, w.heap[g]? = some (.cells #[.slice a l.length c, .int .i64 (at' : Int), .int .i64 er] 144 (0, 0)) ∧ Bs (Lt g) w (.slice a l.length c) l ∧ at' ≤ l.length
theorem Rdr.up {g at' : Nat} {w w' : World} {l : List UInt8} {er : Int} (h : Rdr w g l at' er) (hb : Below w.heap.size w w') : Rdr w' g l at' er := by
  obtain ⟨a, c, h1, h2, h3⟩ := h
  exact ⟨a, c, (hb.block g (Array.getElem?_eq_some_iff.1 h1).1).trans h1, h2.up hb, h3⟩
theorem bx3 {w : World} {b : Nat} {c0 c1 c2 : Value} {e : TypeId} (h : w.heap[b]? = some (.cells #[c0, c1, c2] e (0, 0))) : w.cell? ⟨b, 0, none⟩ = some c0 ∧ w.cell? ⟨b, 1, none⟩ = some c1 ∧ w.cell? ⟨b, 2, none⟩ = some c2 := by
  refine ⟨?_, ?_, ?_⟩ <;> simp [World.cell?, h]
set_option maxRecDepth 100000 in
set_option maxHeartbeats 2000000 in
/-- Read -/
theorem pread_any {A : Nat → Prop} {w : World} {v : Value} {l : List UInt8} (h : Bs A w v l) : Calls Tryz.prog 82 #[v] w fun e w' => ∃ g : Nat, e = .returned (.pointer (some ⟨g, 0, none⟩)) ∧ w.heap.size ≤ g ∧ Rdr w' g l 0 0 ∧ Below w.heap.size w w' := by
  have HC := Hid.mk' (clone_any v l w h)
  have HZ : Hid (l.length ≤ lim) := h.2
  obtain ⟨a, c, rfl, _, _, _⟩ := h.at
  clear h
  go_enter Tryz.func82, Tryz.ntmps82
  go_wp2_with fail
  refine HC.out.mono ?_
  rintro e w1 ⟨u, rfl, hb, ho⟩
  obtain ⟨a1, c1, rfl⟩ := own_slice ho
  have HE : Hid ((w1.alloc (.cells #[.slice a1 l.length c1, .int .i64 0, .int .i64 0] 144)).heap[w1.heap.size]? = some (.cells #[.slice a1 l.length c1, .int .i64 0, .int .i64 0] 144 (0, 0))) := heap_alloc_new _ _
  have HBS : Hid (Bs (Lt w1.heap.size) (w1.alloc (.cells #[.slice a1 l.length c1, .int .i64 0, .int .i64 0] 144)) (.slice a1 l.length c1) l) := (Ob.bs ho HZ.out).up (up_alloc _ _)
  have HS : Hid (w.heap.size ≤ w1.heap.size) := hb.size
  have HB := Hid.mk' (bt hb (up_alloc w1 (.cells #[.slice a1 l.length c1, .int .i64 0, .int .i64 0] 144)))
  clear hb ho HC
  go_wp2_with fail
  go_ret
  exact ⟨_, rfl, HS.out, ⟨_, _, HE.out, HBS.out, Nat.zero_le _⟩, HB.out⟩
set_option maxRecDepth 100000 in
set_option maxHeartbeats 2000000 in
/-- Left -/
theorem rleft_any {g at' : Nat} {w : World} {l : List UInt8} {er : Int} (h : Rdr w g l at' er) : Calls Tryz.prog 106 #[.pointer (some ⟨g, 0, none⟩)] w fun e w' => e = .returned (.int .i64 ((l.length : Int) - (at' : Int))) ∧ Dn w w' := by
  obtain ⟨a, c, h1, h2, h3⟩ := h
  obtain ⟨c0, c1, c2⟩ := bx3 h1
  have hl : (l.length : Int) ≤ 140737488351232 := by have := h2.2; unfold lim at this; omega
  have hat : (at' : Int) ≤ (l.length : Int) := by omega
  have hw : IntKind.i64.wrap ((l.length : Int) - (at' : Int)) = (l.length : Int) - (at' : Int) := by rw [IntKind.wrap_i64]; omega
  clear h1 h2 h3
  generalize l.length = n at *
  go_enter Tryz.func106, Tryz.ntmps106
  go_wp2_with fail
  go_quiet (fail)
  go_wp2_with fail
  go_ret
  exact ⟨rfl, (Dn.refl _).more _⟩
def clE (l : List UInt8) (at' : Nat) (er : Int) : Int := if er = 0 ∧ at' < l.length then 3 else er
set_option maxRecDepth 100000 in
set_option maxHeartbeats 2000000 in
/-- Close -/
theorem rclose_any {g at' : Nat} {w : World} {l : List UInt8} {er : Int} (h : Rdr w g l at' er) : Calls Tryz.prog 85 #[.pointer (some ⟨g, 0, none⟩)] w fun e w' => e = .returned (.int .i64 (clE l at' er)) ∧ Dn w w' := by
  have HL := Hid.mk' (rleft_any h)
  obtain ⟨a, c, h1, h2, h3⟩ := h
  have HE := Hid.mk' h1
  obtain ⟨c0, c1, c2⟩ := bx3 h1
  have HR : Hid (clE l at' er = if er = 0 ∧ at' < l.length then 3 else er) := rfl
  generalize clE l at' er = R at *
  by_cases h0 : er = 0
  · subst h0
    by_cases h4 : at' < l.length
    · have h4' : (0 : Int) < (l.length : Int) - (at' : Int) := by omega
      have HF : Hid (R = 3) := by show _ = _; rw [HR.out, if_pos ⟨rfl, h4⟩]
      clear HR h1 h2 h3 h4
      go_enter Tryz.func85, Tryz.ntmps85
      go_wp2_with fail
      refine HL.out.mono ?_
      rintro e w1 ⟨rfl, hd⟩
      have HD := Hid.mk' hd
      clear hd HL
      go_wp2_with fail
      go_ret
      exact ⟨by rw [HF.out] <;> rfl, HD.out⟩
    · have h4' : ¬ (0 : Int) < (l.length : Int) - (at' : Int) := by omega
      have HF : Hid (R = 0) := by show _ = _; rw [HR.out, if_neg fun h => h4 h.2]
      clear HR h1 h2 h3 h4
      go_enter Tryz.func85, Tryz.ntmps85
      go_wp2_with fail
      refine HL.out.mono ?_
      rintro e w1 ⟨rfl, hd⟩
      have HD := Hid.mk' hd
      have hE1 := ((hd.below w.heap.size).block g (Array.getElem?_eq_some_iff.1 HE.out).1).trans HE.out
      obtain ⟨d0, d1, d2⟩ := bx3 hE1
      clear hd HL hE1 c0 c1 c2
      go_wp2_with fail
      go_ret
      exact ⟨by rw [HF.out] <;> rfl, HD.out⟩
  · have h0' : (er == 0) = false := by simpa using h0
    have HF : Hid (R = er) := by show _ = _; rw [HR.out, if_neg fun h => h0 h.1]
    clear HR h1 h2 h3 h0 HL
    go_enter Tryz.func85, Tryz.ntmps85
    go_wp2_with fail
    go_ret
    exact ⟨by rw [HF.out] <;> rfl, Dn.refl _⟩
end Go.Proofs.YtbmhkdcmepfmbaaGreat
set_option linter.unusedVariables false
set_option linter.unusedSimpArgs false
namespace Go.Proofs.YtbmhkdcmepfmbaaGreat
open Go.RowKit
attribute [local go_sem ↓] Go.wp_at_zero Go.wp_at_succ
theorem bx3_fr {w : World} {b : Nat} {c0 c1 c2 : Value} {e : TypeId} (h : w.heap[b]? = some (.cells #[c0, c1, c2] e (0, 0))) (j : Nat) : w.frozen? ⟨b, j, none⟩ = false := by simp [World.frozen?, h]
theorem bx3_set {w : World} {b : Nat} {c0 c1 c2 : Value} {e : TypeId} (h : w.heap[b]? = some (.cells #[c0, c1, c2] e (0, 0))) (o : Nat) (u : Value) : (w.setCell ⟨b, o, none⟩ u).heap[b]? = some (.cells (#[c0, c1, c2].setIfInBounds o u) e (0, 0)) := heap_setCell_same w b o _ e u h
/-- what Num says, and where the reader stands then -/
def rnP (l : List UInt8) (a : Nat) (er : Int) : Nat × Nat × Int := if er ≠ 0 then (0, a, er) else if (tkP l a).2.2 ≠ 0 then (0, a, (tkP l a).2.2) else ((tkP l a).1, (tkP l a).2.1, 0)
theorem tkP_le {l : List UInt8} {a : Nat} (h : (tkP l a).2.2 = 0) : (tkP l a).2.1 ≤ l.length := by
  unfold tkP at h ⊢
  split
  · rename_i h1; rw [if_pos h1] at h; cases h
  · rename_i h1; rw [if_neg h1] at h
    split
    · rename_i h2; rw [if_pos h2] at h; cases h
    · rename_i h2; rw [if_neg h2] at h
      split
      · show a + 1 ≤ _; omega
      · rename_i h3; rw [if_neg h3] at h
        split
        · rename_i h4; rw [if_pos h4] at h; cases h
        · rename_i h4; rw [if_neg h4] at h
          split
          · rename_i h5; rw [if_pos h5] at h; cases h
          · show a + 1 + _ ≤ _; omega
theorem Rdr.set {g : Nat} {w w' : World} {l : List UInt8} {er' : Int} {a2 : Nat} {a : Option Addr} {c : Nat} (h2 : Bs (Lt g) w (.slice a l.length c) l) (hw : Wb (fun k => k = g) w w') (he : w'.heap[g]? = some (.cells #[.slice a l.length c, .int .i64 (a2 : Int), .int .i64 er'] 144 (0, 0))) (hl : a2 ≤ l.length) : Rdr w' g l a2 er' :=
  ⟨a, c, he, ⟨h2.1.wb hw fun k hk hA => by subst hk; exact Nat.lt_irrefl _ hA, h2.2⟩, hl⟩
set_option maxRecDepth 100000 in
set_option maxHeartbeats 2000000 in
/-- Reader.Num -/
theorem rnum_any {g at' : Nat} {w : World} {l : List UInt8} {er : Int} (h : Rdr w g l at' er) : Calls Tryz.prog 83 #[.pointer (some ⟨g, 0, none⟩)] w fun e w' => e = .returned (.int .u64 ((rnP l at' er).1 : Int)) ∧ Rdr w' g l (rnP l at' er).2.1 (rnP l at' er).2.2 ∧ Wb (fun k => k = g) w w' := by
  have H := Hid.mk' h
  obtain ⟨a, c, h1, h2, h3⟩ := h
  have HE := Hid.mk' h1
  have HBS := Hid.mk' h2
  obtain ⟨c0, c1, c2⟩ := bx3 h1
  have hg : g < w.heap.size := (Array.getElem?_eq_some_iff.1 h1).1
  have HG : Hid (g ≤ w.heap.size) := Nat.le_of_lt hg
  by_cases h0 : er = 0
  case neg =>
    have h0' : (er == 0) = false := by simpa using h0
    have h0'' : (er != 0) = true := by simpa using h0
    have HF : Hid (rnP l at' er = (0, at', er)) := by show _ = _; unfold rnP; rw [if_pos h0]
    clear h1 h2 h3 h0 hg
    go_enter Tryz.func83, Tryz.ntmps83
    go_wp2_with fail
    go_ret
    rw [HF.out]
    exact ⟨rfl, H.out, Wb.refl _ _⟩
  subst h0
  have HT := Hid.mk' (take_any (h2.up (drew_blx w _)) at' (Nat.le_trans h3 h2.2))
  have s0 : ∀ q : Kp (fun _ => False) w, q.nx.cell? ⟨g, 0, none⟩ = some _ := fun q => q.cell c0 id
  have s1 : ∀ q : Kp (fun _ => False) w, q.nx.cell? ⟨g, 1, none⟩ = some _ := fun q => q.cell c1 id
  have HP : Hid (rnP l at' 0 = if (tkP l at').2.2 ≠ 0 then (0, at', (tkP l at').2.2) else ((tkP l at').1, (tkP l at').2.1, 0)) := by show _ = _; unfold rnP; rw [if_neg (by simp)]
  have HLE : Hid ((tkP l at').2.2 = 0 → (tkP l at').2.1 ≤ l.length) := tkP_le
  have H3 := Hid.mk' h3
  clear h1 h2 h3 hg
  generalize rnP l at' 0 = R at *
  generalize tkP l at' = t at *
  obtain ⟨tn, ta, te⟩ := t
  go_enter Tryz.func83, Tryz.ntmps83
  go_upto_region 3 with fail
  refine wp_region_mox 16 (fun w' => ∃ q : Kp (fun _ => False) w, w' = q.nx) (by kernel_rfl) (by kernel_rfl) (kp_first _ w) ?_
  simp only [List.take_succ_cons, List.take_zero, List.drop_succ_cons, List.drop_zero]
  refine mx_take 8 rfl ?_
  simp only [List.take_succ_cons, List.take_zero, List.drop_succ_cons, List.drop_zero]
  repeat (go_big_quiet_step (fail))
  refine wpQuiet_nil ?_
  refine mx_call (vals := [.slice a l.length c, .int .i64 (at' : Int)]) Tryz.func60 (by kernel_rfl) rfl rfl (by kernel_rfl) (by kernel_rfl) HT.out (fun E wc hc => ?_)
  obtain ⟨rfl, rfl⟩ := hc
  refine ⟨_, rfl, kp_first _ w, ?_⟩
  simp only [tkV, Act.put, List.setIfInBounds_toArray, List.set_cons_succ, List.set_cons_zero]
  refine mx_take 7 rfl ?_
  simp only [List.take_succ_cons, List.take_zero, List.drop_succ_cons, List.drop_zero]
  repeat (go_big_quiet_step (fail))
  refine wpQuiet_nil ?_
  simp only [wpMix]
  clear s0 s1 HT
  have HE2 : Hid (w.drew.heap[g]? = some (.cells #[.slice a l.length c, .int .i64 (at' : Int), .int .i64 0] 144 (0, 0))) := HE.out
  have HB2 := Hid.mk' (HBS.out.up (drew_blx w _))
  have HG2 : Hid (Wb (fun k => k = g) w w.drew) := Wb.of_below _ (drew_blx w _)
  have HGD : Hid (g ≤ w.drew.heap.size) := HG.out
  obtain ⟨d0, d1, d2⟩ := bx3 HE2.out
  have f1 := bx3_fr HE2.out 1
  have f2 := bx3_fr HE2.out 2
  clear c0 c1 c2
  generalize w.drew = wd at *
  by_cases h5 : te = 0
  · subst h5
    have HF : Hid (R = (tn, ta, 0)) := by show _ = _; rw [HP.out, if_neg (by simp)]
    have hw7 := Wb.set (X := fun k => k = g) wd g 1 (.int .i64 (ta : Int)) rfl
    have HR7 : Hid (Rdr (wd.setCell ⟨g, 1, none⟩ (.int .i64 (ta : Int))) g l ta 0) := Rdr.set HB2.out hw7 (bx3_set HE2.out 1 _) (HLE.out rfl)
    have HB7 := Hid.mk' (HG2.out.trans hw7)
    clear hw7
    go_wp2_with fail
    go_ret
    rw [HF.out]
    exact ⟨rfl, HR7.out, HB7.out⟩
  · have h5' : (te == 0) = false := by simpa using h5
    have h5'' : (te != 0) = true := by simpa using h5
    have HF : Hid (R = (0, at', te)) := by show _ = _; rw [HP.out, if_pos (by simpa using h5)]
    have hw7 := Wb.set (X := fun k => k = g) wd g 2 (.int .i64 te) rfl
    have HR7 : Hid (Rdr (wd.setCell ⟨g, 2, none⟩ (.int .i64 te)) g l at' te) := Rdr.set HB2.out hw7 (bx3_set HE2.out 2 _) H3.out
    have HB7 := Hid.mk' (HG2.out.trans hw7)
    clear hw7 h5
    go_wp2_with fail
    go_ret
    rw [HF.out]
    exact ⟨rfl, HR7.out, HB7.out⟩
end Go.Proofs.YtbmhkdcmepfmbaaGreat
set_option linter.unusedVariables false
set_option linter.unusedSimpArgs false
namespace Go.Proofs.YtbmhkdcmepfmbaaGreat
open Go.RowKit
theorem vl_be (n : Nat) : vl 0 (be n) = n := by
  induction n using Nat.strongRecOn with
  | _ n ih =>
    by_cases h : n = 0
    · subst h; rw [be_zero]; rfl
    · rw [be_pos h, vl_app, ih (n / 256) (by omega)]
      show n / 256 * 256 + (UInt8.ofNat (n % 256)).toNat = n
      rw [UInt8.toNat_ofNat']
      omega
theorem be_head {n : Nat} (h : n ≠ 0) : ∃ c r, be n = c :: r ∧ c ≠ 0 := by
  induction n using Nat.strongRecOn with
  | _ n ih =>
    by_cases h0 : n / 256 = 0
    · refine ⟨UInt8.ofNat (n % 256), [], by rw [be_pos h, h0, be_zero]; rfl, fun e => ?_⟩
      have := congrArg UInt8.toNat e
      rw [UInt8.toNat_ofNat'] at this
      have h2 : (0 : UInt8).toNat = 0 := rfl
      omega
    · obtain ⟨c, r, h1, h2⟩ := ih (n / 256) (by omega) h0
      exact ⟨c, r ++ [UInt8.ofNat (n % 256)], by rw [be_pos h, h1]; rfl, h2⟩
/-- a number is read back where it was put -/
theorem tk_nm (pre post : List UInt8) {n : Nat} (h : n < 18446744073709551616) : tkP (pre ++ (nm n ++ post)) pre.length = (n, pre.length + (nm n).length, 0) := by
  have hk := be_len 8 n h
  unfold nm
  by_cases h1 : n ≤ 247
  · rw [if_pos h1]
    have hg : ((pre ++ ([UInt8.ofNat n] ++ post)).getD pre.length 0).toNat = n := by
      simp [List.getD]
      omega
    unfold tkP
    rw [if_neg (by simp), if_neg (by simp), if_pos (by rw [hg]; exact h1), hg]
    rfl
  · rw [if_neg h1]
    obtain ⟨c, r, e, hc⟩ := be_head (show n ≠ 0 by omega)
    have hk1 : 0 < (be n).length := by rw [e]; simp
    have hg : ((pre ++ (UInt8.ofNat (247 + (be n).length) :: be n ++ post)).getD pre.length 0).toNat = 247 + (be n).length := by
      simp [List.getD]
      omega
    have hl : (pre ++ (UInt8.ofNat (247 + (be n).length) :: be n ++ post)).length = pre.length + 1 + (be n).length + post.length := by simp; omega
    have hd : ((pre ++ (UInt8.ofNat (247 + (be n).length) :: be n ++ post)).drop (pre.length + 1)).take (be n).length = be n := by
      rw [List.drop_append, List.drop_eq_nil_of_le (by omega), List.nil_append, show pre.length + 1 - pre.length = 1 by omega]
      simp
    have hh : (pre ++ (UInt8.ofNat (247 + (be n).length) :: be n ++ post)).getD (pre.length + 1) 0 = c := by
      rw [e]
      simp [List.getD]
    unfold tkP
    rw [if_neg (by omega), if_neg (by omega), if_neg (by rw [hg]; omega), hg, Nat.add_sub_cancel_left, if_neg (by omega), hd, vl_be, hh, if_neg (by intro h; rcases h with h | h; omega; exact hc h)]
    simp
    omega
end Go.Proofs.YtbmhkdcmepfmbaaGreat
set_option linter.unusedVariables false
set_option linter.unusedSimpArgs false
namespace Go.Proofs.YtbmhkdcmepfmbaaGreat
open Go.RowKit
attribute [local go_sem ↓] Go.wp_at_zero Go.wp_at_succ
theorem Tryz.und69 : Tryz.prog.underlying 22 = some (.slice (Tryz.prog.elem 22)) := by kernel_rfl
theorem rn_put (pre post p : List UInt8) (hp : p.length < 18446744073709551616) : rnP (pre ++ (nm p.length ++ (p ++ post))) pre.length 0 = (p.length, pre.length + (nm p.length).length, 0) := by
  unfold rnP
  rw [if_neg (by simp), tk_nm pre (p ++ post) hp, if_neg (by simp)]
theorem mid_of {α : Type} (A B C : List α) : ((A ++ (B ++ C)).take (A.length + B.length)).drop A.length = B := by
  rw [← List.append_assoc, show A.length + B.length = (A ++ B).length by simp, List.take_left, List.drop_left]
theorem cut_put (pre post p : List UInt8) : ((bv (pre ++ (nm p.length ++ (p ++ post)))).take (pre.length + (nm p.length).length + p.length)).drop (pre.length + (nm p.length).length) = bv p := by
  have h := mid_of (bv (pre ++ nm p.length)) (bv p) (bv post)
  have e1 : (bv (pre ++ nm p.length)).length = pre.length + (nm p.length).length := by simp [bv]
  have e2 : (bv p).length = p.length := by simp [bv]
  rw [e1, e2, ← bv_append, ← bv_append] at h
  rw [← h]
  simp
set_option maxRecDepth 100000 in
set_option maxHeartbeats 4000000 in
/-- Reader.Text, where a text was put -/
theorem rtext_any {g : Nat} {w : World} {pre p post : List UInt8} (h : Rdr w g (pre ++ (nm p.length ++ (p ++ post))) pre.length 0) : Calls Tryz.prog 84 #[.pointer (some ⟨g, 0, none⟩)] w fun e w' => ∃ v', e = .returned v' ∧ Ob 5 w.heap.size w' v' p ∧ Rdr w' g (pre ++ (nm p.length ++ (p ++ post))) (pre.length + (nm p.length).length + p.length) 0 ∧ Wb (fun k => k = g) w w' := by
  have HN := Hid.mk' (rnum_any h)
  have H := Hid.mk' h
  obtain ⟨a, c, h1, h2, h3⟩ := h
  have hl : (pre ++ (nm p.length ++ (p ++ post))).length = pre.length + (nm p.length).length + p.length + post.length := by simp; omega
  have hlm : pre.length + (nm p.length).length + p.length + post.length ≤ 140737488351232 := by have := h2.2; unfold lim at this; omega
  rw [rn_put pre post p (by omega)] at HN
  have HCUT := Hid.mk' (cut_put pre post p)
  generalize pre ++ (nm p.length ++ (p ++ post)) = l at *
  generalize hpre : pre.length = np at *
  generalize (nm p.length).length = nn at *
  have HL := Hid.mk' hl
  obtain ⟨c0, c1, c2⟩ := bx3 h1
  clear h1 h2 h3 hl hpre
  go_enter Tryz.func84, Tryz.ntmps84
  go_wp2_with fail
  refine HN.out.mono ?_
  rintro e w1 ⟨rfl, hr1, hb1⟩
  have HB1 := Hid.mk' hb1
  have HR1 := Hid.mk' hr1
  have HLf := Hid.mk' (rleft_any hr1)
  rw [HL.out] at HLf
  obtain ⟨a1, d1, h1, h2, h3⟩ := hr1
  clear c0 c1 c2
  obtain ⟨c0, c1, c2⟩ := bx3 h1
  have hgs : g < w1.heap.size := (Array.getElem?_eq_some_iff.1 h1).1
  clear h1 h2 h3 hb1 HN
  have hw : IntKind.u64.wrap (((np + nn + p.length + post.length : Nat) : Int) - ((np + nn : Nat) : Int)) = (p.length : Int) + (post.length : Int) := by rw [IntKind.wrap_u64]; omega
  go_wp2_with fail
  refine HLf.out.mono ?_
  rintro e w2 ⟨rfl, hd⟩
  have HB2 := Hid.mk' (HB1.out.trans (Wb.of_below _ (hd.below w1.heap.size)))
  have hr2 := HR1.out.up (hd.below w1.heap.size)
  have HR2 := Hid.mk' hr2
  obtain ⟨a2, d2, h1, h2, h3⟩ := hr2
  have HE2 := Hid.mk' h1
  clear c0 c1 c2
  obtain ⟨c0, c1, c2⟩ := bx3 h1
  have hgs2 : g < w2.heap.size := (Array.getElem?_eq_some_iff.1 h1).1
  have HBS := Hid.mk' h2
  have hnle : ¬ ((p.length : Int) + (post.length : Int) < (p.length : Int)) := by omega
  have hcv : IntKind.i64.wrap (p.length : Int) = (p.length : Int) := by rw [IntKind.wrap_i64]; omega
  have hwad : IntKind.i64.wrap ((np : Int) + (nn : Int) + (p.length : Int)) = (np : Int) + (nn : Int) + (p.length : Int) := by rw [IntKind.wrap_i64]; omega
  obtain ⟨sa, sc, hsl, hsr⟩ := row_lh (P := Tryz.prog) (t := 22) Tryz.und69 Tryz.size22 h2.1 (np + nn) (np + nn + p.length) (by omega) (by have := HL.out; omega)
  have s0 : ∀ q : Kp (fun _ => False) w2, q.nx.cell? ⟨g, 0, none⟩ = some _ := fun q => q.cell c0 id
  have s1 : ∀ q : Kp (fun _ => False) w2, q.nx.cell? ⟨g, 1, none⟩ = some _ := fun q => q.cell c1 id
  rw [show np + nn + p.length - (np + nn) = p.length by omega] at hsl hsr
  rw [HCUT.out] at hsr
  simp only [Int.natCast_add] at hsl
  have HC := Hid.mk' (clone_any _ p w2.drew (show Bs (Lt g) w2.drew (.slice sa p.length sc) p from ⟨hsr.up (drew_blx w2 _), by unfold lim; omega⟩))
  clear hd h1 h2 h3 HLf hsr
  go_upto_region 7 with fail
  refine wp_region_mox 17 (fun w' => ∃ q : Kp (fun _ => False) w2, w' = q.nx) (by kernel_rfl) (by kernel_rfl) (kp_first _ w2) ?_
  simp only [List.take_succ_cons, List.take_zero, List.drop_succ_cons, List.drop_zero]
  refine mx_take 16 rfl ?_
  simp only [List.take_succ_cons, List.take_zero, List.drop_succ_cons, List.drop_zero]
  repeat (go_big_quiet_step (fail))
  refine wpQuiet_nil ?_
  clear hsl s0 s1
  refine mx_call (vals := [.slice sa p.length sc]) Tryz.func35 (by kernel_rfl) rfl rfl (by kernel_rfl) (by kernel_rfl) HC.out (fun E wc hc => ?_)
  obtain ⟨u, rfl, hb3, ho3⟩ := hc
  have HB3 : Hid (Below w2.heap.size w2 wc) := (drew_blx w2 _).trans hb3
  refine ⟨_, rfl, kp_mk HB3.out.size fun b hb hx => HB3.out.block b hb, ?_⟩
  simp only [Act.put, List.setIfInBounds_toArray, List.set_cons_succ, List.set_cons_zero]
  simp only [wpMix]
  have HO3 : Hid (Ob 5 w2.heap.size wc u p) := ho3
  have HE3 : Hid (wc.heap[g]? = some (.cells #[.slice a2 l.length d2, .int .i64 ((np + nn : Nat) : Int), .int .i64 0] 144 (0, 0))) := (HB3.out.block g hgs2).trans HE2.out
  have HBS3 : Hid (Bs (Lt g) wc (.slice a2 l.length d2) l) := HBS.out.up HB3.out
  obtain ⟨a3, d3, e3⟩ := own_slice ho3
  subst e3
  have HG3 : Hid (g < wc.heap.size) := Nat.lt_of_lt_of_le hgs2 HB3.out.size
  have HBG : Hid (Wb (fun k => k = g) w wc) := HB2.out.trans (Wb.of_below _ HB3.out)
  have HSZ : Hid (w.heap.size ≤ w2.heap.size) := HB2.out.size
  clear hb3 ho3 HC c0 c1 c2
  obtain ⟨c0, c1, c2⟩ := bx3 HE3.out
  have f1 := bx3_fr HE3.out 1
  have hw7 := Wb.set (X := fun k => k = g) wc g 1 (.int .i64 ((np + nn + p.length : Nat) : Int)) rfl
  have HR7 : Hid (Rdr (wc.setCell ⟨g, 1, none⟩ (.int .i64 ((np + nn + p.length : Nat) : Int))) g l (np + nn + p.length) 0) := Rdr.set HBS3.out hw7 (bx3_set HE3.out 1 _) (by have := HL.out; omega)
  have HO7 : Hid (Ob 5 w.heap.size (wc.setCell ⟨g, 1, none⟩ (.int .i64 ((np + nn + p.length : Nat) : Int))) (.slice a3 p.length d3) p) := by
    refine Ob.mono (B := w2.heap.size) ?_ HSZ.out
    refine own_wb HO3.out hw7 fun k hk e => ?_
    subst hk
    have := (HO3.out.lt _ e.symm).1
    omega
  have HB7 : Hid (Wb (fun k => k = g) w (wc.setCell ⟨g, 1, none⟩ (.int .i64 ((np + nn + p.length : Nat) : Int)))) := HBG.out.trans hw7
  clear hw7
  simp only [Int.natCast_add] at HR7 HO7 HB7
  go_wp2_with fail
  go_ret
  exact ⟨_, rfl, HO7.out, HR7.out, HB7.out⟩
end Go.Proofs.YtbmhkdcmepfmbaaGreat
set_option linter.unusedVariables false
set_option linter.unusedSimpArgs false
namespace Go.Proofs.YtbmhkdcmepfmbaaGreat
open Go.RowKit
attribute [local go_sem ↓] Go.wp_at_zero Go.wp_at_succ
/-- values that are each the bytes of a list's element, in memory of the call's own -/
def Eo (B : Nat) (w : World) (vs : List Value) (l : List (List UInt8)) : Prop := vs.length = l.length ∧ ∀ i (h : i < l.length) (h' : i < vs.length), Ob 5 B w vs[i] l[i]
theorem eo_nil (B : Nat) (w : World) : Eo B w [] [] := ⟨rfl, fun i h => by simp at h⟩
theorem Eo.up {B : Nat} {w w' : World} {vs : List Value} {l : List (List UInt8)} (h : Eo B w vs l) (hb : Below w.heap.size w w') : Eo B w' vs l := ⟨h.1, fun i a b => own_keep (h.2 i a b) hb (Nat.le_refl _)⟩
theorem Eo.snoc {B : Nat} {w : World} {vs : List Value} {l : List (List UInt8)} {v : Value} {x : List UInt8} (h : Eo B w vs l) (hx : Ob 5 B w v x) : Eo B w (vs ++ [v]) (l ++ [x]) := by
  refine ⟨by simp [h.1], fun i hi hi' => ?_⟩
  by_cases hlt : i < l.length
  · rw [List.getElem_append_left (by rw [h.1]; exact hlt), List.getElem_append_left hlt]
    exact h.2 i hlt _
  · have hil : i = l.length := by simp at hi; omega
    subst hil
    rw [List.getElem_append_right (Nat.le_of_eq h.1), List.getElem_append_right (Nat.le_refl _)]
    simpa [h.1] using hx
theorem Eo.grown {B B' n sz : Nat} {w w' : World} {vs xs : List Value} {l : List (List UInt8)} {u : Value} (h : Eo B w vs l) (ho : w.ownsRow B' 22 sz u n xs) (hg : w.grownBy w' u.ownBlock) : Eo B w' vs l :=
  ⟨h.1, fun i a b => own_grown_ne (h.2 i a b) ho hg (by decide)⟩
theorem Eo.one {B : Nat} {w : World} {vs : List Value} {l : List (List UInt8)} (h : Eo B w vs l) : ∀ u ∈ vs, u.oneCell' = true := by
  intro u hu
  obtain ⟨i, hi, rfl⟩ := List.mem_iff_getElem.1 hu
  obtain ⟨a, c, e⟩ := own_slice (h.2 i (by rw [← h.1]; exact hi) hi)
  rw [e]; rfl
theorem Eo.each {B : Nat} {w : World} {vs : List Value} {l : List (List UInt8)} (h : Eo B w vs l) (hl : ∀ x ∈ l, x.length ≤ lim) : Each (Lt w.heap.size) w vs l :=
  ⟨h.1, fun i a b => (h.2 i a b).bs (hl _ (List.getElem_mem a))⟩
theorem own_off {B n sz g : Nat} {e e' : TypeId} {w : World} {v : Value} {xs : List Value} {cs : Array Value} {fr : Nat × Nat} (h : w.ownsRow B e sz v n xs) (hg : w.heap[g]? = some (.cells cs e' fr)) (hne : e ≠ e') : some g ≠ v.ownBlock := by
  intro e1
  obtain ⟨_, cur, fr', h2⟩ := own_typed h g e1.symm
  rw [hg] at h2
  cases h2
  exact hne rfl
theorem Eo.wb113 {B g : Nat} {w w' : World} {vs : List Value} {l : List (List UInt8)} {cs : Array Value} {fr : Nat × Nat} (h : Eo B w vs l) (hb : Wb (fun k => k = g) w w') (hg : w.heap[g]? = some (.cells cs 144 fr)) : Eo B w' vs l :=
  ⟨h.1, fun i a b => own_wb (h.2 i a b) hb fun j hj => by subst hj; exact own_off (h.2 i a b) hg (by decide)⟩
theorem Rdr.grown {g at' B n sz : Nat} {e : TypeId} {w w' : World} {l : List UInt8} {er : Int} {u : Value} {xs : List Value} (h : Rdr w g l at' er) (ho : w.ownsRow B e sz u n xs) (hg : w.grownBy w' u.ownBlock) (hne : e ≠ 144) (hB : ∀ k, u.ownBlock = some k → g ≤ k) : Rdr w' g l at' er := by
  obtain ⟨a, c, h1, h2, h3⟩ := h
  have hs := (Array.getElem?_eq_some_iff.1 h1).1
  exact ⟨a, c, (hg.block g hs fun e1 => own_off ho h1 hne e1).trans h1, h2.keepS fun b hb => hg.block b (Nat.lt_trans hb hs) fun e1 => absurd (hB b e1.symm) (Nat.not_le.2 hb), h3⟩
theorem txt_app (a b : List (List UInt8)) : txt (a ++ b) = txt a ++ txt b := by unfold txt; rw [List.map_append, List.flatten_append]
theorem txt_cons (p : List UInt8) (b : List (List UInt8)) : txt (p :: b) = nm p.length ++ (p ++ txt b) := by unfold txt; simp
theorem jn_at {ls : List (List UInt8)} {k : Nat} (h : k < ls.length) : jn ls = (nm ls.length ++ txt (ls.take k)) ++ (nm ls[k].length ++ (ls[k] ++ txt (ls.drop (k + 1)))) := by
  have e0 : ls.take k ++ ls[k] :: ls.drop (k + 1) = ls := by rw [← List.drop_eq_getElem_cons h, List.take_append_drop]
  have e := congrArg txt e0
  rw [txt_app, txt_cons] at e
  unfold jn
  rw [← e, List.append_assoc]
theorem jn_len {ls : List (List UInt8)} {k : Nat} (h : k < ls.length) : (nm ls.length ++ txt (ls.take (k + 1))).length = (nm ls.length ++ txt (ls.take k)).length + (nm ls[k].length).length + ls[k].length := by
  rw [txt_take h]; simp; omega
theorem jn_cl (ls : List (List UInt8)) : clE (jn ls) (nm ls.length ++ txt (ls.take ls.length)).length 0 = 0 := by
  unfold clE
  rw [if_neg]
  rw [List.take_length]; unfold jn; omega
theorem jn_rn {ls : List (List UInt8)} (h : ls.length < 18446744073709551616) : rnP (jn ls) 0 0 = (ls.length, (nm ls.length ++ txt (ls.take 0)).length, 0) := by
  unfold rnP
  rw [if_neg (by simp)]
  have := tk_nm [] (txt ls) h
  simp only [List.nil_append, List.length_nil, Nat.zero_add] at this
  rw [show jn ls = nm ls.length ++ txt ls from rfl, this, if_neg (by simp)]
  simp [txt]
set_option maxRecDepth 100000 in
set_option maxHeartbeats 4000000 in
/-- Split -/
theorem split_any {A : Nat → Prop} {w : World} {v : Value} {ls : List (List UInt8)} (h : Bs A w v (jn ls)) (hn : ls.length ≤ 1000) (hp : ∀ x ∈ ls, x.length ≤ lim) : Calls Tryz.prog 58 #[v] w fun e w' => ∃ v' vs, e = .returned (.tuple #[v', .int .i64 0]) ∧ w'.ownsRow w.heap.size 22 1 v' ls.length vs ∧ Eo w.heap.size w' vs ls ∧ Below w.heap.size w w' := by
  have HRD := Hid.mk' (pread_any h)
  have HP := Hid.mk' hp
  have hni : (ls.length : Int) ≤ 1000 := by omega
  obtain ⟨a, c, rfl, _, _, _⟩ := h.at
  have HRN := Hid.mk' (jn_rn (show ls.length < 18446744073709551616 by omega))
  clear h hp
  go_enter Tryz.func58, Tryz.ntmps58
  go_wp2_with fail
  refine HRD.out.mono ?_
  rintro e w1 ⟨g, rfl, hg1, hr1, hb1⟩
  have HB1 := Hid.mk' hb1
  have HG : Hid (w.heap.size ≤ g) := hg1
  have HN := Hid.mk' (rnum_any hr1)
  rw [HRN.out] at HN
  clear hg1 hr1 hb1 HRD
  go_wp2_with fail
  refine HN.out.mono ?_
  rintro e w2 ⟨rfl, hr2, hb2⟩
  have HR0 := Hid.mk' hr2
  have HB0 := Hid.mk' (HB1.out.trans (hb2.below HB1.out.size fun k hk => by subst hk; exact HG.out))
  obtain ⟨S2, hS2⟩ : ∃ n, n = w2.heap.size := ⟨_, rfl⟩
  have HS2 : Hid (g < S2 ∧ w.heap.size ≤ S2 ∧ S2 ≤ w2.heap.size) := by
    obtain ⟨_, _, h1, _⟩ := hr2
    have := (Array.getElem?_eq_some_iff.1 h1).1
    have := HB0.out.size
    show _ ∧ _; omega
  have HO0 : Hid (w2.ownsRow S2 22 1 (.slice none 0 0) 0 []) := World.ownsRow_nil _ _ _ _
  have HE0 : Hid (Eo w.heap.size w2 [] (ls.take 0)) := eo_nil _ _
  have HSK : Hid (S2 ≤ w2.heap.size) := HS2.out.2.2
  clear hr2 hb2 HN HB1 HRN hS2
  go_wp2_with fail
  go_loopw [5, 6] (fun y i wr => ∃ (k : Nat) (vs : List Value), k ≤ ls.length ∧ i = .int .u64 ((ls.length - k : Nat) : Int) ∧ Hid (wr.ownsRow S2 22 1 y k vs) ∧ Hid (Eo w.heap.size wr vs (ls.take k)) ∧ Hid (Rdr wr g (jn ls) (nm ls.length ++ txt (ls.take k)).length 0) ∧ Hid (Below w.heap.size w wr) ∧ Hid (S2 ≤ wr.heap.size)) (fun _ i _ => (intOf i).toNat)
  case atStart => exact ⟨0, [], by omega, by simp, HO0, HE0, HR0, HB0, HSK⟩
  case round =>
    clear HO0 HE0 HR0 HB0 HSK
    obtain ⟨k, vs, hk, rfl, HO, HE, HR, HB, HSK⟩ := hrel
    rename World => wk
    obtain ⟨y1, y2, rfl⟩ := own_slice HO.out
    by_cases hlt : k < ls.length
    case neg =>
      obtain rfl : k = ls.length := by omega
      have HC := Hid.mk' (rclose_any HR.out)
      rw [jn_cl] at HC
      rw [Nat.sub_self]
      clear hlt
      go_wp2_with fail
      refine HC.out.mono ?_
      rintro e w5 ⟨rfl, hd⟩
      have HB5 := Hid.mk' (HB.out.trans (hd.below w.heap.size))
      have HE5 := HE.out.up (hd.below wk.heap.size)
      have HO5 := own_keep HO.out (hd.below wk.heap.size) (Nat.le_refl _)
      rw [List.take_length] at HE5
      have HBS : Hid (w5.ownsRow w.heap.size 22 1 (.slice y1 ls.length y2) ls.length vs ∧ Eo w.heap.size w5 vs ls) := ⟨own_mono HO5 HS2.out.2.1, HE5⟩
      clear hd HE5 HO5 HC
      go_wp2_with fail
      refine bodyPost_ret (v := .tuple #[.slice y1 ls.length y2, .int .i64 0]) (by simp [results, Tryz.results58, go_sem]) rfl ?_
      exact ⟨_, vs, rfl, HBS.out.1, HBS.out.2, HB5.out⟩
    have hlt' : ((ls.length - (k + 1) : Nat) : Int) + 1 ≤ 1000 := by omega
    rw [show ((ls.length - k : Nat) : Int) = ((ls.length - (k + 1) : Nat) : Int) + 1 by omega]
    have HJ := Hid.mk' (jn_at hlt)
    have HJL := Hid.mk' (jn_len hlt)
    have HTK := Hid.mk' (List.take_succ_eq_append_getElem hlt)
    have HT := HR.out
    rw [HJ.out] at HT
    replace HT := rtext_any HT
    rw [← HJ.out, ← HJL.out] at HT
    have HT := Hid.mk' HT
    have hr := HR.out
    obtain ⟨a1, d1, h1, h2, h3⟩ := hr
    obtain ⟨c0, c1, c2⟩ := bx3 h1
    have hpos : (0 : Int) < ((ls.length - (k + 1) : Nat) : Int) + 1 := by omega
    have hkz : k + 1 ≤ ls.length := by omega
    obtain ⟨z, hz⟩ : ∃ z, z = ls.length - (k + 1) := ⟨_, rfl⟩
    have HZ : Hid (z = ls.length - (k + 1)) := hz
    rw [← hz] at hlt' hpos ⊢
    clear hz
    have HT5 := Hid.mk' h1
    clear h1 h2 h3
    go_wp2_with fail
    refine HT.out.mono ?_
    rintro e w5 ⟨v5, rfl, ho5, hr5, hb5⟩
    obtain ⟨b1, b2, e5⟩ := own_slice ho5
    have HV5 : Hid (Ob 5 w.heap.size w5 v5 ls[k]) := Ob.mono ho5 HB.out.size
    rw [e5] at HV5
    have HB5 : Hid (Below w.heap.size w w5) := HB.out.trans (hb5.below HB.out.size fun k hk => by subst hk; exact HG.out)
    have HO5 : Hid (w5.ownsRow S2 22 1 (.slice y1 k y2) k vs) := own_wb HO.out hb5 fun j hj => by subst hj; exact own_off HO.out HT5.out (by decide)
    have HE5 : Hid (Eo w.heap.size w5 vs (ls.take k)) := HE.out.wb113 hb5 HT5.out
    have hup := up_alloc w5 (.cells #[.slice b1 ls[k].length b2] 22)
    have HSA : Hid (S2 ≤ (w5.alloc (.cells #[.slice b1 ls[k].length b2] 22)).heap.size) := Nat.le_trans HSK.out (Nat.le_trans hb5.size hup.size)
    have HBA := Hid.mk' (HB5.out.trans (hup.mono HB5.out.size))
    have HOA := Hid.mk' (own_keep HO5.out hup (Nat.le_refl _))
    have HEA := Hid.mk' ((HE5.out.up hup).snoc (HV5.out.keep hup (Nat.le_refl _)))
    rw [← HTK.out] at HEA
    have HRA := Hid.mk' (hr5.up hup)
    clear ho5 hr5 hb5 hup HT c0 c1 c2 HR
    go_wp2_with (at_builtin; go_must (refine wpl_app rfl (.tmp 23) (.tmp 26) 45 rfl Tryz.underlying45 Tryz.info22 rfl (by decide) rfl HOA.out rfl row_one (by intro u hu; simp only [List.mem_cons, List.not_mem_nil, or_false] at hu; subst hu; rfl) (by unfold maxLen; omega) (by omega) HSA.out ?_); intro v6 w6 ho hg hn2 hbb)
    have HB6 : Hid (Below w.heap.size w w6) := below_app HBA.out HOA.out hg HS2.out.2.1 HBA.out.size
    have HE6 : Hid (Eo w.heap.size w6 _ _) := HEA.out.grown HOA.out hg
    have HR6 : Hid (Rdr w6 g (jn ls) (nm ls.length ++ txt (ls.take (k + 1))).length 0) := HRA.out.grown HOA.out hg (by decide) fun j hj => Nat.le_of_lt (Nat.lt_of_lt_of_le HS2.out.1 (World.ownsRow.lt HOA.out j hj).1)
    have HS6 : Hid (S2 ≤ w6.heap.size) := Nat.le_trans HSA.out hg.size
    have HO6 := Hid.mk' ho
    clear ho hg hn2 hbb
    go_roundw
    case rel => exact ⟨k + 1, _, hkz, by rw [HZ.out], HO6, HE6, HR6, HB6, HS6⟩
    case measure => simp [intOf]
end Go.Proofs.YtbmhkdcmepfmbaaGreat
