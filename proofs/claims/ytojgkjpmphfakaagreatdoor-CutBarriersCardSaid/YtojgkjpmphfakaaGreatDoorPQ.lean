/- pack.Reader.Num. -/
import Derived.Test.YtojgkjpmphfakaaGreatDoorPR
set_option linter.unusedVariables false
set_option linter.unusedSimpArgs false
namespace Go.Proofs.YtojgkjpmphfakaaGreatDoor
open Go.RowKit
attribute [local go_sem ↓] Go.wp_at_zero Go.wp_at_succ
theorem bx3_fr {w : World} {b : Nat} {c0 c1 c2 : Value} {e : TypeId} (h : w.heap[b]? = some (.cells #[c0, c1, c2] e (0, 0))) (j : Nat) : w.frozen? ⟨b, j, none⟩ = false := by simp [World.frozen?, h]
theorem bx3_set {w : World} {b : Nat} {c0 c1 c2 : Value} {e : TypeId} (h : w.heap[b]? = some (.cells #[c0, c1, c2] e (0, 0))) (o : Nat) (u : Value) : (w.setCell ⟨b, o, none⟩ u).heap[b]? = some (.cells (#[c0, c1, c2].setIfInBounds o u) e (0, 0)) := heap_setCell_same w b o _ e u h
/-- what Num says, and where the reader stands then -/
def rnP (l : List UInt8) (a : Nat) (er : Int) : Nat × Nat × Int := if er ≠ 0 then (0, a, er) else if (tkP l a).2.2 ≠ 0 then (0, a, (tkP l a).2.2) else ((tkP l a).1, (tkP l a).2.1, 0)
theorem tkP_le {l : List UInt8} {a : Nat} (h : (tkP l a).2.2 = 0) : (tkP l a).2.1 ≤ l.length := by
  unfold tkP at h ⊢
  split
  · rename_i h1; rw [if_pos h1] at h; cases h
  · rename_i h1; rw [if_neg h1] at h
    split
    · rename_i h2; rw [if_pos h2] at h; cases h
    · rename_i h2; rw [if_neg h2] at h
      split
      · show a + 1 ≤ _; omega
      · rename_i h3; rw [if_neg h3] at h
        split
        · rename_i h4; rw [if_pos h4] at h; cases h
        · rename_i h4; rw [if_neg h4] at h
          split
          · rename_i h5; rw [if_pos h5] at h; cases h
          · show a + 1 + _ ≤ _; omega
theorem Rdr.set {g : Nat} {w w' : World} {l : List UInt8} {er' : Int} {a2 : Nat} {a : Option Addr} {c : Nat} (h2 : Bs (Lt g) w (.slice a l.length c) l) (hw : Wb (fun k => k = g) w w') (he : w'.heap[g]? = some (.cells #[.slice a l.length c, .int .i64 (a2 : Int), .int .i64 er'] 113 (0, 0))) (hl : a2 ≤ l.length) : Rdr w' g l a2 er' :=
  ⟨a, c, he, ⟨h2.1.wb hw fun k hk hA => by subst hk; exact Nat.lt_irrefl _ hA, h2.2⟩, hl⟩
set_option maxRecDepth 100000 in
set_option maxHeartbeats 2000000 in
/-- Reader.Num -/
theorem rnum_any {g at' : Nat} {w : World} {l : List UInt8} {er : Int} (h : Rdr w g l at' er) : Calls Tryz.prog 62 #[.pointer (some ⟨g, 0, none⟩)] w fun e w' => e = .returned (.int .u64 ((rnP l at' er).1 : Int)) ∧ Rdr w' g l (rnP l at' er).2.1 (rnP l at' er).2.2 ∧ Wb (fun k => k = g) w w' := by
  have H := Hid.mk' h
  obtain ⟨a, c, h1, h2, h3⟩ := h
  have HE := Hid.mk' h1
  have HBS := Hid.mk' h2
  obtain ⟨c0, c1, c2⟩ := bx3 h1
  have hg : g < w.heap.size := (Array.getElem?_eq_some_iff.1 h1).1
  have HG : Hid (g ≤ w.heap.size) := Nat.le_of_lt hg
  by_cases h0 : er = 0
  case neg =>
    have h0' : (er == 0) = false := by simpa using h0
    have h0'' : (er != 0) = true := by simpa using h0
    have HF : Hid (rnP l at' er = (0, at', er)) := by show _ = _; unfold rnP; rw [if_pos h0]
    clear h1 h2 h3 h0 hg
    go_enter Tryz.func62, Tryz.ntmps62
    go_wp2_with fail
    go_ret
    rw [HF.out]
    exact ⟨rfl, H.out, Wb.refl _ _⟩
  subst h0
  have HT := Hid.mk' (take_any (h2.up (drew_blx w _)) at' (Nat.le_trans h3 h2.2))
  have s0 : ∀ q : Kp (fun _ => False) w, q.nx.cell? ⟨g, 0, none⟩ = some _ := fun q => q.cell c0 id
  have s1 : ∀ q : Kp (fun _ => False) w, q.nx.cell? ⟨g, 1, none⟩ = some _ := fun q => q.cell c1 id
  have HP : Hid (rnP l at' 0 = if (tkP l at').2.2 ≠ 0 then (0, at', (tkP l at').2.2) else ((tkP l at').1, (tkP l at').2.1, 0)) := by show _ = _; unfold rnP; rw [if_neg (by simp)]
  have HLE : Hid ((tkP l at').2.2 = 0 → (tkP l at').2.1 ≤ l.length) := tkP_le
  have H3 := Hid.mk' h3
  clear h1 h2 h3 hg
  generalize rnP l at' 0 = R at *
  generalize tkP l at' = t at *
  obtain ⟨tn, ta, te⟩ := t
  go_enter Tryz.func62, Tryz.ntmps62
  go_upto_region 3 with fail
  refine wp_region_mox 16 (fun w' => ∃ q : Kp (fun _ => False) w, w' = q.nx) (by kernel_rfl) (by kernel_rfl) (kp_first _ w) ?_
  simp only [List.take_succ_cons, List.take_zero, List.drop_succ_cons, List.drop_zero]
  refine mx_take 8 rfl ?_
  simp only [List.take_succ_cons, List.take_zero, List.drop_succ_cons, List.drop_zero]
  repeat (go_big_quiet_step (fail))
  refine wpQuiet_nil ?_
  refine mx_call (vals := [.slice a l.length c, .int .i64 (at' : Int)]) Tryz.func65 (by kernel_rfl) rfl rfl (by kernel_rfl) (by kernel_rfl) HT.out (fun E wc hc => ?_)
  obtain ⟨rfl, rfl⟩ := hc
  refine ⟨_, rfl, kp_first _ w, ?_⟩
  simp only [tkV, Act.put, List.setIfInBounds_toArray, List.set_cons_succ, List.set_cons_zero]
  refine mx_take 7 rfl ?_
  simp only [List.take_succ_cons, List.take_zero, List.drop_succ_cons, List.drop_zero]
  repeat (go_big_quiet_step (fail))
  refine wpQuiet_nil ?_
  simp only [wpMix]
  clear s0 s1 HT
  have HE2 : Hid (w.drew.heap[g]? = some (.cells #[.slice a l.length c, .int .i64 (at' : Int), .int .i64 0] 113 (0, 0))) := HE.out
  have HB2 := Hid.mk' (HBS.out.up (drew_blx w _))
  have HG2 : Hid (Wb (fun k => k = g) w w.drew) := Wb.of_below _ (drew_blx w _)
  have HGD : Hid (g ≤ w.drew.heap.size) := HG.out
  obtain ⟨d0, d1, d2⟩ := bx3 HE2.out
  have f1 := bx3_fr HE2.out 1
  have f2 := bx3_fr HE2.out 2
  clear c0 c1 c2
  generalize w.drew = wd at *
  by_cases h5 : te = 0
  · subst h5
    have HF : Hid (R = (tn, ta, 0)) := by show _ = _; rw [HP.out, if_neg (by simp)]
    have hw7 := Wb.set (X := fun k => k = g) wd g 1 (.int .i64 (ta : Int)) rfl
    have HR7 : Hid (Rdr (wd.setCell ⟨g, 1, none⟩ (.int .i64 (ta : Int))) g l ta 0) := Rdr.set HB2.out hw7 (bx3_set HE2.out 1 _) (HLE.out rfl)
    have HB7 := Hid.mk' (HG2.out.trans hw7)
    clear hw7
    go_wp2_with fail
    go_ret
    rw [HF.out]
    exact ⟨rfl, HR7.out, HB7.out⟩
  · have h5' : (te == 0) = false := by simpa using h5
    have h5'' : (te != 0) = true := by simpa using h5
    have HF : Hid (R = (0, at', te)) := by show _ = _; rw [HP.out, if_pos (by simpa using h5)]
    have hw7 := Wb.set (X := fun k => k = g) wd g 2 (.int .i64 te) rfl
    have HR7 : Hid (Rdr (wd.setCell ⟨g, 2, none⟩ (.int .i64 te)) g l at' te) := Rdr.set HB2.out hw7 (bx3_set HE2.out 2 _) H3.out
    have HB7 := Hid.mk' (HG2.out.trans hw7)
    clear hw7 h5
    go_wp2_with fail
    go_ret
    rw [HF.out]
    exact ⟨rfl, HR7.out, HB7.out⟩
end Go.Proofs.YtojgkjpmphfakaaGreatDoor
