/- drive.Dir: Path and Names. -/
import Derived.Test.YtpgpncngamagdaaJN
import Derived.Test.YtpgpncngamagdaaDB
set_option linter.unusedVariables false
set_option linter.unusedSimpArgs false
namespace Go.Proofs.Ytpgpncngamagdaa
open Go.RowKit
theorem lsD_le (d : Dm) (p : By) : (lsD d p).length ≤ d.seen.length := by
  unfold lsD
  split
  · exact Nat.zero_le _
  · unfold nms
    exact Nat.le_trans (List.length_filter_le _ _) (by simp)
theorem lsD_pfx {d : Dm} {p q x : By} (h : x ∈ lsD d (p ++ q)) : p.length ≤ x.length := by
  unfold lsD at h
  split at h
  · cases h
  · unfold nms at h
    have h2 := (List.mem_filter.1 h).2
    unfold pfx at h2
    simp only [Bool.and_eq_true, decide_eq_true_eq, List.length_append] at h2
    omega
theorem join_nil (xs : List (List UInt8)) : Lib.join xs [] = xs.flatten := by
  unfold Lib.join
  induction xs with
  | nil => rfl
  | cons x xs ih =>
    cases xs with
    | nil => simp [List.intercalate]
    | cons y r =>
      rw [List.flatten_cons, ← ih]
      simp [List.intercalate, List.intersperse]
/-- strings.Join without anything between -/
theorem join_any {A : Nat → Prop} {w : World} {u : Value} {l : List (List UInt8)} (h : Ss A w u l) (hl : l.flatten.length ≤ 100000000) : Calls Try.prog 71 #[u, .string ⟨#[]⟩] w fun e w' => e = .returned (.string ⟨l.flatten.toArray⟩) ∧ Below w.heap.size w w' := by
  obtain ⟨a, c, rfl, hc, ha, H⟩ := h.at
  cases l with
  | nil => exact (Try.strings_Join_none a c ⟨#[]⟩ w).mono fun e w' ⟨h1, h2⟩ => ⟨h1, by rw [h2]; exact Below.refl _ _⟩
  | cons x r =>
    obtain ⟨b, o, rfl, _, hu⟩ := H 0 (by simp)
    have hb : b < w.heap.size := World.block_lt_of_cell? w ⟨b, o + 0, none⟩ hu
    have hj : Lib.join (((x :: r).map fun y => (⟨y.toArray⟩ : ByteArray)).map (·.data.toList)) ((⟨#[]⟩ : ByteArray)).data.toList = (x :: r).flatten := by
      rw [List.map_map]
      show Lib.join ((x :: r).map fun y => y) [] = _
      rw [List.map_id', join_nil]
    have := Try.strings_Join b o c ((x :: r).map fun y => ⟨y.toArray⟩) ⟨#[]⟩ w (fun j y hj => by
      rw [List.getElem?_map] at hj
      obtain ⟨z, hz, rfl⟩ := Option.map_eq_some_iff.1 hj
      obtain ⟨hj', rfl⟩ := List.getElem?_eq_some_iff.1 hz
      obtain ⟨b', o', e, _, hu'⟩ := H j hj'
      cases e
      exact hu') hb (by rw [List.length_map]; have := h.2; unfold lim at this; omega) (by rw [List.length_map]; exact hc) (by rw [hj]; omega)
    rw [hj, List.length_map] at this
    exact this
set_option maxRecDepth 100000 in
set_option maxHeartbeats 1000000 in
/-- Shelf.Path -/
theorem path_any {A : Nat → Prop} {w : World} {b : Nat} {u : Value} {ps : List (List UInt8)} (p : List UInt8) (h : Ss A w u ps) (hl : p.length + ps.flatten.length ≤ 100000000) :
    Calls Try.prog 43 #[.agg #[.pointer (some ⟨b, 0, none⟩), .string ⟨p.toArray⟩], u] w fun e w' => e = .returned (.string ⟨(p ++ ps.flatten).toArray⟩) ∧ Below w.heap.size w w' := by
  obtain ⟨W, hW⟩ : ∃ W, W = w.alloc (.cells #[.pointer (some ⟨b, 0, none⟩), .string ⟨p.toArray⟩] 78) := ⟨_, rfl⟩
  have HB : Hid (Below w.heap.size w W) := by rw [hW]; exact up_alloc _ _
  have hc : W.cell? ⟨w.heap.size, 1, none⟩ = some (.string ⟨p.toArray⟩) := by
    have hb : W.heap[w.heap.size]? = some (.cells #[.pointer (some ⟨b, 0, none⟩), .string ⟨p.toArray⟩] 78) := by rw [hW]; exact heap_alloc_new w _
    simp only [World.cell?, hb]; rfl
  have HJ : Hid (∀ q : Ups W, Calls Try.prog 71 #[u, .string ⟨#[]⟩] q.nx fun e w' => e = .returned (.string ⟨ps.flatten.toArray⟩) ∧ Below q.nx.heap.size q.nx w') := fun q => join_any (h.up (bt HB.out q.ok)) (by omega)
  obtain ⟨ua, uc, rfl, _⟩ := h.at
  have hlen : (p.length : Int) + (ps.flatten.length : Int) ≤ 100000000 := by omega
  have e1 : (⟨p.toArray⟩ : ByteArray).size = p.length := by simp [ByteArray.size]
  have e2 : (⟨ps.flatten.toArray⟩ : ByteArray).size = ps.flatten.length := by simp [ByteArray.size]
  have e3 := ba_app p ps.flatten
  clear h hl
  generalize ps.flatten = f at *
  have hlim : ¬ 9223372036854775807 < p.length + f.length := by omega
  go_enter Try.func43, Try.ntmps43
  go_wp2_with fail
  rw [← hW]
  clear hW
  have r1 : ∀ q : Ups W, q.nx.cell? ⟨w.heap.size, 1, none⟩ = some _ := fun q => q.cell hc
  refine wp_region_up (by kernel_rfl) (by kernel_rfl) ?_
  repeat (go_big_quiet_step (exact ups_call (HJ.out _)))
  refine wpQuiet_nil ?_
  intro _ hw'
  obtain ⟨q, hw''⟩ := hw'
  subst hw''
  have HQ := Hid.mk' (bt HB.out q.ok)
  generalize q.nx = w2 at *
  clear q
  go_wp2_with fail
  go_ret
  exact ⟨rfl, HQ.out⟩
set_option maxRecDepth 100000 in
set_option maxHeartbeats 2000000 in
/-- Dir.Names -/
theorem names_any {M D A : Nat → Prop} {b : Nat} {w : World} {d : Dm} {u : Value} {ps : List (List UInt8)} (p : List UInt8) (hI : DrIs M D w b d) (hn : d.seen.length ≤ 100000) (h : Ss A w u ps) (hl : p.length + ps.flatten.length ≤ 100000000) (hs : ∀ s ∈ lsD d (p ++ ps.flatten), s.length ≤ maxLen) :
    Calls Try.prog 41 #[.agg #[.pointer (some ⟨b, 0, none⟩), .string ⟨p.toArray⟩], u] w fun e w' => ∃ x, e = .returned x ∧ So 9 w.heap.size w' x ((lsD d (p ++ ps.flatten)).map (·.drop p.length)) ∧ Below w.heap.size w w' := by
  obtain ⟨W, hW⟩ : ∃ W, W = w.alloc (.cells #[.pointer (some ⟨b, 0, none⟩), .string ⟨p.toArray⟩] 78) := ⟨_, rfl⟩
  have HB : Hid (Below w.heap.size w W) := by rw [hW]; exact up_alloc _ _
  have hbx : W.heap[w.heap.size]? = some (.cells #[.pointer (some ⟨b, 0, none⟩), .string ⟨p.toArray⟩] 78) := by rw [hW]; exact heap_alloc_new w _
  have hc0 : W.cell? ⟨w.heap.size, 0, none⟩ = some (.pointer (some ⟨b, 0, none⟩)) := by simp only [World.cell?, hbx]; rfl
  have hc1 : W.cell? ⟨w.heap.size, 1, none⟩ = some (.string ⟨p.toArray⟩) := by simp only [World.cell?, hbx]; rfl
  obtain ⟨ua, uc, rfl, _⟩ := h.at
  have HH := Hid.mk' h
  have HI := Hid.mk' hI
  have HL := Hid.mk' hl
  have HN := Hid.mk' hn
  have HS := Hid.mk' hs
  clear h hI hbx hl hn hs
  go_enter Try.func41, Try.ntmps41
  go_wp2_with fail
  rw [← hW]
  clear hW
  have r0 : ∀ q : Kp (fun _ => False) W, q.nx.cell? ⟨w.heap.size, 0, none⟩ = some _ := fun q => q.cell hc0 id
  have r1 : ∀ q : Kp (fun _ => False) W, q.nx.cell? ⟨w.heap.size, 1, none⟩ = some _ := fun q => q.cell hc1 id
  refine wp_region_mix 8 (fun w' => ∃ q : Kp (fun _ => False) W, w' = q.nx) (by kernel_rfl) (by kernel_rfl) (kp_first _ W) ?_
  simp only [List.take_succ_cons, List.take_zero, List.drop_succ_cons, List.drop_zero]
  refine mx_take 4 rfl ?_
  simp only [List.take_succ_cons, List.take_zero, List.drop_succ_cons, List.drop_zero]
  repeat (go_big_quiet_step (fail))
  refine wpQuiet_nil ?_
  have hd := drew_blx W W.heap.size
  refine mx_call (vals := [.agg #[.pointer (some ⟨b, 0, none⟩), .string ⟨p.toArray⟩], .slice ua ps.length uc]) Try.func43 (by kernel_rfl) rfl rfl (by kernel_rfl) (by kernel_rfl) (path_any p (HH.out.up (bt HB.out hd)) HL.out) (fun e wa ha => ?_)
  obtain ⟨rfl, hba⟩ := ha
  have HBA := Hid.mk' (hd.trans hba)
  refine ⟨_, rfl, kp_mk HBA.out.size fun k hk _ => HBA.out.block k hk, ?_⟩
  simp only [Act.put, List.setIfInBounds_toArray, List.set_cons_succ, List.set_cons_zero]
  have hwa := bt HB.out HBA.out
  refine mx_call (vals := [.pointer (some ⟨b, 0, none⟩), .string ⟨(p ++ ps.flatten).toArray⟩]) Try.func29 (by kernel_rfl) rfl rfl (by kernel_rfl) (by kernel_rfl) (list_any (p ++ ps.flatten) (HI.out.below hwa) (by rw [List.length_append]; have := HL.out; unfold maxLen; omega) (by have := HN.out; omega)) (fun e wb hb => ?_)
  obtain ⟨v', rfl, p1, p2⟩ := hb
  refine ⟨_, rfl, kp_mk (bt HBA.out p2).size fun k hk _ => (bt HBA.out p2).block k hk, ?_⟩
  obtain ⟨va, vc, rfl⟩ := p1.slice
  simp only [Act.put, List.setIfInBounds_toArray, List.set_cons_succ, List.set_cons_zero]
  refine mx_take 2 rfl ?_
  simp only [List.take_succ_cons, List.take_zero, List.drop_succ_cons, List.drop_zero]
  repeat (go_big_quiet_step (fail))
  refine wpQuiet_nil ?_
  simp only [wpMix]
  have HLL : Hid ((lsD d (p ++ ps.flatten)).length ≤ 100000) := Nat.le_trans (lsD_le d _) HN.out
  have HPF : Hid (∀ x ∈ lsD d (p ++ ps.flatten), p.length ≤ x.length ∧ x.length ≤ maxLen) := fun x hx => ⟨lsD_pfx hx, HS.out x hx⟩
  have HSo := Hid.mk' p1
  have HBW := Hid.mk' (bt hwa p2)
  have hq1 := cell_later (bt HBA.out p2) hc1
  have hpl : (p.length : Int) ≤ 100000000 := by have := HL.out; omega
  have e1 : (⟨p.toArray⟩ : ByteArray).size = p.length := by simp [ByteArray.size]
  clear r0 r1 hc0 hc1 hd hba hwa p1 p2
  generalize hLg : lsD d (p ++ ps.flatten) = L at *
  have HLG := Hid.mk' hLg
  clear hLg
  have hll : (L.length : Int) ≤ 100000 := by have := HLL.out; omega
  go_wp2_with fail
  go_loopw [5, 15] (fun x i wr => ∃ k : Nat, k ≤ L.length ∧ i = .int .i64 k ∧ Hid (So 9 wb.heap.size wr x ((L.take k).map (·.drop p.length))) ∧ Hid (Below wb.heap.size wb wr)) (fun _ i _ => L.length - (intOf i).toNat)
  case atStart => exact ⟨0, by omega, rfl, so_nil, Below.refl _ _⟩
  case round =>
    obtain ⟨k, hk, rfl, HO, HBR⟩ := hrel
    by_cases hlt : k < L.length
    · have hlt' : (k : Int) < (L.length : Int) := by omega
      have HSS := (HSo.out.ss (by have := HLL.out; unfold lim; omega)).up HBR.out
      obtain ⟨_, _, ec, _, _, H⟩ := HSS.at
      cases ec
      obtain ⟨b', o, rfl, _, hu⟩ := H k hlt
      have hq := cell_later HBR.out hq1
      obtain ⟨g1, g2⟩ := HPF.out _ (List.getElem_mem hlt)
      have HT : Hid ((L.take (k + 1)).map (·.drop p.length) = (L.take k).map (·.drop p.length) ++ [L[k].drop p.length]) := by show _ = _; rw [List.take_succ_eq_append_getElem hlt, List.map_append]; rfl
      clear H HSS
      generalize L[k] = x at *
      have e2 : (⟨x.toArray⟩ : ByteArray).size = x.length := by simp [ByteArray.size]
      have e3 := ba_drop x p.length
      have g1' : (p.length : Int) ≤ (x.length : Int) := by omega
      have g2' : (x.length : Int) ≤ 9223372036854775807 := by unfold maxLen at g2; omega
      obtain ⟨ua2, uc2, eu⟩ := HO.out.slice
      have HKL : Hid (((L.take k).map (·.drop p.length)).length ≤ 100000) := by show _ ≤ _; rw [List.length_map, List.length_take]; have := HLL.out; omega
      have HBO : Hid (wb.heap.size ≤ wr.heap.size) := HBR.out.size
      go_wp2_with (at_builtin; go_must (refine app75 (v := u5) rfl (.tmp 19) (.tmp 25) rfl rfl (HO.out.alloc _) rfl (one_ss (x.drop p.length)) (by have := HKL.out; simp only [List.length_singleton]; unfold lim; omega) (by have := HBO.out; simp; omega) ?_); intro v5 w5 ho5 hg5; have HO5 := Hid.mk' ho5; have HB5 := Hid.mk' (below_appS (B0 := wb.heap.size) (HBR.out.trans ((up_alloc wr _).mono HBR.out.size)) (HO.out.alloc _) hg5 (Nat.le_refl _) (Nat.le_trans HBO.out (up_alloc wr _).size)); clear ho5 hg5)
      go_roundw
      case rel => exact ⟨k + 1, by omega, by go_num, by rw [HT.out]; exact HO5, HB5⟩
      case measure => simp [intOf]; omega
    · obtain rfl : k = L.length := by omega
      have HT : Hid (L.take L.length = L) := List.take_length
      go_wp2_with fail
      go_ret
      exact ⟨u5, rfl, by rw [HLG.out]; have := HO.out; rw [HT.out] at this; exact this.mono HBW.out.size, bt HBW.out HBR.out⟩
end Go.Proofs.Ytpgpncngamagdaa
