/- groyneref04: List, Crash. -/
import Derived.Test.YtpgpncngamagdaaRM
import Derived.Test.YtpgpncngamagdaaSR
set_option linter.unusedVariables false
set_option linter.unusedSimpArgs false
namespace Go.Proofs.Ytpgpncngamagdaa
open Go.RowKit
attribute [local go_sem ↓] Go.wp_at_zero Go.wp_at_succ
def nms (F : Fl) (p : By) : List By := (F.map (·.1)).filter (pfx p)
theorem nms_take (l : Fl) (p : By) (k : Nat) (h : k < l.length) : nms (l.take (k + 1)) p = nms (l.take k) p ++ if pfx p l[k].1 then [l[k].1] else [] := by
  unfold nms
  rw [List.map_take, List.map_take, take_filter _ _ _ (by simpa using h)]
  simp
theorem nms_len (l : Fl) (p : By) (k : Nat) : (nms (l.take k) p).length ≤ l.length := by
  unfold nms
  refine Nat.le_trans (List.length_filter_le _ _) ?_
  simp
  exact Nat.min_le_right _ _
theorem nms_le (l : Fl) (p : By) : (nms l p).length ≤ l.length := by
  unfold nms
  refine Nat.le_trans (List.length_filter_le _ _) ?_
  simp
def lsR (r : Rd) (p : By) : List By := if r.dead then [] else nms (cur r) p
def RlPost (w : World) (l : List By) (e : Ending) (w' : World) : Prop := ∃ u, e = .returned u ∧ So 9 w.heap.size w' u l ∧ Below w.heap.size w w'
set_option maxRecDepth 100000 in
set_option maxHeartbeats 2000000 in
/-- groyneref04.List -/
theorem rlist_any {A : Nat → Prop} {w : World} {v : Value} {r : Rd} {T : Nat} (p : By) (h : Rf A w v r) (hk : Rok T r) (hp : p.length ≤ maxLen) : Calls Try.prog 42 #[v, .string ⟨p.toArray⟩] w (RlPost w (lsR r p)) := by
  obtain ⟨vs, vq, rfl, h1, h2⟩ := h
  have H1 := Hid.mk' h1
  have H2 := Hid.mk' h2
  obtain ⟨a, c, rfl, _⟩ := h1.at
  obtain ⟨qa, qc, rfl, _⟩ := h2.at
  have HC : Hid (cur r = all r.safe r.queue) := rfl
  have HS : Hid (∀ t ∈ cur r, t.1.length ≤ maxLen) := (Qg.last hk.1).2.2
  have HK := Hid.mk' hk
  have HLS : Hid (lsR r p = if r.dead = true then [] else nms (cur r) p) := rfl
  clear h1 h2 hk
  obtain ⟨sf, qu, room, armed, dead⟩ := r
  generalize cur _ = C at *
  generalize lsR _ p = LS at *
  unfold Rok at HK
  simp only at *
  have hup := up_alloc w (.cells #[.slice a sf.length c, .slice qa qu.length qc, .int .i64 room, .int .i64 armed, .bool dead] 51)
  have hbx : (w.alloc (.cells #[.slice a sf.length c, .slice qa qu.length qc, .int .i64 room, .int .i64 armed, .bool dead] 51)).heap[w.heap.size]? = some (.cells #[.slice a sf.length c, .slice qa qu.length qc, .int .i64 room, .int .i64 armed, .bool dead] 51 (0, 0)) := heap_alloc_new w _
  have HSZ : Hid (w.heap.size < (w.alloc (.cells #[.slice a sf.length c, .slice qa qu.length qc, .int .i64 room, .int .i64 armed, .bool dead] 51)).heap.size) := (Array.getElem?_eq_some_iff.1 hbx).1
  have HBX := Hid.mk' hbx
  have HUP := Hid.mk' hup
  have HA := Hid.mk' (raft_all (y2 := .int .i64 room) (y3 := .int .i64 armed) (y4 := .bool dead) (H1.out.up hup) (H2.out.up hup) HK.out.1 HK.out.2)
  clear hup hbx
  have e2 : (⟨p.toArray⟩ : ByteArray).size = p.length := by simp [ByteArray.size]
  go_enter Try.func42, Try.ntmps42
  go_wp2_with fail
  refine HA.out.mono ?_
  rintro e w1 ⟨y, rfl, t1, b1⟩
  rw [← HC.out] at t1
  have T1 := Hid.mk' t1
  have B1 := Hid.mk' (bt HUP.out b1)
  have HB4 : Hid (w1.cell? ⟨w.heap.size, 4, none⟩ = some (.bool dead)) := cell_later b1 (box5 HBX.out).2.2.2.2
  obtain ⟨a3, c3, rfl, _, _, hlC, _⟩ := t1.at
  have hlC' : (C.length : Int) ≤ 1000000 := by omega
  clear t1 b1 HA
  go_wp2_with fail
  go_loopw [5, 7] (fun u i wr => ∃ k : Nat, k ≤ C.length ∧ i = .int .i64 k ∧ Hid (dead = true → k = 0) ∧ Hid (So 9 w1.heap.size wr u (nms (C.take k) p)) ∧ Hid (Below w1.heap.size w1 wr)) (fun _ i _ => C.length - (intOf i).toNat)
  case atStart => exact ⟨0, by omega, rfl, fun _ => rfl, so_nil, Below.refl _ _⟩
  case round =>
    obtain ⟨k, hk, rfl, hd0, HO, HB⟩ := hrel
    have q4 := cell_later HB.out HB4.out
    by_cases hlt : k < C.length
    · have hlt' : (k : Int) < (C.length : Int) := by omega
      cases dead with
      | true =>
        obtain rfl := hd0.out rfl
        clear hd0
        have hlt0 : (0 : Int) < (C.length : Int) := by omega
        go_wp2_with fail
        go_ret
        exact ⟨_, rfl, by rw [HLS.out]; exact HO.out.mono B1.out.size, bt B1.out HB.out⟩
      | false =>
      clear hd0
      obtain ⟨_, _, ec, _, _, _, H⟩ := (T1.out.up HB.out).at
      cases ec
      obtain ⟨b, o, u, rfl, _, h1, h2, h3⟩ := H k hlt
      have HT := Hid.mk' (nms_take C p k hlt)
      have HLN := Hid.mk' (nms_len C p k)
      have hsl := HS.out C[k] (List.getElem_mem hlt)
      clear h2 h3 H
      generalize C[k] = t at *
      have e1 : (⟨t.1.toArray⟩ : ByteArray).size = t.1.length := by simp [ByteArray.size]
      have e3 := ba_take t.1 p.length
      have HWB := Hid.mk' (bt B1.out HB.out)
      by_cases h5 : p.length ≤ t.1.length
      · have h5' : (p.length : Int) ≤ (t.1.length : Int) := by omega
        have HX : Hid (pfx p t.1 = (t.1.take p.length == p)) := by show _ = _; unfold pfx; simp [h5]
        cases hd : (t.1.take p.length == p) with
        | true =>
          have HV : Hid (nms (C.take (k + 1)) p = nms (C.take k) p ++ [t.1]) := by show _ = _; rw [HT.out, HX.out, hd]; simp
          clear h5
          obtain ⟨ua, uc, eu⟩ := HO.out.slice
          go_wp2_with (at_builtin; refine app75 rfl (.tmp 40) (.tmp 42) rfl rfl (HO.out.alloc _) rfl (one_ss t.1) (by have := HLN.out; simp; unfold lim; omega) (by have := HB.out.size; simp; omega) ?_; intro v5 w5 ho5 hg5; have HO5 := Hid.mk' ho5; have HB5 := Hid.mk' (below_appS (HB.out.trans ((up_alloc wr _).mono HB.out.size)) (HO.out.alloc _) hg5 (Nat.le_refl _) (Nat.le_trans HB.out.size (up_alloc wr _).size)); clear ho5 hg5)
          go_roundw
          case rel => exact ⟨k + 1, by omega, by go_num, (fun h => by cases h), by rw [HV.out]; exact HO5, HB5⟩
          case measure => simp [intOf]; omega
        | false =>
          have HV : Hid (nms (C.take (k + 1)) p = nms (C.take k) p) := by show _ = _; rw [HT.out, HX.out, hd]; simp
          go_wp2_with fail
          go_roundw
          case rel => exact ⟨k + 1, by omega, by go_num, (fun h => by cases h), by rw [HV.out]; exact HO, HB⟩
          case measure => simp [intOf]; omega
      · have h5' : ¬ (p.length : Int) ≤ (t.1.length : Int) := by omega
        have HV : Hid (nms (C.take (k + 1)) p = nms (C.take k) p) := by
          show _ = _; rw [HT.out, show pfx p t.1 = false by unfold pfx; simp [h5]]; simp
        go_wp2_with fail
        go_roundw
        case rel => exact ⟨k + 1, by omega, by go_num, (fun h => by cases h), by rw [HV.out]; exact HO, HB⟩
        case measure => simp [intOf]; omega
    · obtain rfl : k = C.length := by omega
      have HV : Hid (nms (C.take C.length) p = nms C p) := by show _ = _; rw [List.take_length]
      have hlt' : ¬ ((C.length : Int) < (C.length : Int)) := by omega
      have HF : Hid ((if dead = true then [] else nms C p) = nms (C.take C.length) p) := by
        show _ = _
        cases dead with
        | true => rw [hd0.out rfl]; rfl
        | false => rw [HV.out]; rfl
      clear hd0
      go_wp2_with fail
      go_ret
      exact ⟨_, rfl, by rw [HLS.out, HF.out]; exact HO.out.mono B1.out.size, bt B1.out HB.out⟩
end Go.Proofs.Ytpgpncngamagdaa
