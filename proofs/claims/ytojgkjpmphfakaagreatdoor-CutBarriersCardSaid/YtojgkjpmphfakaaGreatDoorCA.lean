/- cut.get, cut.all. -/
import Derived.Test.YtojgkjpmphfakaaGreatDoorNU
set_option linter.unusedVariables false
set_option linter.unusedSimpArgs false
namespace Go.Proofs.YtojgkjpmphfakaaGreatDoor
open Go.RowKit
attribute [local go_sem ↓] Go.wp_at_zero Go.wp_at_succ
theorem two_cells {w : World} {x y : Value} {e : TypeId} : (w.alloc (.cells #[x, y] e)).cell? ⟨w.heap.size, 0, none⟩ = some x ∧ (w.alloc (.cells #[x, y] e)).cell? ⟨w.heap.size, 1, none⟩ = some y := by
  have hb := heap_alloc_new w (.cells #[x, y] e)
  exact ⟨by simp only [World.cell?, hb]; rfl, by simp only [World.cell?, hb]; rfl⟩
set_option maxRecDepth 100000 in
set_option maxHeartbeats 4000000 in
/-- get of what does not lie there -/
theorem cget_none {A V : Nat → Prop} {B b n : Nat} {w : World} {u : Value} {f : List UInt8 → Option (List UInt8)} {ps : List (List UInt8)} (p : List UInt8) (least : Int) (hI : VaultIs B V w b f n) (h : Ss A w u ps) (hl : p.length + ps.flatten.length ≤ 100000000) (hf : f (p ++ ps.flatten) = none) :
    Calls Tryz.prog 32 #[.agg #[.pointer (some ⟨b, 0, none⟩), .string ⟨p.toArray⟩], .int .i64 least, u] w fun e w' => e = .returned (.tuple #[.slice none 0 0, .string ⟨#[]⟩, .bool false]) ∧ Below w.heap.size w w' := by
  obtain ⟨W, hW⟩ : ∃ W, W = w.alloc (.cells #[.pointer (some ⟨b, 0, none⟩), .string ⟨p.toArray⟩] 29) := ⟨_, rfl⟩
  have HB : Hid (Below w.heap.size w W) := by rw [hW]; exact up_alloc _ _
  have hc : W.cell? ⟨w.heap.size, 0, none⟩ = some (.pointer (some ⟨b, 0, none⟩)) ∧ W.cell? ⟨w.heap.size, 1, none⟩ = some (.string ⟨p.toArray⟩) := by rw [hW]; exact two_cells
  obtain ⟨hc0, hc1⟩ := hc
  have HF := Hid.mk' (fetch_any p (hI.up HB.out) (h.up HB.out) hl)
  have HE := Hid.mk' hf
  obtain ⟨ua, uc, rfl, _⟩ := h.at
  clear h hI hl hf
  go_enter Tryz.func32, Tryz.ntmps32
  go_upto_region 1 with fail
  rw [← hW]
  clear hW
  go_wp2_with fail
  refine HF.out.mono ?_
  rintro e w1 ⟨v1, rfl, hb1, _⟩
  have HB1 := Hid.mk' (bt HB.out hb1)
  clear hb1 HF
  rw [show getC f (p ++ ps.flatten) = 6 by unfold getC; rw [HE.out]]
  go_wp2_with fail
  refine bodyPost_ret (v := .tuple #[.slice none 0 0, .string ⟨#[]⟩, .bool false]) (by simp [results, Tryz.results32, go_sem]) rfl ?_
  exact ⟨rfl, HB1.out⟩
set_option maxRecDepth 100000 in
set_option maxHeartbeats 4000000 in
/-- get of what put made -/
theorem cget_some {A V : Nat → Prop} {B b n : Nat} {w : World} {u : Value} {f : List UInt8 → Option (List UInt8)} {ps : List (List UInt8)} (p : List UInt8) (least : Nat) {ns : List Nat} {s : List UInt8} (hI : VaultIs B V w b f n) (h : Ss A w u ps) (hl : p.length + ps.flatten.length ≤ 100000000) (hf : f (p ++ ps.flatten) = some (enc ns s)) (hn : ns.length ≤ 1000) (hb : ∀ n ∈ ns, n < 18446744073709551616) (hs : s.length ≤ 100000) :
    Calls Tryz.prog 32 #[.agg #[.pointer (some ⟨b, 0, none⟩), .string ⟨p.toArray⟩], .int .i64 least, u] w fun e w' => ∃ v', e = .returned (.tuple #[v', .string ⟨s.toArray⟩, .bool (decide ((least : Int) ≤ (ns.length : Int)))]) ∧ Un w.heap.size w' v' ns ∧ Below w.heap.size w w' := by
  obtain ⟨W, hW⟩ : ∃ W, W = w.alloc (.cells #[.pointer (some ⟨b, 0, none⟩), .string ⟨p.toArray⟩] 29) := ⟨_, rfl⟩
  have HB : Hid (Below w.heap.size w W) := by rw [hW]; exact up_alloc _ _
  have hc : W.cell? ⟨w.heap.size, 0, none⟩ = some (.pointer (some ⟨b, 0, none⟩)) ∧ W.cell? ⟨w.heap.size, 1, none⟩ = some (.string ⟨p.toArray⟩) := by rw [hW]; exact two_cells
  obtain ⟨hc0, hc1⟩ := hc
  have HF := Hid.mk' (fetch_any p (hI.up HB.out) (h.up HB.out) hl)
  have HE := Hid.mk' hf
  have HN : Hid (ns.length ≤ 1000) := hn
  have HBD := Hid.mk' hb
  have HS : Hid (s.length ≤ 100000) := hs
  have HLM : Hid ((nms ns).length ≤ 900000) := by have := nms_len ns hb; show _ ≤ _; omega
  have HEL : Hid ((enc ns s).length ≤ lim) := by
    have h1 := nm_len (show (nms ns).length < 18446744073709551616 by have := HLM.out; omega)
    have h2 := nm_len (show s.length < 18446744073709551616 by omega)
    have h3 := txt_two (nms ns) s
    have h4 : nm 2 = [2] := by unfold nm; rw [if_pos (by omega)]; rfl
    show _ ≤ _
    have h5 : (enc ns s).length = 1 + (txt [nms ns, s]).length := by unfold enc jn; rw [List.length_append]; show (nm 2).length + _ = _; rw [h4]; rfl
    have := HLM.out
    unfold lim; omega
  obtain ⟨ua, uc, rfl, _⟩ := h.at
  clear h hI hl hf hb hs
  go_enter Tryz.func32, Tryz.ntmps32
  go_upto_region 1 with fail
  rw [← hW]
  clear hW
  go_wp2_with fail
  refine HF.out.mono ?_
  rintro e w1 ⟨v1, rfl, hb1, ho1⟩
  have HB1 := Hid.mk' (bt HB.out hb1)
  rw [HE.out] at ho1
  have HV1 := Hid.mk' (split_any (ls := [nms ns, s]) (show Bs (Lt w1.heap.size) w1 v1 (jn [nms ns, s]) from ho1.bs HEL.out) (by simp) (by
    intro x hx
    simp only [List.mem_cons, List.not_mem_nil, or_false] at hx
    rcases hx with rfl | rfl
    · have := HLM.out; unfold lim; omega
    · have := HS.out; unfold lim; omega))
  obtain ⟨va, vc, rfl⟩ := own_slice ho1
  rw [show getC f (p ++ ps.flatten) = 0 by unfold getC; rw [HE.out]]
  clear hb1 ho1 HF HE
  go_wp2_with fail
  refine HV1.out.mono ?_
  rintro e w2 ⟨v2, rfl, hs2, hb2⟩
  have HB2 := Hid.mk' (bt HB1.out hb2)
  obtain ⟨a2, c2, rfl, _, _, H2⟩ := hs2.at
  obtain ⟨b2, o2, u0, rfl, _, k0, hu0⟩ := H2 0 (by simp)
  obtain ⟨_, _, u1, e2, _, k1, hu1⟩ := H2 1 (by simp)
  cases e2
  have HC := Hid.mk' (cnums_any (show Bs (Lt w2.heap.size) w2 u0 (nms ns) from hu0) (by have := HN.out; omega) HBD.out)
  have HU1 : Hid (Bs (Lt w2.heap.size) w2 u1 s) := hu1
  have HK1 : Hid (w2.cell? ⟨b2, o2 + 1, none⟩ = some u1) := k1
  obtain ⟨q0, r0, rfl, _⟩ := hu0.at
  obtain ⟨q1, r1, rfl, _⟩ := hu1.at
  have k0 : w2.cell? ⟨b2, o2, none⟩ = some _ := k0
  clear hs2 hb2 H2 hu0 hu1 k1 HV1
  simp only [List.length_cons, List.length_nil, Nat.zero_add, Nat.reduceAdd]
  go_wp2_with fail
  refine HC.out.mono ?_
  rintro e w3 ⟨v3, rfl, ho3, hb3⟩
  have HB3 := Hid.mk' (bt HB2.out hb3)
  have HO3 : Hid (Un w.heap.size w3 v3 ns) := Un.mono ho3 HB2.out.size
  have k1 := cell_later hb3 HK1.out
  have HU3 := Hid.mk' (HU1.out.up hb3)
  obtain ⟨a3, c3, e3⟩ := own_slice ho3
  subst e3
  have hcv : ∀ q : Ups w3, (convert 69 9 (.slice q1 s.length r1)).run Tryz.prog q.nx = .ok (.string ⟨s.toArray⟩) q.nx := fun q => run_str 69 9 Tryz.underlying69 Tryz.underlying5 Tryz.underlying9 (HU3.out.up q.ok)
  have r1 : ∀ q : Ups w3, q.nx.cell? ⟨b2, o2 + 1, none⟩ = some _ := fun q => q.cell k1
  have hnl : (ns.length : Int) ≤ 1000 := by have := HN.out; omega
  clear ho3 hb3 HC k0 k1
  go_wp2_with fail
  refine wp_region_up (by kernel_rfl) (by kernel_rfl) ?_
  repeat (go_big_quiet_step (fail))
  refine wpQuiet_nil ?_
  intro _ hw'
  obtain ⟨q, hw''⟩ := hw'
  subst hw''
  have HQ := Hid.mk' (bt HB3.out q.ok)
  have HO5 := Hid.mk' (HO3.out.up q.ok)
  clear hcv r1
  generalize q.nx = w4 at *
  clear q
  go_wp2_with fail
  refine bodyPost_ret (v := .tuple #[.slice a3 ns.length c3, .string ⟨s.toArray⟩, .bool (decide ((least : Int) ≤ (ns.length : Int)))]) (by simp [results, Tryz.results32, go_sem]) rfl ?_
  exact ⟨_, rfl, HO5.out, HQ.out⟩
/-- the numbers of which a prefix has things -/
def allN (l : List Th) (p : List UInt8) : List Nat := (tlist l p).filterMap fun x => numV (x.drop p.length)
theorem tlist_full {l : List Th} {p x : List UInt8} (h : x ∈ tlist l p) : p.length ≤ x.length := tlist_pfx (q := []) (by rwa [List.append_nil])
set_option maxRecDepth 100000 in
set_option maxHeartbeats 4000000 in
/-- all -/
theorem call_any {V : Nat → Prop} {B b : Nat} {w : World} {l : List Th} (p r : List UInt8) (hI : VaultIs B V w b (tget l) l.length) (hA : Asc l) (hn : l.length ≤ 100000) (hl : p.length + r.length ≤ 100000000) (hs : ∀ t ∈ l, t.1.length ≤ maxLen) :
    Calls Tryz.prog 31 #[.agg #[.pointer (some ⟨b, 0, none⟩), .string ⟨p.toArray⟩], .string ⟨r.toArray⟩] w fun e w' => ∃ v', e = .returned v' ∧ Un w.heap.size w' v' (allN l (p ++ r)) ∧ Below w.heap.size w w' := by
  obtain ⟨W, hW⟩ : ∃ W, W = w.alloc (.cells #[.pointer (some ⟨b, 0, none⟩), .string ⟨p.toArray⟩] 29) := ⟨_, rfl⟩
  have HB : Hid (Below w.heap.size w W) := by rw [hW]; exact up_alloc _ _
  have hc : W.cell? ⟨w.heap.size, 0, none⟩ = some (.pointer (some ⟨b, 0, none⟩)) ∧ W.cell? ⟨w.heap.size, 1, none⟩ = some (.string ⟨p.toArray⟩) := by rw [hW]; exact two_cells
  obtain ⟨hc0, hc1⟩ := hc
  have HBA := Hid.mk' (HB.out.trans ((up_alloc W (.cells #[.string ⟨r.toArray⟩] 9)).mono HB.out.size))
  have HNM := names_any (ps := [r]) p (hI.up HBA.out) hA hn (one_ss (w := W) r) (by simpa using hl) hs
  rw [show [r].flatten = r by simp] at HNM
  have HNM := Hid.mk' HNM
  have HLL : Hid (((tlist l (p ++ r)).map (·.drop p.length)).length ≤ 100000) := by show _ ≤ _; rw [List.length_map]; have := tlist_len l (p ++ r) l.length; rw [List.take_length] at this; exact Nat.le_trans this hn
  have HPF : Hid (∀ x ∈ (tlist l (p ++ r)).map (·.drop p.length), r.length ≤ x.length ∧ x.length ≤ maxLen) := fun x hx => by
    obtain ⟨y, hy, rfl⟩ := List.mem_map.1 hx
    have h1 := tlist_full hy
    obtain ⟨t, ht, rfl⟩ := List.mem_map.1 (List.mem_filter.1 hy).1
    have h2 := hs t ht
    rw [List.length_drop, List.length_append] at *
    omega
  have HEQ : Hid (allN l (p ++ r) = ((tlist l (p ++ r)).map (·.drop p.length)).filterMap fun x => numV (x.drop r.length)) := by
    show _ = _
    unfold allN
    rw [List.filterMap_map]
    refine congrArg (fun g => List.filterMap g _) (funext fun x => ?_)
    simp [List.drop_drop]
  have hrl : (r.length : Int) ≤ 100000000 := by omega
  have er : (⟨r.toArray⟩ : ByteArray).size = r.length := by simp [ByteArray.size]
  clear hI hA hn hl hs
  go_enter Tryz.func31, Tryz.ntmps31
  go_upto_region 1 with fail
  rw [← hW]
  clear hW
  go_wp2_with fail
  refine HNM.out.mono ?_
  rintro e w1 ⟨v1, rfl, ho1, hb1⟩
  have HB1 := Hid.mk' (bt HBA.out hb1)
  generalize (tlist l (p ++ r)).map (·.drop p.length) = L at *
  have HO1 := Hid.mk' ho1
  obtain ⟨a1, c1, rfl⟩ := ho1.slice
  have hll : (L.length : Int) ≤ 100000 := by have := HLL.out; omega
  have HO0 : Hid (Un w1.heap.size w1 (.slice none 0 0) ((L.take 0).filterMap fun x => numV (x.drop r.length))) := un_nil
  have HB0 : Hid (Below w1.heap.size w1 w1) := Below.refl _ _
  clear ho1 hb1 HNM hc0 hc1
  go_wp2_with fail
  go_loopw [5, 15] (fun x i wr => ∃ (k m : Nat) (oa : Option Addr) (oc : Nat), k ≤ L.length ∧ i = .int .i64 k ∧ x = .slice oa m oc ∧ m ≤ k ∧ Hid (m = ((L.take k).filterMap fun x => numV (x.drop r.length)).length) ∧ Hid (Un w1.heap.size wr (.slice oa m oc) ((L.take k).filterMap fun x => numV (x.drop r.length))) ∧ Hid (Below w1.heap.size w1 wr)) (fun _ i _ => L.length - (intOf i).toNat)
  case atStart => exact ⟨0, 0, none, 0, by omega, rfl, rfl, by omega, rfl, HO0, HB0⟩
  case round =>
    clear HO0 HB0
    obtain ⟨k, m, oa, oc, hk, rfl, rfl, hmk, HM, HO, HBR⟩ := hrel
    rename World => wk
    by_cases hlt : k < L.length
    case neg =>
      obtain rfl : k = L.length := by omega
      rw [List.take_length] at HO
      clear hlt
      go_wp2_with fail
      go_ret
      exact ⟨_, rfl, by rw [HEQ.out]; exact HO.out.mono HB1.out.size, bt HB1.out HBR.out⟩
    have hlt' : (k : Int) < (L.length : Int) := by omega
    have HSS := (HO1.out.ss (by have := HLL.out; unfold lim; omega)).up HBR.out
    obtain ⟨_, _, ec, _, _, H⟩ := HSS.at
    cases ec
    obtain ⟨b', o, rfl, _, hu⟩ := H k hlt
    obtain ⟨g1, g2⟩ := HPF.out _ (List.getElem_mem hlt)
    have HT : Hid ((L.take (k + 1)).filterMap (fun x => numV (x.drop r.length)) = (L.take k).filterMap (fun x => numV (x.drop r.length)) ++ (numV (L[k].drop r.length)).toList) := by
      show _ = _
      rw [List.take_succ_eq_append_getElem hlt, List.filterMap_append]
      congr 1
    clear H HSS
    generalize L[k] = x at *
    have e2 : (⟨x.toArray⟩ : ByteArray).size = x.length := by simp [ByteArray.size]
    have e3 := ba_drop x r.length
    have g1' : (r.length : Int) ≤ (x.length : Int) := by omega
    have g2' : (x.length : Int) ≤ 9223372036854775807 := by unfold maxLen at g2; omega
    have HTN := Hid.mk' (toNumber_any (x.drop r.length) wk)
    clear g1 g2
    cases hv : numV (x.drop r.length) with
    | none =>
      rw [hv] at HTN HT
      have HT : Hid (_ = _) := HT.out.trans (List.append_nil _)
      simp only [numOut] at HTN
      clear hv
      go_wp2_with fail
      refine HTN.out.mono ?_
      rintro e w2 ⟨rfl, rfl⟩
      clear HTN
      go_wp2_with fail
      go_roundw
      case rel => exact ⟨k + 1, m, oa, oc, by omega, by go_num, rfl, by omega, by show _ = _; rw [HT.out]; exact HM.out, by rw [HT.out]; exact HO, HBR⟩
      case measure => simp [intOf]; omega
    | some z =>
      rw [hv] at HTN HT
      have HT : Hid (_ = _ ++ [z]) := HT.out
      simp only [numOut] at HTN
      have HZ := Hid.mk' (hex_numV _ _ hv).2
      clear hv
      go_wp2_with fail
      refine HTN.out.mono ?_
      rintro e w2 ⟨rfl, rfl⟩
      clear HTN
      have hup := up_alloc wk (.cells #[.int .u64 (z : Int)] 23)
      have HOA : Hid (wk.alloc (.cells #[.int .u64 (z : Int)] 23) |>.ownsRow w1.heap.size 23 1 (.slice oa m oc) m (uv ((L.take k).filterMap fun x => numV (x.drop r.length)))) := by
        have := HO.out.up hup; unfold Un at this; rwa [← HM.out] at this
      have HBA := Hid.mk' (HBR.out.trans (hup.mono HBR.out.size))
      clear hup
      go_wp2_with (at_builtin; go_must (refine wpl_app rfl (.tmp 28) (.tmp 30) 30 rfl Tryz.underlying30 Tryz.info23 rfl (by decide) rfl HOA.out rfl row_one (by intro u hu; simp only [List.mem_cons, List.not_mem_nil, or_false] at hu; subst hu; rfl) (by have := HLL.out; unfold maxLen; omega) (by have := HLL.out; omega) HBA.out.size ?_); intro v6 w6 ho hg hn2 hbb)
      have HB6 : Hid (Below w1.heap.size w1 w6) := below_app HBA.out HOA.out hg (Nat.le_refl _) HBA.out.size
      obtain ⟨a6, c6, e6⟩ := own_slice ho
      have HM6 : Hid (m + 1 = ((L.take (k + 1)).filterMap fun x => numV (x.drop r.length)).length) := by show _ = _; rw [HT.out, List.length_append, ← HM.out]; rfl
      have HO6 : Hid (Un w1.heap.size w6 v6 ((L.take (k + 1)).filterMap fun x => numV (x.drop r.length))) := by
        unfold Hid Un
        rw [← HM6.out, HT.out, uv_append]
        exact ho
      subst e6
      clear ho hg hn2 hbb
      go_roundw
      case rel => exact ⟨k + 1, m + 1, a6, c6, by omega, by go_num, rfl, by omega, HM6, HO6, HB6⟩
      case measure => simp [intOf]; omega
end Go.Proofs.YtojgkjpmphfakaaGreatDoor
