/- cut.numbers of what was put. -/
import Derived.Test.YtojgkjpmphfakaaGreatDoorPU
set_option linter.unusedVariables false
set_option linter.unusedSimpArgs false
namespace Go.Proofs.YtojgkjpmphfakaaGreatDoor
open Go.RowKit
attribute [local go_sem ↓] Go.wp_at_zero Go.wp_at_succ
/-- numbers in memory of the call's own -/
def Un (B : Nat) (w : World) (v : Value) (l : List Nat) : Prop := w.ownsRow B 23 1 v l.length (uv l)
theorem un_nil {B : Nat} {w : World} : Un B w (.slice none 0 0) [] := World.ownsRow_nil w B 23 1
theorem Un.us {B : Nat} {w : World} {v : Value} {l : List Nat} (h : Un B w v l) (hb : ∀ n ∈ l, n < 18446744073709551616) (hl : l.length * 8 ≤ lim) : Us (Lt w.heap.size) w v l := ⟨Row.of_own h, hb, hl⟩
theorem Un.usB {B : Nat} {w : World} {v : Value} {l : List Nat} (h : Un B w v l) (hb : ∀ n ∈ l, n < 18446744073709551616) (hl : l.length * 8 ≤ lim) : Us (fun k => B ≤ k) w v l := ⟨Row.of_ownB h, hb, hl⟩
theorem Un.up {B : Nat} {w w' : World} {v : Value} {l : List Nat} (h : Un B w v l) (hb : Below w.heap.size w w') : Un B w' v l := own_keep h hb (Nat.le_refl _)
theorem Un.mono {B B' : Nat} {w : World} {v : Value} {l : List Nat} (h : Un B w v l) (hB : B' ≤ B) : Un B' w v l := own_mono h hB
theorem uv_append (l r : List Nat) : uv (l ++ r) = uv l ++ uv r := by simp [uv]
theorem Tryz.info23 : (Tryz.prog.info? 23).map (fun i => (i.zero, i.size, i.bytes)) = some (some (.int .u64 0), 1, 8) := by kernel_rfl
theorem nms_at {l : List Nat} {k : Nat} (h : k < l.length) : nms l = nms (l.take k) ++ (nm l[k] ++ nms (l.drop (k + 1))) := by
  have e0 : l.take k ++ l[k] :: l.drop (k + 1) = l := by rw [← List.drop_eq_getElem_cons h, List.take_append_drop]
  have e := congrArg nms e0
  have a1 : ∀ x y, nms (x ++ y) = nms x ++ nms y := fun x y => by unfold nms; rw [List.map_append, List.flatten_append]
  have a2 : ∀ n y, nms (n :: y) = nm n ++ nms y := fun n y => by unfold nms; rw [List.map_cons, List.flatten_cons]
  rw [a1, a2] at e
  exact e.symm
theorem nm_pos (n : Nat) : 0 < (nm n).length := by
  unfold nm
  split <;> simp
set_option maxRecDepth 100000 in
set_option maxHeartbeats 4000000 in
/-- numbers -/
theorem cnums_any {A : Nat → Prop} {w : World} {v : Value} {ns : List Nat} (h : Bs A w v (nms ns)) (hn : ns.length ≤ 100000) (hb : ∀ n ∈ ns, n < 18446744073709551616) : Calls Tryz.prog 50 #[v] w fun e w' => ∃ v', e = .returned (.tuple #[v', .bool true]) ∧ Un w.heap.size w' v' ns ∧ Below w.heap.size w w' := by
  have HV := Hid.mk' h
  have HBD := Hid.mk' hb
  have HNZ := Hid.mk' hn
  have HLM : Hid ((nms ns).length ≤ 900000) := by have := nms_len ns hb; show _ ≤ _; omega
  obtain ⟨a, c, rfl, hc, _, _⟩ := h.at
  have HO0 : Hid (Un w.heap.size w (.slice none 0 0) (ns.take 0)) := un_nil
  have HB0 : Hid (Below w.heap.size w w) := Below.refl _ _
  clear h hb
  go_enter Tryz.func50, Tryz.ntmps50
  go_wp2_with fail
  go_loopw [4, 5] (fun y i wr => ∃ (k q : Nat) (oa : Option Addr) (oc : Nat), k ≤ ns.length ∧ i = .int .i64 (q : Int) ∧ y = .slice oa k oc ∧ Hid (q = (nms (ns.take k)).length) ∧ Hid (Un w.heap.size wr (.slice oa k oc) (ns.take k)) ∧ Hid (Below w.heap.size w wr)) (fun _ i _ => (nms ns).length - (intOf i).toNat)
  case atStart => exact ⟨0, 0, none, 0, by omega, rfl, rfl, rfl, HO0, HB0⟩
  case round =>
    clear HO0 HB0
    obtain ⟨k, q, oa, oc, hk, rfl, rfl, HQ, HO, HB⟩ := hrel
    rename World => wk
    by_cases hlt : k < ns.length
    case neg =>
      obtain rfl : k = ns.length := by omega
      rw [List.take_length] at HQ HO
      have hq : ¬ ((q : Int) < ((nms ns).length : Int)) := by have := HQ.out; omega
      clear hlt hk
      go_wp2_with fail
      refine bodyPost_ret (v := .tuple #[.slice oa ns.length oc, .bool true]) (by simp [results, Tryz.results50, go_sem]) rfl ?_
      exact ⟨_, rfl, HO.out, HB.out⟩
    have HAT := Hid.mk' (nms_at hlt)
    have hz := HBD.out ns[k] (List.getElem_mem hlt)
    have HTK := Hid.mk' (nms_take hlt)
    have HTN : Hid (ns.take (k + 1) = ns.take k ++ [ns[k]]) := List.take_succ_eq_append_getElem hlt
    have HPOS := Hid.mk' (nm_pos ns[k])
    have HQL : Hid (q + (nm ns[k]).length ≤ (nms ns).length) := by
      have h1 := congrArg List.length HAT.out; have h2 := HQ.out
      rw [List.length_append, List.length_append] at h1
      show _ ≤ _; omega
    have hq : (q : Int) < ((nms ns).length : Int) := by have := HQL.out; have := HPOS.out; omega
    have HT := take_any (HV.out.up HB.out) q (by have := HQL.out; have := HLM.out; unfold lim; omega)
    rw [HAT.out, show q = (nms (ns.take k)).length from HQ.out, tk_nm _ _ hz, ← HAT.out, ← show q = (nms (ns.take k)).length from HQ.out] at HT
    simp only [tkV] at HT
    replace HT := Hid.mk' HT
    have HQ2 : Hid (q + (nm ns[k]).length = (nms (ns.take (k + 1))).length) := by show _ = _; rw [HTK.out, List.length_append, ← HQ.out]
    have HMS : Hid ((nms ns).length - (q + (nm ns[k]).length) < (nms ns).length - q) := by have := HPOS.out; show _ < _; omega
    generalize ns[k] = z at *
    have HOA := Hid.mk' (HO.out.up (up_alloc wk (.cells #[.int .u64 (z : Int)] 23)))
    have HBA := Hid.mk' (HB.out.trans ((up_alloc wk (.cells #[.int .u64 (z : Int)] 23)).mono HB.out.size))
    have hqb : ((q + (nm z).length : Nat) : Int) ≤ 900000 := by have := HQL.out; have := HLM.out; omega
    obtain ⟨q2, hq2⟩ : ∃ n, n = q + (nm z).length := ⟨_, rfl⟩
    rw [← hq2] at HT HQ2 HMS hqb
    clear hz HAT hq2
    go_wp2_with fail
    refine HT.out.mono ?_
    rintro e w5 ⟨rfl, rfl⟩
    clear HT
    have HOB : Hid (wk.alloc (.cells #[.int .u64 (z : Int)] 23) |>.ownsRow w.heap.size 23 1 (.slice oa k oc) k (uv (ns.take k))) := by
      have := HOA.out; unfold Un at this
      rwa [show (ns.take k).length = k by rw [List.length_take]; omega] at this
    go_wp2_with (at_builtin; go_must (refine wpl_app rfl (.tmp 22) (.tmp 24) 30 rfl Tryz.underlying30 Tryz.info23 rfl (by decide) rfl HOB.out rfl row_one (by intro u hu; simp only [List.mem_cons, List.not_mem_nil, or_false] at hu; subst hu; rfl) (by have := HNZ.out; unfold maxLen; omega) (by have := HNZ.out; omega) HBA.out.size ?_); intro v6 w6 ho hg hn2 hbb)
    have HB6 : Hid (Below w.heap.size w w6) := below_app HBA.out HOB.out hg (Nat.le_refl _) HBA.out.size
    obtain ⟨a6, c6, e6⟩ := own_slice ho
    have HO6 : Hid (Un w.heap.size w6 v6 (ns.take (k + 1))) := by
      unfold Hid Un
      rw [HTN.out, uv_append, List.length_append, List.length_take, Nat.min_eq_left (Nat.le_of_lt hlt)]
      exact ho
    subst e6
    clear ho hg hn2 hbb
    go_roundw
    case rel => exact ⟨k + 1, q2, a6, c6, by omega, rfl, rfl, HQ2, HO6, HB6⟩
    case measure => simp [intOf]; exact HMS.out
end Go.Proofs.YtojgkjpmphfakaaGreatDoor
