/- cut.Enter, cut.Lookup. -/
import Derived.Test.YtojgkjpmphfakaaGreatDoorCC
import Derived.Test.YtojgkjpmphfakaaGreatDoorL2
set_option linter.unusedVariables false
set_option linter.unusedSimpArgs false
namespace Go.Proofs.YtojgkjpmphfakaaGreatDoor
open Go.RowKit
open PL
attribute [local go_sem ↓] Go.wp_at_zero Go.wp_at_succ
theorem enc_len (ns : List Nat) (s : List UInt8) (hb : ∀ n ∈ ns, n < 18446744073709551616) (hn : ns.length ≤ 100000 := by omega) (hs : s.length ≤ 100000 := by omega) : (enc ns s).length ≤ 9 * ns.length + s.length + 19 := by
  have h1 := nms_len ns hb
  have h2 := nm_len (show (nms ns).length < 18446744073709551616 by omega)
  have h3 := nm_len (show s.length < 18446744073709551616 by omega)
  have h4 := txt_two (nms ns) s
  have h6 : nm 2 = [2] := by unfold nm; rw [if_pos (by omega)]; rfl
  have h5 : (enc ns s).length = 1 + (txt [nms ns, s]).length := by unfold enc jn; rw [List.length_append]; show (nm 2).length + _ = _; rw [h6]; rfl
  omega
theorem valid_len {s : List UInt8} (h : validB s = true) : s.length ≤ 16 := by
  cases s with
  | nil => simp
  | cons x r => simp only [validB, Bool.and_eq_true, decide_eq_true_eq] at h; first | omega | (have := h.1.1; omega) | (have := h.1; omega)
/-- what Enter meets in the catalogue -/
def hit (b : Br) : List Br → Option Int
  | [] => none
  | x :: r => if x = b then some 0 else if x.1 = b.1 ∨ x.2.1 = b.2.1 then some 7 else hit b r
/-- the thing of a barrier -/
def bkey (q : List UInt8) (b : Br) : List UInt8 := q ++ hex b.1
def bval (b : Br) : List UInt8 := enc b.2.2 b.2.1
def entC (l : List Th) (q : List UInt8) (es : List Br) (b : Br) : Int := if validB b.2.1 then (match hit b es with | some c => c | none => putC (tget l) (bkey q b) (bval b)) else 3
def entL (l : List Th) (q : List UInt8) (es : List Br) (b : Br) : List Th := if validB b.2.1 then (match hit b es with | some _ => l | none => tput l (bkey q b) (bval b)) else l
/-- what a call says that may put a thing -/
def PutL (B : Nat) (V : Nat → Prop) (w : World) (b : Nat) (c : Int) (l : List Th) (e : Ending) (w' : World) : Prop :=
  e = .returned (.int .i64 c) ∧ Below B w w' ∧ CellsBut b w w' ∧ VaultIs B (fun k => V k ∨ w.heap.size ≤ k) w' b (tget l) l.length
theorem PutL.of {B b : Nat} {V : Nat → Prop} {w w' : World} {l : List Th} {s v : List UInt8} {e : Ending} (hA : Asc l) (h : PutPost B V w b (tget l) l.length s v e w') : PutL B V w b (putC (tget l) s v) (tput l s v) e w' := by
  obtain ⟨h1, h2, h3, h4⟩ := h
  refine ⟨h1, h2, h3, ?_⟩
  have e1 : putF (tget l) s v = tget (tput l s v) := funext fun x => (tput_get hA s v x).symm
  rw [tput_len s v, ← e1]
  exact h4
theorem PutL.same {B b : Nat} {V : Nat → Prop} {w w' : World} {l : List Th} {c : Int} (hI : VaultIs B V w b (tget l) l.length) (hb : Below w.heap.size w w') : PutL B V w b c l (.returned (.int .i64 c)) w' := by
  have hB : B ≤ w.heap.size := by obtain ⟨r, hr⟩ := hI.box; exact Nat.le_trans hI.1 (Nat.le_of_lt (Array.getElem?_eq_some_iff.1 hr).1)
  exact ⟨rfl, hb.mono hB, CellsBut.of_below hb, (hI.up hb).mono fun k hk => .inl hk⟩
theorem exec_bs24 {w : World} {o : Oper} {a : Act} {x y : Operand} {s t : ByteArray} (ho : o.op = .buildSlice 24 2 #[(0, x), (1, y)]) (hx : a.eval x = .string s) (hy : a.eval y = .string t) :
    (execOp a.eval o).run Tryz.prog w = .ok (.value (.slice (some ⟨w.heap.size, 0, none⟩) 2 2)) (w.alloc (.cells #[.string s, .string t] 9)) := by
  unfold execOp
  simp only [ho, List.map_toArray, List.map_cons, List.map_nil, hx, hy]
  simp [go_sem]
theorem gv_of_cell {b k o : Nat} {W : World} {v : Value} (h : W.cell? ⟨k, o, none⟩ = some v) (hne : k ≠ b) : ¬ Gv b W k := by
  intro hg
  rcases hg with rfl | hg
  · exact hne rfl
  · simp only [World.cell?] at h
    cases hh : W.heap[k]? with
    | none => simp [hh] at h
    | some ob =>
      cases ob with
      | cells c e fr => exact hg _ _ _ hh
      | _ => simp [hh] at h
theorem some_all (es : List Br) : some' [] es = es := by unfold some'; simp
theorem ss_none (w : World) : Ss (fun _ => False) w (.slice none 0 0) [] := ⟨Row.void fun _ => rfl, by unfold lim; simp⟩
theorem Cat.bnd {l : List Th} {q : List UInt8} {es : List Br} (h : Cat l q es) : ∀ x ∈ es, (∀ n ∈ x.2.2, n < 18446744073709551616) ∧ x.2.2.length * 8 ≤ lim := fun x hx => ⟨(h.ats x hx).2, by have := (h.ats x hx).1; unfold lim; omega⟩
theorem enter_box {w : World} {x0 x1 y0 y1 y2 : Value} {e f : TypeId} : ∃ W, W = (w.alloc (.cells #[x0, x1] e)).alloc (.cells #[y0, y1, y2] f) ∧ Below w.heap.size w W ∧ W.heap.size = w.heap.size + 1 + 1 ∧ (W.cell? ⟨w.heap.size, 0, none⟩ = some x0 ∧ W.cell? ⟨w.heap.size, 1, none⟩ = some x1) ∧ (W.cell? ⟨w.heap.size + 1, 0, none⟩ = some y0 ∧ W.cell? ⟨w.heap.size + 1, 1, none⟩ = some y1 ∧ W.cell? ⟨w.heap.size + 1, 2, none⟩ = some y2) := by
  refine ⟨_, rfl, bt (up_alloc _ _) (up_alloc _ _), by simp, ?_, ?_⟩
  · have h := two_cells (w := w) (x := x0) (y := x1) (e := e)
    exact ⟨cell_later (up_alloc _ _) h.1, cell_later (up_alloc _ _) h.2⟩
  · have h := box3 (w := w.alloc (.cells #[x0, x1] e)) (x := y0) (y := y1) (z := y2) (e := f)
    rw [show (w.alloc (.cells #[x0, x1] e)).heap.size = w.heap.size + 1 by simp] at h
    exact h
set_option maxRecDepth 100000 in
set_option maxHeartbeats 4000000 in
/-- Enter of what is no name -/
theorem enter_bad {A : Nat → Prop} {b : Nat} {w : World} {p : List UInt8} (inc : Nat) (n : Br) {v : Value} (h : Us A w v n.2.2) (hv : validB n.2.1 = false) :
    Calls Tryz.prog 9 #[.agg #[.pointer (some ⟨b, 0, none⟩), .string ⟨p.toArray⟩], .int .u64 (inc : Int), .agg #[.int .u64 (n.1 : Int), .string ⟨n.2.1.toArray⟩, v]] w fun e w' => e = .returned (.int .i64 3) ∧ Below w.heap.size w w' := by
  obtain ⟨n1, n2, n3⟩ := n
  simp only at h hv ⊢
  obtain ⟨va, vc, rfl, _⟩ := h.at
  obtain ⟨W, hW, hB, hsz, _, hd0, hd1, hd2⟩ := enter_box (w := w) (x0 := .pointer (some ⟨b, 0, none⟩)) (x1 := .string ⟨p.toArray⟩) (e := 29) (y0 := .int .u64 (n1 : Int)) (y1 := .string ⟨n2.toArray⟩) (y2 := .slice va n3.length vc) (f := 38)
  have HB := Hid.mk' hB
  have HV := Hid.mk' (valid_any n2 W)
  rw [hv] at HV
  clear h hsz hB hv
  go_enter Tryz.func9, Tryz.ntmps9
  go_upto_region 1 with fail
  rw [← hW]
  clear hW
  go_wp2_with fail
  refine HV.out.mono ?_
  rintro e w1 ⟨rfl, rfl⟩
  clear HV
  go_wp2_with fail
  go_ret
  exact ⟨rfl, HB.out⟩
set_option maxRecDepth 100000 in
set_option maxHeartbeats 4000000 in
/-- Enter of a name -/
theorem enter_ok {A V : Nat → Prop} {B b : Nat} {w : World} {l : List Th} {es : List Br} (p : List UInt8) (inc : Nat) (n : Br) {v : Value} (hI : VaultIs B V w b (tget l) l.length) (hA : Asc l) (hn : l.length ≤ 100000) (hl : p.length ≤ 100) (hs : ∀ t ∈ l, t.1.length ≤ maxLen) (hi : inc < 18446744073709551616) (hc : Cat l (p ++ catp inc) es) (h : Us A w v n.2.2) (hn0 : n.1 < 18446744073709551616) (hn3 : n.2.2.length ≤ 1000) (hv : validB n.2.1 = true) :
    Calls Tryz.prog 9 #[.agg #[.pointer (some ⟨b, 0, none⟩), .string ⟨p.toArray⟩], .int .u64 (inc : Int), .agg #[.int .u64 (n.1 : Int), .string ⟨n.2.1.toArray⟩, v]] w (PutL B V w b (entC l (p ++ catp inc) es n) (entL l (p ++ catp inc) es n)) := by
  have HEC : Hid (entC l (p ++ catp inc) es n = (match hit n es with | some c => c | none => putC (tget l) (bkey (p ++ catp inc) n) (bval n))) := by show _ = _; unfold entC; rw [if_pos hv]
  have HEL : Hid (entL l (p ++ catp inc) es n = (match hit n es with | some _ => l | none => tput l (bkey (p ++ catp inc) n) (bval n))) := by show _ = _; unfold entL; rw [if_pos hv]
  obtain ⟨n1, n2, n3⟩ := n
  simp only at h hv hn0 hn3 ⊢
  obtain ⟨va, vc, rfl, _⟩ := h.at
  obtain ⟨W, hW, hB, hsz, ⟨hc0, hc1⟩, hd0, hd1, hd2⟩ := enter_box (w := w) (x0 := .pointer (some ⟨b, 0, none⟩)) (x1 := .string ⟨p.toArray⟩) (e := 29) (y0 := .int .u64 (n1 : Int)) (y1 := .string ⟨n2.toArray⟩) (y2 := .slice va n3.length vc) (f := 38)
  have HB := Hid.mk' hB
  have HV := Hid.mk' (valid_any n2 W)
  rw [hv] at HV
  have HI := Hid.mk' hI
  have HU := Hid.mk' h
  have HBR := Hid.mk' (barriers_any p inc (hI.up hB) hA hn hl hs hi hc (ss_none W) (by simp))
  rw [some_all] at HBR
  have HC := Hid.mk' hc
  have HLE : Hid (es.length ≤ 1000) := hc.few
  have HSM : Hid (n2.length ≤ 16) := valid_len hv
  have HPL : Hid (p.length ≤ 100) := hl
  have HA := Hid.mk' hA
  have HNL : Hid (l.length ≤ 100000) := hn
  have HSZ : Hid (w.heap.size < W.heap.size ∧ w.heap.size + 1 < W.heap.size) := by show _ ∧ _; omega
  have HN0 : Hid (n1 < 18446744073709551616) := hn0
  have HN3 : Hid (n3.length ≤ 1000) := hn3
  have HSH : Hid (∀ w', Calls Tryz.prog 28 #[.int .u64 (inc : Int)] w' fun e w'' => e = .returned (.string ⟨(catp inc).toArray⟩) ∧ Below w'.heap.size w' w'') := fun w' => shelf_any inc hi w'
  have HCL : Hid ((catp inc).length = 21) := by show _ = _; simp [catp, hex]
  have hbw : b < w.heap.size := by obtain ⟨r, hr⟩ := hI.box; exact (Array.getElem?_eq_some_iff.1 hr).1
  have HBL : Hid (b < w.heap.size) := hbw
  have HRET : Hid (∀ c w', hit (n1, n2, n3) es = some c → Below w.heap.size w w' → PutL B V w b (entC l (p ++ catp inc) es (n1, n2, n3)) (entL l (p ++ catp inc) es (n1, n2, n3)) (.returned (.int .i64 c)) w') := fun c w' h1 h2 => by
    have e1 := HEC.out
    have e2 := HEL.out
    rw [h1] at e1 e2
    rw [e1, e2]
    exact PutL.same hI h2
  have HPUT : Hid (hit (n1, n2, n3) es = none → entC l (p ++ catp inc) es (n1, n2, n3) = putC (tget l) (bkey (p ++ catp inc) (n1, n2, n3)) (bval (n1, n2, n3)) ∧ entL l (p ++ catp inc) es (n1, n2, n3) = tput l (bkey (p ++ catp inc) (n1, n2, n3)) (bval (n1, n2, n3))) := fun h1 => by
    have e1 := HEC.out
    have e2 := HEL.out
    rw [h1] at e1 e2
    exact ⟨e1, e2⟩
  have HVB : Hid (B ≤ w.heap.size) := Nat.le_trans hI.1 (Nat.le_of_lt hbw)
  clear HEC HEL
  clear h hsz hB hv hI hA hn hl hs hc hn0 hn3 hi hbw
  go_enter Tryz.func9, Tryz.ntmps9
  go_upto_region 1 with fail
  rw [← hW]
  clear hW
  go_wp2_with fail
  refine HV.out.mono ?_
  rintro e w1 ⟨rfl, rfl⟩
  clear HV
  go_wp2_with fail
  refine HBR.out.mono ?_
  rintro e w1 ⟨v1, rfl, ho1, hb1⟩
  have HB1 := Hid.mk' hb1
  have HV1 := Hid.mk' (ho1.rd HC.out.bnd)
  obtain ⟨a1, c1, ev, _⟩ := HV1.out.at
  subst ev
  have HR0 : Hid (hit (n1, n2, n3) es = hit (n1, n2, n3) (es.drop 0)) := rfl
  have HBZ : Hid (Below W.heap.size W w1) := hb1
  have hel : (es.length : Int) ≤ 1000 := by have := HLE.out; omega
  clear ho1 hb1 HBR
  go_wp2_with fail
  go_loopw [17] (fun i wr => ∃ (k : Nat), k ≤ es.length ∧ i = .int .i64 k ∧ Hid (hit (n1, n2, n3) es = hit (n1, n2, n3) (es.drop k)) ∧ Hid (Below w1.heap.size w1 wr)) (fun i _ => es.length - (intOf i).toNat)
  case atStart => exact ⟨0, by omega, rfl, HR0, Below.refl _ _⟩
  case round =>
    clear HR0
    obtain ⟨k, hk, rfl, HH, HBK⟩ := hrel
    rename World => wk
    have HBW := Hid.mk' (bt HBZ.out HBK.out)
    have hc0 := cell_later HBW.out hc0
    have hc1 := cell_later HBW.out hc1
    have hd0 := cell_later HBW.out hd0
    have hd1 := cell_later HBW.out hd1
    have hd2 := cell_later HBW.out hd2
    by_cases hlt : k < es.length
    case neg =>
      obtain rfl : k = es.length := by omega
      have HNO : Hid (hit (n1, n2, n3) es = none) := by show _ = _; rw [HH.out, List.drop_length]; rfl
      obtain ⟨he1, he2⟩ := HPUT.out HNO.out
      have HE1 := Hid.mk' he1
      have HE2 := Hid.mk' he2
      have HWK := Hid.mk' (bt HB.out HBW.out)
      have hw1 := gv_of_cell (b := b) hc0 (Nat.ne_of_gt HBL.out)
      have hw2 := gv_of_cell (b := b) hd0 (by have := HBL.out; omega)
      have r0 : ∀ q : Kp (Gv b wk) wk, q.nx.cell? ⟨w.heap.size, 0, none⟩ = some _ := fun q => q.cell hc0 hw1
      have r1 : ∀ q : Kp (Gv b wk) wk, q.nx.cell? ⟨w.heap.size, 1, none⟩ = some _ := fun q => q.cell hc1 hw1
      have r2 : ∀ q : Kp (Gv b wk) wk, q.nx.cell? ⟨w.heap.size + 1, 0, none⟩ = some _ := fun q => q.cell hd0 hw2
      have r3 : ∀ q : Kp (Gv b wk) wk, q.nx.cell? ⟨w.heap.size + 1, 1, none⟩ = some _ := fun q => q.cell hd1 hw2
      have r4 : ∀ q : Kp (Gv b wk) wk, q.nx.cell? ⟨w.heap.size + 1, 2, none⟩ = some _ := fun q => q.cell hd2 hw2
      have HU5 := HU.out.up HWK.out
      have hd := drew_blx wk wk.heap.size
      clear hlt he1 he2 HRET HPUT HH
      go_upto_region 11 with fail
      refine wp_region_mix 14 (fun w' => ∃ q : Kp (Gv b wk) wk, w' = q.nx) (by kernel_rfl) (by kernel_rfl) (kp_first _ wk) ?_
      simp only [List.take_succ_cons, List.take_zero, List.drop_succ_cons, List.drop_zero]
      refine mx_take 5 rfl ?_
      simp only [List.take_succ_cons, List.take_zero, List.drop_succ_cons, List.drop_zero]
      repeat (go_big_quiet_step (fail))
      refine wpQuiet_nil ?_
      refine mx_call (vals := [.string ⟨n2.toArray⟩, .slice va n3.length vc]) Tryz.func27 (by kernel_rfl) rfl rfl (by kernel_rfl) (by kernel_rfl) (cput_any n2 (HU5.up hd) HN3.out (by have := HSM.out; omega)) (fun e wa ha => ?_)
      obtain ⟨va1, rfl, hoa, hba⟩ := ha
      have HBA := Hid.mk' (hd.trans hba)
      have HOA : Hid (Ob 5 wk.heap.size wa va1 (enc n3 n2)) := hoa
      obtain ⟨xa, xc, rfl⟩ := own_slice hoa
      refine ⟨_, rfl, kp_mk HBA.out.size fun k hk _ => HBA.out.block k hk, ?_⟩
      simp only [Act.put, List.setIfInBounds_toArray, List.set_cons_succ, List.set_cons_zero]
      refine mx_take 1 rfl ?_
      simp only [List.take_succ_cons, List.take_zero, List.drop_succ_cons, List.drop_zero]
      repeat (go_big_quiet_step (fail))
      refine wpQuiet_nil ?_
      clear hoa hba
      refine mx_call (vals := [.int .u64 (inc : Int)]) Tryz.func28 (by kernel_rfl) rfl rfl (by kernel_rfl) (by kernel_rfl) (HSH.out _) (fun e wb hb => ?_)
      obtain ⟨rfl, hbb⟩ := hb
      have HBB := Hid.mk' (bt HBA.out hbb)
      have HOB := Hid.mk' (own_keep HOA.out hbb (Nat.le_refl _))
      refine ⟨_, rfl, kp_mk HBB.out.size fun k hk _ => HBB.out.block k hk, ?_⟩
      simp only [Act.put, List.setIfInBounds_toArray, List.set_cons_succ, List.set_cons_zero]
      refine mx_take 2 rfl ?_
      simp only [List.take_succ_cons, List.take_zero, List.drop_succ_cons, List.drop_zero]
      repeat (go_big_quiet_step (fail))
      refine wpQuiet_nil ?_
      clear hbb
      refine mx_call (vals := [.int .u64 (n1 : Int)]) Tryz.func29 (by kernel_rfl) rfl rfl (by kernel_rfl) (by kernel_rfl) (number_any n1 HN0.out _) (fun e wc hc => ?_)
      obtain ⟨rfl, hbc⟩ := hc
      have HBC := Hid.mk' (bt HBB.out hbc)
      have HOC := Hid.mk' (own_keep HOB.out hbc (Nat.le_refl _))
      refine ⟨_, rfl, kp_mk HBC.out.size fun k hk _ => HBC.out.block k hk, ?_⟩
      simp only [Act.put, List.setIfInBounds_toArray, List.set_cons_succ, List.set_cons_zero]
      have hup := up_alloc wc (.cells #[.string ⟨(catp inc).toArray⟩, .string ⟨(hex n1).toArray⟩] 9)
      have HBD := Hid.mk' (bt HBC.out hup)
      have HOD := Hid.mk' (own_keep HOC.out hup (Nat.le_refl _))
      clear hbc
      refine mx_make (by rfl) (by kernel_rfl) (exec_bs24 rfl rfl rfl) (kp_mk HBD.out.size fun k hk _ => HBD.out.block k hk) ?_
      simp only [Act.put, List.setIfInBounds_toArray, List.set_cons_succ, List.set_cons_zero]
      have hx16 : (hex n1).length = 16 := by simp [hex]
      have HSTO := store_any (ps := [catp inc, hex n1]) p (enc n3 n2) (HI.out.up (bt HWK.out HBD.out)) (by have := HNL.out; unfold maxLen; omega) (two_ss (w := wc) (catp inc) (hex n1)) (Ob.bs (show Ob 5 wk.heap.size _ _ _ from HOD.out) (by have := HN3.out; have := HSM.out; have h1 := enc_len n3 n2 HU5.2.1; unfold lim; omega)) (by have := HPL.out; have := HCL.out; simp [hx16]; omega)
      have hkey : p ++ [catp inc, hex n1].flatten = bkey (p ++ catp inc) (n1, n2, n3) := by simp [bkey]
      rw [hkey] at HSTO
      have HSTO := Hid.mk' HSTO
      clear hkey hup hx16
      refine mx_call (vals := [.agg #[.pointer (some ⟨b, 0, none⟩), .string ⟨p.toArray⟩], .slice xa (enc n3 n2).length xc, .slice (some ⟨wc.heap.size, 0, none⟩) 2 2]) Tryz.func26 (by kernel_rfl) rfl rfl (by kernel_rfl) (by kernel_rfl) HSTO.out (fun e wz hz => ?_)
      obtain ⟨hz1, hz2, hz3, hz4⟩ := PutL.of HA.out hz
      subst hz1
      refine ⟨_, rfl, kp_put HBD.out hz2.size hz3, ?_⟩
      simp only [Act.put, List.setIfInBounds_toArray, List.set_cons_succ, List.set_cons_zero]
      refine mx_take 1 rfl ?_
      simp only [List.take_succ_cons, List.take_zero, List.drop_succ_cons, List.drop_zero]
      repeat (go_big_quiet_step (fail))
      refine wpQuiet_nil ?_
      simp only [wpMix]
      have HTOT := Hid.mk' (bt HWK.out HBD.out)
      have HF : Hid (PutL B V w b (putC (tget l) (bkey (p ++ catp inc) (n1, n2, n3)) (bval (n1, n2, n3))) (tput l (bkey (p ++ catp inc) (n1, n2, n3)) (bval (n1, n2, n3))) (.returned (.int .i64 (putC (tget l) (bkey (p ++ catp inc) (n1, n2, n3)) (bval (n1, n2, n3))))) wz) := ⟨rfl, (HTOT.out.mono HVB.out).trans hz2, (CellsBut.of_below HTOT.out).trans hz3, hz4.mono fun k hk => hk.imp id fun h => Nat.le_trans HTOT.out.size h⟩
      clear r0 r1 r2 r3 r4 hz2 hz3 hz4 hz HSTO hd
      go_wp2_with fail
      go_ret
      rw [HE1.out, HE2.out]
      exact HF.out
    have hlt' : (k : Int) < (es.length : Int) := by omega
    obtain ⟨_, _, ev, _, H1⟩ := HV1.out.at
    cases ev
    obtain ⟨b1, o1, u1, rfl, _, ⟨e0, e1, e2⟩, hu1⟩ := H1 k hlt
    have e0 := cell_later HBK.out e0
    have e1 := cell_later HBK.out e1
    have e2 := cell_later HBK.out e2
    have hu1 := hu1.up HBK.out
    have HHK : Hid (hit (n1, n2, n3) es = if es[k] = (n1, n2, n3) then some 0 else if es[k].1 = n1 ∨ es[k].2.1 = n2 then some 7 else hit (n1, n2, n3) (es.drop (k + 1))) := by show _ = _; rw [HH.out, List.drop_eq_getElem_cons hlt]; rfl
    clear H1 HH
    generalize es[k] = x at *
    obtain ⟨x1, x2, x3⟩ := x
    simp only at hu1 e0 e1 e2 HHK
    have hup := up_alloc wk (.cells #[.int .u64 (x1 : Int), .string ⟨x2.toArray⟩, u1] 38)
    have HBA := Hid.mk' (bt HBW.out hup)
    have HBKA := Hid.mk' (bt HBK.out hup)
    have HSM1 := Hid.mk' (sameBr_any (x1, x2, x3) (n1, n2, n3) (hu1.up hup) (HU.out.up (bt HB.out HBA.out)))
    obtain ⟨f0, f1, f2⟩ := box3 (w := wk) (x := .int .u64 (x1 : Int)) (y := .string ⟨x2.toArray⟩) (z := u1) (e := 38)
    obtain ⟨ua, uc, rfl, _⟩ := hu1.at
    have hdA0 := cell_later hup hd0
    have hdA1 := cell_later hup hd1
    have hdA2 := cell_later hup hd2
    have HWA : Hid (w.heap.size + 1 < wk.heap.size) := Nat.lt_of_lt_of_le HSZ.out.2 HBW.out.size
    clear hup hu1
    go_wp2_with fail
    refine HSM1.out.mono ?_
    rintro e w5 ⟨rfl, hb5⟩
    have HB5 := Hid.mk' (bt HBA.out hb5)
    have HBK5 := Hid.mk' (bt HBKA.out hb5)
    have f0 := cell_later hb5 f0
    have f1 := cell_later hb5 f1
    have g0 := cell_later hb5 hdA0
    have g1 := cell_later hb5 hdA1
    clear hb5 HSM1 hdA0 hdA1 hdA2 f2 hc0 hc1 hd0 hd1 hd2 e0 e1 e2
    by_cases heq : (x1, x2, x3) = (n1, n2, n3)
    · have HS : Hid (hit (n1, n2, n3) es = some 0) := by show _ = _; rw [HHK.out, if_pos heq]
      rw [decide_eq_true heq]
      clear heq HHK
      go_wp2_with fail
      go_ret
      exact HRET.out 0 _ HS.out (bt HB.out HB5.out)
    rw [decide_eq_false heq]
    have HHK : Hid (hit (n1, n2, n3) es = if x1 = n1 ∨ x2 = n2 then some 7 else hit (n1, n2, n3) (es.drop (k + 1))) := by show _ = _; rw [HHK.out, if_neg heq]
    clear heq
    by_cases h1 : x1 = n1
    · have HS : Hid (hit (n1, n2, n3) es = some 7) := by show _ = _; rw [HHK.out, if_pos (.inl h1)]
      have q1 : ((x1 : Int) == (n1 : Int)) = true := by rw [beq_iff_eq]; omega
      clear h1 HHK
      go_wp2_with fail
      go_ret
      exact HRET.out 7 _ HS.out (bt HB.out HB5.out)
    have q1 : ((x1 : Int) == (n1 : Int)) = false := by rw [beq_eq_false_iff_ne]; omega
    by_cases h2 : x2 = n2
    · have HS : Hid (hit (n1, n2, n3) es = some 7) := by show _ = _; rw [HHK.out, if_pos (.inr h2)]
      have q2 : (x2 == n2) = true := by rw [beq_iff_eq]; exact h2
      clear h1 h2 HHK
      go_wp2_with fail
      go_ret
      exact HRET.out 7 _ HS.out (bt HB.out HB5.out)
    have q2 : (x2 == n2) = false := by rw [beq_eq_false_iff_ne]; exact h2
    have HHK : Hid (hit (n1, n2, n3) es = hit (n1, n2, n3) (es.drop (k + 1))) := by show _ = _; rw [HHK.out, if_neg (by simp [h1, h2])]
    clear h1 h2
    go_wp2_with fail
    go_roundw
    case rel => exact ⟨k + 1, by omega, by go_num, HHK, HBK5⟩
    case measure => simp [intOf]; omega
end Go.Proofs.YtojgkjpmphfakaaGreatDoor
