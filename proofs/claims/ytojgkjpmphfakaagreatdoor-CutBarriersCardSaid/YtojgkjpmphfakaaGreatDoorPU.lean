/- cut.put, cut.shelf. -/
import Derived.Test.YtojgkjpmphfakaaGreatDoorSP
import Derived.Test.YtojgkjpmphfakaaGreatDoorVY
set_option linter.unusedVariables false
set_option linter.unusedSimpArgs false
namespace Go.Proofs.YtojgkjpmphfakaaGreatDoor
open Go.RowKit
attribute [local go_sem ↓] Go.wp_at_zero Go.wp_at_succ
theorem row_two {w : World} {x y : Value} {e : TypeId} : Row 1 (Lt (w.heap.size + 1)) (w.alloc (.cells #[x, y] e)) (.slice (some ⟨w.heap.size, 0, none⟩) 2 2) 2 [x, y] := by
  refine ⟨rfl, _, _, rfl, Nat.le_refl _, by simp, fun j u hj => ⟨_, _, rfl, Nat.lt_succ_self _, ?_⟩⟩
  match j, hj with
  | 0, hj => simp at hj; subst hj; simp
  | 1, hj => simp at hj; subst hj; simp
theorem bss_two {w : World} {x y : Value} {l m : List UInt8} {A A' : Nat → Prop} (hx : Bs A w x l) (hy : Bs A' w y m) : Bss (Lt (w.heap.size + 1)) (w.alloc (.cells #[x, y] 69)) (.slice (some ⟨w.heap.size, 0, none⟩) 2 2) [l, m] := by
  have h1 : Bs (Lt (w.heap.size + 1)) (w.alloc (.cells #[x, y] 69)) x l := ⟨((hx.up (up_alloc _ _)).1.toLtN).monoS fun b hb => by simpa [Lt] using hb, hx.2⟩
  have h2 : Bs (Lt (w.heap.size + 1)) (w.alloc (.cells #[x, y] 69)) y m := ⟨((hy.up (up_alloc _ _)).1.toLtN).monoS fun b hb => by simpa [Lt] using hb, hy.2⟩
  exact ⟨[x, y], row_two, ((Each.nil _ _).snoc h1).snoc h2, by unfold lim; simp⟩
theorem nms_len : ∀ (l : List Nat), (∀ n ∈ l, n < 18446744073709551616) → (nms l).length ≤ 9 * l.length
  | [], _ => Nat.le_refl _
  | n :: l, h => by
    have h1 := nm_len (h n (by simp))
    have h2 := nms_len l fun m hm => h m (by simp [hm])
    have e : nms (n :: l) = nm n ++ nms l := by unfold nms; rw [List.map_cons, List.flatten_cons]
    rw [e, List.length_append, List.length_cons]; omega
/-- what put makes -/
def enc (ns : List Nat) (s : List UInt8) : List UInt8 := jn [nms ns, s]
theorem txt_two (a b : List UInt8) : (txt [a, b]).length = (nm a.length).length + a.length + ((nm b.length).length + b.length) := by
  unfold txt; simp; omega
set_option maxRecDepth 100000 in
set_option maxHeartbeats 4000000 in
/-- put -/
theorem cput_any {A : Nat → Prop} {w : World} {v : Value} {ns : List Nat} (s : List UInt8) (h : Us A w v ns) (hn : ns.length ≤ 1000) (hs : s.length ≤ 100000) : Calls Tryz.prog 27 #[.string ⟨s.toArray⟩, v] w fun e w' => ∃ v', e = .returned v' ∧ Ob 5 w.heap.size w' v' (enc ns s) ∧ Below w.heap.size w w' := by
  obtain ⟨a, c, rfl, hc, _, hat⟩ := h.at
  have HAT := Hid.mk' hat
  have HBD := Hid.mk' h.2.1
  have HSZ := Hid.mk' hs
  have HNZ := Hid.mk' hn
  have hl : (ns.length : Int) ≤ 1000 := by omega
  have HO0 : Hid (Ob 5 w.heap.size w (.slice none 0 0) (nms (ns.take 0))) := ob_nil
  have HB0 : Hid (Below w.heap.size w w) := Below.refl _ _
  clear h hat hs
  go_enter Tryz.func27, Tryz.ntmps27
  go_wp2_with fail
  go_loopw [5, 10] (fun y i wr => ∃ (k : Nat) (oa : Option Addr) (n oc : Nat), k ≤ ns.length ∧ i = .int .i64 k ∧ y = .slice oa n oc ∧ Hid (n = (nms (ns.take k)).length) ∧ Hid (Ob 5 w.heap.size wr (.slice oa n oc) (nms (ns.take k))) ∧ Hid (Below w.heap.size w wr)) (fun _ i _ => ns.length - (intOf i).toNat)
  case atStart => exact ⟨0, none, 0, 0, by omega, rfl, rfl, rfl, HO0, HB0⟩
  case round =>
    clear HO0 HB0
    obtain ⟨k, oa, n, oc, hk, rfl, rfl, HNL, HO, HB⟩ := hrel
    rename World => wk
    have HLN := Hid.mk' (nms_len (ns.take k) fun m hm => HBD.out m (List.mem_of_mem_take hm))
    have HLK : Hid ((ns.take k).length ≤ 1000) := by show _ ≤ _; rw [List.length_take]; omega
    by_cases hlt : k < ns.length
    case neg =>
      obtain rfl : k = ns.length := by omega
      obtain ⟨c1, w1, hr, o1, hc1, b1, z1⟩ := run_bytes (P := Tryz.prog) 9 69 Tryz.underlying9 Tryz.underlying69 Tryz.underlying5 s wk
      have B1 := Hid.mk' (o1.bs hc1 (by have := HSZ.out; unfold lim; omega))
      rw [List.take_length] at HNL HO HLN HLK
      have B0 := Hid.mk' ((HO.out.bs (by have := HLN.out; have := HLK.out; unfold lim; omega)).up b1)
      have HB1 := Hid.mk' (HB.out.trans (b1.mono HB.out.size))
      have H2 : Hid (Bss (Lt (w1.heap.size + 1)) (w1.alloc (.cells #[.slice oa n oc, .slice (some ⟨wk.heap.size, 0, none⟩) s.length c1] 69)) (.slice (some ⟨w1.heap.size, 0, none⟩) 2 2) [nms ns, s]) := bss_two B0.out B1.out
      have HJ := Hid.mk' (pjoin_any H2.out (fun k hk => by simpa [Lt] using hk) (by
        have h1 := nm_len (show (nms ns).length < 18446744073709551616 by have := HLN.out; have := HLK.out; omega)
        have h2 := nm_len (show s.length < 18446744073709551616 by have := HSZ.out; omega)
        have := HLN.out; have := HLK.out; have := HSZ.out
        rw [txt_two]; omega) (by simp))
      have HBW : Hid (Below w.heap.size w (w1.alloc (.cells #[.slice oa n oc, .slice (some ⟨wk.heap.size, 0, none⟩) s.length c1] 69))) := HB1.out.trans ((up_alloc _ _).mono HB1.out.size)
      clear o1 b1 z1 hlt
      go_wp2_with fail
      refine HJ.out.mono ?_
      rintro e w5 ⟨v5, rfl, ho5, hb5⟩
      have HO5 : Hid (Ob 5 w.heap.size w5 v5 (enc ns s)) := Ob.mono ho5 HBW.out.size
      have HB5 := Hid.mk' (HBW.out.trans (hb5.mono HBW.out.size))
      clear ho5 hb5 HJ
      go_wp2_with fail
      go_ret
      exact ⟨_, rfl, HO5.out, HB5.out⟩
    have hlt' : (k : Int) < (ns.length : Int) := by omega
    obtain ⟨b, o, rfl, _, c0⟩ := HAT.out k hlt
    have c0 := (World.cell?_of_block (w := w) (a := ⟨b, o + k, none⟩) (HB.out.block b (World.block_lt_of_cell? w ⟨b, o + k, none⟩ c0))).trans c0
    have hz := HBD.out ns[k] (List.getElem_mem hlt)
    have HTK := Hid.mk' (nms_take hlt)
    generalize ns[k] = z at *
    have HN1 : Hid (Calls Tryz.prog 45 #[.slice (some ⟨wk.heap.size, 0, none⟩) 1 1] (wk.alloc (.cells #[.int .u64 (z : Int)] 23)) _) := pnum_any (us_one hz) (by simp)
    rw [nms_one] at HN1
    have HNM := Hid.mk' (nm_len hz)
    have hup := up_alloc wk (.cells #[.int .u64 (z : Int)] 23)
    have HOA := Hid.mk' (own_keep HO.out hup (Nat.le_refl _))
    have HBA := Hid.mk' (HB.out.trans (hup.mono HB.out.size))
    clear hup hz
    go_wp2_with fail
    refine HN1.out.mono ?_
    rintro e w5 ⟨v5, rfl, ho5, hb5⟩
    have HO5 := Hid.mk' (own_keep HOA.out hb5 (Nat.le_refl _))
    have HB5 := Hid.mk' (HBA.out.trans (hb5.mono HBA.out.size))
    have HR5 := Hid.mk' (Row.of_own ho5)
    obtain ⟨b1, b2, rfl⟩ := own_slice ho5
    clear ho5 hb5 HN1
    go_wp2_with (at_builtin; go_must (refine wpl_app rfl (.tmp 14) (.tmp 17) 69 rfl Tryz.underlying69 Tryz.info5 rfl (by decide) rfl HO5.out rfl HR5.out (bv_one _) (by have := HLN.out; have := HLK.out; have := HNM.out; have := HNL.out; unfold maxLen; omega) (by have := HLN.out; have := HLK.out; have := HNM.out; have := HNL.out; omega) HB5.out.size ?_); intro v6 w6 ho hg hn2 hbb)
    have HB6 : Hid (Below w.heap.size w w6) := below_app HB5.out HO5.out hg (Nat.le_refl _) HB5.out.size
    have HE6 : Hid (((nms (ns.take k)).length + (nm z).length) = (nms (ns.take (k + 1))).length) := by show _ = _; rw [HTK.out, List.length_append]
    have HO6 : Hid (Ob 5 w.heap.size w6 v6 (nms (ns.take (k + 1)))) := by
      unfold Hid Ob
      rw [← HE6.out, HTK.out, bv_append]
      exact ho
    obtain ⟨a6, c6, e6⟩ := own_slice ho
    have E6 : Hid (v6 = .slice a6 (nms (ns.take (k + 1))).length c6) := by show _ = _; rw [← HE6.out]; exact e6
    rw [E6.out] at HO6
    clear ho hg hn2 hbb e6
    go_roundw
    case rel => exact ⟨k + 1, a6, _, c6, by omega, by go_num, E6.out, rfl, HO6, HB6⟩
    case measure => simp [intOf]; omega
/-- where an incarnation's catalogue begins -/
def catp (n : Nat) : List UInt8 := [99, 97, 116, 46] ++ (hex n ++ [46])
set_option maxRecDepth 100000 in
set_option maxHeartbeats 1000000 in
/-- shelf -/
theorem shelf_any (n : Nat) (hn : n < 18446744073709551616) (w : World) : Calls Tryz.prog 28 #[.int .u64 (n : Int)] w fun e w' => e = .returned (.string ⟨(catp n).toArray⟩) ∧ Below w.heap.size w w' := by
  have HN := Hid.mk' (number_any n hn w)
  have HL : Hid ((hex n).length = 16) := by show _ = _; simp [hex]
  have HC : Hid (catp n = [99, 97, 116, 46] ++ (hex n ++ [46])) := rfl
  go_enter Tryz.func28, Tryz.ntmps28
  go_wp2_with fail
  refine HN.out.mono ?_
  rintro e w5 ⟨rfl, hb5⟩
  have HB := Hid.mk' hb5
  have hl := HL.out
  generalize hex n = h at *
  have e1 : (⟨#[99, 97, 116, 46]⟩ : ByteArray) ++ (⟨h.toArray⟩ : ByteArray) = ⟨([99, 97, 116, 46] ++ h).toArray⟩ := ba_app [99, 97, 116, 46] h
  have e2 : (⟨([99, 97, 116, 46] ++ h).toArray⟩ : ByteArray) ++ (⟨#[46]⟩ : ByteArray) = ⟨([99, 97, 116, 46] ++ (h ++ [46])).toArray⟩ := by rw [← List.append_assoc]; exact ba_app ([99, 97, 116, 46] ++ h) [46]
  have n1 : ¬ 9223372036854775807 < 4 + h.length := by omega
  have n2 : ¬ 9223372036854775807 < h.length + 1 + 1 + 1 + 1 + 1 := by omega
  have HF : Hid ((⟨#[99, 97, 116, 46]⟩ : ByteArray) ++ (⟨h.toArray⟩ : ByteArray) ++ (⟨#[46]⟩ : ByteArray) = ⟨(catp n).toArray⟩) := by show _ = _; rw [HC.out, e1]; exact e2
  clear hb5 HN hl e1 e2
  go_wp2_with fail
  go_ret
  exact ⟨congrArg (fun s => Ending.returned (.string s)) HF.out, HB.out⟩
end Go.Proofs.YtojgkjpmphfakaaGreatDoor
