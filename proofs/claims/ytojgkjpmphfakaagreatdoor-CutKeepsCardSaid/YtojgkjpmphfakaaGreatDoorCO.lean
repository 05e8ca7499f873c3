/- CutKeeps: the law's walk. -/
import Derived.Test.YtojgkjpmphfakaaGreatDoorCN
import Derived.Test.YtojgkjpmphfakaaGreatDoorCL
set_option linter.unusedVariables false
set_option linter.unusedSimpArgs false
namespace Go.Proofs.YtojgkjpmphfakaaGreatDoor
open Go.RowKit
attribute [local go_sem ↓] Go.wp_at_zero Go.wp_at_succ
theorem un_set {B g n cap : Nat} {w : World} {l : List Nat} (h : Un B w (.slice (some ⟨g, 0, none⟩) n cap) l) (hn : n = l.length) (j : Nat) (x : Nat) : Un B (w.setCell ⟨g, j, none⟩ (.int .u64 (x : Int))) (.slice (some ⟨g, 0, none⟩) n cap) (l.set j x) := by
  subst hn
  have := (World.ownsRow.stored h j (.int .u64 (x : Int))).1
  unfold Un
  rw [List.length_set]
  have e : uv (l.set j x) = (uv l).set j (.int .u64 (x : Int)) := by simp [uv, List.map_set]
  rw [e]; exact this
theorem un_app0 {B : Nat} {w : World} {v : Value} {ns : List Nat} (h : w.ownsRow B 23 1 v (([] : List Nat).length + ns.length) (uv [] ++ uv ns)) : Un B w v ns := by
  simp only [List.length_nil, Nat.zero_add] at h
  exact h
theorem un_form {B : Nat} {w : World} {v : Value} {l : List Nat} (h : Un B w v l) (hl : 0 < l.length) : ∃ g cap, v = .slice (some ⟨g, 0, none⟩) l.length cap ∧ B ≤ g ∧ g < w.heap.size := by
  obtain ⟨_, h | ⟨g', cap', cur, hv, hb, hg, _⟩⟩ := h
  · have := h.2; omega
  · exact ⟨_, _, hv, hb, (Array.getElem?_eq_some_iff.1 hg).1⟩
theorem un_cell {B g cap : Nat} {w : World} {l : List Nat} (h : Un B w (.slice (some ⟨g, 0, none⟩) l.length cap) l) (j : Nat) (hj : j < l.length) : w.cell? ⟨g, j, none⟩ = some (.int .u64 (l[j] : Int)) ∧ w.frozen? ⟨g, j, none⟩ = false := by
  refine ⟨?_, World.ownsRow.frozenAt h j⟩
  rw [World.ownsRow.cellAt h j (by omega)]
  simp [uv, hj]
theorem LookP.get {w w' : World} {r : Option Br} {x : Br} {e : Ending} (hr : r = Option.some x) (h : LookP w r e w') : ∃ v, e = .returned (.tuple #[.agg #[.int .u64 (x.1 : Int), .string ⟨x.2.1.toArray⟩, v], .int .i64 0]) ∧ Un w.heap.size w' v x.2.2 ∧ Below w.heap.size w w' := by
  subst hr
  exact h
theorem sameN_self {A A' : Nat → Prop} {w : World} {v u : Value} {l : List Nat} (h : Us A w v l) (h' : Us A' w u l) : Calls Tryz.prog 15 #[v, u] w fun e w' => e = .returned (.bool true) ∧ Dn w w' :=
  (sameN_any h h').mono fun e w' ⟨h1, h2⟩ => ⟨by rw [h1, decide_eq_true rfl], h2⟩
/-- the one barrier that the law enters -/
def kb (ns : List Nat) : Bi := (1, 1, [98], ns)
theorem keeps_enter {V : Nat → Prop} {A : Nat → Prop} {B b : Nat} {w : World} {v : Value} {ns : List Nat} (hI : VaultIs B V w b (tget []) 0) (h : Us A w v ns) (hn : ns.length ≤ 1000) :
    ∃ L, Bar L [] [kb ns] ∧ L.length ≤ 1 ∧ Calls Tryz.prog 9 #[.agg #[.pointer (some ⟨b, 0, none⟩), .string ⟨#[]⟩], .int .u64 1, .agg #[.int .u64 1, .string ⟨#[98]⟩, v]] w (PutL B V w b 0 L) := by
  have hr : rEnter [] (kb ns) = ([kb ns], 0) := by
    unfold rEnter
    rw [if_pos (show validB (kb ns).2.2.1 = true from (by decide : validB [98] = true)), if_neg (by simp), if_neg (by unfold clash; simp)]
    rfl
  obtain ⟨h1, h2, h3⟩ := (Bar.nil []).enter (kb ns) (show (1 : Nat) < _ by decide) (show (1 : Nat) < _ by decide) hn h.2.1 (by simp)
  rw [hr] at h1 h2
  refine ⟨_, h2, h3, ?_⟩
  have := enter_ok (es := cats 1 []) [] 1 (1, [98], ns) hI List.Pairwise.nil (by simp) (by simp) (by simp) (by decide) ((Bar.nil []).cat (by decide)) h (show (1 : Nat) < _ by decide) hn (show validB [98] = true by decide)
  rw [show entC [] ([] ++ catp 1) (cats 1 []) (1, [98], ns) = 0 from h1] at this
  exact this
theorem keeps_look {V : Nat → Prop} {B b : Nat} {w : World} {ns : List Nat} {L : List Th} (hI : VaultIs B V w b (tget L) L.length) (hB : Bar L [] [kb ns]) (hL : L.length ≤ 1) :
    Calls Tryz.prog 10 #[.agg #[.pointer (some ⟨b, 0, none⟩), .string ⟨#[]⟩], .int .u64 1, .string ⟨#[98]⟩] w fun e w' => ∃ v, e = .returned (.tuple #[.agg #[.int .u64 1, .string ⟨#[98]⟩, v], .int .i64 0]) ∧ Un w.heap.size w' v ns ∧ Below w.heap.size w w' := by
  have h := look_any [] 1 [98] hI hB.asc (by omega) (by simp) (hB.names (by simp)) (by decide) (hB.cat (show (1 : Nat) < _ by decide))
  exact h.mono fun e w' h => LookP.get (x := (1, [98], ns)) (by simp [look, cats, kb]) h
theorem wrap_nat (x : Nat) (c : Int) (hc : 0 ≤ c) : ∃ y : Nat, IntKind.u64.wrap ((x : Int) + c) = (y : Int) ∧ y < 18446744073709551616 := by
  refine ⟨(((x : Int) + c) % 18446744073709551616).toNat, ?_, by omega⟩
  rw [IntKind.wrap_u64]
  omega
theorem fr_row {B B' b n m : Nat} {V : Nat → Prop} {w w' : World} {v : Value} {f : List UInt8 → Option (List UInt8)} {xs : List Value} (h : VaultIs B V w b f n) (ho : w.ownsRow B' 23 1 v m xs) (hw : Wb (fun k => some k = v.ownBlock) w w') (hV : ∀ k, v.ownBlock = some k → ¬ V k) : VaultIs B V w' b f n := by
  refine h.fr (X := fun k => some k = v.ownBlock) (fun k hk hx => hw.block k hk hx) fun k hk => ?_
  obtain ⟨h1, cur, fr, h2⟩ := own_typed ho k hk.symm
  exact ⟨hV k hk.symm, cur, 23, fr, h2, by decide⟩
set_option maxRecDepth 100000 in
set_option maxHeartbeats 8000000 in
/-- the law -/
theorem keeps_any {A : Nat → Prop} {w : World} {v : Value} {ns : List Nat} (h : Us A w v ns) : Calls Tryz.prog 4 #[v] w fun e w' => e = .returned (.bool true) ∧ Below w.heap.size w w' := by
  have HA := Hid.mk' (awake_any w)
  have HV := Hid.mk' h
  obtain ⟨va, vc, rfl, _⟩ := h.at
  have hl : (ns.length : Int) ≤ 140737488351232 := by have := h.2.2; unfold lim at this; omega
  by_cases hbig : 1000 < ns.length
  · have hb1 : (1000 : Int) < (ns.length : Int) := by omega
    clear h hbig
    go_enter Tryz.func4, Tryz.ntmps4
    go_wp2_with fail
    refine HA.out.mono ?_
    rintro e w1 ⟨rfl, hb⟩
    have HB := Hid.mk' hb
    clear hb
    go_wp2_with fail
    go_ret
    exact ⟨rfl, HB.out⟩
  have hb1 : ¬ (1000 : Int) < (ns.length : Int) := by omega
  have HN : Hid (ns.length ≤ 1000) := by show _ ≤ _; omega
  have HBD : Hid (∀ n ∈ ns, n < 18446744073709551616) := h.2.1
  clear h hbig hl
  have hl : (ns.length : Int) ≤ 1000 := by have := HN.out; omega
  go_enter Tryz.func4, Tryz.ntmps4
  go_wp2_with fail
  refine HA.out.mono ?_
  rintro e w0 ⟨rfl, hb0⟩
  have HB0 := Hid.mk' hb0
  have HV0 := Hid.mk' ((HV.out.up hb0).1.toLtN)
  have HNW := Hid.mk' (new_any w0)
  clear HA hb0
  go_wp2_with fail
  refine HNW.out.mono ?_
  rintro e w1 ⟨rfl, rfl⟩
  clear HNW
  obtain ⟨W, hW⟩ : ∃ W, W = (w0.alloc (.cells #[.map none] 65)).alloc (.cells #[.pointer (some ⟨w0.heap.size, 0, none⟩), .string ⟨#[]⟩] 29) := ⟨_, rfl⟩
  have HI : Hid (VaultIs w0.heap.size (fun _ => False) W w0.heap.size (tget []) 0) := by rw [hW]; exact (vault_new w0).up (up_alloc _ _)
  have hS : Sh w0.heap.size w0.heap.size (w0.heap.size + 1) [] w0 W [] := by rw [hW]; exact sh_new w0 []
  have HX := Hid.mk' hS.bx
  have HBW := Hid.mk' hS.bl
  have HSW : Hid (W.heap.size = w0.heap.size + 1 + 1) := by rw [hW]; simp [Hid]
  clear hS
  go_upto_region 6 with fail
  rw [← hW]
  clear hW
  have HOE : Hid (Un W.heap.size (W.alloc (.cells #[] 23)) (.slice (some ⟨W.heap.size, 0, none⟩) 0 0) []) := own_empty (Nat.le_refl _)
  have HUA := Hid.mk' (up_alloc W (.cells #[] 23))
  have HVA := Hid.mk' (HV0.out.up (bt HBW.out HUA.out))
  have HXA : Hid ((W.alloc (.cells #[] 23)).heap[w0.heap.size + 1]? = some (.cells #[.pointer (some ⟨w0.heap.size, 0, none⟩), .string ⟨#[]⟩] 29 (0, 0))) := (HUA.out.block _ (by have := HSW.out; omega)).trans HX.out
  go_wp2_with (at_builtin; go_must (refine wpl_app rfl (.tmp 18) (.tmp 19) 30 rfl Tryz.underlying30 Tryz.info23 rfl (by decide) rfl HOE.out rfl HVA.out (by intro u hu; obtain ⟨x, _, rfl⟩ := List.mem_map.1 hu; rfl) (by have := HN.out; simp; unfold maxLen; omega) (by have := HN.out; simp; omega) HUA.out.size ?_); intro v6 w6 ho hg hn2 hbb; have HX6 : Hid (w6.heap[w0.heap.size + 1]? = some (.cells #[.pointer (some ⟨w0.heap.size, 0, none⟩), .string ⟨#[]⟩] 29 (0, 0))) := ((hg.block _ (Array.getElem?_eq_some_iff.1 HXA.out).1 (own_off HOE.out HXA.out (by decide))).trans HXA.out); have HB6 : Hid (Below W.heap.size W w6) := below_app HUA.out HOE.out hg (Nat.le_refl _) HUA.out.size; have HO6 : Hid (Un W.heap.size w6 v6 ns) := un_app0 ho; obtain ⟨a6, c6, e6⟩ := own_slice HO6.out; subst e6; obtain ⟨⟨c0, c1⟩, _⟩ := cl2_get HX6.out; clear ho hg hn2 hbb)
  obtain ⟨L1, hL1, hL2, hE⟩ := keeps_enter (HI.out.up HB6.out) (HO6.out.us HBD.out (by have := HN.out; unfold lim; omega)) HN.out
  have HE := Hid.mk' hE
  have HL1 := Hid.mk' hL1
  have HL2 : Hid (L1.length ≤ 1) := hL2
  clear hL1 hL2 hE
  refine HE.out.mono ?_
  rintro e w7 ⟨rfl, hb7, hc7, hi7⟩
  have HI7 := Hid.mk' hi7.now
  have HX7 : Hid (w7.heap[w0.heap.size + 1]? = some (.cells #[.pointer (some ⟨w0.heap.size, 0, none⟩), .string ⟨#[]⟩] 29 (0, 0))) := hc7 _ _ _ _ (by omega) HX6.out
  have HG7 : Hid (Un W.heap.size w7 (.slice a6 ns.length c6) ns) := own_fr HO6.out fun k hk => by
    obtain ⟨h1, cur, fr, h2⟩ := own_typed HO6.out k hk
    rw [h2]
    exact hc7 _ _ _ _ (by have := HSW.out; omega) h2
  have HV7 : Hid (Us (Lt w0.heap.size) w7 (.slice va ns.length vc) ns) := ⟨((HV0.out.up HBW.out).up HB6.out).keepS (same_of hb7), HBD.out, by have := HN.out; unfold lim; omega⟩
  have HB7 : Hid (Below w0.heap.size w0 w7) := (HBW.out.trans (HB6.out.mono HBW.out.size)).trans hb7
  have HS7 : Hid (w6.heap.size ≤ w7.heap.size ∧ W.heap.size ≤ w6.heap.size) := ⟨hb7.size, HB6.out.size⟩
  have HSN := Hid.mk' (sameN_self (HG7.out.us HBD.out (by have := HN.out; unfold lim; omega)) HV7.out)
  have HGB : Hid (∀ k, (Value.slice a6 ns.length c6).ownBlock = some k → W.heap.size ≤ k ∧ k < w6.heap.size) := World.ownsRow.lt HO6.out
  clear hb7 hc7 hi7 HE c0 c1
  go_wp2_with fail
  refine HSN.out.mono ?_
  rintro e w8 ⟨rfl, hd8⟩
  have HU8 := Hid.mk' (hd8.below w7.heap.size)
  have HX8 : Hid (w8.heap[w0.heap.size + 1]? = some (.cells #[.pointer (some ⟨w0.heap.size, 0, none⟩), .string ⟨#[]⟩] 29 (0, 0))) := (HU8.out.block _ (Array.getElem?_eq_some_iff.1 HX7.out).1).trans HX7.out
  have HI8 := Hid.mk' (HI7.out.up HU8.out)
  have HG8 := Hid.mk' (HG7.out.up HU8.out)
  have HV8 := Hid.mk' (HV7.out.up HU8.out)
  have HB8 := Hid.mk' (HB7.out.trans (hd8.below w0.heap.size))
  have HS8 : Hid (w7.heap.size ≤ w8.heap.size) := HU8.out.size
  clear hd8 HSN
  go_wp2_with fail
  have HR0 : Hid (Wb (fun k => some k = (Value.slice a6 ns.length c6).ownBlock) w8 w8) := Wb.refl _ _
  have HL0 : Hid (ns.length = ns.length ∧ ∀ n ∈ ns, n < 18446744073709551616) := ⟨rfl, HBD.out⟩
  go_loopw [34] (fun i wr => ∃ (k : Nat) (L : List Nat), k ≤ ns.length ∧ i = .int .i64 k ∧ Hid (L.length = ns.length ∧ ∀ n ∈ L, n < 18446744073709551616) ∧ Hid (Un W.heap.size wr (.slice a6 ns.length c6) L) ∧ Hid (Wb (fun k => some k = (Value.slice a6 ns.length c6).ownBlock) w8 wr)) (fun i _ => ns.length - (intOf i).toNat)
  case atStart => exact ⟨0, ns, by omega, rfl, HL0, HG8, HR0⟩
  case round =>
    clear HR0 HL0
    obtain ⟨k, L, hk, rfl, HL, HG, HW⟩ := hrel
    rename World => wk
    by_cases hlt : k < ns.length
    · have hlt' : (k : Int) < (ns.length : Int) := by omega
      have hkL : k < L.length := by rw [HL.out.1]; exact hlt
      obtain ⟨g, cap, eg, hg1, hg2⟩ := un_form HG.out (by omega)
      obtain ⟨rfl, _, rfl⟩ := Value.slice.inj eg
      have HG' := HG.out
      rw [← HL.out.1] at HG'
      obtain ⟨z1, z2⟩ := un_cell HG' k hkL
      have hx := HL.out.2 L[k] (List.getElem_mem hkL)
      generalize L[k] = x at *
      clear HG' eg
      obtain ⟨y, hy1, hy2⟩ := wrap_nat x 1 (by omega)
      have HS := Hid.mk' (un_set HG.out HL.out.1.symm k y)
      have HW2 : Hid (Wb (fun k => some k = (Value.slice (some ⟨g, 0, none⟩) ns.length c6).ownBlock) w8 (wk.setCell ⟨g, k, none⟩ (.int .u64 (y : Int)))) := HW.out.trans (Wb.set _ _ _ _ rfl)
      have HL2 : Hid ((L.set k y).length = ns.length ∧ ∀ n ∈ L.set k y, n < 18446744073709551616) := ⟨by rw [List.length_set]; exact HL.out.1, fun n hn => by
        rcases List.mem_or_eq_of_mem_set hn with h | rfl
        · exact HL.out.2 n h
        · exact hy2⟩
      clear hx hy2
      go_wp2_with fail
      clear hy1
      go_roundw
      case rel => exact ⟨k + 1, L.set k y, by omega, by go_num, HL2, HS, HW2⟩
      case measure => simp [intOf]; omega
    · obtain rfl : k = ns.length := by omega
      have HIK := Hid.mk' (fr_row HI8.out HG8.out HW.out fun k hk hv => by
        have := HGB.out k hk
        rcases hv.1 with h | h
        · exact h
        · omega)
      have HBK : Hid (Below w0.heap.size w0 wk) := HB8.out.trans (HW.out.below HB8.out.size fun k hk => by have := (HGB.out k hk.symm).1; have := HSW.out; omega)
      have HXK : Hid (wk.heap[w0.heap.size + 1]? = some (.cells #[.pointer (some ⟨w0.heap.size, 0, none⟩), .string ⟨#[]⟩] 29 (0, 0))) := (HW.out.block _ (Array.getElem?_eq_some_iff.1 HX8.out).1 (fun e => by have := (HGB.out _ e.symm).1; have := HSW.out; omega)).trans HX8.out
      have HVK : Hid (Us (Lt w0.heap.size) wk (.slice va ns.length vc) ns) := ⟨HV8.out.1.wb HW.out (fun k hk hl => by have := (HGB.out k hk.symm).1; have := HSW.out; unfold Lt at hl; omega), HV8.out.2⟩
      have HSK : Hid (w8.heap.size ≤ wk.heap.size) := HW.out.size
      have HLK := Hid.mk' (keeps_look HIK.out HL1.out HL2.out)
      clear hlt hk HL HG HW
      obtain ⟨⟨c0, c1⟩, _⟩ := cl2_get HXK.out
      go_wp2_with fail
      refine HLK.out.mono ?_
      rintro e w9 ⟨v9, rfl, ho9, hb9⟩
      have HO9 := Hid.mk' ho9
      obtain ⟨a9, c9, e9⟩ := own_slice ho9
      subst e9
      obtain ⟨WB, hWB⟩ : ∃ WB, WB = w9.alloc (.cells #[.int .u64 1, .string ⟨#[98]⟩, .slice a9 ns.length c9] 38) := ⟨_, rfl⟩
      have hup : Below w9.heap.size w9 WB := by rw [hWB]; exact up_alloc _ _
      have HUB := Hid.mk' (bt hb9 hup)
      have HXB : Hid (WB.heap[w9.heap.size]? = some (.cells #[.int .u64 1, .string ⟨#[98]⟩, .slice a9 ns.length c9] 38 (0, 0))) := by rw [hWB]; exact heap_alloc_new _ _
      have HOB := Hid.mk' (HO9.out.up hup)
      have HXS : Hid (WB.heap[w0.heap.size + 1]? = some (.cells #[.pointer (some ⟨w0.heap.size, 0, none⟩), .string ⟨#[]⟩] 29 (0, 0))) := (HUB.out.block _ (Array.getElem?_eq_some_iff.1 HXK.out).1).trans HXK.out
      have HIB := Hid.mk' (HIK.out.up HUB.out)
      have HVB := Hid.mk' (HVK.out.up HUB.out)
      have HBB : Hid (Below w0.heap.size w0 WB) := HBK.out.trans (HUB.out.mono HBK.out.size)
      have HSB : Hid (wk.heap.size ≤ w9.heap.size ∧ w9.heap.size < WB.heap.size) := ⟨hb9.size, (Array.getElem?_eq_some_iff.1 HXB.out).1⟩
      have HOL : Hid (∀ k, (Value.slice a9 ns.length c9).ownBlock = some k → wk.heap.size ≤ k ∧ k < w9.heap.size) := World.ownsRow.lt ho9
      clear ho9 hb9 hup c0 c1 HLK
      go_upto_region 15 with fail
      rw [← hWB]
      clear hWB
      have HS9 := Hid.mk' (sameN_self (HOB.out.us HBD.out (by have := HN.out; unfold lim; omega)) HVB.out)
      obtain ⟨x0, x1, x2⟩ := bx3 HXB.out
      go_wp2_with fail
      refine HS9.out.mono ?_
      rintro e wc ⟨rfl, hdc⟩
      have HUC := Hid.mk' (hdc.below WB.heap.size)
      have HXC : Hid (wc.heap[w9.heap.size]? = some (.cells #[.int .u64 1, .string ⟨#[98]⟩, .slice a9 ns.length c9] 38 (0, 0))) := (HUC.out.block _ (Array.getElem?_eq_some_iff.1 HXB.out).1).trans HXB.out
      have HXT : Hid (wc.heap[w0.heap.size + 1]? = some (.cells #[.pointer (some ⟨w0.heap.size, 0, none⟩), .string ⟨#[]⟩] 29 (0, 0))) := (HUC.out.block _ (Array.getElem?_eq_some_iff.1 HXS.out).1).trans HXS.out
      have HIC := Hid.mk' (HIB.out.up HUC.out)
      have HOC := Hid.mk' (HOB.out.up HUC.out)
      have HVC := Hid.mk' (HVB.out.up HUC.out)
      have HBC : Hid (Below w0.heap.size w0 wc) := HBB.out.trans (hdc.below w0.heap.size)
      have HSC : Hid (WB.heap.size ≤ wc.heap.size) := HUC.out.size
      clear hdc HS9 x0 x1 x2
      obtain ⟨_, _, x2⟩ := bx3 HXC.out
      go_wp2_with fail
      clear x2
      have HR0 : Hid (Wb (fun k => some k = (Value.slice a9 ns.length c9).ownBlock) wc wc) := Wb.refl _ _
      have HL0 : Hid (ns.length = ns.length ∧ ∀ n ∈ ns, n < 18446744073709551616) := ⟨rfl, HBD.out⟩
      go_loopw [61] (fun i wr => ∃ (k : Nat) (L : List Nat), k ≤ ns.length ∧ i = .int .i64 k ∧ Hid (L.length = ns.length ∧ ∀ n ∈ L, n < 18446744073709551616) ∧ Hid (Un wk.heap.size wr (.slice a9 ns.length c9) L) ∧ Hid (Wb (fun k => some k = (Value.slice a9 ns.length c9).ownBlock) wc wr)) (fun i _ => ns.length - (intOf i).toNat)
      case atStart => exact ⟨0, ns, by omega, rfl, HL0, HOC, HR0⟩
      case round =>
        clear HR0 HL0
        obtain ⟨k, L, hk, rfl, HL, HG, HW⟩ := hrel
        rename World => wm
        have HXM : Hid (wm.heap[w9.heap.size]? = some (.cells #[.int .u64 1, .string ⟨#[98]⟩, .slice a9 ns.length c9] 38 (0, 0))) := (HW.out.block _ (Array.getElem?_eq_some_iff.1 HXC.out).1 (fun e => by have := (HOL.out _ e.symm).2; omega)).trans HXC.out
        by_cases hlt : k < ns.length
        · have hlt' : (k : Int) < (ns.length : Int) := by omega
          have hkL : k < L.length := by rw [HL.out.1]; exact hlt
          obtain ⟨g, cap, eg, hg1, hg2⟩ := un_form HG.out (by omega)
          obtain ⟨rfl, _, rfl⟩ := Value.slice.inj eg
          have HG' := HG.out
          rw [← HL.out.1] at HG'
          obtain ⟨z1, z2⟩ := un_cell HG' k hkL
          have hx := HL.out.2 L[k] (List.getElem_mem hkL)
          generalize L[k] = x at *
          clear HG' eg
          obtain ⟨y, hy1, hy2⟩ := wrap_nat x 2 (by omega)
          have HS := Hid.mk' (un_set HG.out HL.out.1.symm k y)
          have HW2 : Hid (Wb (fun k => some k = (Value.slice (some ⟨g, 0, none⟩) ns.length c9).ownBlock) wc (wm.setCell ⟨g, k, none⟩ (.int .u64 (y : Int)))) := HW.out.trans (Wb.set _ _ _ _ rfl)
          have HL2 : Hid ((L.set k y).length = ns.length ∧ ∀ n ∈ L.set k y, n < 18446744073709551616) := ⟨by rw [List.length_set]; exact HL.out.1, fun n hn => by
            rcases List.mem_or_eq_of_mem_set hn with h | rfl
            · exact HL.out.2 n h
            · exact hy2⟩
          obtain ⟨_, _, x2⟩ := bx3 HXM.out
          clear hx hy2
          go_wp2_with fail
          clear hy1
          go_roundw
          case rel => exact ⟨k + 1, L.set k y, by omega, by go_num, HL2, HS, HW2⟩
          case measure => simp [intOf]; omega
        · obtain rfl : k = ns.length := by omega
          have HID := Hid.mk' (fr_row HIC.out HOC.out HW.out fun k hk hv => by
            have h1 := (HOL.out k hk).1
            have h2 := HSK.out
            have h3 := HS8.out
            have h4 := hv.2
            omega)
          have HBD2 : Hid (Below w0.heap.size w0 wm) := HBC.out.trans (HW.out.below HBC.out.size fun k hk => by have := (HOL.out k hk.symm).1; have := HSK.out; have := HS8.out; have := HS7.out; have := HSW.out; omega)
          have HXD : Hid (wm.heap[w0.heap.size + 1]? = some (.cells #[.pointer (some ⟨w0.heap.size, 0, none⟩), .string ⟨#[]⟩] 29 (0, 0))) := (HW.out.block _ (Array.getElem?_eq_some_iff.1 HXT.out).1 (fun e => by have := (HOL.out _ e.symm).1; have := HSK.out; have := HS8.out; have := HS7.out; have := HSW.out; omega)).trans HXT.out
          have HVD : Hid (Us (Lt w0.heap.size) wm (.slice va ns.length vc) ns) := ⟨HVC.out.1.wb HW.out (fun k hk hl => by have := (HOL.out k hk.symm).1; have := HSK.out; have := HS8.out; have := HS7.out; have := HSW.out; unfold Lt at hl; omega), HVC.out.2⟩
          have HLD := Hid.mk' (keeps_look HID.out HL1.out HL2.out)
          clear hlt hk HL HG HW
          obtain ⟨⟨c0, c1⟩, _⟩ := cl2_get HXD.out
          go_wp2_with fail
          refine HLD.out.mono ?_
          rintro e wn ⟨vn, rfl, hon, hbn⟩
          have HON := Hid.mk' hon
          obtain ⟨an, cn, en⟩ := own_slice hon
          subst en
          have hup := up_alloc wn (.cells #[.int .u64 1, .string ⟨#[98]⟩, .slice an ns.length cn] 38)
          have HUN := Hid.mk' (bt hbn hup)
          obtain ⟨y0, y1, y2⟩ := box3 (w := wn) (x := .int .u64 1) (y := .string ⟨#[98]⟩) (z := .slice an ns.length cn) (e := 38)
          have HSZ := Hid.mk' (sameN_self ((HON.out.up hup).us HBD.out (by have := HN.out; unfold lim; omega)) (HVD.out.up HUN.out))
          have HBN : Hid (Below w0.heap.size w0 (wn.alloc (.cells #[.int .u64 1, .string ⟨#[98]⟩, .slice an ns.length cn] 38))) := HBD2.out.trans (HUN.out.mono HBD2.out.size)
          clear hon hbn hup c0 c1 HLD
          go_wp2_with fail
          refine HSZ.out.mono ?_
          rintro e wz ⟨rfl, hdz⟩
          have HBZ : Hid (Below w.heap.size w wz) := HB0.out.trans ((HBN.out.trans (hdz.below w0.heap.size)).mono HB0.out.size)
          clear hdz HSZ y0 y1 y2
          go_wp2_with fail
          go_ret
          exact ⟨rfl, HBZ.out⟩
end Go.Proofs.YtojgkjpmphfakaaGreatDoor
