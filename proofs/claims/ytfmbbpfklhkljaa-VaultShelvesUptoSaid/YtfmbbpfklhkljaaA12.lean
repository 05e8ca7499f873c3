/- groyneref08.Encode. -/
import Derived.Test.YtfmbbpfklhkljaaA11
import Derived.StillTailTactics
set_option linter.unusedVariables false
set_option linter.unusedSimpArgs false
namespace Go.Proofs.Ytfmbbpfklhkljaa
open Go.RowKit
theorem ob_lit3 {B : Nat} {w : World} (hB : B ≤ w.heap.size) (x0 x1 x2 : UInt8) (y0 y1 y2 : Int) (h0 : y0 = (x0.toNat : Int)) (h1 : y1 = (x1.toNat : Int)) (h2 : y2 = (x2.toNat : Int)) :
    Ob 5 B (w.alloc (.cells #[.int .u8 y0, .int .u8 y1, .int .u8 y2] 5)) (.slice (some ⟨w.heap.size, 0, none⟩) 3 3) [x0, x1, x2] := by
  subst h0; subst h1; subst h2
  exact ⟨by simp, .inr ⟨w.heap.size, 3, _, rfl, hB, heap_alloc_new w _, Nat.le_refl _, by decide, rfl, by simp [bv]⟩⟩
theorem ob_lit2 {B : Nat} {w : World} (hB : B ≤ w.heap.size) (x0 x1 : UInt8) (y0 y1 : Int) (h0 : y0 = (x0.toNat : Int)) (h1 : y1 = (x1.toNat : Int)) :
    Ob 5 B (w.alloc (.cells #[.int .u8 y0, .int .u8 y1] 5)) (.slice (some ⟨w.heap.size, 0, none⟩) 2 2) [x0, x1] := by
  subst h0; subst h1
  exact ⟨by simp, .inr ⟨w.heap.size, 2, _, rfl, hB, heap_alloc_new w _, Nat.le_refl _, by decide, rfl, by simp [bv]⟩⟩
theorem bs_be2 {w : World} (m : Nat) (y0 y1 : Int) (h0 : y0 = ((UInt8.ofNat (m / 256)).toNat : Int)) (h1 : y1 = ((UInt8.ofNat m).toNat : Int)) :
    Bs (Lt (w.alloc (.cells #[.int .u8 y0, .int .u8 y1] 5)).heap.size) (w.alloc (.cells #[.int .u8 y0, .int .u8 y1] 5)) (.slice (some ⟨w.heap.size, 0, none⟩) 2 2) (be2 m) :=
  Ob.bs (ob_lit2 (Nat.le_refl _) _ _ y0 y1 h0 h1) (by simp [lim])
theorem lays2 (x y : Int) (w : World) : (Instr.buildSlice 32 2 #[(0, .int .u8 x), (1, .int .u8 y)]).run Try.prog w = .ok (.slice (some ⟨w.heap.size, 0, none⟩) 2 2) (w.alloc (.cells #[.int .u8 x, .int .u8 y] 5)) := by
  kernel_rfl
def UL.lbs (l : List UInt8) : UL := ⟨⟨fun v => ∃ a c, v = .slice a l.length c, fun v w => Bs (Lt w.heap.size) w v l⟩, fun _ _ _ h hb => (h.up hb).mono hb.size⟩
theorem padded (l : List UInt8) (j : Nat) : (l ++ List.replicate j 0) ++ [0] = l ++ List.replicate (j + 1) 0 := by
  rw [List.append_assoc, List.replicate_succ']
set_option maxRecDepth 100000 in
set_option maxHeartbeats 4000000 in
/-- groyneref08.Encode -/
theorem rencode_any {A : Nat → Prop} {w : World} {v : Value} {n : Nd} (h : RN A w v n) (hk : n.keys.length ≤ 1000) (hv : n.vals.length ≤ 1000) (hc : n.kids.length ≤ 2000) : Calls Try.prog 20 #[v] w (EncPost w n) := by
  have hRN := h
  obtain ⟨k, u, c, rfl, h1, h2, h3⟩ := h
  obtain ⟨a1, c1, rfl, g1, _, _⟩ := h1.at
  obtain ⟨a2, c2, rfl, g2, _, _⟩ := h2.at
  obtain ⟨a3, c3, rfl, g3, _, _⟩ := h3.at
  have HC := Hid.mk' (fun w' (hb : Below w.heap.size w w') => rcheck_any (hRN.up hb))
  have HS := Hid.mk' (fun w' (hb : Below w.heap.size w w') => rsize_any (hRN.up hb) hk hv hc)
  clear hRN
  have H1 := Hid.mk' h1
  have H2' := Hid.mk' h2
  have H3' := Hid.mk' h3
  clear h1 h2 h3
  have HE1 := Hid.mk' (@enc_bad n)
  have HE2 := Hid.mk' (@enc_big n)
  have HE3 := Hid.mk' (@enc_ok n)
  go_enter Try.func20, Try.ntmps20
  go_wp2_with fail
  obtain ⟨W, hW, ⟨b0, b1, b2, b3⟩, bf, hbW, hsz⟩ := box4 w (.bool n.leaf) (.slice a1 n.keys.length c1) (.slice a2 n.vals.length c2) (.slice a3 n.kids.length c3) 31
  rw [← hW]
  clear hW bf
  have BX : Hid (Bx4 w.heap.size (.bool n.leaf) (.slice a1 n.keys.length c1) (.slice a2 n.vals.length c2) (.slice a3 n.kids.length c3) W) := ⟨b0, b1, b2, b3⟩
  have HW := Hid.mk' hbW
  have HZ := Hid.mk' hsz
  clear hbW hsz
  go_wp2_with fail
  refine (HC.out _ HW.out).mono ?_
  rintro e w2 ⟨rfl, hb2⟩
  have H2 := Hid.mk' hb2
  clear hb2 b0 b1 b2 b3
  obtain ⟨b0, b1, b2, b3⟩ := BX.out.up H2.out
  by_cases hch : check n = 0
  · have hch' : (check n != 0) = false := by simp [hch]
    have HCH := Hid.mk' hch
    clear hch HE1
    go_wp2_with fail
    refine (HS.out _ (bt HW.out H2.out)).mono ?_
    rintro e w3 ⟨rfl, hb3⟩
    have H3 := Hid.mk' hb3
    clear hb3 b0 b1 b2 b3
    obtain ⟨b0, b1, b2, b3⟩ := BX.out.up (bt H2.out H3.out)
    by_cases hsz : 512 < size n
    · have hsz' : (512 : Int) < (size n : Int) := by omega
      have HE := HE2.out HCH.out hsz
      have HE := Hid.mk' HE
      clear hsz
      go_wp2_with fail
      go_ret2
      exact ⟨_, by rw [HE.out.1]; rfl, by rw [HE.out.2]; exact ob_nil, bt HW.out (bt H2.out H3.out)⟩
    · have hsz' : ¬ (512 : Int) < (size n : Int) := by omega
      have HE := Hid.mk' (HE3.out HCH.out hsz)
      have HSZ := Hid.mk' hsz
      clear hsz HE2 HE3
      have hnk : (n.keys.length : Int) ≤ 512 := by have := @keys_le n.keys; have := HSZ.out; unfold size at this; omega
      obtain ⟨HF, HK64, HV128⟩ := check_zero HCH.out
      have HF := Hid.mk' HF
      have HK64 := Hid.mk' HK64
      have HV128 := Hid.mk' HV128
      have HEL := Hid.mk' (enc_length HF.out)
      have hlt3 : w.heap.size < w3.heap.size := by have := H3.out.size; have := H2.out.size; have := HZ.out; omega
      have HBW := Hid.mk' (bt H2.out H3.out)
      have hsb : (size n : Int) ≤ 512 := by omega
      cases hlf : n.leaf with
      | true =>
        have HL := Hid.mk' (formed_leaf HF.out hlf)
        have hvk : n.vals.length = n.keys.length := HL.out.1
        rw [hlf] at b0 BX
        have HLF := Hid.mk' hlf
        have HD := Hid.mk' (hdr_leaf hlf n.keys.length)
        clear hlf
        go_wp2_with fail
        have HB6 := Hid.mk' (HBW.out.alloc HBW.out.size (.cells #[.int .u8 1, .int .u8 ((n.keys.length : Int) / 256), .int .u8 ((n.keys.length : Int) % 256)] 5))
        have HO6 : Hid (Ob 5 W.heap.size (w3.alloc (.cells #[.int .u8 1, .int .u8 ((n.keys.length : Int) / 256), .int .u8 ((n.keys.length : Int) % 256)] 5)) (.slice (some ⟨w3.heap.size, 0, none⟩) 3 3) (out n n.keys.length 0)) := by
          rw [out_zero, HD.out]; exact ob_lit3 HBW.out.size _ _ _ _ _ _ rfl (by simp; omega) (by simp)
        go_loopw [6, 7] (fun o i wr => ∃ k : Nat, k ≤ n.keys.length ∧ i = .int .i64 k ∧ Hid (Below W.heap.size W wr) ∧ Hid (Ob 5 W.heap.size wr o (out n n.keys.length k))) (fun _ i _ => n.keys.length - (intOf i).toNat)
        case atStart => exact ⟨0, by omega, rfl, HB6, HO6⟩
        case round =>
          obtain ⟨k, hk', rfl, HB, HO⟩ := hrel
          have HLN := Hid.mk' (out_le (k := k) HF.out (by have := HSZ.out; omega) hk')
          obtain ⟨b0, b1, b2, b3⟩ := BX.out.up HB.out
          by_cases hlt : k < n.keys.length
          · have hlt' : (k : Int) < (n.keys.length : Int) := by omega
            have hkv : k < n.vals.length := by omega
            obtain ⟨b, o, x, rfl, _, hu0, hx⟩ := (H1.out.at').2 k hlt
            obtain ⟨b', o', y, rfl, _, hv0, hy⟩ := (H2'.out.at').2 k hkv
            have hu := cell_later (bt HW.out HB.out) hu0
            obtain ⟨a4, c4, rfl, _⟩ := hx.at
            obtain ⟨a5, c5, rfl, _⟩ := hy.at
            have HX := Hid.mk' hx
            have HY := Hid.mk' hy
            have HU0 := Hid.mk' hu0
            have HV0 := Hid.mk' hv0
            have hl4 : n.keys[k].length ≤ 64 := HK64.out _ (List.getElem_mem hlt)
            have hl5 : n.vals[k].length ≤ 128 := HV128.out _ (List.getElem_mem hkv)
            have HT := Hid.mk' (out_succ n n.keys.length k)
            have HEN := Hid.mk' (ent_leaf HLF.out hlt hkv)
            clear hx hy hu0 hv0
            generalize n.keys[k] = ky at *
            generalize n.vals[k] = vl at *
            have HR := Hid.mk' (HT.out.trans (congrArg (out n n.keys.length k ++ ·) HEN.out))
            generalize out n n.keys.length k = ou at *
            clear HT HEN
            go_wp2_with (first
              | (at_builtin; refine app32b (W := W) (v := u6) (l := ou) (m := [UInt8.ofNat ky.length]) rfl (.tmp 53) (.tmp 61) rfl rfl (HB.out.alloc HB.out.size _) (HO.out.alloc _) rfl (bs_lit _ _ (by simp; omega)) (by have := HLN.out; simp [lim]; omega) ?_; intro v7 w7 ho7 hb7; obtain ⟨b0, b1, b2, b3⟩ := BX.out.up hb7; have hu7 := cell_later (bt HW.out hb7) HU0.out; have HO7 := Hid.mk' ho7; have HB7 := Hid.mk' hb7; clear ho7 hb7)
              | (at_builtin; refine app32b (W := W) (v := v7) (l := ou ++ [UInt8.ofNat ky.length]) (m := ky) rfl (.tmp 63) (.tmp 68) rfl rfl HB7.out HO7.out rfl (HX.out.up (bt HW.out HB7.out)) (by have := HLN.out; simp [lim]; omega) ?_; intro v8 w8 ho8 hb8; have hv8 := cell_later (bt HW.out hb8) HV0.out; obtain ⟨b0, b1, b2, b3⟩ := BX.out.up hb8; have HO8 := Hid.mk' ho8; have HB8 := Hid.mk' hb8; have r0 : ∀ p : Ups w8, p.nx.cell? ⟨w.heap.size, 2, none⟩ = some _ := (fun p => p.cell b2); have r1 : ∀ p : Ups w8, p.nx.cell? _ = some _ := (fun p => p.cell hv8); clear ho8 hb8))
            refine wp_region_free 17 Up (fun w' => ∃ p : Ups w8, w' = p.nx) (ul [(88, UL.lbs (be2 vl.length))]) (by kernel_rfl) (by kernel_rfl) (ul_ck _) (up_first w8) ?_
            simp only [List.take_succ_cons, List.take_zero, List.drop_succ_cons, List.drop_zero]
            refine wf_take 16 rfl ?_
            simp only [List.take_succ_cons, List.take_zero, List.drop_succ_cons, List.drop_zero]
            repeat (go_big_quiet_step (fail))
            refine wpQuiet_nil ?_
            refine wf_make (V := (UL.lbs (be2 vl.length)).1) (by kernel_rfl) (by kernel_rfl) (fun w1 hC _ => ?_) (fun u1 ho1 => ?_)
            · refine ⟨_, _, by simp only [execOp, List.map_toArray, List.map_cons, List.map_nil, go_sem]; exact run_v (lays2 _ _ w1), up_alloc _ _, ⟨_, _, rfl⟩, bs_be2 _ _ _ (by simp; omega) (by simp <;> omega)⟩
            obtain ⟨ad, cp, rfl⟩ := ho1
            simp only [Act.put, List.setIfInBounds_toArray, List.set_cons_succ, List.set_cons_zero]
            intro w1 hC hK
            have k2 := hK 88 _ _ trivial (.inr ⟨rfl, rfl⟩) rfl
            obtain ⟨p, rfl⟩ := hC
            have HK2 : Hid (Bs (Lt p.nx.heap.size) p.nx (.slice ad (be2 vl.length).length cp) (be2 vl.length)) := k2
            have HB81 := Hid.mk' (bt HB8.out p.ok)
            have HO81 := Hid.mk' (HO8.out.keep p.ok (Nat.le_refl _))
            generalize p.nx = w81 at *
            clear hK k2 r0 r1 b0 b1 b2 b3 hv8
            go_wp2_with (first
              | (at_builtin; refine app32b (W := W) (v := v8) (l := (ou ++ [UInt8.ofNat ky.length]) ++ ky) (m := be2 vl.length) rfl (.tmp 72) (.tmp 88) rfl rfl HB81.out HO81.out rfl HK2.out (by have := HLN.out; simp [lim]; omega) ?_; intro v9 w9 ho9 hb9; obtain ⟨b0, b1, b2, b3⟩ := BX.out.up hb9; have hu9 := cell_later (bt HW.out hb9) HV0.out; have HO9 := Hid.mk' ho9; have HB9 := Hid.mk' hb9; clear ho9 hb9)
              | (at_builtin; refine app32b (W := W) (v := v9) (l := ((ou ++ [UInt8.ofNat ky.length]) ++ ky) ++ be2 vl.length) (m := vl) rfl (.tmp 90) (.tmp 95) rfl rfl HB9.out HO9.out rfl (HY.out.up (bt HW.out HB9.out)) (by have := HLN.out; simp [lim]; omega) ?_; intro v10 w10 ho10 hb10; have HO10 := Hid.mk' ho10; have HB10 := Hid.mk' hb10; clear ho10 hb10))
            go_roundw
            case rel => exact ⟨k + 1, by omega, by go_num, HB10, Hid.mk' (by rw [HR.out]; have h := HO10.out; simpa using h)⟩
            case measure => simp [intOf]; omega
          · obtain rfl : k = n.keys.length := by omega
            have HEN : Hid (out n n.keys.length n.keys.length = enc n) := rfl
            have HEL2 := Hid.mk' (Nat.le_trans (Nat.le_of_eq HEL.out) (show size n ≤ 512 by omega))
            rw [HEN.out] at HO
            have HPG : Hid (page n = enc n ++ List.replicate (512 - (enc n).length) 0) := rfl
            clear HLN HEN HEL
            generalize enc n = en at *
            obtain ⟨x6, z6, e6⟩ := own_slice HO.out
            subst e6
            go_wp2_with fail
            rename World => wv
            go_loopw [6] (fun o wr => ∃ (j : Nat) (a : Option Addr) (c : Nat), en.length + j ≤ 512 ∧ o = .slice a (en.length + j) c ∧ Hid (Below W.heap.size W wr) ∧ Hid (Ob 5 W.heap.size wr o (en ++ List.replicate j 0))) (fun o _ => 512 - (match o with | .slice _ n _ => n | _ => 0))
            case atStart => exact ⟨0, _, _, HEL2.out, rfl, HB, Hid.mk' (by simpa using HO.out)⟩
            case round =>
              obtain ⟨j, a, c, hj, rfl, HB, HO⟩ := hrel
              by_cases hlt : en.length + j < 512
              · have hlt' : (en.length : Int) + (j : Int) < 512 := by omega
                have HPD := Hid.mk' (padded en j)
                go_wp2_with (first
                  | (at_builtin; refine app32b (W := W) (v := .slice a (en.length + j) c) (l := en ++ List.replicate j 0) (m := [0]) rfl (.tmp 118) (.tmp 119) rfl rfl (HB.out.alloc HB.out.size _) (HO.out.alloc _) rfl (bs_lit _ _ (by simp)) (by simp [lim]; omega) ?_; intro v7 w7 ho7 hb7; have HO7 := Hid.mk' ho7; have HB7 := Hid.mk' hb7; clear ho7 hb7))
                rw [HPD.out] at HO7
                obtain ⟨x7, z7, e7⟩ := own_slice HO7.out
                have e8 : (en ++ List.replicate (j + 1) 0).length = en.length + (j + 1) := by simp
                rw [e8] at e7
                subst e7
                go_roundw
                case rel => exact ⟨j + 1, x7, z7, by omega, rfl, HB7, HO7⟩
                case measure => simp; omega
              · have hlt' : ¬ (en.length : Int) + (j : Int) < 512 := by omega
                go_wp2_with fail
                go_ret2
                refine ⟨.slice a (en.length + j) c, by rw [HE.out.1]; rfl, ?_, bt HW.out HB.out⟩
                have e8 : j = 512 - en.length := by omega
                rw [HE.out.2, HPG.out, ← e8]
                exact Ob.mono HO.out HW.out.size
      | false =>
        have HL := Hid.mk' (formed_inner HF.out hlf)
        have hck : n.kids.length = n.keys.length + 1 := HL.out.2.1
        rw [hlf] at b0 BX
        have HLF := Hid.mk' hlf
        clear hlf
        have h0k : 0 < n.kids.length := by omega
        obtain ⟨m0, hm0⟩ : ∃ m0 : Nat, n.kids[0] = (m0 : Int) := ⟨n.kids[0].toNat, by have := (HL.out.2.2 _ (List.getElem_mem h0k)).1; omega⟩
        have hm0b : m0 ≤ 65535 := by have := (HL.out.2.2 _ (List.getElem_mem h0k)).2; omega
        obtain ⟨b, o, rfl, _, hu0⟩ := (H3'.out.at').2 0 h0k
        rw [hm0, Nat.add_zero] at hu0
        have HD := Hid.mk' (hdr_inner HLF.out n.keys.length m0 (by rw [getD_get _ _ _ h0k]; exact hm0))
        have HU0 := Hid.mk' hu0
        have HK0 : Hid (m0 ≤ 65535) := hm0b
        clear hm0 hu0
        have HB5 := Hid.mk' (HBW.out.alloc HBW.out.size (.cells #[.int .u8 2, .int .u8 ((n.keys.length : Int) / 256), .int .u8 ((n.keys.length : Int) % 256)] 5))
        have HO5 : Hid (Ob 5 W.heap.size (w3.alloc (.cells #[.int .u8 2, .int .u8 ((n.keys.length : Int) / 256), .int .u8 ((n.keys.length : Int) % 256)] 5)) (.slice (some ⟨w3.heap.size, 0, none⟩) 3 3) (2 :: be2 n.keys.length)) :=
          ob_lit3 HBW.out.size _ _ _ _ _ _ rfl (by simp; omega) (by simp)
        obtain ⟨b0', b1', b2', b3'⟩ := BX.out.up HB5.out
        have hu5 := cell_later (bt HW.out HB5.out) HU0.out
        go_wp2_with fail
        generalize hV : (w3.alloc (.cells #[.int .u8 2, .int .u8 ((n.keys.length : Int) / 256), .int .u8 ((n.keys.length : Int) % 256)] 5)) = V at *
        have r0 : ∀ p : Ups V, p.nx.cell? ⟨w.heap.size, 3, none⟩ = some _ := fun p => p.cell b3'
        have r1 : ∀ p : Ups V, p.nx.cell? _ = some _ := fun p => p.cell hu5
        refine wp_region_free 13 Up (fun w' => ∃ p : Ups V, w' = p.nx) (ul [(44, UL.lbs (be2 m0))]) (by kernel_rfl) (by kernel_rfl) (ul_ck _) (up_first V) ?_
        simp only [List.take_succ_cons, List.take_zero, List.drop_succ_cons, List.drop_zero]
        refine wf_take 12 rfl ?_
        simp only [List.take_succ_cons, List.take_zero, List.drop_succ_cons, List.drop_zero]
        repeat (go_big_quiet_step (fail))
        refine wpQuiet_nil ?_
        refine wf_make (V := (UL.lbs (be2 m0)).1) (by kernel_rfl) (by kernel_rfl) (fun w1 hC _ => ?_) (fun u1 ho1 => ?_)
        · refine ⟨_, _, by simp only [execOp, List.map_toArray, List.map_cons, List.map_nil, go_sem]; exact run_v (lays2 _ _ w1), up_alloc _ _, ⟨_, _, rfl⟩, bs_be2 _ _ _ (by simp; omega) (by simp <;> omega)⟩
        obtain ⟨ad, cp, rfl⟩ := ho1
        simp only [Act.put, List.setIfInBounds_toArray, List.set_cons_succ, List.set_cons_zero]
        intro w1 hC hK
        have k2 := hK 44 _ _ trivial (.inr ⟨rfl, rfl⟩) rfl
        obtain ⟨p, rfl⟩ := hC
        have HK2 : Hid (Bs (Lt p.nx.heap.size) p.nx (.slice ad (be2 m0).length cp) (be2 m0)) := k2
        have HB51 := Hid.mk' (bt HB5.out p.ok)
        have HO51 := Hid.mk' (HO5.out.keep p.ok (Nat.le_refl _))
        generalize p.nx = w81 at *
        clear hK k2 r0 r1
        go_wp2_with (first
          | (at_builtin; refine app32b (W := W) (l := 2 :: be2 n.keys.length) (m := be2 m0) rfl (.tmp 32) (.tmp 44) rfl rfl HB51.out HO51.out rfl HK2.out (by simp [lim]) ?_; intro v6 w6 ho6 hb6; have HB6 := Hid.mk' hb6; have HO6 : Hid (Ob 5 W.heap.size w6 v6 (out n n.keys.length 0)) := (by rw [out_zero, HD.out]; exact ho6); clear ho6 hb6))
        clear b0 b1 b2 b3 b0' b1' b2' b3' hu5
        go_loopw [6, 7] (fun o i wr => ∃ k : Nat, k ≤ n.keys.length ∧ i = .int .i64 k ∧ Hid (Below W.heap.size W wr) ∧ Hid (Ob 5 W.heap.size wr o (out n n.keys.length k))) (fun _ i _ => n.keys.length - (intOf i).toNat)
        case atStart => exact ⟨0, by omega, rfl, HB6, HO6⟩
        case round =>
          obtain ⟨k, hk', rfl, HB, HO⟩ := hrel
          have HLN := Hid.mk' (out_le (k := k) HF.out (by have := HSZ.out; omega) hk')
          obtain ⟨b0, b1, b2, b3⟩ := BX.out.up HB.out
          by_cases hlt : k < n.keys.length
          · have hlt' : (k : Int) < (n.keys.length : Int) := by omega
            have hkv : k + 1 < n.kids.length := by omega
            obtain ⟨b', o', x, rfl, _, hu0, hx⟩ := (H1.out.at').2 k hlt
            obtain ⟨_, _, e, _, hv0⟩ := (H3'.out.at').2 (k + 1) hkv
            cases e
            have hu := cell_later (bt HW.out HB.out) hu0
            obtain ⟨a4, c4, rfl, _⟩ := hx.at
            have HX := Hid.mk' hx
            obtain ⟨m, hm⟩ : ∃ m : Nat, n.kids[k + 1] = (m : Int) := ⟨n.kids[k + 1].toNat, by have := (HL.out.2.2 _ (List.getElem_mem hkv)).1; omega⟩
            have hmb : m ≤ 65535 := by have := (HL.out.2.2 _ (List.getElem_mem hkv)).2; omega
            rw [hm] at hv0
            have HU0 := Hid.mk' hu0
            have HV0 := Hid.mk' hv0
            have hl4 : n.keys[k].length ≤ 64 := HK64.out _ (List.getElem_mem hlt)
            have HT := Hid.mk' (out_succ n n.keys.length k)
            have HEN := Hid.mk' (ent_inner HLF.out hlt (m := m) (by rw [getD_get _ _ _ hkv]; exact hm))
            clear hx hu0 hv0 hm
            generalize n.keys[k] = ky at *
            have HR := Hid.mk' (HT.out.trans (congrArg (out n n.keys.length k ++ ·) HEN.out))
            generalize out n n.keys.length k = ou at *
            clear HT HEN
            go_wp2_with (first
              | (at_builtin; refine app32b (W := W) (v := u6) (l := ou) (m := [UInt8.ofNat ky.length]) rfl (.tmp 53) (.tmp 61) rfl rfl (HB.out.alloc HB.out.size _) (HO.out.alloc _) rfl (bs_lit _ _ (by simp; omega)) (by have := HLN.out; simp [lim]; omega) ?_; intro v7 w7 ho7 hb7; obtain ⟨b0, b1, b2, b3⟩ := BX.out.up hb7; have hu7 := cell_later (bt HW.out hb7) HU0.out; have HO7 := Hid.mk' ho7; have HB7 := Hid.mk' hb7; clear ho7 hb7)
              | (at_builtin; refine app32b (W := W) (v := v7) (l := ou ++ [UInt8.ofNat ky.length]) (m := ky) rfl (.tmp 63) (.tmp 68) rfl rfl HB7.out HO7.out rfl (HX.out.up (bt HW.out HB7.out)) (by have := HLN.out; simp [lim]; omega) ?_; intro v8 w8 ho8 hb8; have hv8 := cell_later (bt HW.out hb8) HV0.out; obtain ⟨b0, b1, b2, b3⟩ := BX.out.up hb8; have HO8 := Hid.mk' ho8; have HB8 := Hid.mk' hb8; have r0 : ∀ p : Ups w8, p.nx.cell? ⟨w.heap.size, 3, none⟩ = some _ := (fun p => p.cell b3); have r1 : ∀ p : Ups w8, p.nx.cell? _ = some _ := (fun p => p.cell hv8); clear ho8 hb8))
            refine wp_region_free 17 Up (fun w' => ∃ p : Ups w8, w' = p.nx) (ul [(113, UL.lbs (be2 m))]) (by kernel_rfl) (by kernel_rfl) (ul_ck _) (up_first w8) ?_
            simp only [List.take_succ_cons, List.take_zero, List.drop_succ_cons, List.drop_zero]
            refine wf_take 16 rfl ?_
            simp only [List.take_succ_cons, List.take_zero, List.drop_succ_cons, List.drop_zero]
            repeat (go_big_quiet_step (fail))
            refine wpQuiet_nil ?_
            refine wf_make (V := (UL.lbs (be2 m)).1) (by kernel_rfl) (by kernel_rfl) (fun w1 hC _ => ?_) (fun u1 ho1 => ?_)
            · refine ⟨_, _, by simp only [execOp, List.map_toArray, List.map_cons, List.map_nil, go_sem]; exact run_v (lays2 _ _ w1), up_alloc _ _, ⟨_, _, rfl⟩, bs_be2 _ _ _ (by simp; omega) (by simp <;> omega)⟩
            obtain ⟨ad, cp, rfl⟩ := ho1
            simp only [Act.put, List.setIfInBounds_toArray, List.set_cons_succ, List.set_cons_zero]
            intro w1 hC hK
            have k2 := hK 113 _ _ trivial (.inr ⟨rfl, rfl⟩) rfl
            obtain ⟨p, rfl⟩ := hC
            have HK2 : Hid (Bs (Lt p.nx.heap.size) p.nx (.slice ad (be2 m).length cp) (be2 m)) := k2
            have HB81 := Hid.mk' (bt HB8.out p.ok)
            have HO81 := Hid.mk' (HO8.out.keep p.ok (Nat.le_refl _))
            generalize p.nx = w81 at *
            clear hK k2 r0 r1 b0 b1 b2 b3 hv8
            go_wp2_with (first
              | (at_builtin; refine app32b (W := W) (v := v8) (l := (ou ++ [UInt8.ofNat ky.length]) ++ ky) (m := be2 m) rfl (.tmp 97) (.tmp 113) rfl rfl HB81.out HO81.out rfl HK2.out (by have := HLN.out; simp [lim]; omega) ?_; intro v9 w9 ho9 hb9; have HO9 := Hid.mk' ho9; have HB9 := Hid.mk' hb9; clear ho9 hb9))
            go_roundw
            case rel => exact ⟨k + 1, by omega, by go_num, HB9, Hid.mk' (by rw [HR.out]; have h := HO9.out; simpa using h)⟩
            case measure => simp [intOf]; omega
          · obtain rfl : k = n.keys.length := by omega
            have HEN : Hid (out n n.keys.length n.keys.length = enc n) := rfl
            have HEL2 := Hid.mk' (Nat.le_trans (Nat.le_of_eq HEL.out) (show size n ≤ 512 by omega))
            rw [HEN.out] at HO
            have HPG : Hid (page n = enc n ++ List.replicate (512 - (enc n).length) 0) := rfl
            clear HLN HEN HEL
            generalize enc n = en at *
            obtain ⟨x6, z6, e6⟩ := own_slice HO.out
            subst e6
            go_wp2_with fail
            rename World => wv
            go_loopw [6] (fun o wr => ∃ (j : Nat) (a : Option Addr) (c : Nat), en.length + j ≤ 512 ∧ o = .slice a (en.length + j) c ∧ Hid (Below W.heap.size W wr) ∧ Hid (Ob 5 W.heap.size wr o (en ++ List.replicate j 0))) (fun o _ => 512 - (match o with | .slice _ n _ => n | _ => 0))
            case atStart => exact ⟨0, _, _, HEL2.out, rfl, HB, Hid.mk' (by simpa using HO.out)⟩
            case round =>
              obtain ⟨j, a, c, hj, rfl, HB, HO⟩ := hrel
              by_cases hlt : en.length + j < 512
              · have hlt' : (en.length : Int) + (j : Int) < 512 := by omega
                have HPD := Hid.mk' (padded en j)
                go_wp2_with (first
                  | (at_builtin; refine app32b (W := W) (v := .slice a (en.length + j) c) (l := en ++ List.replicate j 0) (m := [0]) rfl (.tmp 118) (.tmp 119) rfl rfl (HB.out.alloc HB.out.size _) (HO.out.alloc _) rfl (bs_lit _ _ (by simp)) (by simp [lim]; omega) ?_; intro v7 w7 ho7 hb7; have HO7 := Hid.mk' ho7; have HB7 := Hid.mk' hb7; clear ho7 hb7))
                rw [HPD.out] at HO7
                obtain ⟨x7, z7, e7⟩ := own_slice HO7.out
                have e8 : (en ++ List.replicate (j + 1) 0).length = en.length + (j + 1) := by simp
                rw [e8] at e7
                subst e7
                go_roundw
                case rel => exact ⟨j + 1, x7, z7, by omega, rfl, HB7, HO7⟩
                case measure => simp; omega
              · have hlt' : ¬ (en.length : Int) + (j : Int) < 512 := by omega
                go_wp2_with fail
                go_ret2
                refine ⟨.slice a (en.length + j) c, by rw [HE.out.1]; rfl, ?_, bt HW.out HB.out⟩
                have e8 : j = 512 - en.length := by omega
                rw [HE.out.2, HPG.out, ← e8]
                exact Ob.mono HO.out HW.out.size
  · have hch' : (check n != 0) = true := by simp [hch]
    have HE := Hid.mk' (HE1.out hch)
    clear hch
    go_wp2_with fail
    go_ret2
    exact ⟨_, by rw [HE.out.1]; rfl, by rw [HE.out.2]; exact ob_nil, bt HW.out H2.out⟩
end Go.Proofs.Ytfmbbpfklhkljaa
