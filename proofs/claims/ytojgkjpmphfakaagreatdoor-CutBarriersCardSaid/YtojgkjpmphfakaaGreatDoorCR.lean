/- CutBarriers: the law's walk. -/
import Derived.Test.YtojgkjpmphfakaaGreatDoorCT
set_option linter.unusedVariables false
set_option linter.unusedSimpArgs false
namespace Go.Proofs.YtojgkjpmphfakaaGreatDoor
open Go.RowKit
open PL
attribute [local go_sem ↓] Go.wp_at_zero Go.wp_at_succ
theorem Tryz.und24 : Tryz.prog.underlying 24 = some (.slice (Tryz.prog.elem 24)) := by kernel_rfl
theorem Ss.cut {A : Nat → Prop} {w : World} {a : Option Addr} {c : Nat} {l : List (List UInt8)} (h : Ss A w (.slice a l.length c) l) {n : Nat} (hn : n ≤ l.length) : Ss A w (.slice a (l.take n).length c) (l.take n) := by
  have hl : (l.take n).length = n := by rw [List.length_take]; omega
  refine ⟨?_, by rw [hl]; have := h.2; omega⟩
  rw [hl, show sv (l.take n) = (sv l).take n by simp [sv, List.map_take]]
  exact h.1.cutTo hn
theorem Us.cut {A : Nat → Prop} {w : World} {a : Option Addr} {c : Nat} {l : List Nat} (h : Us A w (.slice a l.length c) l) (n : Nat) : Us A w (.slice a (l.take n).length c) (l.take n) := by
  by_cases hn : n ≤ l.length
  · have hl : (l.take n).length = n := by rw [List.length_take]; omega
    refine ⟨?_, fun x hx => h.2.1 x (List.mem_of_mem_take hx), by rw [hl]; have := h.2.2; omega⟩
    rw [hl, show uv (l.take n) = (uv l).take n by simp [uv, List.map_take]]
    exact h.1.cutTo hn
  · rw [List.take_of_length_le (by omega)]; exact h
theorem unb_app0 {B : Nat} {w : World} {v : Value} {ns : List Nat} (h : w.ownsRow B 23 1 v (([] : List Nat).length + ns.length) (uv [] ++ uv ns)) : Un B w v ns := by
  simp only [List.length_nil, Nat.zero_add] at h
  exact h
/-- does somebody have the name in the incarnation? -/
def hasN (inc : Nat) (nm : List UInt8) (L : List Bi) : Bool := L.any fun y => y.1 == inc && y.2.2.1 == nm
theorem hasN_snoc (inc : Nat) (nm : List UInt8) (L : List Bi) (y : Bi) : hasN inc nm (L ++ [y]) = (hasN inc nm L || (y.1 == inc && y.2.2.1 == nm)) := by unfold hasN; simp
theorem sub_bnd {l : List Th} {p : List UInt8} {W : List Bi} (h : Bar l p W) {inc : Nat} (hi : inc < 18446744073709551616) (ps : List (List UInt8)) : ∀ x ∈ some' ps (cats inc W), (∀ n ∈ x.2.2, n < 18446744073709551616) ∧ x.2.2.length * 8 ≤ lim := fun x hx => (h.cat hi).bnd x (List.mem_filter.1 hx).1
theorem some_len (ps : List (List UInt8)) (inc : Nat) (W : List Bi) : (some' ps (cats inc W)).length ≤ W.length := by
  rw [← rSome_cats, List.length_map]
  exact List.length_filter_le _ _
theorem rsome_len (ps : List (List UInt8)) (inc : Nat) (W : List Bi) : (rSome inc ps W).length ≤ W.length := List.length_filter_le _ _
theorem same_bars {A A' : Nat → Prop} {w : World} {v u : Value} {inc : Nat} {ps : List (List UInt8)} {W : List Bi} (h : BrR A w v (some' ps (cats inc W))) (h' : RbR A' w u (rSome inc ps W)) (hW : W.length ≤ 1000) : Calls Tryz.prog 12 #[v, u] w fun e w' => e = .returned (.bool true) ∧ Below w.heap.size w w' := by
  have := same12_any h h' (Nat.le_trans (some_len ps inc W) hW) (Nat.le_trans (rsome_len ps inc W) hW)
  rwa [decide_eq_true (rSome_cats inc ps W).symm] at this
theorem so_app0 {B n : Nat} {w : World} {v : Value} {xs : List Value} (h : w.ownsRow B 9 1 v (0 + n) ([] ++ xs)) : w.ownsRow B 9 1 v n xs := by
  rwa [Nat.zero_add, List.nil_append] at h
set_option maxRecDepth 100000 in
set_option maxHeartbeats 16000000 in
/-- the law -/
theorem barriers_law {w : World} {v u : Value} {l : List Bi} {ps : List (List UInt8)} {inc : Nat} (h : RbR (Lt w.heap.size) w v l) (hb : ∀ y ∈ l, y.1 < 18446744073709551616 ∧ y.2.1 < 18446744073709551616 ∧ y.2.2.1.length ≤ maxLen) (hi : inc < 18446744073709551616) (hp : Ss (Lt w.heap.size) w u ps) (hpl : ∀ q ∈ ps, q.length ≤ maxLen) :
    Calls Tryz.prog 3 #[v, .int .u64 (inc : Int), u] w fun e w' => e = .returned (.bool true) ∧ Below w.heap.size w w' := by
  have HR := Hid.mk' h
  have HBD := Hid.mk' hb
  have HINC : Hid (inc < 18446744073709551616) := hi
  have HP := Hid.mk' hp
  have HPL := Hid.mk' hpl
  obtain ⟨va, vc, rfl, hvc, hat⟩ := h.at
  have HAT := Hid.mk' hat
  have hll : (l.length : Int) ≤ 140737488351232 := by obtain ⟨_, _, _, _, h2⟩ := h; unfold lim at h2; omega
  obtain ⟨ua, uc, rfl, huc, _, hpt⟩ := hp.at
  have HPT := Hid.mk' hpt
  have hpsl : (ps.length : Int) ≤ 140737488351232 := by have := hp.2; unfold lim at this; omega
  clear h hb hi hp hpl hat hpt
  go_enter Tryz.func3, Tryz.ntmps3
  go_wp2_with fail
  refine (awake_any w).mono ?_
  rintro e w1 ⟨rfl, hb1⟩
  have HB1 := Hid.mk' hb1
  clear hb1
  go_upto_if 25 with fail
  go_cut [2] (fun u wx => u = .slice ua (ps.take 4).length uc ∧ Hid (w1 = wx) ∧ Hid (Ss (Lt w.heap.size) w1 (.slice ua (ps.take 4).length uc) (ps.take 4)))
  case first =>
    by_cases hlt : 4 < ps.length
    · have hlt' : (4 : Int) < (ps.length : Int) := by omega
      obtain ⟨b0, o0, rfl, _⟩ := HPT.out 0 (by omega)
      have hl30 : (ps.take 4).length = 4 := by rw [List.length_take]; omega
      have HX : Hid (Ss (Lt w.heap.size) w1 (.slice (some ⟨b0, o0, none⟩) (ps.take 4).length uc) (ps.take 4)) := (HP.out.cut (by omega)).up HB1.out
      have HL := Hid.mk' hl30
      have hvc' : (4 : Int) ≤ (uc : Int) := by omega
      clear hl30
      go_wp2_with fail
      go_meet
      exact ⟨by rw [HL.out], rfl, HX⟩
    · have hlt' : ¬ (4 : Int) < (ps.length : Int) := by omega
      have HE : Hid (ps.take 4 = ps) := List.take_of_length_le (by omega)
      have HX : Hid (Ss (Lt w.heap.size) w1 (.slice ua (ps.take 4).length uc) (ps.take 4)) := by rw [HE.out]; exact HP.out.up HB1.out
      go_wp2_with fail
      go_meet
      exact ⟨by rw [HE.out], rfl, HX⟩
  case rest =>
  obtain ⟨rfl, hwx, Ha⟩ := hcut
  obtain rfl := hwx.out
  clear hwx HP HPT hpsl huc
  have hla : (ps.take 4).length ≤ 4 := by rw [List.length_take]; omega
  have HPM : Hid (∀ q ∈ ps.take 4, q.length ≤ maxLen) := fun q hq => HPL.out q (List.mem_of_mem_take hq)
  generalize ps.take 4 = ps' at *
  clear ps HPL
  rename List (List UInt8) => ps
  have HPN : Hid (ps.length ≤ 4) := hla
  have hpsl : (ps.length : Int) ≤ 4 := by omega
  obtain ⟨_, _, ev, huc, _, hpt⟩ := Ha.out.at
  obtain ⟨rfl, _, rfl⟩ := Value.slice.inj ev
  have HPT := Hid.mk' hpt
  clear hpt ev hla
  have HS0 : Hid (∀ q ∈ ps.take 0, q.length ≤ 50) := by show ∀ q ∈ _, _; simp
  go_upto_block 0 with fail
  go_cut [2] (fun u wx => ∃ (qs : List (List UInt8)) (oa : Option Addr) (oc : Nat), u = .slice oa qs.length oc ∧ Hid (Ss (Lt wx.heap.size) wx (.slice oa qs.length oc) qs) ∧ Hid (∀ q ∈ qs, q.length ≤ 50) ∧ Hid (Below w1.heap.size w1 wx))
  case first =>
    go_wp2_with fail
    go_loopw [2, 30] (fun u i wr => ∃ k : Nat, k ≤ ps.length ∧ i = .int .i64 k ∧ u = .slice ua ps.length uc ∧ Hid (∀ q ∈ ps.take k, q.length ≤ 50) ∧ Eqw w1 wr) (fun _ i _ => ps.length - (intOf i).toNat)
    case atStart => exact ⟨0, by omega, rfl, rfl, HS0, Eqw.refl _⟩
    case round =>
      clear HS0
      obtain ⟨k, hk, rfl, rfl, HQ, hww⟩ := hrel
      obtain rfl : w1 = wr := hww
      by_cases hlt : k < ps.length
      · have hlt' : (k : Int) < (ps.length : Int) := by omega
        obtain ⟨b2, o2, rfl, _, p2⟩ := HPT.out k hlt
        have hqm := HPM.out ps[k] (List.getElem_mem hlt)
        have HTK : Hid (ps.take (k + 1) = ps.take k ++ [ps[k]]) := List.take_succ_eq_append_getElem hlt
        have hqi : (ps[k].length : Int) ≤ 9223372036854775807 := by unfold maxLen at hqm; omega
        generalize ps[k] = q at *
        have en : (⟨q.toArray⟩ : ByteArray).size = q.length := by simp [ByteArray.size]
        clear hqm
        by_cases hbig : 50 < q.length
        · have hb1 : (50 : Int) < (q.length : Int) := by omega
          obtain ⟨s1, t1, S1, hr1⟩ := row_hi (P := Tryz.prog) (t := 24) Tryz.und24 Tryz.size24 Ha.out.1 k (by omega)
          have hup := up_alloc w1 (.cells #[] 9)
          have HUP := Hid.mk' hup
          have HR1 := Hid.mk' (hr1.up hup)
          have HOE : Hid ((w1.alloc (.cells #[] 9)).ownsRow w1.heap.size 9 1 (.slice (some ⟨w1.heap.size, 0, none⟩) 0 0) 0 []) := own_empty (Nat.le_refl _)
          clear hr1 hup hbig
          go_wp2_with (at_builtin; (first | ((refine wpl_app rfl (.tmp 38) (.tmp 41) 24 rfl Tryz.underlying24 Tryz.info9 rfl (by decide) rfl HOE.out rfl HR1.out (fun u hu => sv_one _ u (List.mem_of_mem_take hu)) (by have := HPN.out; unfold maxLen; omega) (by have := HPN.out; omega) HUP.out.size ?_); intro v6 w6 ho hg _ _; have HO6 := Hid.mk' (so_app0 ho); have HB6 : Hid (Below w1.heap.size w1 w6) := below_app HUP.out HOE.out hg (Nat.le_refl _) HUP.out.size; obtain ⟨a6, c6, e6⟩ := own_sliceN HO6.out; subst e6; have HU6 := Hid.mk' (up_alloc w6 (.cells #[.string ⟨#[42]⟩] 9)); have HO6A := Hid.mk' (own_keep HO6.out HU6.out (Nat.le_refl _)); have HB6A := Hid.mk' (bt HB6.out HU6.out); clear ho hg) | ((refine wpl_app rfl (.tmp 42) (.tmp 43) 24 rfl Tryz.underlying24 Tryz.info9 rfl (by decide) rfl HO6A.out rfl row_one (by intro u hu; simp only [List.mem_cons, List.not_mem_nil, or_false] at hu; subst hu; rfl) (by have := HPN.out; unfold maxLen; omega) (by have := HPN.out; omega) HB6A.out.size ?_); intro v7 w7 ho hg _ _; have HO7 := Hid.mk' ho; have HB7 : Hid (Below w1.heap.size w1 w7) := below_app HB6A.out HO6A.out hg (Nat.le_refl _) HB6A.out.size; clear ho hg)))
          obtain ⟨a7, c7, e7⟩ := own_sliceN HO7.out
          subst e7
          have hlk : (ps.take k ++ [[42]]).length = k + 1 := by rw [List.length_append, List.length_take]; simp; omega
          have HSS : Hid (Ss (Lt w7.heap.size) w7 (.slice a7 (ps.take k ++ [[42]]).length c7) (ps.take k ++ [[42]])) := by
            refine ⟨?_, by rw [hlk]; have := HPN.out; unfold lim; omega⟩
            rw [hlk, sv_append, show sv (ps.take k) = (sv ps).take k by simp [sv, List.map_take]]
            exact Row.of_own HO7.out
          have HQ7 : Hid (∀ q ∈ ps.take k ++ [[42]], q.length ≤ 50) := fun q hq => by
            rcases List.mem_append.1 hq with h | h
            · exact HQ.out q h
            · rw [List.mem_singleton] at h; subst h; simp
          go_meet
          exact ⟨_, a7, c7, by rw [hlk], HSS, HQ7, HB7⟩
        · have hb1 : ¬ (50 : Int) < (q.length : Int) := by omega
          have HQ2 : Hid (∀ q ∈ ps.take (k + 1), q.length ≤ 50) := fun x hx => by
            rw [HTK.out, List.mem_append, List.mem_singleton] at hx
            rcases hx with h | rfl
            · exact HQ.out x h
            · omega
          clear hbig
          go_wp2_with fail
          go_roundw
          case rel => exact ⟨k + 1, by omega, by go_num, rfl, HQ2, Eqw.refl _⟩
          case measure => simp [intOf]; omega
      · obtain rfl : k = ps.length := by omega
        have HQ2 : Hid (∀ q ∈ ps, q.length ≤ 50) := by have := HQ.out; rwa [List.take_length] at this
        have HSS : Hid (Ss (Lt w1.heap.size) w1 (.slice ua ps.length uc) ps) := ⟨Ha.out.1.toLtN, Ha.out.2⟩
        go_wp2_with fail
        go_meet
        exact ⟨ps, ua, uc, rfl, HSS, HQ2, Below.refl _ _⟩
  case rest =>
  obtain ⟨qs, oa2, oc2, rfl, hss, HQS, hbx⟩ := hcut
  rename World => w2
  have HQ1 : Hid (∀ q ∈ qs, q.length ≤ 1000) := fun q hq => by have := HQS.out q hq; omega
  have HSS := Hid.mk' hss.out
  have HB2 := Hid.mk' (bt HB1.out hbx.out)
  clear Ha HPT HPM HPN hpsl HS0 hss hbx HQS huc
  have HNW := Hid.mk' (new_any w2)
  go_wp2_with fail
  refine HNW.out.mono ?_
  rintro e wy ⟨rfl, rfl⟩
  clear HNW
  obtain ⟨W, hW⟩ : ∃ W, W = (w2.alloc (.cells #[.map none] 65)).alloc (.cells #[.pointer (some ⟨w2.heap.size, 0, none⟩), .string ⟨#[99, 47]⟩] 29) := ⟨_, rfl⟩
  have hS : Sh w2.heap.size w2.heap.size (w2.heap.size + 1) [99, 47] w2 W [] := by rw [hW]; exact sh_new w2 [99, 47]
  have HSW : Hid (W.heap.size = w2.heap.size + 1 + 1) := by rw [hW]; simp [Hid]
  have HS0 := Hid.mk' hS
  have HSP0 : Hid (Ss (fun k => k ≠ w2.heap.size) W (.slice oa2 qs.length oc2) qs) := ⟨(HSS.out.1.up hS.bl).monoS fun k hk => Nat.ne_of_lt hk, HSS.out.2⟩
  have HRW0 : Hid (RbR (fun k => k ≠ w2.heap.size) W (.slice none 0 0) (wks l 0)) := ⟨[], rfl, Row.voidN fun _ => rfl, fun p hp => (by cases hp), by unfold lim wks; simp⟩
  have HBA0 : Hid (Bar [] [99, 47] (wks l 0)) := Bar.nil _
  have HLN0 : Hid (([] : List Th).length ≤ 0) := Nat.le_refl _
  have HWZ0 : Hid (W.heap.size ≤ W.heap.size) := Nat.le_refl _
  clear hS HSS
  go_upto_region 12 with fail
  rw [← hW]
  clear hW
  go_wp2_with fail
  go_loopw [10, 11] (fun y i wr => ∃ (k m : Nat) (oa : Option Addr) (oc : Nat) (ls : List Th), k ≤ l.length ∧ k ≤ 25 ∧ i = .int .i64 k ∧ y = .slice oa m oc ∧ Hid (m = (wks l k).length) ∧ Hid (RbR (fun k => k ≠ w2.heap.size) wr (.slice oa m oc) (wks l k)) ∧ Hid (Sh w2.heap.size w2.heap.size (w2.heap.size + 1) [99, 47] w2 wr ls) ∧ Hid (Bar ls [99, 47] (wks l k)) ∧ Hid (ls.length ≤ k) ∧ Hid (Ss (fun k => k ≠ w2.heap.size) wr (.slice oa2 qs.length oc2) qs) ∧ Hid (W.heap.size ≤ wr.heap.size)) (fun _ i _ => 25 - (intOf i).toNat)
  case atStart => exact ⟨0, 0, none, 0, [], by omega, by omega, rfl, rfl, rfl, HRW0, HS0, HBA0, HLN0, HSP0, HWZ0⟩
  case round =>
    clear HS0 HSP0 HRW0 HBA0 HLN0 HWZ0
    obtain ⟨k, m, oa, oc, ls, hk, hk25, rfl, rfl, HM, HRW, HS, HBA, HLN, HSP, HWZ⟩ := hrel
    rename World => wk
    have HBK : Hid (Below w.heap.size w wk) := bt HB2.out HS.out.bl
    by_cases hlt : k < l.length ∧ k < 25
    case neg =>
      by_cases h1 : k < l.length
      · have h1' : (k : Int) < (l.length : Int) := by omega
        have h2' : ¬ ((k : Int) < 25) := by omega
        clear hlt
        go_wp2_with fail
        go_ret
        exact ⟨rfl, HBK.out⟩
      · have h1' : ¬ ((k : Int) < (l.length : Int)) := by omega
        clear hlt
        go_wp2_with fail
        go_ret
        exact ⟨rfl, HBK.out⟩
    obtain ⟨hlt, hlt25⟩ := hlt
    have hlt' : (k : Int) < (l.length : Int) := by omega
    have hlt2' : (k : Int) < 25 := by omega
    obtain ⟨b1, o1, u1, rfl, _, ⟨e0, e1, e2, e3⟩, hu1⟩ := HAT.out k hlt
    have e0 := cell_later HBK.out e0
    have e1 := cell_later HBK.out e1
    have e2 := cell_later HBK.out e2
    have e3 := cell_later HBK.out e3
    have hbd := HBD.out l[k] (List.getElem_mem hlt)
    have HKS : Hid (wks l (k + 1) = (rEnter (wks l k) (cutB l[k])).1) := wks_succ hlt
    have HWL : Hid ((wks l k).length ≤ 25) := Nat.le_trans (wks_len l k hk) hk25
    generalize l[k] = z at *
    obtain ⟨z0, z1, z2, z3⟩ := z
    simp only [cutB] at HKS e0 e1 e2 e3 hbd hu1
    have HZ := Hid.mk' hbd
    obtain ⟨q1, k1, rfl, hqc, _, hqn⟩ := hu1.at
    have hz3 : (z3.length : Int) ≤ 140737488351232 := by have := hu1.2.2; unfold lim at this; omega
    have HU1 := Hid.mk' (hu1.up HBK.out)
    clear hbd hu1
    go_upto_if 65 with fail
    go_cut [] (fun wx => Hid (wx = wk.alloc (.cells #[.int .u64 (z0 : Int), .int .u64 (z1 : Int), .string ⟨z2.toArray⟩, .slice q1 (z3.take 50).length k1] 32)))
    case first =>
      by_cases hb : 50 < z3.length
      · have hb' : (50 : Int) < (z3.length : Int) := by omega
        have HE : Hid ((z3.take 50).length = 50) := by show _ = _; rw [List.length_take]; omega
        obtain ⟨b9, o9, rfl, -⟩ := hqn 0 (by omega)
        have hqc' : (50 : Int) ≤ (k1 : Int) := by omega
        clear hb hqn
        go_wp2_with fail
        go_meet
        show _ = _
        rw [HE.out]
      · have hb' : ¬ (50 : Int) < (z3.length : Int) := by omega
        have HE : Hid (z3.take 50 = z3) := List.take_of_length_le (by omega)
        clear hb hqn
        go_wp2_with fail
        go_meet
        show _ = _
        rw [HE.out]
    case rest =>
    rename World => wy
    obtain rfl := hcut.out
    have HU3 := Hid.mk' (HU1.out.cut 50)
    have HZ3 : Hid ((z3.take 50).length ≤ 50) := by show _ ≤ _; rw [List.length_take]; omega
    clear hcut hqn hz3 hqc e0 e1 e2 e3 HU1
    generalize z3.take 50 = t3 at *
    have hz3 : (t3.length : Int) ≤ 50 := by have := HZ3.out; omega
    have hup := up_alloc wk (.cells #[.int .u64 (z0 : Int), .int .u64 (z1 : Int), .string ⟨z2.toArray⟩, .slice q1 t3.length k1] 32)
    have hx3 := heap_alloc_new wk (.cells #[.int .u64 (z0 : Int), .int .u64 (z1 : Int), .string ⟨z2.toArray⟩, .slice q1 t3.length k1] 32)
    have hg3 : w2.heap.size < wk.heap.size := by have := HWZ.out; have := HSW.out; omega
    have HS3 := Hid.mk' (HS.out.up hup)
    have HRW3 := Hid.mk' (HRW.out.up hup)
    have HSP3 := Hid.mk' (HSP.out.up hup)
    have HUW : Hid (Us (fun k => k ≠ w2.heap.size) (wk.alloc (.cells #[.int .u64 (z0 : Int), .int .u64 (z1 : Int), .string ⟨z2.toArray⟩, .slice q1 t3.length k1] 32)) (.slice q1 t3.length k1) t3) := (HU3.out.up hup).monoS fun k hk => by
      have h1 := HB2.out.size
      unfold Lt at hk; omega
    have HZW : Hid (W.heap.size ≤ (wk.alloc (.cells #[.int .u64 (z0 : Int), .int .u64 (z1 : Int), .string ⟨z2.toArray⟩, .slice q1 t3.length k1] 32)).heap.size) := Nat.le_trans HWZ.out hup.size
    obtain ⟨W3, hW3⟩ : ∃ W3, W3 = wk.alloc (.cells #[.int .u64 (z0 : Int), .int .u64 (z1 : Int), .string ⟨z2.toArray⟩, .slice q1 t3.length k1] 32) := ⟨_, rfl⟩
    obtain ⟨g3, hg3e⟩ : ∃ n, n = wk.heap.size := ⟨_, rfl⟩
    rw [← hW3] at hx3 HS3 HRW3 HSP3 HUW HZW ⊢
    rw [← hg3e] at hx3 hg3 ⊢
    clear hW3 hg3e hup HU3
    have HG3 : Hid (w2.heap.size < g3) := hg3
    have HX3 := Hid.mk' hx3
    have HUA := Hid.mk' (up_alloc W3 (.cells #[] 23))
    have HOE : Hid (Un W3.heap.size (W3.alloc (.cells #[] 23)) (.slice (some ⟨W3.heap.size, 0, none⟩) 0 0) []) := own_empty (Nat.le_refl _)
    have HVA := Hid.mk' (HUW.out.up HUA.out)
    obtain ⟨x0, x1, x2, x3⟩ := bx4 hx3
    have xA3 := cell_later HUA.out x3
    clear hx3 hg3
    go_wp2_with (at_builtin; go_must (refine wpl_app rfl (.tmp 70) (.tmp 72) 30 rfl Tryz.underlying30 Tryz.info23 rfl (by decide) rfl HOE.out rfl HVA.out.1 (by intro u hu; obtain ⟨x, _, rfl⟩ := List.mem_map.1 hu; rfl) (by have := HZ3.out; simp; unfold maxLen; omega) (by have := HZ3.out; simp; omega) HUA.out.size ?_); intro v6 w6 ho hg hn2 hbb; have HB6 : Hid (Below W3.heap.size W3 w6) := below_app HUA.out HOE.out hg (Nat.le_refl _) HUA.out.size; have HO6 : Hid (Un W3.heap.size w6 v6 t3) := unb_app0 ho; obtain ⟨a6, c6, e6⟩ := own_slice HO6.out; subst e6; have HX6 : Hid (w6.heap[g3]? = some (.cells #[.int .u64 (z0 : Int), .int .u64 (z1 : Int), .string ⟨z2.toArray⟩, .slice q1 t3.length k1] 32 (0, 0))) := (HB6.out.block _ (Array.getElem?_eq_some_iff.1 HX3.out).1).trans HX3.out; have y0 := cell_later HB6.out x0; have y1 := cell_later HB6.out x1; have y2 := cell_later HB6.out x2; have y3 := cell_later HB6.out x3; clear x0 x1 x2 x3 xA3 ho hg hn2 hbb)
    have HS6 := Hid.mk' (HS3.out.up HB6.out)
    have HRW6 := Hid.mk' (HRW3.out.up HB6.out)
    have HSP6 := Hid.mk' (HSP3.out.up HB6.out)
    have HU6 := Hid.mk' (HUW.out.up HB6.out)
    have HZ6 : Hid (W.heap.size ≤ w6.heap.size) := Nat.le_trans HZW.out HB6.out.size
    have HRE : Hid (Calls Tryz.prog 8 #[.slice oa m oc, .agg #[.int .u64 (z0 : Int), .int .u64 (z1 : Int), .string ⟨z2.toArray⟩, .slice q1 t3.length k1]] w6 (REnP (fun k => k ≠ w2.heap.size) w6 (rEnter (wks l k) (z0, z1, z2, t3)))) := renter_any (z0, z1, z2, t3) HRW6.out (by have := HWL.out; omega) HU6.out HZ.out.2.2
    have HNB := Hid.mk' HU6.out.2.1
    refine HRE.out.mono ?_
    rintro e w7 ⟨v7, rfl, hr7, hb7⟩
    rw [← HKS.out] at hr7
    have HR7 : Hid (RbR (fun k => k ≠ w2.heap.size) w7 v7 (wks l (k + 1))) := hr7.monoS fun i hi => hi.elim (fun h => h) fun h => by have := HZ6.out; have := HSW.out; omega
    obtain ⟨a7, c7, ev7, _⟩ := hr7.at
    subst ev7
    have HS7 := Hid.mk' (HS6.out.up hb7)
    have HSP7 := Hid.mk' (HSP6.out.up hb7)
    have HO7 := Hid.mk' (Un.up HO6.out hb7)
    have HX7 : Hid (w7.heap[g3]? = some (.cells #[.int .u64 (z0 : Int), .int .u64 (z1 : Int), .string ⟨z2.toArray⟩, .slice q1 t3.length k1] 32 (0, 0))) := (hb7.block _ (Array.getElem?_eq_some_iff.1 HX6.out).1).trans HX6.out
    have HU7 := Hid.mk' (HU6.out.up hb7)
    have HZ7 : Hid (W.heap.size ≤ w7.heap.size) := Nat.le_trans HZ6.out hb7.size
    have HEN : Hid (Calls Tryz.prog 9 #[.agg #[.pointer (some ⟨w2.heap.size, 0, none⟩), .string ⟨#[99, 47]⟩], .int .u64 (z0 : Int), .agg #[.int .u64 (z1 : Int), .string ⟨z2.toArray⟩, .slice a6 t3.length c6]] w7 (EnterP w2.heap.size w2.heap.size (w2.heap.size + 1) [99, 47] w2 w7 (wks l (k + 1)) (k + 1) (rEnter (wks l k) (z0, z1, z2, t3)).2)) := by
      rw [HKS.out]
      exact HS7.out.enterB HBA.out (by simp) HLN.out (by omega) (by have := HWL.out; omega) (z0, z1, z2, t3) HZ.out.1 HZ.out.2.1 (by have := HZ3.out; show t3.length ≤ 1000; omega) (HO7.out.us HNB.out (by have := HZ3.out; unfold lim; omega))
    obtain ⟨cd, hcd⟩ : ∃ c, c = (rEnter (wks l k) (z0, z1, z2, t3)).2 := ⟨_, rfl⟩
    rw [← hcd] at HEN ⊢
    obtain ⟨c0, c1⟩ := HS7.out.cells
    have c1 : w7.cell? ⟨w2.heap.size + 1, 1, none⟩ = some (.string ⟨#[99, 47]⟩) := c1
    clear hr7 hb7 hcd HRE y0 y1 y2 y3 HKS
    obtain ⟨y0, y1, y2, y3⟩ := bx4 HX7.out
    go_wp2_with fail
    refine HEN.out.mono ?_
    rintro e w8 ⟨rfl, hb8, hc8, l8, hs8, hba8, hln8⟩
    have HS8 := Hid.mk' hs8
    have HBA8 := Hid.mk' hba8
    have HLN8 : Hid (l8.length ≤ k + 1) := hln8
    have HX8 : Hid (w8.heap[g3]? = some (.cells #[.int .u64 (z0 : Int), .int .u64 (z1 : Int), .string ⟨z2.toArray⟩, .slice q1 t3.length k1] 32 (0, 0))) := hc8 _ _ _ _ (by have := HG3.out; omega) HX7.out
    have HR8 := Hid.mk' (HR7.out.butNe hc8)
    have HSP8 := Hid.mk' (HSP7.out.butNe hc8)
    have HZ8 : Hid (W.heap.size ≤ w8.heap.size) := Nat.le_trans HZ7.out hb8.size
    have HLK := Hid.mk' (hs8.lookB hba8 (by simp) (by omega) z0 z2 HZ.out.1)
    have HWL8 : Hid ((wks l (k + 1)).length ≤ 26) := Nat.le_trans (wks_len l (k + 1) hlt) (by omega)
    clear hb8 hc8 hs8 hba8 hln8 HEN y0 y1 y2 y3 c0 c1
    obtain ⟨c0, c1⟩ := HS8.out.cells
    have c1 : w8.cell? ⟨w2.heap.size + 1, 1, none⟩ = some (.string ⟨#[99, 47]⟩) := c1
    obtain ⟨y0, y1, y2, y3⟩ := bx4 HX8.out
    go_wp2_with fail
    refine HLK.out.mono ?_
    rintro e w9 ⟨v9, rfl, ho9, hb9⟩
    have HBW9 := Hid.mk' hb9
    obtain ⟨r, hr⟩ : ∃ r, r = look z2 (cats z0 (wks l (k + 1))) := ⟨_, rfl⟩
    rw [← hr] at ho9 ⊢
    have HRK := Hid.mk' hr
    clear hr HLK c0 c1
    obtain ⟨x, hx⟩ : ∃ x, x = r.getD zBr := ⟨_, rfl⟩
    obtain ⟨ec, hec⟩ : ∃ c : Int, c = (if r.isSome then 0 else 6) := ⟨_, rfl⟩
    rw [← hx] at ho9 ⊢
    rw [← hec]
    have HXE := Hid.mk' hx
    have HEC := Hid.mk' hec
    clear hx hec
    obtain ⟨xi, xn, xa⟩ := x
    simp only at ho9 ⊢
    have HXB : Hid ((∀ n ∈ xa, n < 18446744073709551616) ∧ xa.length * 8 ≤ lim) := by
      cases hr : r with
      | none => have := HXE.out; rw [hr] at this; cases this; exact ⟨by simp, by unfold lim; simp⟩
      | some q =>
        have h1 := HXE.out
        have h2 := HRK.out
        rw [hr] at h1 h2
        have hq : q = (xi, xn, xa) := h1.symm
        subst hq
        have hm := List.mem_of_find?_eq_some (show (cats z0 (wks l (k + 1))).find? (fun x => x.2.1 == z2) = some (xi, xn, xa) from h2.symm)
        have hb := HBA8.out.bnd _ (mem_cats.1 hm)
        exact ⟨hb.2.2.2.2, by have := hb.2.2.2.1; simp only at this; unfold lim; omega⟩
    obtain ⟨a9, c9, e9⟩ := own_slice ho9
    subst e9
    have hup := up_alloc w9 (.cells #[.int .u64 (xi : Int), .string ⟨xn.toArray⟩, .slice a9 xa.length c9] 38)
    have hxx := heap_alloc_new w9 (.cells #[.int .u64 (xi : Int), .string ⟨xn.toArray⟩, .slice a9 xa.length c9] 38)
    have HUX := Hid.mk' (bt hb9 hup)
    have HOX := Hid.mk' ((Un.up ho9 hup).usB HXB.out.1 HXB.out.2)
    obtain ⟨WX, hWX⟩ : ∃ WX, WX = w9.alloc (.cells #[.int .u64 (xi : Int), .string ⟨xn.toArray⟩, .slice a9 xa.length c9] 38) := ⟨_, rfl⟩
    rw [← hWX] at hxx HUX HOX
    go_upto_region 25 with fail
    rw [← hWX]
    clear hWX hup hb9 ho9 HBW9
    generalize w9.heap.size = gx at *
    have HXX := Hid.mk' hxx
    have HSX := Hid.mk' (HS8.out.up HUX.out)
    have HRX := Hid.mk' (HR8.out.up HUX.out)
    have HPX := Hid.mk' (HSP8.out.up HUX.out)
    have HYX : Hid (WX.heap[g3]? = some (.cells #[.int .u64 (z0 : Int), .int .u64 (z1 : Int), .string ⟨z2.toArray⟩, .slice q1 t3.length k1] 32 (0, 0))) := (HUX.out.block _ (Array.getElem?_eq_some_iff.1 HX8.out).1).trans HX8.out
    have HZX : Hid (W.heap.size ≤ WX.heap.size) := Nat.le_trans HZ8.out HUX.out.size
    obtain ⟨_, _, er, _, har⟩ := HRX.out.at
    obtain ⟨rfl, _, rfl⟩ := Value.slice.inj er
    have HAR := Hid.mk' har
    have hwl : ((wks l (k + 1)).length : Int) ≤ 26 := by have := HWL8.out; omega
    have HF0 : Hid (false = hasN z0 z2 ((wks l (k + 1)).take 0)) := rfl
    have HBX0 : Hid (Below WX.heap.size WX WX) := Below.refl _ _
    clear hxx har er y0 y1 y2 y3 HO7 HO6
    go_wp2_with fail
    go_loopw [18, 104] (fun f i wr => ∃ (j : Nat) (fb : Bool), j ≤ (wks l (k + 1)).length ∧ i = .int .i64 j ∧ f = .bool fb ∧ Hid (fb = hasN z0 z2 ((wks l (k + 1)).take j)) ∧ Hid (Below WX.heap.size WX wr)) (fun _ i _ => (wks l (k + 1)).length - (intOf i).toNat)
    case atStart => exact ⟨0, false, by omega, rfl, rfl, HF0, HBX0⟩
    case round =>
      clear HF0 HBX0
      obtain ⟨j, fb, hj, rfl, rfl, HF, HBJ⟩ := hrel
      rename World => wj
      by_cases hjt : j < (wks l (k + 1)).length
      case neg =>
        obtain rfl : j = (wks l (k + 1)).length := by omega
        have HFB : Hid (fb = hasN z0 z2 (wks l (k + 1))) := by have := HF.out; rwa [List.take_length] at this
        have HSJ := Hid.mk' (HSX.out.up HBJ.out)
        have HRJ := Hid.mk' (HRX.out.up HBJ.out)
        have HPJ := Hid.mk' (HPX.out.up HBJ.out)
        have HYJ : Hid (wj.heap[g3]? = some (.cells #[.int .u64 (z0 : Int), .int .u64 (z1 : Int), .string ⟨z2.toArray⟩, .slice q1 t3.length k1] 32 (0, 0))) := (HBJ.out.block _ (Array.getElem?_eq_some_iff.1 HYX.out).1).trans HYX.out
        have HXJ : Hid (wj.heap[gx]? = some (.cells #[.int .u64 (xi : Int), .string ⟨xn.toArray⟩, .slice a9 xa.length c9] 38 (0, 0))) := (HBJ.out.block _ (Array.getElem?_eq_some_iff.1 HXX.out).1).trans HXX.out
        have HZJ : Hid (W.heap.size ≤ wj.heap.size) := Nat.le_trans HZX.out HBJ.out.size
        have HNM : Hid (∀ y ∈ wks l (k + 1), y.2.2.1.length ≤ 1000) := fun y hy => by have := (HBA8.out.bnd y hy).2.2.1; omega
        have HW26 : Hid ((wks l (k + 1)).length ≤ 1000) := by have := HWL8.out; show _ ≤ _; omega
        have HEX : Hid (fb = false → ec = 6 ∧ xi = 0) := fun h => by
          have h1 := HRK.out
          rw [look_miss (show ((wks l (k + 1)).any fun y => y.1 == z0 && y.2.2.1 == z2) = false from HFB.out.symm.trans h)] at h1
          have h2 := HEC.out
          have h3 := HXE.out
          rw [h1] at h2 h3
          exact ⟨h2, (Prod.mk.inj h3).1⟩
        obtain ⟨c0, c1⟩ := HSJ.out.cells
        have c1 : wj.cell? ⟨w2.heap.size + 1, 1, none⟩ = some (.string ⟨#[99, 47]⟩) := c1
        obtain ⟨p0, -, -, -⟩ := bx4 HYJ.out
        obtain ⟨s0, -, -⟩ := bx3 HXJ.out
        have r0 : ∀ q : Kp (fun _ => False) wj, q.nx.cell? ⟨w2.heap.size + 1, 0, none⟩ = some _ := fun q => q.cell c0 (fun h => h)
        have r1 : ∀ q : Kp (fun _ => False) wj, q.nx.cell? ⟨w2.heap.size + 1, 1, none⟩ = some _ := fun q => q.cell c1 (fun h => h)
        have r2 : ∀ q : Kp (fun _ => False) wj, q.nx.cell? ⟨g3, 0, none⟩ = some _ := fun q => q.cell p0 (fun h => h)
        have hd := drew_blx wj wj.heap.size
        clear hjt hj HF
        rcases Bool.eq_false_or_eq_true fb with hfb | hfb
        obtain rfl := hfb
        rotate_left
        obtain ⟨rfl, hxi⟩ := HEX.out hfb
        obtain rfl := hfb
        replace s0 : wj.cell? ⟨gx, 0, none⟩ = some (.int .u64 0) := by rw [s0, hxi]; rfl
        clear hxi
        rotate_left
        all_goals
          go_upto_region 36 with fail
          refine wp_region_mox 22 (fun w' => ∃ q : Kp (fun _ => False) wj, w' = q.nx) (by kernel_rfl) (by kernel_rfl) (kp_first _ wj) ?_
          simp only [List.take_succ_cons, List.take_zero, List.drop_succ_cons, List.drop_zero]
          refine mx_take 3 rfl ?_
          simp only [List.take_succ_cons, List.take_zero, List.drop_succ_cons, List.drop_zero]
          repeat (go_big_quiet_step (fail))
          refine wpQuiet_nil ?_
          refine mx_call (vals := [.agg #[.pointer (some ⟨w2.heap.size, 0, none⟩), .string ⟨#[99, 47]⟩], .int .u64 (inc : Int), .slice oa2 qs.length oc2]) Tryz.func13 (by kernel_rfl) rfl rfl (by kernel_rfl) (by kernel_rfl) ((HSJ.out.up hd).barsB HBA8.out (by simp) (by have := HLN8.out; omega) inc HINC.out (HPJ.out.up hd) HQ1.out) (fun e wa hwa => ?_)
          obtain ⟨va, rfl, hva, hba⟩ := hwa
          have HBA := Hid.mk' (hd.trans hba)
          have HVA := Hid.mk' (hva.rd (sub_bnd HBA8.out HINC.out qs))
          obtain ⟨xa1, xa2, eva, _⟩ := hva.at
          subst eva
          have hba' := HBA.out
          refine ⟨_, rfl, kp_mk HBA.out.size fun k hk _ => HBA.out.block k hk, ?_⟩
          simp only [Act.put, List.setIfInBounds_toArray, List.set_cons_succ, List.set_cons_zero]
          refine mx_take 3 rfl ?_
          simp only [List.take_succ_cons, List.take_zero, List.drop_succ_cons, List.drop_zero]
          repeat (go_big_quiet_step (fail))
          refine wpQuiet_nil ?_
          refine mx_call (vals := [.slice a7 (wks l (k + 1)).length c7, .int .u64 (inc : Int), .slice oa2 qs.length oc2]) Tryz.func14 (by kernel_rfl) rfl rfl (by kernel_rfl) (by kernel_rfl) (rsome_any inc (HRJ.out.up HBA.out) HW26.out HNM.out (HPJ.out.up HBA.out) HQ1.out) (fun e wb hwb => ?_)
          obtain ⟨vb, rfl, hvb, hbb⟩ := hwb
          have HBB := Hid.mk' (bt HBA.out hbb)
          have HVB := Hid.mk' hvb
          have HVA2 := Hid.mk' (HVA.out.up hbb)
          obtain ⟨xb1, xb2, evb, _⟩ := hvb.at
          subst evb
          refine ⟨_, rfl, kp_mk HBB.out.size fun k hk _ => HBB.out.block k hk, ?_⟩
          simp only [Act.put, List.setIfInBounds_toArray, List.set_cons_succ, List.set_cons_zero]
          refine mx_call (vals := [.slice xa1 (some' qs (cats inc (wks l (k + 1)))).length xa2, .slice xb1 (rSome inc qs (wks l (k + 1))).length xb2]) Tryz.func12 (by kernel_rfl) rfl rfl (by kernel_rfl) (by kernel_rfl) (same_bars HVA2.out HVB.out HW26.out) (fun e wc hwc => ?_)
          obtain ⟨rfl, hbc⟩ := hwc
          have HBC := Hid.mk' (bt HBB.out hbc)
          refine ⟨_, rfl, kp_mk HBC.out.size fun k hk _ => HBC.out.block k hk, ?_⟩
          simp only [Act.put, List.setIfInBounds_toArray, List.set_cons_succ, List.set_cons_zero]
          refine mx_take 5 rfl ?_
          simp only [List.take_succ_cons, List.take_zero, List.drop_succ_cons, List.drop_zero]
          repeat (go_big_quiet_step (fail))
          refine wpQuiet_nil ?_
          refine mx_call (vals := [.agg #[.pointer (some ⟨w2.heap.size, 0, none⟩), .string ⟨#[99, 47]⟩], .int .u64 (z0 : Int), .slice none 0 0]) Tryz.func13 (by kernel_rfl) rfl rfl (by kernel_rfl) (by kernel_rfl) ((HSJ.out.up HBC.out).barsB HBA8.out (by simp) (by have := HLN8.out; omega) z0 HZ.out.1 (ss_none _) (by simp)) (fun e wd hwd => ?_)
          obtain ⟨vd, rfl, hvd, hbd⟩ := hwd
          have HBD := Hid.mk' (bt HBC.out hbd)
          have HVD := Hid.mk' (hvd.rd (sub_bnd HBA8.out HZ.out.1 []))
          obtain ⟨xd1, xd2, evd, _⟩ := hvd.at
          subst evd
          refine ⟨_, rfl, kp_mk HBD.out.size fun k hk _ => HBD.out.block k hk, ?_⟩
          simp only [Act.put, List.setIfInBounds_toArray, List.set_cons_succ, List.set_cons_zero]
          refine mx_take 3 rfl ?_
          simp only [List.take_succ_cons, List.take_zero, List.drop_succ_cons, List.drop_zero]
          repeat (go_big_quiet_step (fail))
          refine wpQuiet_nil ?_
          refine mx_call (vals := [.slice a7 (wks l (k + 1)).length c7, .int .u64 (z0 : Int), .slice none 0 0]) Tryz.func14 (by kernel_rfl) rfl rfl (by kernel_rfl) (by kernel_rfl) (rsome_any z0 (HRJ.out.up HBD.out) HW26.out HNM.out (ss_none _) (by simp)) (fun e we hwe => ?_)
          obtain ⟨ve, rfl, hve, hbe⟩ := hwe
          have HBE := Hid.mk' (bt HBD.out hbe)
          have HVE := Hid.mk' hve
          have HVD2 := Hid.mk' (HVD.out.up hbe)
          obtain ⟨xe1, xe2, eve, _⟩ := hve.at
          subst eve
          refine ⟨_, rfl, kp_mk HBE.out.size fun k hk _ => HBE.out.block k hk, ?_⟩
          simp only [Act.put, List.setIfInBounds_toArray, List.set_cons_succ, List.set_cons_zero]
          refine mx_call (vals := [.slice xd1 (some' [] (cats z0 (wks l (k + 1)))).length xd2, .slice xe1 (rSome z0 [] (wks l (k + 1))).length xe2]) Tryz.func12 (by kernel_rfl) rfl rfl (by kernel_rfl) (by kernel_rfl) (same_bars HVD2.out HVE.out HW26.out) (fun e wf hwf => ?_)
          obtain ⟨rfl, hbf⟩ := hwf
          have HBF := Hid.mk' (bt HBE.out hbf)
          refine ⟨_, rfl, kp_mk HBF.out.size fun k hk _ => HBF.out.block k hk, ?_⟩
          simp only [Act.put, List.setIfInBounds_toArray, List.set_cons_succ, List.set_cons_zero]
          refine mx_take 2 rfl ?_
          simp only [List.take_succ_cons, List.take_zero, List.drop_succ_cons, List.drop_zero]
          repeat (go_big_quiet_step (fail))
          refine wpQuiet_nil ?_
          simp only [wpMix]
          have HSF := Hid.mk' (HSJ.out.up HBF.out)
          have HRF := Hid.mk' (HRJ.out.up HBF.out)
          have HPF := Hid.mk' (HPJ.out.up HBF.out)
          have HZF : Hid (W.heap.size ≤ wf.heap.size) := Nat.le_trans HZJ.out HBF.out.size
          clear r0 r1 r2 hd c0 c1 p0 s0
          go_wp2_with fail
          go_roundw
          case rel => exact ⟨k + 1, (wks l (k + 1)).length, a7, c7, l8, by omega, by omega, by go_num, rfl, rfl, HRF, HSF, HBA8, HLN8, HPF, HZF⟩
          case measure => simp [intOf]; omega
      have hjt' : (j : Int) < ((wks l (k + 1)).length : Int) := by omega
      obtain ⟨b3, o3, u3, rfl, _, ⟨e0, e1, e2, e3⟩, hu3⟩ := HAR.out j hjt
      have e0 := cell_later HBJ.out e0
      have e1 := cell_later HBJ.out e1
      have e2 := cell_later HBJ.out e2
      have e3 := cell_later HBJ.out e3
      have hu3 := hu3.up HBJ.out
      have HYM : Hid ((wks l (k + 1))[j] ∈ wks l (k + 1)) := List.getElem_mem hjt
      have HTK : Hid ((wks l (k + 1)).take (j + 1) = (wks l (k + 1)).take j ++ [(wks l (k + 1))[j]]) := List.take_succ_eq_append_getElem hjt
      generalize (wks l (k + 1))[j] = y at *
      obtain ⟨y0, y1, y2, y3⟩ := y
      simp only at e0 e1 e2 e3 hu3
      obtain ⟨q3, k3, rfl, _⟩ := hu3.at
      have hup := up_alloc wj (.cells #[.int .u64 (y0 : Int), .int .u64 (y1 : Int), .string ⟨y2.toArray⟩, .slice q3 y3.length k3] 32)
      obtain ⟨n0, n1, n2, n3⟩ := bx4 (heap_alloc_new wj (.cells #[.int .u64 (y0 : Int), .int .u64 (y1 : Int), .string ⟨y2.toArray⟩, .slice q3 y3.length k3] 32))
      have hbA := bt HBJ.out hup
      have hyA : (wj.alloc (.cells #[.int .u64 (y0 : Int), .int .u64 (y1 : Int), .string ⟨y2.toArray⟩, .slice q3 y3.length k3] 32)).heap[g3]? = some (.cells #[.int .u64 (z0 : Int), .int .u64 (z1 : Int), .string ⟨z2.toArray⟩, .slice q1 t3.length k1] 32 (0, 0)) := (hbA.block _ (Array.getElem?_eq_some_iff.1 HYX.out).1).trans HYX.out
      have hxA : (wj.alloc (.cells #[.int .u64 (y0 : Int), .int .u64 (y1 : Int), .string ⟨y2.toArray⟩, .slice q3 y3.length k3] 32)).heap[gx]? = some (.cells #[.int .u64 (xi : Int), .string ⟨xn.toArray⟩, .slice a9 xa.length c9] 38 (0, 0)) := (hbA.block _ (Array.getElem?_eq_some_iff.1 HXX.out).1).trans HXX.out
      obtain ⟨p0, p1, p2, p3⟩ := bx4 hyA
      obtain ⟨s0, s1, s2⟩ := bx3 hxA
      have HU3A := Hid.mk' (hu3.up hup)
      have HOXA := Hid.mk' (HOX.out.up hbA)
      have HBA := Hid.mk' hbA
      have HFS : Hid (hasN z0 z2 ((wks l (k + 1)).take (j + 1)) = (fb || (y0 == z0 && y2 == z2))) := by show _ = _; rw [HTK.out, hasN_snoc, ← HF.out]
      clear hup hyA hxA hu3 hbA
      by_cases h0 : y0 = z0
      case neg =>
        have c0 : ((y0 : Int) == (z0 : Int)) = false := by rw [beq_eq_false_iff_ne]; omega
        have HF2 : Hid (fb = hasN z0 z2 ((wks l (k + 1)).take (j + 1))) := by show _ = _; rw [HFS.out, show (y0 == z0) = false by rw [beq_eq_false_iff_ne]; exact h0]; simp
        clear h0 HF HFS
        go_wp2_with fail
        go_roundw
        case rel => exact ⟨j + 1, fb, by omega, by go_num, rfl, HF2, HBA⟩
        case measure => simp [intOf]; omega
      have c0 : ((y0 : Int) == (z0 : Int)) = true := by rw [beq_iff_eq]; omega
      by_cases h2 : y2 = z2
      case neg =>
        have c2 : (y2 == z2) = false := by rw [beq_eq_false_iff_ne]; exact h2
        have HF2 : Hid (fb = hasN z0 z2 ((wks l (k + 1)).take (j + 1))) := by show _ = _; rw [HFS.out, c2]; simp
        clear h0 h2 HF HFS
        go_wp2_with fail
        go_roundw
        case rel => exact ⟨j + 1, fb, by omega, by go_num, rfl, HF2, HBA⟩
        case measure => simp [intOf]; omega
      have c2 : (y2 == z2) = true := by rw [beq_iff_eq]; exact h2
      have HF2 : Hid (true = hasN z0 z2 ((wks l (k + 1)).take (j + 1))) := by show _ = _; rw [HFS.out, c2, show (y0 == z0) = true by rw [beq_iff_eq]; exact h0]; simp
      have hrk := HRK.out
      rw [look_hit HBA8.out.uniq HYM.out h0 h2] at hrk
      have hec := HEC.out
      have hxe := HXE.out
      rw [hrk] at hec hxe
      have hq : (xi, xn, xa) = (y1, y2, y3) := hxe
      obtain ⟨rfl, rfl, rfl⟩ : xi = y1 ∧ xn = y2 ∧ xa = y3 := by simpa using hq
      obtain rfl : ec = 0 := hec
      have HSM : Hid (Calls Tryz.prog 11 #[.agg #[.int .u64 (y0 : Int), .int .u64 (xi : Int), .string ⟨xn.toArray⟩, .slice q3 xa.length k3], .agg #[.int .u64 (z0 : Int), .int .u64 (xi : Int), .string ⟨xn.toArray⟩, .slice a9 xa.length c9]] (wj.alloc (.cells #[.int .u64 (y0 : Int), .int .u64 (xi : Int), .string ⟨xn.toArray⟩, .slice q3 xa.length k3] 32)) fun e w' => e = .returned (.bool true) ∧ Below (wj.alloc (.cells #[.int .u64 (y0 : Int), .int .u64 (xi : Int), .string ⟨xn.toArray⟩, .slice q3 xa.length k3] 32)).heap.size (wj.alloc (.cells #[.int .u64 (y0 : Int), .int .u64 (xi : Int), .string ⟨xn.toArray⟩, .slice q3 xa.length k3] 32)) w') := by
        have h := rsame_any (y0, xi, xn, xa) (z0, xi, xn, xa) HU3A.out HOXA.out
        rw [decide_eq_true (by rw [h0])] at h
        exact h
      clear h0 h2 HF HFS hrk hxe hq HTK
      go_wp2_with fail
      refine HSM.out.mono ?_
      rintro e wn ⟨rfl, hbn⟩
      have HBN := Hid.mk' (bt HBA.out hbn)
      clear hbn HSM
      go_wp2_with fail
      go_roundw
      case rel => exact ⟨j + 1, true, by omega, by go_num, rfl, HF2, HBN⟩
      case measure => simp [intOf]; omega
end Go.Proofs.YtojgkjpmphfakaaGreatDoor
