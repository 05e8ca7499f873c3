/- Walks: the reference's Compare, joined. -/
import Derived.Test.YtahmihlpnlfefaaDoorL9
set_option linter.unusedVariables false
set_option linter.unusedSimpArgs false
namespace Go.Proofs.YtahmihlpnlfefaaDoor
open Go.RowKit
open PL
theorem ext_drop (s : List UInt8) (i n : Nat) : (⟨s.toArray⟩ : ByteArray).extract i (i + n) = ⟨((s.drop i).take n).toArray⟩ := by
  rw [ba_ext, ← List.take_drop]
theorem ext_one (s : List UInt8) (i : Nat) (h : i < s.length) : (⟨s.toArray⟩ : ByteArray).extract i (i + 1) = ⟨[s[i]].toArray⟩ := by
  rw [ext_drop, List.drop_eq_getElem_cons h]; rfl
theorem cmp_one (a b : UInt8) : cmp [a] [b] = natC a.toNat b.toNat := by
  simp only [cmp, natC]
theorem pieceC_take (a b : List UInt8) (i j n m : Nat) (hi : i < a.length) (hj : j < b.length) (hn : 1 ≤ n) (hm : 1 ≤ m) : pieceC ((a.drop i).take n) ((b.drop j).take m) = if dgt a[i] && dgt b[j] then numC (numb ((a.drop i).take n)) (numb ((b.drop j).take m)) else cmp [a[i]] [b[j]] := by
  cases n with
  | zero => omega
  | succ n => cases m with
    | zero => omega
    | succ m =>
      rw [List.drop_eq_getElem_cons hi, List.drop_eq_getElem_cons hj, List.take_succ_cons, List.take_succ_cons, cmp_one]
      rfl
set_option maxRecDepth 100000 in
set_option maxHeartbeats 4000000 in
/-- groyneref02.Compare -/
theorem rcomp_any (a b : List UInt8) (ha : a.length ≤ 100000) (hb : b.length ≤ 100000) (w : World) : Calls Tryd.prog 17 #[.string ⟨a.toArray⟩, .string ⟨b.toArray⟩] w fun e w' => e = .returned (.int .i64 (comp a b)) ∧ Below w.heap.size w w' := by
  have la : a.length ≤ lim := by unfold lim; omega
  have lb : b.length ≤ lim := by unfold lim; omega
  have ma : a.length ≤ maxLen := by unfold maxLen; omega
  have mb : b.length ≤ maxLen := by unfold maxLen; omega
  have LA := Hid.mk' la
  have LB := Hid.mk' lb
  have MA := Hid.mk' ma
  have MB := Hid.mk' mb
  clear la lb ma mb
  go_enter Tryd.func17, Tryd.ntmps17
  go_wp2
  go_loopw [5, 6] (fun u v wr => ∃ i j : Nat, i ≤ a.length ∧ j ≤ b.length ∧ u = .int .i64 i ∧ v = .int .i64 j ∧ Hid (Below w.heap.size w wr) ∧ Hid (core a b = core (a.drop i) (b.drop j))) (fun u v _ => a.length - (intOf u).toNat)
  case atStart => exact ⟨0, 0, by omega, by omega, rfl, rfl, Hid.mk' (Below.refl _ _), Hid.mk' rfl⟩
  case round =>
    obtain ⟨i, j, hi, hj, rfl, rfl, HB, HC⟩ := hrel
    by_cases h1 : i < a.length
    · have h1' : (i : Int) < (a.length : Int) := by omega
      by_cases h2 : j < b.length
      · have h2' : (j : Int) < (b.length : Int) := by omega
        have hs := core_step (a.drop i) (b.drop j) (by intro e; have := congrArg List.length e; simp at this; omega) (by intro e; have := congrArg List.length e; simp at this; omega)
        have hn1 := pcN_pos (a.drop i)
        have hm1 := pcN_pos (b.drop j)
        have hn2 := pcN_le (a.drop i) (by intro e; have := congrArg List.length e; simp at this; omega)
        have hm2 := pcN_le (b.drop j) (by intro e; have := congrArg List.length e; simp at this; omega)
        rw [pieceC_take a b i j _ _ h1 h2 hn1 hm1, List.drop_drop, List.drop_drop] at hs
        have en := ext_drop a i (pcN (a.drop i))
        have em := ext_drop b j (pcN (b.drop j))
        have HRA := Hid.mk' (run_any a i h1 MA.out)
        have HRB := Hid.mk' (run_any b j h2 MB.out)
        rw [List.length_drop] at hn2 hm2
        have hxl : ((a.drop i).take (pcN (a.drop i))).length ≤ 100000 := by simp; omega
        have hyl : ((b.drop j).take (pcN (b.drop j))).length ≤ 100000 := by simp; omega
        generalize (a.drop i).take (pcN (a.drop i)) = x at *
        generalize (b.drop j).take (pcN (b.drop j)) = y at *
        obtain ⟨p, hp⟩ : ∃ p, p = i + pcN (a.drop i) := ⟨_, rfl⟩
        obtain ⟨q, hq⟩ : ∃ q, q = j + pcN (b.drop j) := ⟨_, rfl⟩
        rw [← hp] at HRA en hs
        rw [← hq] at HRB em hs
        have hip : i < p := by omega
        have hjq : j < q := by omega
        have hpa : p ≤ a.length := by omega
        have hqb : q ≤ b.length := by omega
        clear hn1 hm1 hn2 hm2 hp hq
        have hpa' : (p : Int) ≤ (a.length : Int) := by omega
        have hqb' : (q : Int) ≤ (b.length : Int) := by omega
        have hip' : (i : Int) ≤ (p : Int) := by omega
        have hjq' : (j : Int) ≤ (q : Int) := by omega
        have hi1' : (i : Int) + 1 ≤ (a.length : Int) := by omega
        have hj1' : (j : Int) + 1 ≤ (b.length : Int) := by omega
        have hi1w : IntKind.i64.wrap ((i : Int) + 1) = (i : Int) + 1 := by rw [IntKind.wrap_i64]; omega
        have hj1w : IntKind.i64.wrap ((j : Int) + 1) = (j : Int) + 1 := by rw [IntKind.wrap_i64]; omega
        have hi1t : ((i : Int) + 1).toNat = i + 1 := by omega
        have hj1t : ((j : Int) + 1).toNat = j + 1 := by omega
        have hi0 : (0 : Int) ≤ (i : Int) := by omega
        have hj0 : (0 : Int) ≤ (j : Int) := by omega
        have hi11 : (i : Int) ≤ (i : Int) + 1 := by omega
        have hj11 : (j : Int) ≤ (j : Int) + 1 := by omega
        have e1 := ext_one a i h1
        have e2 := ext_one b j h2
        have HS := Hid.mk' hs
        clear hs
        go_wp2_with fail
        refine (HRA.out _).mono ?_
        rintro e w' ⟨rfl, rfl⟩
        go_wp2_with fail
        refine (HRB.out _).mono ?_
        rintro e w' ⟨rfl, rfl⟩
        go_wp2_with fail
        go_region_held3 (fun w' => True) (trivial) (first | (go_at_call 38; refine (bytes_any [a[i]] [b[j]] (by simp [lim]) (by simp [lim]) _).mono ?_; rintro e w1 ⟨rfl, hb1⟩; have HB1 := Hid.mk' hb1; clear hb1) | fail)
        have HB2 := Hid.mk' (bd HB.out HB1.out)
        clear HB HB1
        cases d1 : dgt a[i]
        · have HD1 := Hid.mk' d1
          have HT : Hid (core (a.drop i) (b.drop j) = if cmp [a[i]] [b[j]] ≠ 0 then cmp [a[i]] [b[j]] else core (a.drop p) (b.drop q)) := by show _ = _; rw [HS.out, d1]; rfl
          clear HS d1
          generalize cmp [a[i]] [b[j]] = c at *
          by_cases c0 : c = 0
          · subst c0
            have HN : Hid (core a b = core (a.drop p) (b.drop q)) := by show _ = _; rw [HC.out, HT.out]; rfl
            go_wp2_with fail
            refine (rdigit_f a[i] HD1.out _).mono ?_
            rintro e w' ⟨rfl, rfl⟩
            go_wp2_with fail
            go_roundw
            case rel => exact ⟨p, q, hpa, hqb, rfl, rfl, HB2, HN⟩
            case measure => simp [intOf]; omega
          · have HR : Hid (comp a b = c) := by show _ = _; unfold comp both; rw [HC.out, HT.out, if_pos c0, if_pos c0]
            have c0' : (c == 0) = false := by simpa using c0
            go_wp2_with fail
            refine (rdigit_f a[i] HD1.out _).mono ?_
            rintro e w' ⟨rfl, rfl⟩
            go_wp2_with fail
            go_ret
            exact ⟨ret_n HR.out.symm, HB2.out⟩
        · cases d2 : dgt b[j]
          · have HD1 := Hid.mk' d1
            have HD2 := Hid.mk' d2
            have HT : Hid (core (a.drop i) (b.drop j) = if cmp [a[i]] [b[j]] ≠ 0 then cmp [a[i]] [b[j]] else core (a.drop p) (b.drop q)) := by show _ = _; rw [HS.out, d1, d2]; rfl
            clear HS d1 d2
            generalize cmp [a[i]] [b[j]] = c at *
            by_cases c0 : c = 0
            · subst c0
              have HN : Hid (core a b = core (a.drop p) (b.drop q)) := by show _ = _; rw [HC.out, HT.out]; rfl
              go_wp2_with fail
              refine (rdigit_t a[i] HD1.out _).mono ?_
              rintro e w' ⟨rfl, rfl⟩
              go_wp2_with fail
              refine (rdigit_f b[j] HD2.out _).mono ?_
              rintro e w' ⟨rfl, rfl⟩
              go_wp2_with fail
              go_roundw
              case rel => exact ⟨p, q, hpa, hqb, rfl, rfl, HB2, HN⟩
              case measure => simp [intOf]; omega
            · have HR : Hid (comp a b = c) := by show _ = _; unfold comp both; rw [HC.out, HT.out, if_pos c0, if_pos c0]
              have c0' : (c == 0) = false := by simpa using c0
              go_wp2_with fail
              refine (rdigit_t a[i] HD1.out _).mono ?_
              rintro e w' ⟨rfl, rfl⟩
              go_wp2_with fail
              refine (rdigit_f b[j] HD2.out _).mono ?_
              rintro e w' ⟨rfl, rfl⟩
              go_wp2_with fail
              go_ret
              exact ⟨ret_n HR.out.symm, HB2.out⟩
          · have HD1 := Hid.mk' d1
            have HD2 := Hid.mk' d2
            have HT : Hid (core (a.drop i) (b.drop j) = if numC (numb x) (numb y) ≠ 0 then numC (numb x) (numb y) else core (a.drop p) (b.drop q)) := by show _ = _; rw [HS.out, d1, d2]; rfl
            have hxm : x.length ≤ maxLen := by unfold maxLen; omega
            have hym : y.length ≤ maxLen := by unfold maxLen; omega
            have HXL := Hid.mk' (show (numb x).length ≤ lim from Nat.le_trans (List.dropWhile_suffix _).length_le (by unfold lim; omega))
            have HYL := Hid.mk' (show (numb y).length ≤ lim from Nat.le_trans (List.dropWhile_suffix _).length_le (by unfold lim; omega))
            clear HS d1 d2 hxl hyl
            generalize cmp [a[i]] [b[j]] = c9 at *
            go_wp2_with fail
            refine (rdigit_t a[i] HD1.out _).mono ?_
            rintro e w' ⟨rfl, rfl⟩
            go_wp2_with fail
            refine (rdigit_t b[j] HD2.out _).mono ?_
            rintro e w' ⟨rfl, rfl⟩
            go_wp2_with fail
            go_quiet ((go_at_call 39; exact quiet_flip (number_any _ (by assumption) _)))
            generalize numb x = nx at *
            generalize numb y = ny at *
            go_wp2_with fail
            refine (bytes_any nx ny HXL.out HYL.out _).mono ?_
            rintro e w3 ⟨rfl, hb3⟩
            have HB3 := Hid.mk' (bt (HB2.out.trans ((Dn.refl w1).more _ |>.below _)) hb3)
            clear hb3
            by_cases l1 : nx.length < ny.length
            · have hk : numC nx ny = -1 := by simp [numC, both, natC, l1]
              rw [hk] at HT
              have l1' : (nx.length : Int) < (ny.length : Int) := by omega
              have HR : Hid (comp a b = -1) := by show _ = _; unfold comp both; rw [HC.out, HT.out]; rfl
              go_wp2_with fail
              go_ret
              exact ⟨ret_n HR.out.symm, HB3.out⟩
            · by_cases l2 : ny.length < nx.length
              · have hk : numC nx ny = 1 := by simp [numC, both, natC, l1, l2]
                rw [hk] at HT
                have l1' : ¬ (nx.length : Int) < (ny.length : Int) := by omega
                have l2' : (ny.length : Int) < (nx.length : Int) := by omega
                have HR : Hid (comp a b = 1) := by show _ = _; unfold comp both; rw [HC.out, HT.out]; rfl
                go_wp2_with fail
                go_ret
                exact ⟨ret_n HR.out.symm, HB3.out⟩
              · have hk : numC nx ny = cmp nx ny := by simp [numC, both, natC, l1, l2]
                rw [hk] at HT
                have l1' : ¬ (nx.length : Int) < (ny.length : Int) := by omega
                have l2' : ¬ (ny.length : Int) < (nx.length : Int) := by omega
                clear hk
                generalize cmp nx ny = c at *
                by_cases c0 : c = 0
                · subst c0
                  have HN : Hid (core a b = core (a.drop p) (b.drop q)) := by show _ = _; rw [HC.out, HT.out]; rfl
                  go_wp2_with fail
                  go_roundw
                  case rel => exact ⟨p, q, hpa, hqb, rfl, rfl, HB3, HN⟩
                  case measure => simp [intOf]; omega
                · have HR : Hid (comp a b = c) := by show _ = _; unfold comp both; rw [HC.out, HT.out, if_pos c0, if_pos c0]
                  have c0' : (c == 0) = false := by simpa using c0
                  go_wp2_with fail
                  go_ret
                  exact ⟨ret_n HR.out.symm, HB3.out⟩
      · have h2' : (b.length : Int) ≤ (j : Int) := by omega
        have HR : Hid (comp a b = 1) := by
          show _ = _; unfold comp both; rw [HC.out, List.drop_of_length_le (by omega : b.length ≤ j), List.drop_eq_getElem_cons h1, core]; rfl
        go_wp2_with fail
        go_ret
        exact ⟨ret_n HR.out.symm, HB.out⟩
    · have h1' : (a.length : Int) ≤ (i : Int) := by omega
      by_cases h2 : j < b.length
      · have h2' : (j : Int) < (b.length : Int) := by omega
        have HR : Hid (comp a b = -1) := by
          show _ = _; unfold comp both; rw [HC.out, List.drop_of_length_le (by omega : a.length ≤ i), List.drop_eq_getElem_cons h2, core]; rfl
        go_wp2_with fail
        go_ret
        exact ⟨ret_n HR.out.symm, HB.out⟩
      · have h2' : (b.length : Int) ≤ (j : Int) := by omega
        have HR : Hid (comp a b = cmp a b) := by
          show _ = _; unfold comp both; rw [HC.out, List.drop_of_length_le (by omega : a.length ≤ i), List.drop_of_length_le (by omega : b.length ≤ j), core]; simp
        go_wp2_with fail
        refine (bytes_any a b LA.out LB.out _).mono ?_
        rintro e w3 ⟨rfl, hb3⟩
        have HB3 := Hid.mk' (bt HB.out hb3)
        clear hb3
        go_wp2_with fail
        go_ret
        exact ⟨ret_n HR.out.symm, HB3.out⟩
end Go.Proofs.YtahmihlpnlfefaaDoor
