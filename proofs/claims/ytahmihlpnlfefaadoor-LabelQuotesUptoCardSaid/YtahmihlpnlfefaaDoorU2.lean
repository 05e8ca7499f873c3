/- Walks: Unquote. -/
import Derived.Test.YtahmihlpnlfefaaDoorU1
import Derived.Deep.RegionLaw
set_option linter.unusedVariables false
set_option linter.unusedSimpArgs false
namespace Go.Proofs.YtahmihlpnlfefaaDoor
open Go.RowKit
open PL
theorem step_app31 {w : World} {ops : Array Oper} {o : Oper} {a : Act} {K : Act → World → Prop} {Q : Exit → Act → World → Prop} {E : Prop} (hgd : o.guard = none) (s x : Operand)
    (ho : o.op = .call { callee := .builtin .append, args := #[s, x], argTypes := #[31, 31] }) {B : Nat} {v : Value} {l : List UInt8} (hs : a.eval s = v) (hown : Ob 5 B w v l)
    {A : Nat → Prop} {u : Value} {m : List UInt8} (hx : a.eval x = u) (hsrc : Bs A w u m) (hlen : l.length + m.length ≤ lim) (hB : B ≤ w.heap.size)
    (h : ∀ v' w', Ob 5 B w' v' (l ++ m) → w.grownBy w' v.ownBlock → K (a.put o.dst v') w') :
    if Region.wanted o (yielded ops a.tmps) = true then Oper.wp Tryd.prog o a w K Q else E := by
  have hw : Region.wanted o (yielded ops a.tmps) = true := by simp [Region.wanted, hgd]
  rw [if_pos hw]
  unfold lim at hlen
  obtain ⟨v', w', hr, h2, h3, h4, h5⟩ := run_app (P := Tryd.prog) (w := w) 31 o.type Tryd.underlying31 Tryd.info5 rfl (by decide) hown hsrc.1 (bv_one m) (by unfold maxLen; omega) (by omega) hB
  unfold Oper.wp execOp
  simp only [ho, resolve, invoke, builtin, Sem.run_bind, Sem.run_pure, Result.andThen_ok, List.map_toArray, List.map_cons, List.map_nil, hs, hx, hr]
  exact h v' w' (by unfold Ob; rw [List.length_append, bv_append]; exact h2) h3
theorem bs_one {w : World} {c : UInt8} {e : TypeId} : Bs (Lt (w.heap.size + 1)) (w.alloc (.cells #[.int .u8 (c.toNat : Int)] e)) (.slice (some ⟨w.heap.size, 0, none⟩) 1 1) [c] := ⟨row_one, by simp [lim]⟩
def UqPost (o : Except Int (List UInt8)) (w : World) (e : Ending) (w' : World) : Prop := match o with
  | .ok x => ∃ v, e = .returned (.tuple #[v, .int .i64 0]) ∧ Below w.heap.size w w' ∧ Ob 5 w.heap.size w' v x
  | .error n => e = .returned (.tuple #[.slice none 0 0, .int .i64 n]) ∧ Below w.heap.size w w'
theorem uq_one (c : UInt8) (r acc : List UInt8) (h : plain c = true) : uq (c :: r) acc = uq r (acc ++ [c]) := by
  have h34 : c ≠ 34 := by rintro rfl; revert h; decide
  rw [uq, if_neg h34, if_pos h]
theorem uq_esc (r acc : List UInt8) : uq (92 :: r) acc = match esc r with
    | .error e => .error e
    | .ok (b, n) => uq (r.drop n) (acc ++ [b]) := by
  rw [uq, if_neg (by decide), if_neg (by decide), if_pos rfl]
  split <;> rename_i h <;> rw [h]
theorem esc_err {s : List UInt8} {e : Int} (h : esc s = .error e) : e ≠ 0 := by
  unfold esc at h
  repeat' split at h
  all_goals first | (cases h; done) | (cases h; decide)
set_option maxRecDepth 100000 in
set_option maxHeartbeats 4000000 in
/-- label.Unquote -/
theorem unquote_any (s : List UInt8) (hm : s.length ≤ lim) (w : World) : Calls Tryd.prog 22 #[.string ⟨s.toArray⟩] w (UqPost (unquote s) w) := by
  have hmm : s.length ≤ 9223372036854775807 := by unfold lim at hm; omega
  by_cases h0 : s = []
  · subst h0
    go_enter Tryd.func22, Tryd.ntmps22
    go_wp2_with fail
    go_ret2
    exact ⟨rfl, Below.refl _ _⟩
  · obtain ⟨n1, n2, n3⟩ := ne_facts h0
    have n3' : (0 : Int) < (s.length : Int) := by omega
    have n3b : (1 : Int) ≤ (s.length : Int) := by omega
    have hcs : s[0] :: s.drop 1 = s := by have := List.drop_eq_getElem_cons n3; simpa using this.symm
    by_cases h34 : s[0] = 34
    · have HU : Hid (unquote s = uq (s.drop 1) []) := by
        show _ = _
        rw [← hcs]; unfold unquote; dsimp only; rw [if_pos h34]; rfl
      have hg : ∀ h, ((⟨s.toArray⟩ : ByteArray)[0]'h).toNat = 34 := fun _ => by show s[0].toNat = _; rw [h34]; rfl
      have hd := ba_drop s 1
      have hl : (s.drop 1).length ≤ s.length := by simp
      clear h34 hcs h0
      go_enter Tryd.func22, Tryd.ntmps22
      go_wp2_with fail
      go_loopw [0, 4] (fun u0 u4 wr => ∃ x acc : List UInt8, u0 = .string ⟨x.toArray⟩ ∧ acc.length + x.length ≤ s.length ∧ Hid (Below w.heap.size w wr) ∧ Hid (Ob 5 w.heap.size wr u4 acc) ∧ Hid (unquote s = uq x acc)) (fun u0 _ _ => strLen u0)
      case atStart => exact ⟨s.drop 1, [], by simp, by simp, Hid.mk' (Below.refl _ _), Hid.mk' ob_nil, HU⟩
      case round =>
        obtain ⟨x, acc, rfl, hxl, HB, HO, HX⟩ := hrel
        clear n1 n2 n3 n3' n3b hg hd hl HU
        cases x with
        | nil =>
          have HR : Hid (unquote s = .error 5) := by show _ = _; rw [HX.out, uq]
          go_wp2_with fail
          go_ret2
          show UqPost _ _ _ _
          rw [HR.out]
          exact ⟨rfl, HB.out⟩
        | cons c r =>
          have hg : ∀ h, ((⟨(c :: r).toArray⟩ : ByteArray)[0]'h).toNat = c.toNat := fun _ => rfl
          have hl : ((c :: r).length : Int) = r.length + 1 := by simp
          have hd := ba_drop (c :: r) 1
          simp only [List.length_cons, List.drop_succ_cons, List.drop_zero] at hd hxl
          have hb1 : (1 : Int) ≤ (r.length : Int) + 1 := by omega
          by_cases h34 : c = 34
          · subst h34
            cases r with
            | nil =>
              have HR : Hid (unquote s = .ok acc) := by show _ = _; rw [HX.out, uq]; simp
              go_wp2_with fail
              go_ret2
              show UqPost _ _ _ _
              rw [HR.out]
              exact ⟨_, rfl, HB.out, HO.out⟩
            | cons d r =>
              have HR : Hid (unquote s = .error 3) := by show _ = _; rw [HX.out, uq]; simp
              have HP : Hid (∀ w, Calls Tryd.prog 44 #[.int .u8 34] w fun e w' => e = .returned (.bool false) ∧ w = w') := plain_any 34
              go_wp2_with fail
              refine (HP.out _).mono ?_
              rintro e w' ⟨rfl, rfl⟩
              go_wp2_with fail
              go_ret2
              show UqPost _ _ _ _
              rw [HR.out]
              exact ⟨rfl, HB.out⟩
          · have e34 : ((c.toNat : Int) == 34) = false := by
              rw [beq_eq_false_iff_ne]; intro e; exact h34 (UInt8.toNat_inj.1 (Int.ofNat.inj e))
            have HP := Hid.mk' (plain_any c)
            cases hp : plain c
            · rw [hp] at HP
              by_cases h92 : c = 92
              · subst h92
                have hq := uq_esc r acc
                have HE := Hid.mk' (escaped_any r (by unfold maxLen; omega))
                have HP2 : Hid (∀ w, Calls Tryd.prog 44 #[.int .u8 92] w fun e w' => e = .returned (.bool false) ∧ w = w') := plain_any 92
                clear HP hp h34
                cases he : esc r with
                | error e =>
                  rw [he] at hq HE
                  have HR : Hid (unquote s = .error e) := by show _ = _; rw [HX.out, hq]
                  have hen : (e != 0) = true := by rw [bne_iff_ne]; exact esc_err he
                  clear hq he
                  go_wp2_with fail
                  refine (HP2.out _).mono ?_
                  rintro e w' ⟨rfl, rfl⟩
                  go_wp2_with fail
                  refine (HE.out _).mono ?_
                  rintro e w' ⟨rfl, rfl⟩
                  simp only [escV]
                  go_wp2_with fail
                  go_ret2
                  show UqPost _ _ _ _
                  rw [HR.out]
                  exact ⟨rfl, HB.out⟩
                | ok bn =>
                  obtain ⟨b, n⟩ := bn
                  obtain ⟨hn1, hn2⟩ := esc_len he
                  rw [he] at hq HE
                  have HN : Hid (unquote s = uq (r.drop n) (acc ++ [b])) := by show _ = _; rw [HX.out, hq]
                  have hdn := ba_drop (92 :: r) (1 + n)
                  rw [show (92 :: r).drop (1 + n) = r.drop n from by rw [Nat.add_comm]; rfl] at hdn
                  simp only [List.length_cons] at hdn
                  have hb2 : (1 : Int) + (n : Int) ≤ (r.length : Int) + 1 := by omega
                  have hb3 : IntKind.i64.wrap ((1 : Int) + (n : Int)) = (1 : Int) + (n : Int) := by rw [IntKind.wrap_i64]; omega
                  have hb4 : ((1 : Int) + (n : Int)).toNat = 1 + n := by omega
                  have hb5 : (0 : Int) ≤ (1 : Int) + (n : Int) := by omega
                  clear hq he
                  go_wp2_with fail
                  refine (HP2.out _).mono ?_
                  rintro e w' ⟨rfl, rfl⟩
                  go_wp2_with fail
                  refine (HE.out _).mono ?_
                  rintro e w' ⟨rfl, rfl⟩
                  simp only [escV]
                  go_wp2_with fail
                  go_region_law (refine step_app31 rfl (.tmp 51) (.tmp 53) rfl rfl (by exact (Ob.alloc HO.out _)) rfl bs_one (by simp; omega) (by have := HB.out.size; simp; omega) ?_; intro v' w2 ho hgr; have HO2 := Hid.mk' ho; have HB2 := Hid.mk' (below_app ((HB.out.trans ((Dn.refl wr).drew.below _)).alloc HB.out.size _) (Ob.alloc HO.out _) hgr (Nat.le_refl _) (by have := HB.out.size; simp; omega)); clear ho hgr)
                  simp only [Act.put, List.getElem_toArray, List.getElem_cons_succ, List.getElem_cons_zero, List.setIfInBounds_toArray, List.set_cons_succ, List.set_cons_zero]
                  go_wp2_with fail
                  go_roundw
                  case rel => exact ⟨r.drop n, acc ++ [b], rfl, by simp; omega, HB2, HO2, HN⟩
                  case measure => simp [strLen, ByteArray.size]; omega
              · have HR : Hid (unquote s = .error 3) := by show _ = _; rw [HX.out, uq, if_neg h34, if_neg (by simp [hp]), if_neg h92]
                have e92 : ((c.toNat : Int) == 92) = false := by
                  rw [beq_eq_false_iff_ne]; intro e; exact h92 (UInt8.toNat_inj.1 (Int.ofNat.inj e))
                clear hp h92 h34
                go_wp2_with fail
                refine (HP.out _).mono ?_
                rintro e w' ⟨rfl, rfl⟩
                go_wp2_with fail
                go_ret2
                show UqPost _ _ _ _
                rw [HR.out]
                exact ⟨rfl, HB.out⟩
            · rw [hp] at HP
              have HN : Hid (unquote s = uq r (acc ++ [c])) := by show _ = _; rw [HX.out, uq_one _ _ _ hp]
              clear hp h34
              go_wp2_with fail
              refine (HP.out _).mono ?_
              rintro e w' ⟨rfl, rfl⟩
              go_wp2_with fail
              go_region_law (refine step_app31 rfl (.tmp 32) (.tmp 34) rfl rfl (by exact (Ob.alloc HO.out _)) rfl bs_one (by simp; omega) (by have := HB.out.size; simp; omega) ?_; intro v' w2 ho hgr; have HO2 := Hid.mk' ho; have HB2 := Hid.mk' (below_app ((HB.out.trans ((Dn.refl wr).drew.below _)).alloc HB.out.size _) (Ob.alloc HO.out _) hgr (Nat.le_refl _) (by have := HB.out.size; simp; omega)); clear ho hgr)
              simp only [Act.put, List.getElem_toArray, List.getElem_cons_succ, List.getElem_cons_zero, List.setIfInBounds_toArray, List.set_cons_succ, List.set_cons_zero]
              go_wp2_with fail
              go_roundw
              case rel => exact ⟨r, acc ++ [c], rfl, by simp; omega, HB2, HO2, HN⟩
              case measure => simp [strLen, ByteArray.size]
    · have HR : Hid (unquote s = .error 3) := by
        show _ = _
        rw [← hcs]; unfold unquote; dsimp only; rw [if_neg h34]
      have e34 : ((((⟨s.toArray⟩ : ByteArray)[0]'n3).toNat : Int) != 34) = true := by
        rw [bne_iff_ne]; intro e; exact h34 (UInt8.toNat_inj.1 (show s[0].toNat = 34 from Int.ofNat.inj e))
      clear h34 hcs h0
      go_enter Tryd.func22, Tryd.ntmps22
      go_wp2_with fail
      go_ret2
      show UqPost _ _ _ _
      rw [HR.out]
      exact ⟨rfl, Below.refl _ _⟩
end Go.Proofs.YtahmihlpnlfefaaDoor
