/- Walks: Compare again: it draws and lays blocks, and nothing else. -/
import Derived.Test.YtahmihlpnlfefaaDoorSS
set_option linter.unusedVariables false
set_option linter.unusedSimpArgs false
namespace Go.Proofs.YtahmihlpnlfefaaDoor
open Go.RowKit
open PL
set_option maxRecDepth 100000 in
set_option maxHeartbeats 1000000 in
/-- label.pieces -/
theorem pieces_gr (p q : List UInt8) (hp : 0 < p.length) (hq : 0 < q.length) (hpm : p.length ≤ maxLen) (hqm : q.length ≤ maxLen) (w : World) : Calls Tryd.prog 34 #[.string ⟨p.toArray⟩, .string ⟨q.toArray⟩] w fun e w' => e = .returned (.int .i64 (pieceC p q)) ∧ Gr w w' := by
  have hp' : (0 : Int) < (p.length : Int) := by omega
  have hq' : (0 : Int) < (q.length : Int) := by omega
  have hC : pieceC p q = if dgt p[0] && dgt q[0] then numC (numb p) (numb q) else natC p[0].toNat q[0].toNat := by
    cases p with
    | nil => simp at hp
    | cons a p => cases q with
      | nil => simp at hq
      | cons b q => rfl
  have hn : natC p[0].toNat q[0].toNat = ic p[0].toNat q[0].toNat := by
    unfold natC ic; simp only [Int.ofNat_lt]
  cases d1 : dgt p[0]
  · rw [d1] at hC
    have D1 := Hid.mk' d1
    have HC : Hid (pieceC p q = ic p[0].toNat q[0].toNat) := by show _ = _; rw [hC, ← hn]; simp
    clear d1 hC hn
    go_enter Tryd.func34, Tryd.ntmps34
    go_wp2_with (go_at_call 29; go_must (refine (digit_f p[0] D1.out _).mono ?_; rintro e w' ⟨rfl, rfl⟩))
    go_quiet ((go_at_call 52; exact quiet_flip (cmpByte_any (p[0].toNat : Int) (q[0].toNat : Int) _)))
    go_wp2
    go_ret
    exact ⟨by rw [HC.out]; rfl, Gr.dn ((Dn.refl w).more _)⟩
  · cases d2 : dgt q[0]
    · rw [d1, d2] at hC
      have D1 := Hid.mk' d1
      have D2 := Hid.mk' d2
      have HC : Hid (pieceC p q = ic p[0].toNat q[0].toNat) := by show _ = _; rw [hC, ← hn]; simp
      clear d1 d2 hC hn
      go_enter Tryd.func34, Tryd.ntmps34
      go_wp2_with fail
      refine (digit_t p[0] D1.out _).mono ?_
      rintro e w' ⟨rfl, rfl⟩
      go_wp2_with fail
      refine (digit_f q[0] D2.out _).mono ?_
      rintro e w' ⟨rfl, rfl⟩
      go_wp2_with fail
      go_quiet ((go_at_call 52; exact quiet_flip (cmpByte_any (p[0].toNat : Int) (q[0].toNat : Int) _)))
      go_wp2
      go_ret
      exact ⟨by rw [HC.out]; rfl, Gr.dn ((Dn.refl w).more _)⟩
    · rw [d1, d2] at hC
      have D1 := Hid.mk' d1
      have D2 := Hid.mk' d2
      have HC : Hid (pieceC p q = numC (numb p) (numb q)) := by show _ = _; rw [hC]; simp
      clear d1 d2 hC hn
      go_enter Tryd.func34, Tryd.ntmps34
      go_wp2_with fail
      refine (digit_t p[0] D1.out _).mono ?_
      rintro e w' ⟨rfl, rfl⟩
      go_wp2_with fail
      refine (digit_t q[0] D2.out _).mono ?_
      rintro e w' ⟨rfl, rfl⟩
      go_wp2_with fail
      refine (trimLeft0_any p hpm _).mono ?_
      rintro e w' ⟨rfl, rfl⟩
      go_wp2_with fail
      refine (trimLeft0_any q hqm _).mono ?_
      rintro e w' ⟨rfl, rfl⟩
      go_wp2_with fail
      refine (cmpInt_any _ _ _).mono ?_
      rintro e w' ⟨rfl, rfl⟩
      have HN := Hid.mk' (numC_int (numb p) (numb q))
      generalize ic (numb p).length (numb q).length = x at *
      go_wp2_with fail
      refine (strCmp_any (numb p) (numb q) _).mono ?_
      rintro e w' ⟨rfl, rfl⟩
      go_wp2_with fail
      refine (or_any _ _ _ _ row_two).mono ?_
      rintro e w' ⟨rfl, rfl⟩
      go_wp2_with fail
      go_ret
      exact ⟨by rw [HC.out, HN.out]; rfl, (Gr.refl _).alloc _⟩
set_option maxRecDepth 100000 in
set_option maxHeartbeats 1000000 in
/-- label.Compare -/
theorem comp_gr (a b : List UInt8) (ha : a.length ≤ maxLen) (hb : b.length ≤ maxLen) (w : World) : Calls Tryd.prog 15 #[.string ⟨a.toArray⟩, .string ⟨b.toArray⟩] w fun e w' => e = .returned (.int .i64 (comp a b)) ∧ Gr w w' := by
  go_enter Tryd.func15, Tryd.ntmps15
  go_wp2
  go_loopw [5, 6] (fun u v wr => ∃ x y : List UInt8, u = .string ⟨x.toArray⟩ ∧ v = .string ⟨y.toArray⟩ ∧ x.length ≤ maxLen ∧ y.length ≤ maxLen ∧ Gr w wr ∧ Hid (core a b = core x y)) (fun u v _ => strLen u)
  case atStart => exact ⟨a, b, rfl, rfl, ha, hb, Gr.refl _, Hid.mk' rfl⟩
  case round =>
    obtain ⟨x, y, rfl, rfl, hx, hy, hbl, HC⟩ := hrel
    by_cases hx0 : x = []
    · subst hx0
      by_cases hy0 : y = []
      · subst hy0
        have HR : Hid (comp a b = cmp a b) := by show _ = _; unfold comp both; rw [HC.out, core]; simp
        go_wp2_with (go_at_call 36; go_must (refine (strCmp_any a b _).mono ?_; rintro e w' ⟨rfl, rfl⟩))
        go_ret
        exact ⟨ret_n HR.out.symm, hbl⟩
      · obtain ⟨e1, e2, e3⟩ := ne_facts hy0
        have HR : Hid (comp a b = -1) := by
          show _ = _; unfold comp both; rw [HC.out]
          cases y with
          | nil => exact absurd rfl hy0
          | cons c y => rw [core]; simp
        have hi : ic 0 (y.length : Int) = -1 := by unfold ic; rw [if_pos (by omega)]
        clear hy0
        go_wp2_with (go_at_call 35; go_must (refine (cmpInt_any _ _ _).mono ?_; rintro e w' ⟨rfl, rfl⟩))
        go_ret
        exact ⟨ret_n HR.out.symm, hbl⟩
    · obtain ⟨e1, e2, e3⟩ := ne_facts hx0
      by_cases hy0 : y = []
      · subst hy0
        have HR : Hid (comp a b = 1) := by
          show _ = _; unfold comp both; rw [HC.out]
          cases x with
          | nil => exact absurd rfl hx0
          | cons c y => rw [core]; simp
        have hi : ic (x.length : Int) 0 = 1 := by unfold ic; rw [if_neg (by omega), if_pos (by omega)]
        clear hx0
        go_wp2_with (go_at_call 35; go_must (refine (cmpInt_any _ _ _).mono ?_; rintro e w' ⟨rfl, rfl⟩))
        go_ret
        exact ⟨ret_n HR.out.symm, hbl⟩
      · obtain ⟨f1, f2, f3⟩ := ne_facts hy0
        have HS := Hid.mk' (core_step x y hx0 hy0)
        have HX := Hid.mk' hx0
        have HY := Hid.mk' hy0
        have HB := Hid.mk' hbl
        have p1 := pcN_le x hx0
        have p2 := pcN_le y hy0
        have p3 := pcN_pos x
        have p4 := pcN_pos y
        clear hx0 hy0 hbl
        go_wp2_with fail
        refine (piece_any x HX.out hx _).mono ?_
        rintro e w1 ⟨rfl, hd1⟩
        go_wp2_with fail
        refine (piece_any y HY.out hy _).mono ?_
        rintro e w2 ⟨rfl, hd2⟩
        go_wp2_with fail
        refine (pieces_gr (x.take (pcN x)) (y.take (pcN y)) (by simp; omega) (by simp; omega) (by simp; omega) (by simp; omega) _).mono ?_
        rintro e w3 ⟨rfl, hb3⟩
        have hb4 : Gr w w3 := (HB.out.trans (Gr.dn (hd1.trans hd2))).trans hb3
        have HB4 := Hid.mk' hb4
        clear hb4 hd1 hd2 hb3
        by_cases hc : pieceC (x.take (pcN x)) (y.take (pcN y)) = 0
        · have HR : Hid (core a b = core (x.drop (pcN x)) (y.drop (pcN y))) := by show _ = _; rw [HC.out, HS.out, if_neg (by simpa using hc)]
          rw [hc]
          clear hc
          go_wp2_with fail
          go_roundw
          case rel => exact ⟨_, _, rfl, rfl, by simp; omega, by simp; omega, HB4.out, HR⟩
          case measure => simp [strLen, ByteArray.size]; omega
        · have hr := HS.out
          rw [if_pos hc] at hr
          have HR : Hid (comp a b = pieceC (x.take (pcN x)) (y.take (pcN y))) := by
            show _ = _; unfold comp both; rw [HC.out, hr, if_pos hc]
          clear hr
          generalize pieceC (x.take (pcN x)) (y.take (pcN y)) = c at *
          have hc' : (c == 0) = false := by simpa using hc
          go_wp2_with fail
          go_ret
          exact ⟨ret_n HR.out.symm, HB4.out⟩
end Go.Proofs.YtahmihlpnlfefaaDoor
