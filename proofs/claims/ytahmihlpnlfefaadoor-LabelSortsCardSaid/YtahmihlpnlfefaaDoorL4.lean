/- Walks of layer 2: Compare. -/
import Derived.Test.YtahmihlpnlfefaaDoorL3
set_option linter.unusedVariables false
set_option linter.unusedSimpArgs false
namespace Go.Proofs.YtahmihlpnlfefaaDoor
open Go.RowKit
open PL

theorem ne_facts {x : List UInt8} (h : x ≠ []) : (x == []) = false ∧ x.isEmpty = false ∧ 0 < x.length := by cases x <;> simp at h ⊢
theorem core_step (x y : List UInt8) (hx : x ≠ []) (hy : y ≠ []) : core x y = if pieceC (x.take (pcN x)) (y.take (pcN y)) ≠ 0 then pieceC (x.take (pcN x)) (y.take (pcN y)) else core (x.drop (pcN x)) (y.drop (pcN y)) := by
  cases x with
  | nil => exact absurd rfl hx
  | cons a x => cases y with
    | nil => exact absurd rfl hy
    | cons b y => rw [core]
theorem pcN_le (x : List UInt8) (h : x ≠ []) : pcN x ≤ x.length := by
  have h1 := (ne_facts h).2.2
  have := (List.takeWhile_prefix (p := dgt) (l := x)).length_le
  unfold pcN; omega
set_option maxRecDepth 100000 in
set_option maxHeartbeats 1000000 in
/-- label.Compare -/
theorem comp_any (a b : List UInt8) (ha : a.length ≤ maxLen) (hb : b.length ≤ maxLen) (w : World) : Calls Tryd.prog 15 #[.string ⟨a.toArray⟩, .string ⟨b.toArray⟩] w fun e w' => e = .returned (.int .i64 (comp a b)) ∧ Below w.heap.size w w' := by
  go_enter Tryd.func15, Tryd.ntmps15
  go_wp2
  go_loopw [5, 6] (fun u v wr => ∃ x y : List UInt8, u = .string ⟨x.toArray⟩ ∧ v = .string ⟨y.toArray⟩ ∧ x.length ≤ maxLen ∧ y.length ≤ maxLen ∧ Below w.heap.size w wr ∧ Hid (core a b = core x y)) (fun u v _ => strLen u)
  case atStart => exact ⟨a, b, rfl, rfl, ha, hb, Below.refl _ _, Hid.mk' rfl⟩
  case round =>
    obtain ⟨x, y, rfl, rfl, hx, hy, hbl, HC⟩ := hrel
    by_cases hx0 : x = []
    · subst hx0
      by_cases hy0 : y = []
      · subst hy0
        have HR : Hid (comp a b = cmp a b) := by show _ = _; unfold comp both; rw [HC.out, core]; simp
        go_wp2_with (go_at_call 36; go_must (refine (strCmp_any a b _).mono ?_; rintro e w' ⟨rfl, rfl⟩))
        go_ret
        exact ⟨ret_n HR.out.symm, hbl⟩
      · obtain ⟨e1, e2, e3⟩ := ne_facts hy0
        have HR : Hid (comp a b = -1) := by
          show _ = _; unfold comp both; rw [HC.out]
          cases y with
          | nil => exact absurd rfl hy0
          | cons c y => rw [core]; simp
        have hi : ic 0 (y.length : Int) = -1 := by unfold ic; rw [if_pos (by omega)]
        clear hy0
        go_wp2_with (go_at_call 35; go_must (refine (cmpInt_any _ _ _).mono ?_; rintro e w' ⟨rfl, rfl⟩))
        go_ret
        exact ⟨ret_n HR.out.symm, hbl⟩
    · obtain ⟨e1, e2, e3⟩ := ne_facts hx0
      by_cases hy0 : y = []
      · subst hy0
        have HR : Hid (comp a b = 1) := by
          show _ = _; unfold comp both; rw [HC.out]
          cases x with
          | nil => exact absurd rfl hx0
          | cons c y => rw [core]; simp
        have hi : ic (x.length : Int) 0 = 1 := by unfold ic; rw [if_neg (by omega), if_pos (by omega)]
        clear hx0
        go_wp2_with (go_at_call 35; go_must (refine (cmpInt_any _ _ _).mono ?_; rintro e w' ⟨rfl, rfl⟩))
        go_ret
        exact ⟨ret_n HR.out.symm, hbl⟩
      · obtain ⟨f1, f2, f3⟩ := ne_facts hy0
        have HS := Hid.mk' (core_step x y hx0 hy0)
        have HX := Hid.mk' hx0
        have HY := Hid.mk' hy0
        have HB := Hid.mk' hbl
        have p1 := pcN_le x hx0
        have p2 := pcN_le y hy0
        have p3 := pcN_pos x
        have p4 := pcN_pos y
        clear hx0 hy0 hbl
        go_wp2_with fail
        refine (piece_any x HX.out hx _).mono ?_
        rintro e w1 ⟨rfl, hd1⟩
        go_wp2_with fail
        refine (piece_any y HY.out hy _).mono ?_
        rintro e w2 ⟨rfl, hd2⟩
        go_wp2_with fail
        refine (pieces_any (x.take (pcN x)) (y.take (pcN y)) (by simp; omega) (by simp; omega) (by simp; omega) (by simp; omega) _).mono ?_
        rintro e w3 ⟨rfl, hb3⟩
        have hb4 : Below w.heap.size w w3 := bt (bt HB.out (hd1.trans hd2 |>.below _)) hb3
        have HB4 := Hid.mk' hb4
        clear hb4 hd1 hd2 hb3
        by_cases hc : pieceC (x.take (pcN x)) (y.take (pcN y)) = 0
        · have HR : Hid (core a b = core (x.drop (pcN x)) (y.drop (pcN y))) := by show _ = _; rw [HC.out, HS.out, if_neg (by simpa using hc)]
          rw [hc]
          clear hc
          go_wp2_with fail
          go_roundw
          case rel => exact ⟨_, _, rfl, rfl, by simp; omega, by simp; omega, HB4.out, HR⟩
          case measure => simp [strLen, ByteArray.size]; omega
        · have hr := HS.out
          rw [if_pos hc] at hr
          have HR : Hid (comp a b = pieceC (x.take (pcN x)) (y.take (pcN y))) := by
            show _ = _; unfold comp both; rw [HC.out, hr, if_pos hc]
          clear hr
          generalize pieceC (x.take (pcN x)) (y.take (pcN y)) = c at *
          have hc' : (c == 0) = false := by simpa using hc
          go_wp2_with fail
          go_ret
          exact ⟨ret_n HR.out.symm, HB4.out⟩
end Go.Proofs.YtahmihlpnlfefaaDoor
