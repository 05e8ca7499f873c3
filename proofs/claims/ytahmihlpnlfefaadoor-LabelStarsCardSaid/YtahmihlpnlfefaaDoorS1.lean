/- Walks: the law LabelStars. -/
import Derived.Test.YtahmihlpnlfefaaDoorM2
import Derived.Test.YtahmihlpnlfefaaDoorO1
set_option linter.unusedVariables false
set_option linter.unusedSimpArgs false
namespace Go.Proofs.YtahmihlpnlfefaaDoor
open Go.RowKit
open PL
/-- found before the pair (i, j) -/
def FB (s a b : List UInt8) (i j : Nat) : Prop :=
  (∃ i' k', i' < i ∧ i' ≤ k' ∧ k' ≤ s.length ∧ PL.mt (s.take i') a = true ∧ PL.mt (s.drop k') b = true) ∨ (∃ k', i ≤ k' ∧ k' < j ∧ k' ≤ s.length ∧ PL.mt (s.take i) a = true ∧ PL.mt (s.drop k') b = true)
theorem FB_start (s a b : List UInt8) : ¬ FB s a b 0 0 := by
  rintro (⟨i', k', h, _⟩ | ⟨k', _, h, _⟩) <;> omega
theorem FB_in (s a b : List UInt8) (i : Nat) : FB s a b i 0 ↔ FB s a b i i := by
  unfold FB
  constructor
  · rintro (h | ⟨k', _, h, _⟩)
    · exact .inl h
    · omega
  · rintro (h | ⟨k', h1, h2, _⟩)
    · exact .inl h
    · omega
theorem FB_no {s a b : List UInt8} {i j : Nat} (h : ¬ FB s a b i j) (hn : PL.mt (s.take i) a = false ∨ PL.mt (s.drop j) b = false) : ¬ FB s a b i (j + 1) := by
  rintro (h' | ⟨k', h1, h2, h3, h4, h5⟩)
  · exact h (.inl h')
  · by_cases hk : k' < j
    · exact h (.inr ⟨k', h1, hk, h3, h4, h5⟩)
    · have : k' = j := by omega
      subst this
      rcases hn with hn | hn
      · rw [h4] at hn; cases hn
      · rw [h5] at hn; cases hn
theorem FB_yes {s a b : List UInt8} {i j : Nat} (hi : i ≤ j) (hj : j ≤ s.length) (h1 : PL.mt (s.take i) a = true) (h2 : PL.mt (s.drop j) b = true) : FB s a b i (j + 1) := .inr ⟨j, hi, by omega, hj, h1, h2⟩
theorem FB_out {s a b : List UInt8} {i j : Nat} (hj : s.length < j) (h : ¬ FB s a b i j) : ¬ FB s a b (i + 1) 0 := by
  rintro (⟨i', k', h1, h2, h3, h4, h5⟩ | ⟨k', _, h, _⟩)
  · by_cases hi : i' < i
    · exact h (.inl ⟨i', k', hi, h2, h3, h4, h5⟩)
    · have : i' = i := by omega
      subst this
      exact h (.inr ⟨k', h2, by omega, h3, h4, h5⟩)
  · omega
theorem FB_keep {s a b : List UInt8} {i j : Nat} (h : FB s a b i j) : FB s a b (i + 1) 0 := by
  rcases h with ⟨i', k', h1, h2⟩ | ⟨k', h1, h2, h3, h4, h5⟩
  · exact .inl ⟨i', k', by omega, h2⟩
  · exact .inl ⟨i, k', by omega, h1, h3, h4, h5⟩
theorem FB_end {s a b : List UInt8} {i : Nat} (hi : s.length < i) : FB s a b i 0 ↔ PL.mt s (a ++ 42 :: b) = true := by
  rw [mt_between]
  constructor
  · rintro (⟨i', k', h1, h2, h3, h4, h5⟩ | ⟨k', _, h, _⟩)
    · exact ⟨i', k', h2, h3, h4, h5⟩
    · omega
  · rintro ⟨i', k', h2, h3, h4, h5⟩
    exact .inl ⟨i', k', by omega, h2, h3, h4, h5⟩
set_option maxRecDepth 100000 in
set_option maxHeartbeats 4000000 in
/-- LabelStars -/
theorem stars_any (s0 a0 b0 : List UInt8) (hs : s0.length ≤ maxLen) (ha : a0.length ≤ maxLen) (hb : b0.length ≤ maxLen) (w : World) : Calls Tryd.prog 6 #[.string ⟨s0.toArray⟩, .string ⟨a0.toArray⟩, .string ⟨b0.toArray⟩] w fun e w' => e = .returned (.bool true) ∧ Below w.heap.size w w' := by
  have KS := Hid.mk' (cut_any s0 40 hs (by decide))
  have KA := Hid.mk' (cut_any a0 40 ha (by decide))
  have KB := Hid.mk' (cut_any b0 40 hb (by decide))
  have ls : (s0.take 40).length ≤ 40 := by simp; omega
  have la : (a0.take 40).length ≤ 40 := by simp; omega
  have lb : (b0.take 40).length ≤ 40 := by simp; omega
  clear hs ha hb
  generalize s0.take 40 = s at *
  generalize a0.take 40 = a at *
  generalize b0.take 40 = b at *
  have ls' : (s.length : Int) ≤ 40 := by omega
  go_enter Tryd.func6, Tryd.ntmps6
  go_wp2_with fail
  refine (awake_any _).mono ?_
  rintro e w1 ⟨rfl, h1⟩
  have H1 := Hid.mk' h1
  clear h1
  go_wp2_with fail
  refine (KS.out _).mono ?_
  rintro e w2 ⟨rfl, rfl⟩
  go_wp2_with fail
  refine (KA.out _).mono ?_
  rintro e w2 ⟨rfl, rfl⟩
  go_wp2_with fail
  refine (KB.out _).mono ?_
  rintro e w2 ⟨rfl, rfl⟩
  go_wp2_with fail
  go_loopw [7, 8] (fun u7 u8 wr => ∃ (i : Nat) (x : Bool), i ≤ s.length + 1 ∧ u7 = .bool x ∧ u8 = .int .i64 i ∧ Hid (Below w.heap.size w wr) ∧ Hid (x = true ↔ FB s a b i 0)) (fun u7 u8 _ => s.length + 1 - (intOf u8).toNat)
  case atStart => exact ⟨0, false, by omega, rfl, rfl, H1, Hid.mk' (by simp [FB_start])⟩
  case round =>
    obtain ⟨i, x, hi, rfl, rfl, HB, HX⟩ := hrel
    by_cases hlt : i ≤ s.length
    · have hlt' : (i : Int) ≤ (s.length : Int) := by omega
      have hti := ba_take s i
      have HMA := Hid.mk' (match_any (s.take i) a (by simp; omega) (by omega))
      go_wp2_with fail
      go_loopw [7, 9] (fun u7 u9 wr => ∃ (j : Nat) (x : Bool), i ≤ j ∧ j ≤ s.length + 1 ∧ u7 = .bool x ∧ u9 = .int .i64 j ∧ Hid (Below w.heap.size w wr) ∧ Hid (x = true ↔ FB s a b i j)) (fun u7 u9 _ => s.length + 1 - (intOf u9).toNat)
      case atStart => exact ⟨i, x, by omega, by omega, rfl, rfl, HB, Hid.mk' (HX.out.trans (FB_in _ _ _ _))⟩
      case round =>
        obtain ⟨j, y, hij, hj, rfl, rfl, HB2, HY⟩ := hrel
        clear HX
        by_cases hjt : j ≤ s.length
        · have hjt' : (j : Int) ≤ (s.length : Int) := by omega
          have hdj := ba_drop s j
          have HMB := Hid.mk' (match_any (s.drop j) b (by simp; omega) (by omega))
          cases y with
          | true =>
            have HK := Hid.mk' (FB_keep (HY.out.1 rfl))
            go_wp2_with fail
            go_roundw
            case rel => exact ⟨i + 1, true, by omega, rfl, by go_num, HB2, Hid.mk' ⟨fun _ => HK.out, fun _ => rfl⟩⟩
            case measure => simp [intOf]; omega
          | false =>
            have HNB : Hid (¬ FB s a b i j) := fun h => by have := HY.out.2 h; cases this
            clear HY
            cases m1 : PL.mt (s.take i) a
            · have HN := Hid.mk' (FB_no HNB.out (.inl m1))
              rw [m1] at HMA
              clear m1
              go_wp2_with fail
              refine (HMA.out _).mono ?_
              rintro e w3 ⟨rfl, hd3⟩
              have HB3 := Hid.mk' (HB2.out.trans (hd3.below _))
              clear hd3
              go_wp2_with fail
              go_roundw
              case rel => exact ⟨j + 1, false, by omega, by omega, rfl, by go_num, HB3, Hid.mk' ⟨fun h => (by cases h), fun h => absurd h HN.out⟩⟩
              case measure => simp [intOf]; omega
            · have M1 := Hid.mk' m1
              rw [m1] at HMA
              clear m1
              cases m2 : PL.mt (s.drop j) b
              · have HN := Hid.mk' (FB_no HNB.out (.inr m2))
                rw [m2] at HMB
                clear m2
                go_wp2_with fail
                refine (HMA.out _).mono ?_
                rintro e w3 ⟨rfl, hd3⟩
                have HB3 := Hid.mk' (HB2.out.trans (hd3.below _))
                clear hd3
                go_wp2_with fail
                refine (HMB.out _).mono ?_
                rintro e w4 ⟨rfl, hd4⟩
                have HB4 := Hid.mk' (HB3.out.trans (hd4.below _))
                clear hd4
                go_wp2_with fail
                go_roundw
                case rel => exact ⟨j + 1, false, by omega, by omega, rfl, by go_num, HB4, Hid.mk' ⟨fun h => (by cases h), fun h => absurd h HN.out⟩⟩
                case measure => simp [intOf]; omega
              · have HN := Hid.mk' (FB_yes hij hjt M1.out m2)
                rw [m2] at HMB
                clear m2
                go_wp2_with fail
                refine (HMA.out _).mono ?_
                rintro e w3 ⟨rfl, hd3⟩
                have HB3 := Hid.mk' (HB2.out.trans (hd3.below _))
                clear hd3
                go_wp2_with fail
                refine (HMB.out _).mono ?_
                rintro e w4 ⟨rfl, hd4⟩
                have HB4 := Hid.mk' (HB3.out.trans (hd4.below _))
                clear hd4
                go_wp2_with fail
                go_roundw
                case rel => exact ⟨j + 1, true, by omega, by omega, rfl, by go_num, HB4, Hid.mk' ⟨fun _ => HN.out, fun _ => rfl⟩⟩
                case measure => simp [intOf]; omega
        · have hjt' : (s.length : Int) < (j : Int) := by omega
          cases y with
          | true =>
            have HK := Hid.mk' (FB_keep (HY.out.1 rfl))
            go_wp2_with fail
            go_roundw
            case rel => exact ⟨i + 1, true, by omega, rfl, by go_num, HB2, Hid.mk' ⟨fun _ => HK.out, fun _ => rfl⟩⟩
            case measure => simp [intOf]; omega
          | false =>
            have HK := Hid.mk' (FB_out (s := s) (a := a) (b := b) (i := i) (j := j) (by omega) (fun h => by have := HY.out.2 h; cases this))
            go_wp2_with fail
            go_roundw
            case rel => exact ⟨i + 1, false, by omega, rfl, by go_num, HB2, Hid.mk' ⟨fun h => (by cases h), fun h => absurd h HK.out⟩⟩
            case measure => simp [intOf]; omega
    · have hlt' : (s.length : Int) < (i : Int) := by omega
      have HE : Hid (PL.mt s (a ++ 42 :: b) = x) := by
        show _ = _
        rw [Bool.eq_iff_iff, ← FB_end (by omega : s.length < i)]; exact HX.out.symm
      have HM := Hid.mk' (match_any s (a ++ 42 :: b) (by omega) (by simp; omega))
      rw [HE.out] at HM
      have c1 : (⟨a.toArray⟩ : ByteArray) ++ ⟨#[42]⟩ = ⟨(a ++ [42]).toArray⟩ := ba_app a [42]
      have c2 := ba_app (a ++ [42]) b
      have l1 : (a ++ [42]).length ≤ 41 := by simp; omega
      go_wp2_with fail
      refine (HM.out _).mono ?_
      rintro e w3 ⟨rfl, hd3⟩
      have HB3 := Hid.mk' (HB.out.trans (hd3.below _))
      clear hd3
      go_wp2_with fail
      go_ret
      exact ⟨ret_b (by simp), HB3.out⟩
end Go.Proofs.YtahmihlpnlfefaaDoor
