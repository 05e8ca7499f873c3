/- Walks: the law LabelQuotes. -/
import Derived.Test.YtahmihlpnlfefaaDoorQ2
import Derived.Test.YtahmihlpnlfefaaDoorU5
import Derived.Test.YtahmihlpnlfefaaDoorO1
set_option linter.unusedVariables false
set_option linter.unusedSimpArgs false
namespace Go.Proofs.YtahmihlpnlfefaaDoor
open Go.RowKit
open PL
theorem bs_none (w : World) : Bs (fun _ => False) w (.slice none 0 0) [] := ⟨⟨rfl, none, 0, rfl, Nat.le_refl _, fun _ => rfl, fun j u hj => by simp [bv] at hj⟩, by simp [lim]⟩
theorem unq_len {s x : List UInt8} (h : unquote s = .ok x) : x.length ≤ s.length := by
  have := quote_unquote s x h
  rw [← this]
  have h2 : ∀ m : List UInt8, m.length ≤ (m.flatMap qb).length := by
    intro m
    induction m with
    | nil => simp
    | cons c m ih =>
      have : 1 ≤ (qb c).length := by unfold qb; split <;> (try split) <;> simp
      simp only [List.flatMap_cons, List.length_append, List.length_cons]; omega
  have := h2 x
  simp only [quote, List.length_cons, List.length_append]; omega
theorem uq_err : ∀ (k : Nat) (s acc : List UInt8) (n : Int), s.length ≤ k → uq s acc = .error n → n ≠ 0 := by
  intro k
  induction k with
  | zero =>
    intro s acc n hs h
    have : s = [] := List.eq_nil_of_length_eq_zero (by omega)
    subst this
    rw [uq_nil] at h; cases h; decide
  | succ k ih =>
    intro s acc n hs h
    cases s with
    | nil => rw [uq_nil] at h; cases h; decide
    | cons c r =>
      simp only [List.length_cons] at hs
      by_cases h34 : c = 34
      · subst h34
        rw [uq_34] at h
        split at h <;> cases h
        decide
      · by_cases hp : plain c = true
        · rw [uq_one _ _ _ hp] at h
          exact ih _ _ _ (by omega) h
        · by_cases h92 : c = 92
          · subst h92
            rw [uq_esc] at h
            cases he : esc r with
            | error e => rw [he] at h; cases h; exact esc_err he
            | ok bn =>
              obtain ⟨b, m⟩ := bn
              rw [he] at h
              exact ih _ _ _ (by simp; omega) h
          · rw [uq, if_neg h34, if_neg hp, if_neg h92] at h
            cases h; decide
theorem unq_err {s : List UInt8} {n : Int} (h : unquote s = .error n) : n ≠ 0 := by
  unfold unquote at h
  split at h
  · cases h; decide
  · split at h
    · exact uq_err _ _ _ _ (Nat.le_refl _) h
    · cases h; decide
set_option maxRecDepth 100000 in
set_option maxHeartbeats 4000000 in
/-- LabelQuotes -/
theorem quotes_any {A : Nat → Prop} (v : Value) (b s : List UInt8) (w : World) (h : Bs A w v b) (hb : b.length ≤ 1048576) (hs : s.length ≤ 1048576) : Calls Tryd.prog 7 #[v, .string ⟨s.toArray⟩] w fun e w' => e = .returned (.bool true) ∧ Below w.heap.size w w' := by
  have HV := Hid.mk' h
  clear h
  have HU1 : Hid (unquote (quote b) = .ok b) := unquote_quote b
  have hql : (quote b).length ≤ 4 * 1048576 + 8 := by
    have := quote_len b b.length
    rw [List.take_length] at this
    simp only [quote, List.length_cons, List.length_append, List.length_nil] at this ⊢; omega
  go_enter Tryd.func7, Tryd.ntmps7
  go_wp2_with fail
  refine (awake_any _).mono ?_
  rintro e w1 ⟨rfl, h1⟩
  have H1 := Hid.mk' h1
  clear h1
  go_wp2_with fail
  refine (copy_any v b _ (HV.out.up H1.out)).mono ?_
  rintro e w2 ⟨v2, rfl, h2, o2⟩
  have H2 := Hid.mk' (bt H1.out h2)
  have B2 := Hid.mk' (o2.bs (by unfold lim; omega))
  clear h2 o2
  go_wp2_with fail
  refine (quote_any v2 b _ B2.out (by unfold lim; omega)).mono ?_
  rintro e w3 ⟨rfl, h3⟩
  have H3 := Hid.mk' (bt H2.out h3)
  clear h3
  go_wp2_with fail
  refine (unquote_any (quote b) (by unfold lim; omega) _).mono ?_
  rintro e w4 h4
  rw [HU1.out] at h4
  obtain ⟨v4, rfl, h4, o4⟩ := h4
  have H4 := Hid.mk' (bt H3.out h4)
  have B4 := Hid.mk' (o4.bs (by unfold lim; omega))
  clear h4 o4
  go_wp2_with fail
  refine (rquote_any v b _ (HV.out.up H4.out) (by unfold lim; omega)).mono ?_
  rintro e w5 ⟨rfl, h5⟩
  have H5 := Hid.mk' (bt H4.out h5)
  have B5 := Hid.mk' (B4.out.up h5)
  clear h5
  have hqq : (quote b == quote b) = true := by simp
  have hbb : (b == b) = true := by simp
  go_wp2_with fail
  refine (equal_any v4 v b b _ B5.out (HV.out.up H5.out)).mono ?_
  rintro e w6 ⟨rfl, h6⟩
  have H6 := Hid.mk' (H5.out.trans (h6.below _))
  clear h6
  have HU := Hid.mk' (unquote_any s (by unfold lim; omega))
  have HR := Hid.mk' (runquote_any s (by unfold lim; omega))
  cases hu : unquote s with
  | error n =>
    rw [hu] at HU HR
    have hn := unq_err hu
    have hn1 : (n != 0) = true := by rw [bne_iff_ne]; exact hn
    have hn2 : (n == n) = true := by simp
    clear hu hn hql
    go_wp2_with fail
    refine (HU.out _).mono ?_
    rintro e w7 ⟨rfl, h7⟩
    have H7 := Hid.mk' (bt H6.out h7)
    clear h7
    go_wp2_with fail
    refine (HR.out _).mono ?_
    rintro e w8 ⟨rfl, h8⟩
    have H8 := Hid.mk' (bt H7.out h8)
    clear h8
    have HN := Hid.mk' (equal_any (.slice none 0 0) (.slice none 0 0) [] [] w8 (bs_none _) (bs_none _))
    go_wp2_with fail
    refine HN.out.mono ?_
    rintro e w9 ⟨rfl, h9⟩
    have H9 := Hid.mk' (H8.out.trans (h9.below _))
    clear h9
    go_wp2_with fail
    go_ret
    exact ⟨rfl, H9.out⟩
  | ok x =>
    rw [hu] at HU HR
    have hq := quote_unquote s x hu
    have hxl := unq_len hu
    have HQ := Hid.mk' hq
    have hxx : (x == x) = true := by simp
    have hss : (s == s) = true := by simp
    clear hu hq hql
    go_wp2_with fail
    refine (HU.out _).mono ?_
    rintro e w7 ⟨v7, rfl, h7, o7⟩
    have H7 := Hid.mk' (bt H6.out h7)
    have B7 := Hid.mk' (o7.bs (by unfold lim; omega))
    clear h7 o7
    go_wp2_with fail
    refine (HR.out _).mono ?_
    rintro e w8 ⟨v8, rfl, h8, o8⟩
    have H8 := Hid.mk' (bt H7.out h8)
    have B8 := Hid.mk' (o8.bs (by unfold lim; omega))
    have B7' := Hid.mk' (B7.out.up h8)
    clear h8 o8
    go_wp2_with fail
    refine (equal_any v7 v8 x x _ B7'.out B8.out).mono ?_
    rintro e w9 ⟨rfl, h9⟩
    have H9 := Hid.mk' (H8.out.trans (h9.below _))
    have B9 := Hid.mk' (B7'.out.up (h9.below _))
    clear h9
    go_wp2_with fail
    refine (quote_any v7 x _ B9.out (by unfold lim; omega)).mono ?_
    rintro e w10 ⟨rfl, h10⟩
    have H10 := Hid.mk' (bt H9.out h10)
    rw [HQ.out]
    clear h10
    go_wp2_with fail
    go_ret
    exact ⟨rfl, H10.out⟩
end Go.Proofs.YtahmihlpnlfefaaDoor
