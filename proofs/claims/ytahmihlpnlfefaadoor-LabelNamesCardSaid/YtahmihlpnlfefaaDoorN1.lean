/- Walks: the law LabelNames. -/
import Derived.Test.YtahmihlpnlfefaaDoorO1
import Derived.Test.YtahmihlpnlfefaaDoorL12
set_option linter.unusedVariables false
set_option linter.unusedSimpArgs false
namespace Go.Proofs.YtahmihlpnlfefaaDoor
open Go.RowKit
open PL
set_option maxRecDepth 100000 in
set_option maxHeartbeats 2000000 in
/-- LabelNames -/
theorem names_any (s : List UInt8) (hs : s.length ≤ maxLen) (w : World) : Calls Tryd.prog 3 #[.string ⟨s.toArray⟩] w fun e w' => e = .returned (.bool true) ∧ Below w.heap.size w w' := by
  have KV := Hid.mk' (valid_any s)
  have KR := Hid.mk' (rvalid_any s hs)
  have KN := Hid.mk' (next_any s)
  have KM := Hid.mk' (rnext_any s hs)
  cases ho : nextO s with
  | none =>
    rw [ho] at KN KM
    simp only [nextV, nextS] at KN KM
    generalize validB s = vb at *
    clear ho
    go_enter Tryd.func3, Tryd.ntmps3
    go_wp2_with fail
    refine (awake_any _).mono ?_
    rintro e w1 ⟨rfl, h1⟩
    have H1 := Hid.mk' h1
    clear h1
    go_wp2_with fail
    refine (KN.out _).mono ?_
    rintro e w2 ⟨rfl, h2⟩
    have H2 := Hid.mk' (bt H1.out h2)
    clear h2
    go_wp2_with fail
    refine (KV.out _).mono ?_
    rintro e w3 ⟨rfl, rfl⟩
    go_wp2_with fail
    refine (KR.out _).mono ?_
    rintro e w3 ⟨rfl, rfl⟩
    go_wp2_with fail
    refine (KM.out _).mono ?_
    rintro e w4 ⟨rfl, h4⟩
    have H4 := Hid.mk' (bt H2.out h4)
    clear h4
    go_wp2_with fail
    go_ret
    exact ⟨rfl, H4.out⟩
  | some r =>
    have hvs : validB s = true := by
      unfold nextO at ho
      cases hv : validB s
      · rw [hv] at ho; simp at ho
      · rfl
    have hr : r = nextR s ∧ validB r = true := by
      rw [run_nextV s hvs] at ho
      split at ho
      · rename_i h; cases ho; exact ⟨rfl, h⟩
      · cases ho
    obtain ⟨hr1, hr2⟩ := hr
    have hcm := next_after s hvs
    rw [← hr1] at hcm
    obtain ⟨hp, h16, hx9⟩ := valid_facts r hr2
    have KW := Hid.mk' (valid_any r)
    have KC := Hid.mk' (comp_any s r hs (by unfold maxLen; omega))
    rw [hcm] at KC
    rw [hr2] at KW
    rw [ho] at KN KM
    simp only [nextV, nextS] at KN KM
    rw [hvs] at KV KR
    have hne : ((⟨r.toArray⟩ : ByteArray) == ⟨#[]⟩) = false := by
      show (r.toArray == #[]) = false
      cases r with
      | nil => simp at hp
      | cons a t => simp
    have hem := (ne_facts (show r ≠ [] by intro e; rw [e] at hp; simp at hp)).1
    have hem2 := (ne_facts (show r ≠ [] by intro e; rw [e] at hp; simp at hp)).2.1
    clear ho hr1 hr2 hcm hvs hx9 hp h16 hs
    go_enter Tryd.func3, Tryd.ntmps3
    go_wp2_with fail
    refine (awake_any _).mono ?_
    rintro e w1 ⟨rfl, h1⟩
    have H1 := Hid.mk' h1
    clear h1
    go_wp2_with fail
    refine (KN.out _).mono ?_
    rintro e w2 ⟨rfl, h2⟩
    have H2 := Hid.mk' (bt H1.out h2)
    clear h2
    go_wp2_with fail
    refine (KV.out _).mono ?_
    rintro e w3 ⟨rfl, rfl⟩
    go_wp2_with fail
    refine (KR.out _).mono ?_
    rintro e w3 ⟨rfl, rfl⟩
    go_wp2_with fail
    refine (KM.out _).mono ?_
    rintro e w4 ⟨rfl, h4⟩
    have H4 := Hid.mk' (bt H2.out h4)
    clear h4
    go_wp2_with fail
    refine (KW.out _).mono ?_
    rintro e w5 ⟨rfl, rfl⟩
    go_wp2_with fail
    refine (KC.out _).mono ?_
    rintro e w6 ⟨rfl, h6⟩
    have H6 := Hid.mk' (bt H4.out h6)
    clear h6
    go_wp2_with fail
    go_ret
    exact ⟨rfl, H6.out⟩
end Go.Proofs.YtahmihlpnlfefaaDoor
