/- Walks: the law LabelMatches. -/
import Derived.Test.YtahmihlpnlfefaaDoorM2
import Derived.Test.YtahmihlpnlfefaaDoorR1
import Derived.Test.YtahmihlpnlfefaaDoorO1
set_option linter.unusedVariables false
set_option linter.unusedSimpArgs false
namespace Go.Proofs.YtahmihlpnlfefaaDoor
open Go.RowKit
open PL
theorem mt_all (s : List UInt8) : PL.mt s [42] = true := (mt_star s []).2 ⟨s.length, Nat.le_refl _, by simp [PL.mt]⟩
set_option maxRecDepth 100000 in
set_option maxHeartbeats 4000000 in
/-- LabelMatches -/
theorem matches_any (s0 p0 : List UInt8) (hs : s0.length ≤ maxLen) (hp : p0.length ≤ maxLen) (w : World) : Calls Tryd.prog 5 #[.string ⟨s0.toArray⟩, .string ⟨p0.toArray⟩] w fun e w' => e = .returned (.bool true) ∧ Below w.heap.size w w' := by
  have KS := Hid.mk' (cut_any s0 300 hs (by decide))
  have KP := Hid.mk' (cut_any p0 300 hp (by decide))
  have ls : (s0.take 300).length ≤ 1000 := by simp; omega
  have lp : (p0.take 300).length ≤ 1000 := by simp; omega
  clear hs hp
  generalize s0.take 300 = s at *
  generalize p0.take 300 = p at *
  have HM := Hid.mk' (match_any s p ls lp)
  have HR := Hid.mk' (rmatch_any s p ls lp)
  have HA := Hid.mk' (match_any s [42] ls (by decide))
  rw [mt_all s] at HA
  clear ls lp
  generalize PL.mt s p = x at *
  go_enter Tryd.func5, Tryd.ntmps5
  go_wp2_with fail
  refine (awake_any _).mono ?_
  rintro e w1 ⟨rfl, h1⟩
  have H1 := Hid.mk' h1
  clear h1
  go_wp2_with fail
  refine (KS.out _).mono ?_
  rintro e w2 ⟨rfl, rfl⟩
  go_wp2_with fail
  refine (KP.out _).mono ?_
  rintro e w2 ⟨rfl, rfl⟩
  go_wp2_with fail
  refine (HM.out _).mono ?_
  rintro e w2 ⟨rfl, h2⟩
  have H2 := Hid.mk' (H1.out.trans (h2.below _))
  clear h2
  go_wp2_with fail
  refine (HR.out _).mono ?_
  rintro e w3 ⟨rfl, h3⟩
  have H3 := Hid.mk' (bt H2.out h3)
  clear h3
  go_wp2_with fail
  refine (HA.out _).mono ?_
  rintro e w4 ⟨rfl, h4⟩
  have H4 := Hid.mk' (H3.out.trans (h4.below _))
  clear h4
  go_wp2_with fail
  go_ret
  exact ⟨ret_b (by simp), H4.out⟩
end Go.Proofs.YtahmihlpnlfefaaDoor
